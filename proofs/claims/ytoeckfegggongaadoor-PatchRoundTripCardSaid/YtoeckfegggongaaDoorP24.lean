/- A part of the proof of what the last text says: Gr2, Gr3, Gr4, Gr5, Gc1, Gq1. Conditions: those in each theorem. -/
import Derived.Test.YtoeckfegggongaaDoorP23
import Derived.RangeFuncNested
import Derived.RangeFuncBound
import Derived.RangeFuncCalls
import Derived.RangeFuncLeaves
import Derived.Shelf.Abstract
import Derived.Shelf.RegionOpen
import Derived.WalkKit
import Derived.WalkSpells
import Derived.OwnWalkIn
import Derived.TacticsInMore
import Derived.LoopNIn
import Derived.LoopIn
import Derived.Test.YtoeckfegggongaaDoorRows
set_option linter.unusedVariables false
set_option linter.unusedSimpArgs false
set_option maxRecDepth 100000
set_option maxHeartbeats 16000000
section
namespace Go.Proofs.YtoeckfegggongaaDoor
open Go Go.Aw
def decCount (b : List UInt8) : Int × Nat × Int :=
  if (decInt b).2.2 ≠ 0 then decInt b else if (decInt b).1 < 0 then ((decInt b).1,(decInt b).2.1,2)
  else if (b.length : Int) - (decInt b).2.1 < (decInt b).1 then ((decInt b).1,(decInt b).2.1,3) else decInt b
theorem count_at {b : List UInt8} : (decCount b).2.1 = (decInt b).2.1 := by
  unfold decCount
  repeat' split
  all_goals rfl
theorem count_le {b : List UInt8} : (decCount b).2.1 ≤ b.length := by rw [count_at]; exact dec_le
theorem count_ok {b : List UInt8} (h : (decCount b).2.2 = 0) : 0 ≤ (decCount b).1 ∧ (decCount b).1 + (decCount b).2.1 ≤ b.length ∧ decCount b = decInt b := by
  unfold decCount at h ⊢
  by_cases c1 : (decInt b).2.2 ≠ 0
  · rw [if_pos c1] at h; exact (c1 h).elim
  rw [if_neg c1] at h ⊢
  by_cases c2 : (decInt b).1 < 0
  · rw [if_pos c2] at h; simp at h
  rw [if_neg c2] at h ⊢
  by_cases c3 : (b.length : Int) - (decInt b).2.1 < (decInt b).1
  · rw [if_pos c3] at h; simp at h
  rw [if_neg c3]
  exact ⟨by omega,by omega,rfl⟩
theorem count_enc {n : Nat} {rest : List UInt8} (hn : n ≤ rest.length) (hb : n ≤ 140737488355328) : decCount (encInt n ++ rest) = ((n : Int),(encInt n).length,0) := by
  have h := dec_enc (m := (n : Int)) (rest := rest) (nat_in hb)
  unfold decCount
  rw [h,if_neg (by simp),if_neg (by simp),if_neg (by simp; omega)]
def decBytes (b : List UInt8) : List UInt8 × Nat × Int :=
  if (decCount b).2.2 = 0 then ((b.drop (decCount b).2.1).take (decCount b).1.toNat,(decCount b).2.1 + (decCount b).1.toNat,0) else ([],0,(decCount b).2.2)
theorem bytes_le {b : List UInt8} : (decBytes b).2.1 ≤ b.length := by
  unfold decBytes
  split
  · next h => have := count_ok h; simp; omega
  · simp
theorem bytes_sl {b : List UInt8} : (decBytes b).1.length ≤ b.length := by
  unfold decBytes
  split
  · simp; omega
  · simp
theorem bytes_enc {s rest : List UInt8} (hb : s.length ≤ 140737488355328) : decBytes (encBytes s ++ rest) = (s,(encBytes s).length,0) := by
  have h := count_enc (n := s.length) (rest := s ++ rest) (by simp) hb
  unfold decBytes encBytes
  rw [List.append_assoc,h]
  simp
def goL {α : Type} (f : List UInt8 → α × Nat × Int) : Nat → List UInt8 → List α × Nat × Int
  | 0,_ => ([],0,0)
  | n + 1,b => if (f b).2.2 ≠ 0 then ([],0,(f b).2.2) else
    if (goL f n (b.drop (f b).2.1)).2.2 ≠ 0 then ([],0,(goL f n (b.drop (f b).2.1)).2.2)
    else ((f b).1 :: (goL f n (b.drop (f b).2.1)).1,(f b).2.1 + (goL f n (b.drop (f b).2.1)).2.1,0)
def decL {α : Type} (f : List UInt8 → α × Nat × Int) (b : List UInt8) : List α × Nat × Int :=
  if (decCount b).2.2 ≠ 0 then ([],0,(decCount b).2.2) else
  if (goL f (decCount b).1.toNat (b.drop (decCount b).2.1)).2.2 ≠ 0 then ([],0,(goL f (decCount b).1.toNat (b.drop (decCount b).2.1)).2.2)
  else ((goL f (decCount b).1.toNat (b.drop (decCount b).2.1)).1,(decCount b).2.1 + (goL f (decCount b).1.toNat (b.drop (decCount b).2.1)).2.1,0)
theorem goL_le {α : Type} {f : List UInt8 → α × Nat × Int} (hf : ∀ b,(f b).2.1 ≤ b.length) : ∀ (n : Nat) (b : List UInt8),(goL f n b).2.1 ≤ b.length ∧ (goL f n b).1.length ≤ n
  | 0,b => by simp [goL]
  | n + 1,b => by
    have h1 := hf b
    have h2 := goL_le hf n (b.drop (f b).2.1)
    rw [List.length_drop] at h2
    unfold goL
    split
    · simp
    · split
      · simp
      · simp; omega
theorem decL_le {α : Type} {f : List UInt8 → α × Nat × Int} (hf : ∀ b,(f b).2.1 ≤ b.length) {b : List UInt8} : (decL f b).2.1 ≤ b.length ∧ (decL f b).1.length ≤ b.length := by
  unfold decL
  split
  · simp
  · next h =>
    have h0 := count_ok (Classical.not_not.1 h)
    have h2 := goL_le hf (decCount b).1.toNat (b.drop (decCount b).2.1)
    rw [List.length_drop] at h2
    split
    · simp
    · constructor
      · dsimp only; omega
      · dsimp only; omega
theorem goL_all {α : Type} {f : List UInt8 → α × Nat × Int} {p : α → Prop} (hf : ∀ b,p (f b).1) : ∀ (n : Nat) (b : List UInt8),∀ x ∈ (goL f n b).1,p x
  | 0,b => by simp [goL]
  | n + 1,b => by
    have h2 := goL_all hf n (b.drop (f b).2.1)
    unfold goL
    split
    · simp
    · split
      · simp
      · intro x hx
        rcases List.mem_cons.1 hx with rfl | hx
        · exact hf b
        · exact h2 x hx
theorem goL_enc {α : Type} {f : List UInt8 → α × Nat × Int} {enc : α → List UInt8} : ∀ (l : List α) (rest : List UInt8),(∀ x ∈ l,∀ r,f (enc x ++ r) = (x,(enc x).length,0)) → goL f l.length (l.flatMap enc ++ rest) = (l,(l.flatMap enc).length,0)
  | [],rest,_ => rfl
  | x :: l,rest,h => by
    have h1 := h x (.head _) (l.flatMap enc ++ rest)
    have h2 := goL_enc l rest (fun y hy => h y (.tail _ hy))
    have e : (x :: l).flatMap enc ++ rest = enc x ++ (l.flatMap enc ++ rest) := by simp
    rw [e,List.length_cons]
    unfold goL
    rw [h1]
    dsimp only
    rw [List.drop_left,h2]
    simp
theorem flat_ge {α : Type} {enc : α → List UInt8} : ∀ {l : List α},(∀ x ∈ l,0 < (enc x).length) → l.length ≤ (l.flatMap enc).length
  | [],_ => by simp
  | x :: l,h => by
    have h1 := h x (.head _)
    have h2 := flat_ge (l := l) (fun y hy => h y (.tail _ hy))
    simp only [List.flatMap_cons,List.length_append,List.length_cons]
    omega
theorem decL_enc {α : Type} {f : List UInt8 → α × Nat × Int} {enc : α → List UInt8} {l : List α} {rest : List UInt8} (h : ∀ x ∈ l,∀ r,f (enc x ++ r) = (x,(enc x).length,0)) (hp : ∀ x ∈ l,0 < (enc x).length) (hb : l.length ≤ 140737488355328) :
    decL f (encInt l.length ++ l.flatMap enc ++ rest) = (l,(encInt l.length ++ l.flatMap enc).length,0) := by
  have h1 := flat_ge hp
  have h2 := count_enc (n := l.length) (rest := l.flatMap enc ++ rest) (by rw [List.length_append]; omega) hb
  have h3 := goL_enc l rest h
  unfold decL
  rw [List.append_assoc,h2]
  dsimp only
  rw [if_neg (by simp),List.drop_left,Int.toNat_natCast,h3]
  simp
def decInts (b : List UInt8) : List Int × Nat × Int := decL decInt b
def decStrs (b : List UInt8) : List (List UInt8) × Nat × Int := decL decBytes b
theorem ints_le {b : List UInt8} : (decInts b).2.1 ≤ b.length ∧ (decInts b).1.length ≤ b.length := decL_le fun _ => dec_le
theorem strs_le {b : List UInt8} : (decStrs b).2.1 ≤ b.length ∧ (decStrs b).1.length ≤ b.length := decL_le fun _ => bytes_le
theorem enc_pos {n : Int} : 0 < (encInt n).length := by simp [encInt]
theorem ints_enc {l : List Int} {rest : List UInt8} (h : ∀ x ∈ l,inR .i64 x) (hb : l.length ≤ 140737488355328) : decInts (encInts l ++ rest) = (l,(encInts l).length,0) :=
  decL_enc (enc := encInt) (fun x hx r => dec_enc (h x hx)) (fun x _ => enc_pos) hb
theorem strs_enc {l : List (List UInt8)} {rest : List UInt8} (h : ∀ x ∈ l,x.length ≤ 140737488355328) (hb : l.length ≤ 140737488355328) : decStrs (encStrs l ++ rest) = (l,(encStrs l).length,0) :=
  decL_enc (enc := encBytes) (fun x hx r => bytes_enc (h x hx)) (fun x _ => by simp only [encBytes,List.length_append]; have := enc_pos (n := (x.length : Int)); omega) hb
end Go.Proofs.YtoeckfegggongaaDoor
end
section
namespace Go.Proofs.YtoeckfegggongaaDoor
open Go Go.Aw
theorem f_wCount {b : List UInt8} {H : AH} {R : D → AH → Prop} (h : R (.tup [.int .i64 (decCount b).1,.int .i64 ((decCount b).2.1 : Int),.int .i64 (decCount b).2.2]) H) : ACall Tryd.prog 25 [.slc (b.map byteD),.int .i64 1] H R := by
  refine b25 fun hf => ?_
  have hbig := big_eq
  have hle := dec_le (b := b)
  unfold decCount at h
  simp +contextual only [x25,bytesD_len,↓U25,↓XP,XQ,XM,cellsOf,okc,one1,resOne,resAll,eqCells,cellEq,fits,sameK,ne_eq,ite_true,ite_false,Nat.reduceSub,Nat.reduceAdd,Nat.reduceMul,Nat.reduceEqDiff,Nat.reduceLeDiff,Nat.reduceBEq,reduceCtorEq,TYX]
  refine f_wGetInt ?_
  generalize decInt b = t at h hle ⊢
  obtain ⟨n,k,e⟩ := t
  dsimp only at h hle ⊢
  rcases Classical.em (e = 0) with c1 | c1
  · subst c1
    rw [if_neg (by simp)] at h
    rcases Classical.em (n < 0) with c2 | c2
    · rw [if_pos c2] at h
      simp +contextual only [x25,bytesD_len,eq_true c2,↓U25,↓XP,XQ,XM,cellsOf,okc,one1,resOne,resAll,eqCells,cellEq,fits,sameK,ne_eq,ite_true,ite_false,Nat.reduceSub,Nat.reduceAdd,Nat.reduceMul,Nat.reduceEqDiff,Nat.reduceLeDiff,Nat.reduceBEq,reduceCtorEq,TYX]
      exact fun _ _ _ => h
    · rw [if_neg c2] at h
      simp +contextual only [x25,bytesD_len,eq_false c2,↓U25,↓XP,XQ,XM,cellsOf,okc,one1,resOne,resAll,eqCells,cellEq,fits,sameK,ne_eq,ite_true,ite_false,Nat.reduceSub,Nat.reduceAdd,Nat.reduceMul,Nat.reduceEqDiff,Nat.reduceLeDiff,Nat.reduceBEq,reduceCtorEq,TYX]
      refine fun _ _ _ hb => ⟨by decide,?_⟩
      have w1 : IntKind.i64.wrap ((b.length : Int) - k) = (b.length : Int) - k := wrap_id (by omega) (by omega)
      rw [w1,Int.tdiv_one,w1]
      refine ⟨fun c => ?_,fun c => ?_⟩
      · rw [if_pos c] at h
        exact h
      · rw [if_neg c] at h
        exact h
  · rw [if_pos c1] at h
    simp +contextual only [x25,bytesD_len,eq_false c1,↓U25,↓XP,XQ,XM,cellsOf,okc,one1,resOne,resAll,eqCells,cellEq,fits,sameK,ne_eq,ite_true,ite_false,Nat.reduceSub,Nat.reduceAdd,Nat.reduceMul,Nat.reduceEqDiff,Nat.reduceLeDiff,Nat.reduceBEq,reduceCtorEq,TYX]
    exact fun _ _ _ => h
theorem cut_bytes {b : List UInt8} {k m : Nat} : ((b.map byteD).take (k + m)).drop k = ((b.drop k).take m).map byteD := by
  rw [← List.map_take,← List.map_drop,List.drop_take,Nat.add_sub_cancel_left]
theorem bytes_big {b : List UInt8} (h : fact (.slc (b.map byteD))) : b.length ≤ 140737488355328 := by
  have := h
  rw [f_slc,bytesD_len,big_eq] at this
  exact this
theorem f_wGetBytes {b : List UInt8} {H : AH} {R : D → AH → Prop} (h : R (.tup [.str (decBytes b).1,.int .i64 ((decBytes b).2.1 : Int),.int .i64 (decBytes b).2.2]) H) : ACall Tryd.prog 22 [.slc (b.map byteD)] H R := by
  refine b22 fun hf => ?_
  have hbig := big_eq
  have hle := count_le (b := b)
  have hok := count_ok (b := b)
  unfold decBytes at h
  simp +contextual only [x22,bytesD_len,↓U22,↓XP,XQ,XM,cellsOf,okc,one1,resOne,resAll,eqCells,cellEq,fits,sameK,ne_eq,ite_true,ite_false,Nat.reduceSub,Nat.reduceAdd,Nat.reduceMul,Nat.reduceEqDiff,Nat.reduceLeDiff,Nat.reduceBEq,reduceCtorEq,TYX]
  refine f_wCount ?_
  have hok2 : (decCount b).2.2 = 0 → 0 ≤ (decCount b).1 ∧ (decCount b).1 + (decCount b).2.1 ≤ b.length := fun h => ⟨(hok h).1,(hok h).2.1⟩
  clear hok
  generalize decCount b = t at h hle hok2 ⊢
  obtain ⟨n,k,e⟩ := t
  dsimp only at h hle hok2 ⊢
  rcases Classical.em (e = 0) with c1 | c1
  · subst c1
    rw [if_pos rfl] at h
    obtain ⟨g1,g2⟩ := hok2 rfl
    have hb := bytes_big hf.1
    obtain ⟨m,rfl⟩ := Int.eq_ofNat_of_zero_le g1
    have w1 : IntKind.i64.wrap ((k : Int) + (m : Int)) = ((k + m : Nat) : Int) := by rw [wrap_id (by omega) (by omega)]; omega
    dsimp only at h
    rw [Int.toNat_natCast] at h
    simp +contextual only [x22,bytesD_len,w1,cut_bytes,unbyteD,↓U22,↓XP,XQ,XM,cellsOf,okc,one1,resOne,resAll,eqCells,cellEq,fits,sameK,ne_eq,ite_true,ite_false,Nat.reduceSub,Nat.reduceAdd,Nat.reduceMul,Nat.reduceEqDiff,Nat.reduceLeDiff,Nat.reduceBEq,reduceCtorEq,TYX]
    refine fun _ _ _ => ⟨bytes_1,by omega,by omega,isByteD,fun _ => h⟩
  · rw [if_neg c1] at h
    simp +contextual only [x22,bytesD_len,eq_false c1,↓U22,↓XP,XQ,XM,cellsOf,okc,one1,resOne,resAll,eqCells,cellEq,fits,sameK,ne_eq,ite_true,ite_false,Nat.reduceSub,Nat.reduceAdd,Nat.reduceMul,Nat.reduceEqDiff,Nat.reduceLeDiff,Nat.reduceBEq,reduceCtorEq,TYX]
    exact fun _ _ _ => h
end Go.Proofs.YtoeckfegggongaaDoor
end
section
namespace Go.Proofs.YtoeckfegggongaaDoor
open Go Go.Aw
def finL {α : Type} (acc : List α) (a : Nat) (r : List α × Nat × Int) : List α × Nat × Int := if r.2.2 ≠ 0 then ([],0,r.2.2) else (acc ++ r.1,a + r.2.1,0)
theorem fin_bad {α : Type} {f : List UInt8 → α × Nat × Int} {acc : List α} {a m : Nat} {b : List UInt8} (h : ¬ (f (b.drop a)).2.2 = 0) : finL acc a (goL f (m + 1) (b.drop a)) = ([],0,(f (b.drop a)).2.2) := by
  unfold goL
  rw [if_pos h]
  unfold finL
  rw [if_pos h]
theorem fin_step {α : Type} {f : List UInt8 → α × Nat × Int} {acc : List α} {a m : Nat} {b : List UInt8} (h : (f (b.drop a)).2.2 = 0) :
    finL acc a (goL f (m + 1) (b.drop a)) = finL (acc ++ [(f (b.drop a)).1]) (a + (f (b.drop a)).2.1) (goL f m (b.drop (a + (f (b.drop a)).2.1))) := by
  rw [goL,if_neg (fun c => c h),List.drop_drop]
  generalize goL f m (b.drop (a + (f (b.drop a)).2.1)) = t
  by_cases c : t.2.2 = 0
  · simp [finL,c,Nat.add_assoc]
  · simp [finL,c]
theorem fin_end {α : Type} {f : List UInt8 → α × Nat × Int} {acc : List α} {a : Nat} {b : List UInt8} : finL acc a (goL f 0 b) = (acc,a,0) := by
  simp [finL,goL]
theorem decL_fin {α : Type} {f : List UInt8 → α × Nat × Int} {b : List UInt8} (h : (decCount b).2.2 = 0) : decL f b = finL [] (decCount b).2.1 (goL f (decCount b).1.toNat (b.drop (decCount b).2.1)) := by
  unfold decL finL
  rw [if_neg (fun c => c h)]
  simp
theorem drop_bytes {b : List UInt8} {a : Nat} : ((b.map byteD).take (b.length)).drop a = (b.drop a).map byteD := by
  rw [← List.map_take,← List.map_drop,List.take_length]
theorem f_wGetStrings {b : List UInt8} {H : AH} {R : D → AH → Prop} (hB : b.length ≤ 1000000000) (h : R (.tup [.own (strs (decStrs b).1),.int .i64 ((decStrs b).2.1 : Int),.int .i64 (decStrs b).2.2]) H) : ACall Tryd.prog 44 [.slc (b.map byteD)] H R := by
  refine b44 fun hf => ?_
  have hbig := big_eq
  have hle := count_le (b := b)
  have hok := count_ok (b := b)
  have hb := bytes_big hf.1
  have hfin := decL_fin (f := decBytes) (b := b)
  have hk : ∀ t,decStrs b = t → R (.tup [.own (strs t.1),.int .i64 (t.2.1 : Int),.int .i64 t.2.2]) H := fun t ht => by rw [← ht]; exact h
  clear h
  unfold decStrs at hk
  simp +contextual only [x44,bytesD_len,↓U44,↓XP,XQ,XM,cellsOf,okc,one1,resOne,resAll,eqCells,cellEq,fits,sameK,ne_eq,ite_true,ite_false,Nat.reduceSub,Nat.reduceAdd,Nat.reduceMul,Nat.reduceEqDiff,Nat.reduceLeDiff,Nat.reduceBEq,reduceCtorEq,TYX]
  refine f_wCount ?_
  have hok2 : (decCount b).2.2 = 0 → 0 ≤ (decCount b).1 ∧ (decCount b).1 + (decCount b).2.1 ≤ b.length := fun h => ⟨(hok h).1,(hok h).2.1⟩
  have hbad : ¬ (decCount b).2.2 = 0 → decL decBytes b = ([],0,(decCount b).2.2) := fun h => by unfold decL; rw [if_pos h]
  clear hok
  generalize decCount b = t at hfin hle hok2 hbad ⊢
  obtain ⟨n,k,e⟩ := t
  dsimp only at hfin hle hok2 hbad ⊢
  rcases Classical.em (e = 0) with c1 | c1
  · subst c1
    obtain ⟨g1,g2⟩ := hok2 rfl
    replace hfin := hfin rfl
    obtain ⟨n,rfl⟩ := Int.eq_ofNat_of_zero_le g1
    rw [Int.toNat_natCast] at hfin
    simp +contextual only [x44,bytesD_len,↓U44,↓XP,XQ,XM,cellsOf,okc,one1,resOne,resAll,eqCells,cellEq,fits,sameK,ne_eq,ite_true,ite_false,Nat.reduceSub,Nat.reduceAdd,Nat.reduceMul,Nat.reduceEqDiff,Nat.reduceLeDiff,Nat.reduceBEq,reduceCtorEq,TYX]
    refine fun _ _ _ => XW.loopK Go.Proofs.YtoeckfegggongaaDoor.hm (fun F H' => ∃ (i a : Nat) (acc : List (List UInt8)),i ≤ n ∧ a ≤ b.length ∧ acc.length = i ∧ decL decBytes b = finL acc a (goL decBytes (n - i) (b.drop a)) ∧ Fr 45 [(0,.slc (b.map byteD)),(6,.int .i64 (a : Int)),(8,.own (strs acc)),(21,.int .i64 (n : Int)),(22,.int .i64 (i : Int))] F ∧ H = H') (fun F H => match F.getD 22 .any with | .int _ n' => n - n'.toNat | _ => 0) ⟨0,k,[],by omega,by omega,rfl,hfin,⟨rfl,rfl,rfl,rfl,rfl,rfl,trivial⟩,rfl⟩ ?_
    rintro _ _ ⟨i,a,acc,hi,ha,hac,hfi,hF,rfl⟩ K hN hE hR
    obtain ⟨z,rfl⟩ : ∃ z : Nat → D,_ = [.slc (b.map byteD),z 1,z 2,z 3,z 4,z 5,.int .i64 (a : Int),z 7,.own (strs acc),z 9,z 10,z 11,z 12,z 13,z 14,z 15,z 16,z 17,z 18,z 19,z 20,.int .i64 (n : Int),.int .i64 (i : Int),z 23,z 24,z 25,z 26,z 27,z 28,z 29,z 30,z 31,z 32,z 33,z 34,z 35,z 36,z 37,z 38,z 39,z 40,z 41,z 42,z 43,z 44] := hF.lit
    clear hF
    have sl : (strs acc).length = acc.length := strs_len
    have wa := drop_bytes (b := b) (a := a)
    rcases Classical.em (i < n) with hlt | hlt
    · obtain ⟨m,hm⟩ : ∃ m,n - i = m + 1 := ⟨n - i - 1,by omega⟩
      rw [hm] at hfi
      have q1 := bytes_le (b := b.drop a)
      rw [List.length_drop] at q1
      have nx : (decBytes (b.drop a)).2.2 = 0 → ∀ F',Fr 45 [(0,.slc (b.map byteD)),(6,.int .i64 ((a + (decBytes (b.drop a)).2.1 : Nat) : Int)),(8,.own (strs (acc ++ [(decBytes (b.drop a)).1]))),(21,.int .i64 (n : Int)),(22,.int .i64 ((i + 1 : Nat) : Int))] F' → K .normal F' H := fun he F' hF' => hN _ _ ⟨i + 1,a + (decBytes (b.drop a)).2.1,acc ++ [(decBytes (b.drop a)).1],by omega,by omega,by simp; omega,by rw [hfi,fin_step he,show n - (i + 1) = m by omega],hF',(back_0 rfl).symm⟩ (by
        rw [List.getD_eq_getElem?_getD,hF'.2.2.2.2.2.1]
        simp only [List.getD_cons_succ,List.getD_cons_zero,Option.getD_some]
        omega)
      have bad : ¬ (decBytes (b.drop a)).2.2 = 0 → R (.tup [.own (strs []),.int .i64 0,.int .i64 (decBytes (b.drop a)).2.2]) H := fun he => hk ([],0,(decBytes (b.drop a)).2.2) (by rw [hfi,fin_bad he])
      clear hN hE hk hfin hbad hfi
      simp +contextual only [x44,bytesD_len,hlt,Int.ofNat_lt,wa,↓U44,↓XP,XQ,XM,cellsOf,okc,one1,resOne,resAll,eqCells,cellEq,fits,sameK,ne_eq,ite_true,ite_false,Nat.reduceSub,Nat.reduceAdd,Nat.reduceMul,Nat.reduceEqDiff,Nat.reduceLeDiff,Nat.reduceBEq,reduceCtorEq,TYX]
      refine ⟨bytes_1,by omega,f_wGetBytes ?_⟩
      generalize decBytes (b.drop a) = t at q1 nx bad ⊢
      obtain ⟨s,k,e⟩ := t
      dsimp only at q1 nx bad ⊢
      rcases Classical.em (e = 0) with c2 | c2
      · subst c2
        have w2 : IntKind.i64.wrap ((a : Int) + (k : Int)) = ((a + k : Nat) : Int) := by rw [wrap_id (by omega) (by omega)]; omega
        simp +contextual only [x44,bytesD_len,w2,wrap_succ (show i ≤ big by omega),↓U44,↓XP,XQ,XM,cellsOf,okc,one1,resOne,resAll,eqCells,cellEq,fits,sameK,ne_eq,ite_true,ite_false,Nat.reduceSub,Nat.reduceAdd,Nat.reduceMul,Nat.reduceEqDiff,Nat.reduceLeDiff,Nat.reduceBEq,reduceCtorEq,TYX]
        refine fun _ _ _ => ⟨strs_1,by omega,nx rfl _ ?_⟩
        rw [show strs (acc ++ [s]) = strs acc ++ [[.str s]] by simp [strs]]
        exact ⟨rfl,rfl,rfl,rfl,rfl,rfl,trivial⟩
      · simp +contextual only [x44,bytesD_len,eq_false c2,↓U44,↓XP,XQ,XM,cellsOf,okc,one1,resOne,resAll,eqCells,cellEq,fits,sameK,ne_eq,ite_true,ite_false,Nat.reduceSub,Nat.reduceAdd,Nat.reduceMul,Nat.reduceEqDiff,Nat.reduceLeDiff,Nat.reduceBEq,reduceCtorEq,TYX]
        refine fun _ _ _ => hR _ _ ?_
        simp +contextual only [x44,bytesD_len,↓U44,↓XP,XQ,XM,cellsOf,okc,one1,resOne,resAll,eqCells,cellEq,fits,sameK,ne_eq,ite_true,ite_false,Nat.reduceSub,Nat.reduceAdd,Nat.reduceMul,Nat.reduceEqDiff,Nat.reduceLeDiff,Nat.reduceBEq,reduceCtorEq,TYX]
        exact bad c2
    · have hik : i = n := by omega
      subst hik
      clear hN
      rw [Nat.sub_self,fin_end] at hfi
      simp +contextual only [x44,bytesD_len,hlt,↓U44,↓XP,XQ,XM,cellsOf,okc,one1,resOne,resAll,eqCells,cellEq,fits,sameK,ne_eq,ite_true,ite_false,Nat.reduceSub,Nat.reduceAdd,Nat.reduceMul,Nat.reduceEqDiff,Nat.reduceLeDiff,Nat.reduceBEq,reduceCtorEq,TYX]
      refine hE _ _ _ ?_
      simp +contextual only [x44,bytesD_len,↓U44,↓XP,XQ,XM,cellsOf,okc,one1,resOne,resAll,eqCells,cellEq,fits,sameK,ne_eq,ite_true,ite_false,Nat.reduceSub,Nat.reduceAdd,Nat.reduceMul,Nat.reduceEqDiff,Nat.reduceLeDiff,Nat.reduceBEq,reduceCtorEq,TYX]
      exact hk _ hfi
  · simp +contextual only [x44,bytesD_len,eq_false c1,↓U44,↓XP,XQ,XM,cellsOf,okc,one1,resOne,resAll,eqCells,cellEq,fits,sameK,ne_eq,ite_true,ite_false,Nat.reduceSub,Nat.reduceAdd,Nat.reduceMul,Nat.reduceEqDiff,Nat.reduceLeDiff,Nat.reduceBEq,reduceCtorEq,TYX]
    exact fun _ _ _ => hk _ (hbad c1)
theorem r26 {args : List D} {H : AH} {R : D → AH → Prop} (h : facts args → xcode Tryd.prog x26 (args ++ List.replicate (6 - args.length) (.tup [])) H (retR Tryd.prog [(.tmp 4)] R)) : ACall Tryd.prog 26 args H R :=
  xcall_bodyR hm Tryd.func26 rfl (by kernel_rfl) (by kernel_rfl) (by kernel_rfl) (by kernel_rfl) (by kernel_rfl) (by kernel_rfl) h
theorem f_reader {fi : Nat} {b : List UInt8} {a : Nat} {H : AH} {R : D → AH → Prop} (hfi : fi = 46) (h : ∀ b2 b3,freshH H b2 → (b2 ≠ b3 ∧ freshH H b3) → R (.fn fi [.ptr b2 0,.ptr b3 0]) ((b3,.cells [.int .i64 a]) :: (b2,.cells [.slc (b.map byteD)]) :: H)) : ACall Tryd.prog 26 [.slc (b.map byteD),.int .i64 a] H R := by
  refine r26 fun hf => ?_
  subst hfi
  simp +contextual only [x26,q_retNR,q_retRR,k_resR,↓XP,XQ,XM,cellsOf,okc,one1,resOne,resAll,eqCells,cellEq,fits,sameK,ne_eq,ite_true,ite_false,Nat.reduceSub,Nat.reduceAdd,Nat.reduceMul,Nat.reduceEqDiff,Nat.reduceLeDiff,Nat.reduceBEq,reduceCtorEq,TYX]
  refine fun b2 h2 b3 h3 => ⟨_,Sbn.sub (List.Sublist.refl _),h b2 b3 h2 h3⟩
theorem f_rdNext {b : List UInt8} {a b2 b3 : Nat} {H : AH} {R : D → AH → Prop} (ha : a ≤ b.length) (hne : b2 ≠ b3) (h2 : getH H b2 = none) (h3 : getH H b3 = none)
    (h : b.length ≤ 140737488355328 → R (.tup [.int .i64 (decInt (b.drop a)).1,.int .i64 ((a + (decInt (b.drop a)).2.1 : Nat) : Int),.int .i64 (decInt (b.drop a)).2.2]) ((b3,.cells [.int .i64 ((a + (decInt (b.drop a)).2.1 : Nat) : Int)]) :: (b2,.cells [.slc (b.map byteD)]) :: H)) :
    ACall Tryd.prog 46 [.ptr b2 0,.ptr b3 0] ((b3,.cells [.int .i64 a]) :: (b2,.cells [.slc (b.map byteD)]) :: H) R := by
  refine b46 fun hf => ?_
  have hbig := big_eq
  have q1 := dec_le (b := b.drop a)
  rw [List.length_drop] at q1
  have hne' := Ne.symm hne
  simp +contextual only [x46,bytesD_len,drop_bytes,h_miss hne,↓U46,↓XP,XQ,XM,cellsOf,okc,one1,resOne,resAll,eqCells,cellEq,fits,sameK,ne_eq,ite_true,ite_false,Nat.reduceSub,Nat.reduceAdd,Nat.reduceMul,Nat.reduceEqDiff,Nat.reduceLeDiff,Nat.reduceBEq,reduceCtorEq,TYX]
  refine fun hb _ => ⟨bytes_1,by omega,f_wGetInt ?_⟩
  replace h := h (by omega)
  generalize decInt (b.drop a) = t at h q1 ⊢
  obtain ⟨x,k,e⟩ := t
  dsimp only at h q1 ⊢
  have w1 : IntKind.i64.wrap ((a : Int) + (k : Int)) = ((a + k : Nat) : Int) := by rw [wrap_id (by omega) (by omega)]; omega
  simp +contextual only [x46,bytesD_len,drop_bytes,h_miss hne,w1,↓U46,↓XP,XQ,XM,cellsOf,okc,one1,resOne,resAll,eqCells,cellEq,fits,sameK,ne_eq,ite_true,ite_false,Nat.reduceSub,Nat.reduceAdd,Nat.reduceMul,Nat.reduceEqDiff,Nat.reduceLeDiff,Nat.reduceBEq,reduceCtorEq,TYX]
  exact fun _ _ _ _ _ => h
theorem f_wGetInts {b : List UInt8} {H : AH} {R : D → AH → Prop} (hB : b.length ≤ 1000000000) (h : R (.tup [.own (ints (decInts b).1),.int .i64 ((decInts b).2.1 : Int),.int .i64 (decInts b).2.2]) H) : ACall Tryd.prog 10 [.slc (b.map byteD)] H R := by
  refine b10 fun hf => ?_
  have hbig := big_eq
  have hle := count_le (b := b)
  have hok := count_ok (b := b)
  have hfin := decL_fin (f := decInt) (b := b)
  have hk : ∀ t,decInts b = t → R (.tup [.own (ints t.1),.int .i64 (t.2.1 : Int),.int .i64 t.2.2]) H := fun t ht => by rw [← ht]; exact h
  clear h
  unfold decInts at hk
  simp +contextual only [x10,bytesD_len,↓U10,↓XP,XQ,XM,cellsOf,okc,one1,resOne,resAll,eqCells,cellEq,fits,sameK,ne_eq,ite_true,ite_false,Nat.reduceSub,Nat.reduceAdd,Nat.reduceMul,Nat.reduceEqDiff,Nat.reduceLeDiff,Nat.reduceBEq,reduceCtorEq,TYX]
  refine f_wCount ?_
  have hok2 : (decCount b).2.2 = 0 → 0 ≤ (decCount b).1 ∧ (decCount b).1 + (decCount b).2.1 ≤ b.length := fun h => ⟨(hok h).1,(hok h).2.1⟩
  have hbad : ¬ (decCount b).2.2 = 0 → decL decInt b = ([],0,(decCount b).2.2) := fun h => by unfold decL; rw [if_pos h]
  clear hok
  generalize decCount b = t at hfin hle hok2 hbad ⊢
  obtain ⟨n,k,e⟩ := t
  dsimp only at hfin hle hok2 hbad ⊢
  rcases Classical.em (e = 0) with c1 | c1
  · subst c1
    obtain ⟨g1,g2⟩ := hok2 rfl
    replace hfin := hfin rfl
    obtain ⟨n,rfl⟩ := Int.eq_ofNat_of_zero_le g1
    rw [Int.toNat_natCast] at hfin
    simp +contextual only [x10,bytesD_len,↓U10,↓XP,XQ,XM,cellsOf,okc,one1,resOne,resAll,eqCells,cellEq,fits,sameK,ne_eq,ite_true,ite_false,Nat.reduceSub,Nat.reduceAdd,Nat.reduceMul,Nat.reduceEqDiff,Nat.reduceLeDiff,Nat.reduceBEq,reduceCtorEq,TYX]
    obtain ⟨fi,hfi⟩ : ∃ fi,fi = 46 := ⟨_,rfl⟩
    refine fun _ _ _ => f_reader (fi := fi) hfi fun b2 b3 h2 h3 => ?_
    have n2 := freshH_none h2
    have n3 := freshH_none h3.2
    simp +contextual only [x10,bytesD_len,↓U10,↓XP,XQ,XM,cellsOf,okc,one1,resOne,resAll,eqCells,cellEq,fits,sameK,ne_eq,ite_true,ite_false,Nat.reduceSub,Nat.reduceAdd,Nat.reduceMul,Nat.reduceEqDiff,Nat.reduceLeDiff,Nat.reduceBEq,reduceCtorEq,TYX]
    refine XW.loopK Go.Proofs.YtoeckfegggongaaDoor.hm (fun F H' => ∃ (i a : Nat) (acc : List Int),i ≤ n ∧ a ≤ b.length ∧ acc.length = i ∧ decL decInt b = finL acc a (goL decInt (n - i) (b.drop a)) ∧ Fr 45 [(6,.int .i64 (a : Int)),(8,.fn fi [.ptr b2 0,.ptr b3 0]),(9,.own (ints acc)),(25,.int .i64 (n : Int)),(26,.int .i64 (i : Int))] F ∧ H' = ((b3,.cells [.int .i64 a]) :: (b2,.cells [.slc (b.map byteD)]) :: H)) (fun F H => match F.getD 26 .any with | .int _ n' => n - n'.toNat | _ => 0) ⟨0,k,[],by omega,by omega,rfl,hfin,⟨rfl,rfl,rfl,rfl,rfl,rfl,trivial⟩,rfl⟩ ?_
    rintro _ _ ⟨i,a,acc,hi,ha,hac,hfi',hF,rfl⟩ K hN hE hR
    obtain ⟨z,rfl⟩ : ∃ z : Nat → D,_ = [z 0,z 1,z 2,z 3,z 4,z 5,.int .i64 (a : Int),z 7,.fn fi [.ptr b2 0,.ptr b3 0],.own (ints acc),z 10,z 11,z 12,z 13,z 14,z 15,z 16,z 17,z 18,z 19,z 20,z 21,z 22,z 23,z 24,.int .i64 (n : Int),.int .i64 (i : Int),z 27,z 28,z 29,z 30,z 31,z 32,z 33,z 34,z 35,z 36,z 37,z 38,z 39,z 40,z 41,z 42,z 43,z 44] := hF.lit
    clear hF
    have sl : (ints acc).length = acc.length := ints_len
    rcases Classical.em (i < n) with hlt | hlt
    · obtain ⟨m,hm⟩ : ∃ m,n - i = m + 1 := ⟨n - i - 1,by omega⟩
      rw [hm] at hfi'
      have q1 := dec_le (b := b.drop a)
      rw [List.length_drop] at q1
      have nx : (decInt (b.drop a)).2.2 = 0 → ∀ F' H',back ((b3,AO.cells [.int .i64 a]) :: (b2,AO.cells [.slc (b.map byteD)]) :: H).length H' = ((b3,AO.cells [.int .i64 ((a + (decInt (b.drop a)).2.1 : Nat) : Int)]) :: (b2,AO.cells [.slc (b.map byteD)]) :: H) → Fr 45 [(6,.int .i64 ((a + (decInt (b.drop a)).2.1 : Nat) : Int)),(8,.fn fi [.ptr b2 0,.ptr b3 0]),(9,.own (ints (acc ++ [(decInt (b.drop a)).1]))),(25,.int .i64 (n : Int)),(26,.int .i64 ((i + 1 : Nat) : Int))] F' → K .normal F' H' := fun he F' H' hH hF' => hN _ _ ⟨i + 1,a + (decInt (b.drop a)).2.1,acc ++ [(decInt (b.drop a)).1],by omega,by omega,by simp; omega,by rw [hfi',fin_step he,show n - (i + 1) = m by omega],hF',hH⟩ (by
        rw [List.getD_eq_getElem?_getD,hF'.2.2.2.2.2.1]
        simp only [List.getD_cons_succ,List.getD_cons_zero,Option.getD_some]
        omega)
      have bad : ¬ (decInt (b.drop a)).2.2 = 0 → R (.tup [.own (ints []),.int .i64 0,.int .i64 (decInt (b.drop a)).2.2]) H := fun he => hk ([],0,(decInt (b.drop a)).2.2) (by rw [hfi',fin_bad he])
      clear hN hE hk hfin hbad hfi'
      simp +contextual only [x10,bytesD_len,hlt,Int.ofNat_lt,↓U10,↓XP,XQ,XM,cellsOf,okc,one1,resOne,resAll,eqCells,cellEq,fits,sameK,ne_eq,ite_true,ite_false,Nat.reduceSub,Nat.reduceAdd,Nat.reduceMul,Nat.reduceEqDiff,Nat.reduceLeDiff,Nat.reduceBEq,reduceCtorEq,TYX]
      rw [hfi]
      refine f_rdNext ha h3.1 n2 n3 fun _ => ?_
      rw [← hfi]
      generalize decInt (b.drop a) = t at q1 nx bad ⊢
      obtain ⟨s,k,e⟩ := t
      dsimp only at q1 nx bad ⊢
      rcases Classical.em (e = 0) with c2 | c2
      · subst c2
        simp +contextual only [x10,bytesD_len,wrap_succ (show i ≤ big by omega),↓U10,↓XP,XQ,XM,cellsOf,okc,one1,resOne,resAll,eqCells,cellEq,fits,sameK,ne_eq,ite_true,ite_false,Nat.reduceSub,Nat.reduceAdd,Nat.reduceMul,Nat.reduceEqDiff,Nat.reduceLeDiff,Nat.reduceBEq,reduceCtorEq,TYX]
        refine fun _ _ _ => ⟨ints_1,by omega,nx rfl _ _ (back_0 rfl) ?_⟩
        rw [show ints (acc ++ [s]) = ints acc ++ [[.int .i64 s]] by simp [ints]]
        exact ⟨rfl,rfl,rfl,rfl,rfl,rfl,trivial⟩
      · simp +contextual only [x10,bytesD_len,eq_false c2,↓U10,↓XP,XQ,XM,cellsOf,okc,one1,resOne,resAll,eqCells,cellEq,fits,sameK,ne_eq,ite_true,ite_false,Nat.reduceSub,Nat.reduceAdd,Nat.reduceMul,Nat.reduceEqDiff,Nat.reduceLeDiff,Nat.reduceBEq,reduceCtorEq,TYX]
        refine fun _ _ _ => hR _ _ ?_
        simp +contextual only [x10,bytesD_len,↓U10,↓XP,XQ,XM,cellsOf,okc,one1,resOne,resAll,eqCells,cellEq,fits,sameK,ne_eq,ite_true,ite_false,Nat.reduceSub,Nat.reduceAdd,Nat.reduceMul,Nat.reduceEqDiff,Nat.reduceLeDiff,Nat.reduceBEq,reduceCtorEq,TYX]
        exact bad c2
    · have hik : i = n := by omega
      subst hik
      clear hN
      rw [Nat.sub_self,fin_end] at hfi'
      simp +contextual only [x10,bytesD_len,hlt,↓U10,↓XP,XQ,XM,cellsOf,okc,one1,resOne,resAll,eqCells,cellEq,fits,sameK,ne_eq,ite_true,ite_false,Nat.reduceSub,Nat.reduceAdd,Nat.reduceMul,Nat.reduceEqDiff,Nat.reduceLeDiff,Nat.reduceBEq,reduceCtorEq,TYX]
      refine hE _ _ _ ?_
      simp +contextual only [x10,bytesD_len,↓U10,↓XP,XQ,XM,cellsOf,okc,one1,resOne,resAll,eqCells,cellEq,fits,sameK,ne_eq,ite_true,ite_false,Nat.reduceSub,Nat.reduceAdd,Nat.reduceMul,Nat.reduceEqDiff,Nat.reduceLeDiff,Nat.reduceBEq,reduceCtorEq,TYX]
      exact hk _ hfi'
  · simp +contextual only [x10,bytesD_len,eq_false c1,↓U10,↓XP,XQ,XM,cellsOf,okc,one1,resOne,resAll,eqCells,cellEq,fits,sameK,ne_eq,ite_true,ite_false,Nat.reduceSub,Nat.reduceAdd,Nat.reduceMul,Nat.reduceEqDiff,Nat.reduceLeDiff,Nat.reduceBEq,reduceCtorEq,TYX]
    exact fun _ _ _ => hk _ (hbad c1)
end Go.Proofs.YtoeckfegggongaaDoor
end
section
namespace Go.Proofs.YtoeckfegggongaaDoor
open Go Go.Aw
def rdO (b : List UInt8) (bad : Bool) : AO := .cells [.slc (b.map byteD),.bool bad]
theorem f_took {b : List UInt8} {bad : Bool} {br k : Nat} {e : Int} {H : AH} {R : D → AH → Prop} (hk : k ≤ b.length) (hg : getH H br = some (rdO b bad))
    (h : R (.tup []) (setH H br (rdO (b.drop k) (bad || decide (e ≠ 0))))) : ACall Tryd.prog 20 [.ptr br 0,.int .i64 k,.int .i64 e] H R := by
  refine b20 fun hf => ?_
  have hbig := big_eq
  unfold rdO at hg h
  have hs2 : ∀ o,getH (setH H br o) br = some o := fun o => h_own (by rw [hg]; rfl)
  have hs3 : ∀ o o',setH (setH H br o) br o' = setH H br o' := fun o o' => h_two
  cases bad with
  | true =>
    simp +contextual only [x20,bytesD_len,drop_bytes,hg,hs2,hs3,↓u20_s0,↓XP,XQ,XM,cellsOf,okc,one1,resOne,resAll,eqCells,cellEq,fits,sameK,ne_eq,ite_true,ite_false,Nat.reduceSub,Nat.reduceAdd,Nat.reduceMul,Nat.reduceEqDiff,Nat.reduceLeDiff,Nat.reduceBEq,reduceCtorEq,TYX]
    exact fun _ => ⟨bytes_1,by omega,h⟩
  | false =>
    rcases Classical.em (e = 0) with c | c
    · subst c
      simp +contextual only [x20,bytesD_len,drop_bytes,hg,hs2,hs3,↓u20_s0,↓XP,XQ,XM,cellsOf,okc,one1,resOne,resAll,eqCells,cellEq,fits,sameK,ne_eq,ite_true,ite_false,Nat.reduceSub,Nat.reduceAdd,Nat.reduceMul,Nat.reduceEqDiff,Nat.reduceLeDiff,Nat.reduceBEq,reduceCtorEq,TYX]
      exact fun _ => ⟨bytes_1,by omega,h⟩
    · rw [decide_eq_true (show e ≠ 0 from c)] at h
      simp +contextual only [x20,bytesD_len,drop_bytes,hg,hs2,hs3,eq_false c,↓u20_s0,↓XP,XQ,XM,cellsOf,okc,one1,resOne,resAll,eqCells,cellEq,fits,sameK,ne_eq,ite_true,ite_false,Nat.reduceSub,Nat.reduceAdd,Nat.reduceMul,Nat.reduceEqDiff,Nat.reduceLeDiff,Nat.reduceBEq,reduceCtorEq,TYX]
      exact fun _ => ⟨bytes_1,by omega,h⟩
def rdBad (b : List UInt8) (bad : Bool) (many : Int) (by' : Nat) : Bool := bad || decide ((decInts b).2.2 ≠ 0) || decide ((0 ≤ many ∧ ((decInts b).1.length : Int) ≠ many) ∨ (decInts b).1.length % by' ≠ 0)
def rdL (b : List UInt8) (bad : Bool) (many : Int) (by' : Nat) : List Int := if rdBad b bad many by' = true then List.replicate many.toNat 0 else (decInts b).1
theorem f_rdInts {b : List UInt8} {bad : Bool} {br by' : Nat} {many : Int} {H : AH} {R : D → AH → Prop} (hB : b.length ≤ 1000000000) (hm : many ≤ 1000) (h0 : 0 < by') (hby : by' ≤ 1000) (hg : getH H br = some (rdO b bad))
    (h : ∀ d : D,d.view = .slc (ints (rdL b bad many by')) → R d (setH H br (rdO (b.drop (decInts b).2.1) (rdBad b bad many by')))) : ACall Tryd.prog 17 [.ptr br 0,.int .i64 many,.int .i64 by'] H R := by
  refine b17 fun hf => ?_
  have hbig := big_eq
  have hle := ints_le (b := b)
  have hg' := hg
  unfold rdO at hg'
  have hs2 : ∀ o,getH (setH H br o) br = some o := fun o => h_own (by rw [hg]; rfl)
  have hs3 : ∀ o o',setH (setH H br o) br o' = setH H br o' := fun o o' => h_two
  simp +contextual only [x17,bytesD_len,drop_bytes,hs2,hs3,ints_len,hg',↓U17,↓XP,XQ,XM,cellsOf,okc,one1,resOne,resAll,eqCells,cellEq,fits,sameK,ne_eq,ite_true,ite_false,Nat.reduceSub,Nat.reduceAdd,Nat.reduceMul,Nat.reduceEqDiff,Nat.reduceLeDiff,Nat.reduceBEq,reduceCtorEq,TYX]
  refine fun _ => f_wGetInts hB ?_
  simp +contextual only [x17,bytesD_len,drop_bytes,hs2,hs3,ints_len,hg',↓U17,↓XP,XQ,XM,cellsOf,okc,one1,resOne,resAll,eqCells,cellEq,fits,sameK,ne_eq,ite_true,ite_false,Nat.reduceSub,Nat.reduceAdd,Nat.reduceMul,Nat.reduceEqDiff,Nat.reduceLeDiff,Nat.reduceBEq,reduceCtorEq,TYX]
  refine fun _ _ _ => f_took hle.1 hg ?_
  generalize (decInts b).2.1 = k at hle h ⊢
  unfold rdBad rdL rdBad at h
  generalize (decInts b).2.2 = e at h ⊢
  generalize (decInts b).1 = l at hle h ⊢
  have hb1 : (bad = true ∨ e ≠ 0 ∨ (0 ≤ many ∧ (l.length : Int) ≠ many) ∨ l.length % by' ≠ 0) → R (.own (List.replicate many.toNat [.int .i64 0])) (setH H br (.cells [.slc ((b.drop k).map byteD),.bool true])) := fun hc => by
    have e1 : (bad || decide (e ≠ 0) || decide ((0 ≤ many ∧ (l.length : Int) ≠ many) ∨ l.length % by' ≠ 0)) = true := by simpa [or_assoc] using hc
    rw [e1,if_pos rfl] at h
    exact h _ (by rw [show ints (List.replicate many.toNat 0) = List.replicate many.toNat [.int .i64 0] by simp [ints]]; rfl)
  have hb2 : ¬ (bad = true ∨ e ≠ 0 ∨ (0 ≤ many ∧ (l.length : Int) ≠ many) ∨ l.length % by' ≠ 0) → R (.slc (ints l)) (setH H br (.cells [.slc ((b.drop k).map byteD),.bool false])) := fun hc => by
    have e1 : (bad || decide (e ≠ 0) || decide ((0 ≤ many ∧ (l.length : Int) ≠ many) ∨ l.length % by' ≠ 0)) = false := by
      rw [← Bool.not_eq_true]
      intro hh
      exact hc (by simpa [or_assoc] using hh)
    rw [e1,if_neg (by simp)] at h
    exact h _ rfl
  clear h
  obtain ⟨i,i1,i2⟩ : ∃ i,Tryd.prog.info? 3 = some i ∧ i.bytes = 8 := ⟨_,rfl,rfl⟩
  have m1 : (if 0 > many then (0 : Int) else many) = (many.toNat : Int) := by split <;> omega
  have m2 : (0 ≤ (many.toNat : Int)) = True := eq_true (by omega)
  have m3 : (((8 : Nat) : Int) * (many.toNat : Int) ≤ 140737488355328) = True := eq_true (by omega)
  have m4 : ((many.toNat : Int) ≤ 140737488355328) = True := eq_true (by omega)
  have m5 : ((by' : Int) = 0) = False := eq_false (by omega)
  have m6 : ((l.length : Int)).tmod (by' : Int) = ((l.length % by' : Nat) : Int) := rfl
  have go : ∀ {p q : Prop},(p → q) → (¬ p → q) → q := fun a b => (Classical.em _).elim a b
  refine go (p := e = 0) (fun c2 => ?_) (fun c2 => ?_) <;> refine go (p := 0 ≤ many) (fun c3 => ?_) (fun c3 => ?_) <;> refine go (p := (l.length : Int) = many) (fun c4 => ?_) (fun c4 => ?_) <;> refine go (p := l.length % by' = 0) (fun c5 => ?_) (fun c5 => ?_) <;> cases bad
  all_goals
    first
      | have c2' := eq_false c2
      | have c2' := eq_true c2
    first
      | have c3' := eq_false c3
      | have c3' := eq_true c3
    first
      | have c4' := eq_false c4
      | have c4' := eq_true c4
    first
      | have c5' : (((l.length % by' : Nat) : Int) = 0) = True := eq_true (by omega)
      | have c5' : (((l.length % by' : Nat) : Int) = 0) = False := eq_false (by omega)
    simp +contextual only [x17,bytesD_len,drop_bytes,hs2,hs3,ints_len,rdO,i1,i2,m1,m2,m3,m4,m5,m6,c2',c3',c4',c5',Int.toNat_natCast,↓U17,↓XP,XQ,XM,cellsOf,okc,one1,resOne,resAll,eqCells,cellEq,fits,sameK,ne_eq,ite_true,ite_false,Nat.reduceSub,Nat.reduceAdd,Nat.reduceMul,Nat.reduceEqDiff,Nat.reduceLeDiff,Nat.reduceBEq,reduceCtorEq,TYX]
    intros
    first
      | (exfalso; omega)
      | exact hb1 (by simp [*])
      | exact hb2 (by simp [*])
end Go.Proofs.YtoeckfegggongaaDoor
end
section
namespace Go.Proofs.YtoeckfegggongaaDoor
open Go Go.Aw Go.RowKit Go.Shelf
attribute [local go_sem] Oper.semAt_some
def Same (x y : Nat) : Prop := x = y
theorem chunk_in (n : Nat) (l b1 b2 len cap k m : Nat) (a : Option Addr) (hm0 : m = cntK len k) (hk : 0 < k) (hk2 : k ≤ 1000) (hlc : len ≤ cap) (hlb : len ≤ big) (J Jx : List (Fin m) → World → Prop)
    (hY : ∀ pre (x : Fin m) W,J pre W → pre.length < m → YieldAt Fence.wide (n - 1) Tryd.prog l #[chunkV a len k x.val] W fun e W' =>
      (e = .returned (.bool true) ∧ J (pre ++ [x]) W' ∧ KpB b1 b2 W W') ∨ (e = .returned (.bool false) ∧ Jx (pre ++ [x]) W'))
    (hJd : ∀ s A,J s A → J s A.drew) (W : World) (hB1 : W.cell? ⟨b1,0,none⟩ = some (.slice a len cap)) (hB2 : W.cell? ⟨b2,0,none⟩ = some (.int .i64 k)) (h0 : J [] W) :
    CallsIn Fence.wide n Tryd.prog 43 #[.func (.yield l) #[] #[],.pointer (some ⟨b1,0,none⟩),.pointer (some ⟨b2,0,none⟩)] W fun e W' => (∃ v,e = .returned v) ∧
      ((∃ ys : List (Fin m),ys.map Fin.val = List.range m ∧ J ys W') ∨ (∃ pre : List (Fin m),True ∧ Jx pre W')) := by
  have hmo : Tryd.prog.follows .mixedOrders = true := by kernel_rfl
  refine callsIn_of_wp Tryd.func43 rfl trivial ?_ rfl
  simp only [Tryd.ntmps43,List.size_toArray,List.length_cons,List.length_nil,Nat.reduceAdd,Nat.reduceSub,Array.replicate_succ,Array.replicate_zero,List.push_toArray,List.append_toArray,List.nil_append,List.cons_append]
  gi_wp2
  gi_loopw [4] (fun i wr => ∃ (c i0 : Nat) (pre : List (Fin m)),c ≤ m ∧ Same i0 (c * k) ∧ i0 ≤ len + k ∧ i = .int .i64 i0 ∧ pre.map Fin.val = List.range c ∧ J pre wr ∧ KpB b1 b2 W wr)
    (fun i _ => len + k - (intOf i).toNat)
  case atStart => exact ⟨0,0,[],Nat.zero_le _,by simp [Same],Nat.zero_le _,rfl,rfl,h0,rfl,rfl⟩
  case round =>
    obtain ⟨c,i0,pre,hc,hi0,hile,rfl,hpre,hJs,hk1,hk3⟩ := hrel
    have hc1 : wr.cell? ⟨b1,0,none⟩ = some (.slice a len cap) := hk1.trans hB1
    have hc2 : wr.cell? ⟨b2,0,none⟩ = some (.int .i64 k) := hk3.trans hB2
    have hbig := big_eq
    by_cases hlt : i0 < len
    · have hcm1 : c < m := by
        unfold Same at hi0
        subst hm0 hi0
        unfold cntK
        refine (Nat.le_div_iff_mul_le hk).2 ?_
        rw [Nat.succ_mul]
        omega
      have hlt' : (i0 : Int) < len := by omega
      obtain ⟨e0,he0⟩ : ∃ e0,e0 = min k (len - i0) := ⟨_,rfl⟩
      have he1 : min (k : Int) (len - i0 : Nat) = e0 := by omega
      have he2 : 0 < e0 := by omega
      have he3 : i0 + e0 ≤ len := by omega
      obtain ⟨fn,tmps,assign,body,hy,hR⟩ := hY _ (⟨c,hcm1⟩ : Fin m) wr.drew (hJd _ _ hJs) (by have := congrArg List.length hpre; simp at this; omega)
      unfold chunkV at hy
      dsimp only at hy
      rw [← show i0 = c * k from hi0,← he0] at hy
      have hyA : ∀ x : Nat,e0 = x → (Instr.yield l #[Value.slice (Option.map (fun y => y.add i0) a) (((i0 : Int) + (x : Int)).toNat - i0) (((i0 : Int) + (x : Int)).toNat - i0)]).run Tryd.prog wr.drew = .ok (.round l fn tmps assign body) wr.drew := fun x hx => by
        rw [← hy,← hx]
        unfold sliced
        rw [if_neg (by omega),show ((i0 : Int) + (e0 : Int)).toNat = i0 + e0 by omega,Nat.mul_one]
      clear hy
      have hd1 : wr.drew.cell? ⟨b1,0,none⟩ = some (.slice a len cap) := hc1
      have hd2 : wr.drew.cell? ⟨b2,0,none⟩ = some (.int .i64 k) := hc2
      gi_wp2
      gi_region_o
      all_goals gi_wp2
      all_goals
        rw [hyA _ (by omega)]
        refine ⟨fun h => (by cases h),hR.mono ?_⟩
        rintro e W3 (⟨rfl,hJ3,hk5,hk6⟩ | ⟨rfl,hJx3⟩)
        · have hc3 : W3.cell? ⟨b1,0,none⟩ = some (.slice a len cap) := hk5.trans hd1
          have hc4 : W3.cell? ⟨b2,0,none⟩ = some (.int .i64 k) := hk6.trans hd2
          gi_wp2
          go_roundw
          case rel => exact ⟨c + 1,i0 + k,pre ++ [⟨c,hcm1⟩],by omega,by unfold Same at *; rw [hi0,Nat.succ_mul],by omega,by simp,by rw [List.map_append,hpre,List.range_succ]; rfl,hJ3,hk5.trans hk1,hk6.trans hk3⟩
          case measure => simp [intOf]; omega
        · gi_wp2
          refine bodyPost_ret (results_none rfl _ _ _) rfl ?_
          exact ⟨⟨_,rfl⟩,.inr ⟨_,trivial,hJx3⟩⟩
    · have hcm2 : c = m := by
        refine Nat.le_antisymm hc (Nat.le_of_not_lt fun h => hlt ?_)
        rw [show i0 = c * k from hi0]
        exact cntK_lt hk (hm0 ▸ h)
      have hlt' : ¬ ((i0 : Int) < len) := by omega
      gi_wp2
      go_end0
      exact ⟨⟨_,rfl⟩,.inl ⟨pre,hpre.trans (by rw [hcm2,← hm0]),hJs⟩⟩
theorem it43 : ItC Tryd.prog 43 := by
  refine ⟨enters_of Tryd.func43 (by kernel_rfl) rfl,fun n a len cap k b1 b2 w _ hk hk2 hlc _ hlb h1 h2 hc1 hc2 l J Jx W hW hJ hJx hY h0 => ?_⟩
  exact chunk_in n l b1 b2 len cap k _ a rfl hk hk2 hlc hlb J Jx hY (fun s A hA => hJ s A A.drew none hA ⟨rfl,rfl,rfl,Nat.le_refl _,fun _ _ _ => rfl⟩ (fun r e => by cases e)) W
    ((hW.cell (p := ⟨b1,0,none⟩) h1).trans hc1) ((hW.cell (p := ⟨b2,0,none⟩) h2).trans hc2) h0
end Go.Proofs.YtoeckfegggongaaDoor
end
section
namespace Go.Proofs.YtoeckfegggongaaDoor
open Go Go.Aw
def sml (n : Int) : Prop := -2000000 ≤ n ∧ n ≤ 2000000
theorem sml_in {n : Int} (h : sml n) : inR .i64 n := by
  rw [inR_i64]
  unfold sml at h
  omega
theorem okid_sml {x : Id3} (h : OkId x ∨ x = id0) : sml x.o ∧ sml x.s ∧ sml x.i := by
  unfold sml
  rcases h with h | h
  · unfold OkId at h; omega
  · subst h; simp [id0]
theorem uses_k {k : Int} (h : uses k ≠ []) : 1 ≤ k ∧ k ≤ 18 := by
  refine Classical.byContradiction fun hc => h ?_
  unfold uses
  repeat rw [if_neg (by omega)]
theorem vop_nums {o : OpP} (h : VOp o) : (∀ x ∈ opNums o,sml x) ∧ (∀ x ∈ o.ids,sml x.o ∧ sml x.s ∧ sml x.i) ∧ o.ids.length ≤ 4 ∧ o.name.length ≤ 16 ∧ o.text.length ≤ 1024 := by
  obtain ⟨⟨h1,h2,h3,h4,h5⟩,⟨g1,g2,g3,g4⟩,⟨i1,i2,i3,i4⟩,⟨j1,j2⟩,_⟩ := h
  have hk := uses_k h1
  have hon : OkId o.on ∨ o.on = id0 := by
    by_cases c : 79 ∈ uses o.k
    · exact .inl (h2 c)
    · exact .inr (h3 c)
  have hto : OkId o.to ∨ o.to = id0 := by
    by_cases c : 84 ∈ uses o.k
    · exact .inl (h4 c)
    · exact .inr (h5 c)
  have hil : o.ids.length ≤ 4 := by
    by_cases c : 73 ∈ uses o.k
    · obtain ⟨_,_,c3,c4⟩ := g3 c
      by_cases c5 : o.k = 18
      · have := c3 c5; omega
      · exact (c4 c5).2
    · rw [g4 c]; simp
  have hids : ∀ x ∈ o.ids,sml x.o ∧ sml x.s ∧ sml x.i := by
    intro x hx
    by_cases c : 73 ∈ uses o.k
    · exact okid_sml (.inl ((g3 c).1 x hx).1)
    · rw [g4 c] at hx; simp at hx
  have hn : sml o.n := by
    by_cases c : 78 ∈ uses o.k
    · obtain ⟨c1,c2⟩ := g1 c
      unfold numLow at c1
      unfold numHigh at c2
      unfold sml
      constructor
      · split at c1 <;> omega
      · repeat' (split at c2)
        all_goals omega
    · rw [g2 c]; unfold sml; omega
  have hab : sml o.a ∧ sml o.b := by
    unfold sml
    by_cases c : 83 ∈ uses o.k
    · have := j1 c; unfold OkSpan at this; omega
    · have := j2 c; omega
  have hk2 : sml o.k := by unfold sml; omega
  have a1 := okid_sml hon
  have a2 := okid_sml hto
  refine ⟨?_,hids,hil,?_,?_⟩
  · intro x hx
    simp only [opNums,id3,List.cons_append,List.nil_append,List.mem_cons,List.not_mem_nil,or_false] at hx
    rcases hx with rfl | rfl | rfl | rfl | rfl | rfl | rfl | rfl | rfl | rfl
    · exact hk2
    · exact a1.1
    · exact a1.2.1
    · exact a1.2.2
    · exact a2.1
    · exact a2.2.1
    · exact a2.2.2
    · exact hn
    · exact hab.1
    · exact hab.2
  · by_cases c : 65 ∈ uses o.k
    · exact (i1 c).2
    · rw [i2 c]; simp
  · by_cases c : 88 ∈ uses o.k
    · exact i3 c
    · rw [i4 c]; simp
def triple (l : List Int) (j : Nat) : Id3 := ⟨l.getD (3 * j) 0,l.getD (3 * j + 1) 0,l.getD (3 * j + 2) 0⟩
def triples (l : List Int) : List Id3 := (List.range (l.length / 3)).map (triple l)
def pair (l : List Int) (j : Nat) : Rf := ⟨l.getD (2 * j) 0,l.getD (2 * j + 1) 0⟩
def pairs (l : List Int) : List Rf := (List.range (l.length / 2)).map (pair l)
theorem triples_flat : ∀ (l : List Id3),triples (l.flatMap id3) = l
  | [] => rfl
  | x :: l => by
    have h := triples_flat l
    unfold triples at h ⊢
    rw [ids3_len] at h ⊢
    rw [show 3 * (x :: l).length / 3 = l.length + 1 by rw [List.length_cons]; omega,List.range_succ_eq_map,List.map_cons,List.map_map]
    rw [show 3 * l.length / 3 = l.length by omega] at h
    rw [show triple ((x :: l).flatMap id3) 0 = x from rfl]
    exact congrArg _ h
theorem pairs_flat : ∀ (l : List Rf),pairs (needNums l) = l
  | [] => rfl
  | x :: l => by
    have h := pairs_flat l
    unfold pairs at h ⊢
    rw [needs_len] at h ⊢
    rw [show 2 * (x :: l).length / 2 = l.length + 1 by rw [List.length_cons]; omega,List.range_succ_eq_map,List.map_cons,List.map_map]
    rw [show 2 * l.length / 2 = l.length by omega] at h
    rw [show pair (needNums (x :: l)) 0 = x from rfl]
    exact congrArg _ h
theorem rd_enc {l : List Int} {r : List UInt8} {many : Int} {by' : Nat} (h : ∀ x ∈ l,inR .i64 x) (hb : l.length ≤ 140737488355328) (hm : 0 ≤ many → (l.length : Int) = many) (hy : l.length % by' = 0) :
    rdBad (encInts l ++ r) false many by' = false ∧ rdL (encInts l ++ r) false many by' = l ∧ (encInts l ++ r).drop (decInts (encInts l ++ r)).2.1 = r := by
  have e := ints_enc (rest := r) h hb
  have e1 : rdBad (encInts l ++ r) false many by' = false := by
    unfold rdBad
    rw [e]
    simp [hy]
    exact hm
  refine ⟨e1,?_,?_⟩
  · unfold rdL
    rw [e1,e]
    rfl
  · rw [e]
    exact List.drop_left
def opOf (l : List Int) (ids : List Id3) (name text : List UInt8) : OpP := ⟨l.getD 0 0,⟨l.getD 1 0,l.getD 2 0,l.getD 3 0⟩,⟨l.getD 4 0,l.getD 5 0,l.getD 6 0⟩,ids,l.getD 7 0,name,text,l.getD 8 0,l.getD 9 0⟩
def decOpS (l m : List Int) (b2 : List UInt8) (x2 : Bool) : OpP × List UInt8 × Bool :=
  if (decStrs b2).1.length = 2 then (opOf l (triples m) ((decStrs b2).1.getD 0 []) ((decStrs b2).1.getD 1 []),b2.drop (decStrs b2).2.1,x2 || decide ((decStrs b2).2.2 ≠ 0))
  else (opOf l (triples m) [] [],b2.drop (decStrs b2).2.1,true)
def decOpM (l : List Int) (b1 : List UInt8) (x1 : Bool) : OpP × List UInt8 × Bool := decOpS l (rdL b1 x1 (-1) 3) (b1.drop (decInts b1).2.1) (rdBad b1 x1 (-1) 3)
def decOpI (b : List UInt8) (bad : Bool) : OpP × List UInt8 × Bool := decOpM (rdL b bad 10 1) (b.drop (decInts b).2.1) (rdBad b bad 10 1)
theorem op_enc {o : OpP} {r : List UInt8} (h : VOp o) : decOpI (encOp o ++ r) false = (o,r,false) := by
  obtain ⟨h1,h2,h3,h4,h5⟩ := vop_nums h
  have e : encOp o ++ r = encInts (opNums o) ++ (encInts (o.ids.flatMap id3) ++ (encStrs [o.name,o.text] ++ r)) := by simp only [encOp,List.append_assoc]
  have l10 : (opNums o).length = 10 := rfl
  obtain ⟨a1,a2,a3⟩ := rd_enc (l := opNums o) (r := encInts (o.ids.flatMap id3) ++ (encStrs [o.name,o.text] ++ r)) (many := 10) (by' := 1) (fun x hx => sml_in (h1 x hx)) (by omega) (fun _ => by rw [l10]; rfl) (by omega)
  have hi : ∀ x ∈ o.ids.flatMap id3,inR .i64 x := by
    intro x hx
    obtain ⟨y,hy,hx⟩ := List.mem_flatMap.1 hx
    have := h2 y hy
    simp only [id3,List.mem_cons,List.not_mem_nil,or_false] at hx
    rcases hx with rfl | rfl | rfl
    · exact sml_in this.1
    · exact sml_in this.2.1
    · exact sml_in this.2.2
  obtain ⟨b1,b2,b3⟩ := rd_enc (l := o.ids.flatMap id3) (r := encStrs [o.name,o.text] ++ r) (many := -1) (by' := 3) hi (by rw [ids3_len]; omega) (fun hc => by omega) (by rw [ids3_len]; omega)
  have s1 := strs_enc (l := [o.name,o.text]) (rest := r) (by
    intro x hx
    simp only [List.mem_cons,List.not_mem_nil,or_false] at hx
    rcases hx with rfl | rfl <;> omega) (by simp)
  unfold decOpI decOpM
  rw [e,a1,a2,a3,b1,b2,b3]
  unfold decOpS
  rw [s1,triples_flat]
  dsimp only
  rw [if_pos (by rfl),List.drop_left]
  rfl
def opsR : Nat → List UInt8 → Bool → List OpP × List UInt8 × Bool
  | 0,b,bad => ([],b,bad)
  | c + 1,b,bad => if bad = true then ([],b,bad) else ((decOpI b bad).1 :: (opsR c (decOpI b bad).2.1 (decOpI b bad).2.2).1,(opsR c (decOpI b bad).2.1 (decOpI b bad).2.2).2)
theorem opsR_enc : ∀ (l : List OpP) (r : List UInt8),(∀ o ∈ l,VOp o) → opsR l.length (l.flatMap encOp ++ r) false = (l,r,false)
  | [],r,_ => rfl
  | o :: l,r,h => by
    have e := op_enc (r := l.flatMap encOp ++ r) (h o (.head _))
    have e2 := opsR_enc l r (fun x hx => h x (.tail _ hx))
    rw [show (o :: l).flatMap encOp ++ r = encOp o ++ (l.flatMap encOp ++ r) by simp,List.length_cons]
    unfold opsR
    rw [e]
    dsimp only
    rw [e2]
    rfl
def cntO (many : Int) : Nat := min many.toNat 17
def decPtS (l m : List Int) (ops : List OpP) (b4 : List UInt8) (x4 : Bool) : Pt × Bool := (⟨l.getD 0 0,l.getD 1 0,l.getD 2 0,pairs m,ops,(decBytes b4).1⟩,x4 || decide ((decBytes b4).2.2 ≠ 0))
def decPtO (l m : List Int) (b2 : List UInt8) (x2 : Bool) : Pt × Bool :=
  decPtS l m (opsR (cntO (decInt b2).1) (b2.drop (decInt b2).2.1) (x2 || decide ((decInt b2).2.2 ≠ 0))).1 (opsR (cntO (decInt b2).1) (b2.drop (decInt b2).2.1) (x2 || decide ((decInt b2).2.2 ≠ 0))).2.1 (opsR (cntO (decInt b2).1) (b2.drop (decInt b2).2.1) (x2 || decide ((decInt b2).2.2 ≠ 0))).2.2
def decPtM (l : List Int) (b1 : List UInt8) (x1 : Bool) : Pt × Bool := decPtO l (rdL b1 x1 (-1) 2) (b1.drop (decInts b1).2.1) (rdBad b1 x1 (-1) 2)
def decPtI (b : List UInt8) : Pt × Bool := decPtM (rdL b false 3 1) (b.drop (decInts b).2.1) (rdBad b false 3 1)
def Good (p : Pt) : Prop := encE p = 0
theorem good_parts {p : Pt} (h : Good p) : OkHead p ∧ p.needs.length ≤ 8 ∧ p.ops.length ≤ 16 ∧ OkNeeds p ∧ OkOps p ∧ p.sl.length ≤ 1200 := by
  unfold Good encE at h
  by_cases c : validE p = 0
  · rw [if_neg (fun d => d c)] at h
    have hs : p.sl.length ≤ 1200 := by
      split at h
      · simp at h
      · omega
    unfold validE at c
    by_cases c1 : OkHead p
    · rw [if_neg (fun d => d c1)] at c
      by_cases c2 : 8 < p.needs.length ∨ 16 < p.ops.length
      · rw [if_pos c2] at c; simp at c
      rw [if_neg c2] at c
      by_cases c3 : p.ops = []
      · rw [if_pos c3] at c; simp at c
      rw [if_neg c3] at c
      by_cases c4 : OkNeeds p
      · rw [if_neg (fun d => d c4)] at c
        by_cases c5 : OkOps p
        · exact ⟨c1,by omega,by omega,c4,c5,hs⟩
        · rw [if_pos c5] at c; simp at c
      · rw [if_pos c4] at c; simp at c
    · rw [if_pos c1] at c; simp at c
  · rw [if_pos c] at h; exact (c h).elim
theorem pt_enc {p : Pt} (h : Good p) : decPtI (encPt p) = (p,false) := by
  obtain ⟨h1,h2,h3,h4,h5,h6⟩ := good_parts h
  unfold OkHead at h1
  have e : encPt p = encInts [p.o,p.s,p.day] ++ (encInts (needNums p.needs) ++ (encInt p.ops.length ++ (p.ops.flatMap encOp ++ (encBytes p.sl ++ [])))) := by simp only [encPt,List.append_assoc,List.append_nil]
  obtain ⟨a1,a2,a3⟩ := rd_enc (l := [p.o,p.s,p.day]) (r := encInts (needNums p.needs) ++ (encInt p.ops.length ++ (p.ops.flatMap encOp ++ (encBytes p.sl ++ [])))) (many := 3) (by' := 1) (by
    intro x hx
    simp only [List.mem_cons,List.not_mem_nil,or_false] at hx
    rw [inR_i64]
    rcases hx with rfl | rfl | rfl <;> omega) (by simp) (fun _ => rfl) (by simp)
  obtain ⟨b1,b2,b3⟩ := rd_enc (l := needNums p.needs) (r := encInt p.ops.length ++ (p.ops.flatMap encOp ++ (encBytes p.sl ++ []))) (many := -1) (by' := 2) (by
    intro x hx
    obtain ⟨y,hy,hx⟩ := List.mem_flatMap.1 hx
    obtain ⟨i,hi,hy⟩ := List.getElem_of_mem hy
    have hv := h4 i hi
    unfold OkNeedAt at hv
    rw [getD_lt hi,hy] at hv
    simp only [List.mem_cons,List.not_mem_nil,or_false] at hx
    rw [inR_i64]
    rcases hx with rfl | rfl <;> omega) (by rw [needs_len]; omega) (fun hc => by omega) (by rw [needs_len]; omega)
  have c1 := dec_enc (m := (p.ops.length : Int)) (rest := p.ops.flatMap encOp ++ (encBytes p.sl ++ [])) (nat_in (by omega))
  have d1 := opsR_enc p.ops (encBytes p.sl ++ []) h5
  have f1 := bytes_enc (s := p.sl) (rest := []) (by omega)
  unfold decPtI decPtM
  rw [e,a1,a2,a3,b1,b2,b3]
  unfold decPtO
  rw [c1,show cntO ((p.ops.length : Int),(encInt (p.ops.length : Int)).length,(0 : Int)).1 = p.ops.length by simp [cntO]; omega,List.drop_left]
  rw [show (false || decide (((p.ops.length : Int),(encInt (p.ops.length : Int)).length,(0 : Int)).2.2 ≠ 0)) = false from rfl,d1]
  unfold decPtS
  rw [f1,pairs_flat]
  rfl
noncomputable def decodeI (b : List UInt8) : Pt × Int := open Classical in if (decPtI b).2 = false ∧ encE (decPtI b).1 = 0 ∧ encPt (decPtI b).1 = b then ((decPtI b).1,0) else (pt0,2)
theorem decode_good {p : Pt} (h : Good p) : decodeI (encPt p) = (p,0) := by
  unfold decodeI
  rw [pt_enc h,if_pos ⟨rfl,h,rfl⟩]
theorem decode_bad {b : List UInt8} (h : ∀ p,Good p → encPt p ≠ b) : decodeI b = (pt0,2) := by
  unfold decodeI
  rw [if_neg]
  rintro ⟨_,h2,h3⟩
  exact h _ h2 h3
end Go.Proofs.YtoeckfegggongaaDoor
end
