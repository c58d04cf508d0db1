/- A part of the proof of what the last text says: Gs1, Gs2, Gf5, Gf3, Gf6. Conditions: those in each theorem. -/
import Derived.Test.YtoeckfegggongaaGreatDoorW28
set_option linter.unusedVariables false
set_option linter.unusedSimpArgs false
set_option maxRecDepth 100000
set_option maxHeartbeats 16000000
open Nat (reduceSub reduceAdd reduceMul reduceEqDiff reduceLeDiff)
section
namespace Go.Proofs.YtoeckfegggongaaGreatDoor
open Go Go.Aw
theorem f_same01 {a b : List UInt8} {H : AH} {R : D → AH → Prop} (h : R (.bool (decide (a = b))) H) : ACall Tryz.prog 13 [.slc (a.map byteD),.slc (b.map byteD)] H R := by
  refine b13 fun hf => ?_
  have hbig := big_eq
  have hk : ∀ c,decide (a = b) = c → R (.bool c) H := fun c hc => hc ▸ h
  clear h
  rcases Classical.em (a.length = b.length) with hl | hl
  · simp +contextual only [x13,bytesD_len,show ((a.length : Int) = (b.length : Int)) = True from eq_true (by omega),↓U13,↓XP,XW0,XW1,reduceSub,reduceAdd,reduceMul,reduceEqDiff,reduceLeDiff,Nat.reduceBEq,reduceCtorEq,TYX]
    refine fun _ _ => XW.loopK Go.Proofs.YtoeckfegggongaaGreatDoor.hm (fun F H' => ∃ (i : Nat),i ≤ a.length ∧ a.take i = b.take i ∧ Fr 26 [(0,.slc (a.map byteD)),(1,.slc (b.map byteD)),(5,.int .i64 (i : Int))] F ∧ H = H') (fun F H => match F.getD 5 .any with | .int _ n' => a.length - n'.toNat | _ => 0) ⟨0,by omega,by simp,⟨rfl,rfl,rfl,rfl,trivial⟩,rfl⟩ ?_
    rintro _ _ ⟨i,hi,hv,hF,rfl⟩ K hN hE hR
    obtain ⟨z,rfl⟩ : ∃ z : Nat → D,_ = .slc (a.map byteD) :: .slc (b.map byteD) :: zz z 2 3 (.int .i64 (i : Int) :: zz z 6 20 []) := hF.lit
    try dsimp only [zz,reduceAdd] at *
    clear hF
    rcases Classical.em (i < a.length) with hlt | hlt
    · have q1 := bytes_get hlt
      have q2 := bytes_get (l := b) (i := i) (by omega)
      have e1 : a.take (i + 1) = a.take i ++ [a.getD i 0] := by rw [List.take_add_one]; simp [hlt]
      have e2 : b.take (i + 1) = b.take i ++ [b.getD i 0] := by rw [List.take_add_one]; simp [show i < b.length by omega]
      have nx : a.getD i 0 = b.getD i 0 → ∀ F',Fr 26 [(0,.slc (a.map byteD)),(1,.slc (b.map byteD)),(5,.int .i64 ((i + 1 : Nat) : Int))] F' → K .normal F' H := fun he F' hF' => hN _ _ ⟨i + 1,hlt,by rw [e1,e2,hv,he],hF',(back_0 rfl).symm⟩ (by
        rw [List.getD_eq_getElem?_getD,hF'.2.2.2.1]
        simp only [List.getD_cons_succ,List.getD_cons_zero,Option.getD_some]
        omega)
      have bad : a.getD i 0 ≠ b.getD i 0 → R (.bool false) H := fun he => hk false (decide_eq_false fun h => he (by rw [h]))
      clear hN hE hk
      generalize a.getD i 0 = x at q1 nx bad
      generalize b.getD i 0 = y at q2 nx bad
      have hlb : (((i : Nat) : Int) < (b.length : Int)) = True := eq_true (by omega)
      rcases Classical.em (x = y) with hxy | hxy
      · have c1 : ((x.toNat : Int) = (y.toNat : Int)) = True := eq_true (by rw [hxy])
        simp +contextual only [x13,bytesD_len,hlt,hlb,Int.ofNat_lt,q1,q2,c1,wrap_succ (show i ≤ big by omega),↓U13,↓XP,XW0,XW1,reduceSub,reduceAdd,reduceMul,reduceEqDiff,reduceLeDiff,Nat.reduceBEq,reduceCtorEq,TYX]
        exact fun _ _ _ => nx hxy _ ⟨rfl,rfl,rfl,rfl,trivial⟩
      · have c1 : ((x.toNat : Int) = (y.toNat : Int)) = False := eq_false (fun h => hxy (UInt8.toNat_inj.1 (by omega)))
        simp +contextual only [x13,bytesD_len,hlt,hlb,Int.ofNat_lt,q1,q2,c1,wrap_succ (show i ≤ big by omega),↓U13,↓XP,XW0,XW1,reduceSub,reduceAdd,reduceMul,reduceEqDiff,reduceLeDiff,Nat.reduceBEq,reduceCtorEq,TYX]
        refine fun _ _ _ => hR _ _ ?_
        simp +contextual only [x13,bytesD_len,↓U13,↓XP,XW0,XW1,reduceSub,reduceAdd,reduceMul,reduceEqDiff,reduceLeDiff,Nat.reduceBEq,reduceCtorEq,TYX]
        exact bad hxy
    · have hik : i = a.length := by omega
      subst hik
      clear hN
      rw [List.take_length,hl,List.take_length] at hv
      simp +contextual only [x13,bytesD_len,↓U13,↓XP,XW0,XW1,reduceSub,reduceAdd,reduceMul,reduceEqDiff,reduceLeDiff,Nat.reduceBEq,reduceCtorEq,TYX]
      refine fun _ => hE _ _ _ ?_
      simp +contextual only [x13,bytesD_len,↓U13,↓XP,XW0,XW1,reduceSub,reduceAdd,reduceMul,reduceEqDiff,reduceLeDiff,Nat.reduceBEq,reduceCtorEq,TYX]
      exact hk true (decide_eq_true hv)
  · simp +contextual only [x13,bytesD_len,show ((a.length : Int) = (b.length : Int)) = False from eq_false (by omega),↓U13,↓XP,XW0,XW1,reduceSub,reduceAdd,reduceMul,reduceEqDiff,reduceLeDiff,Nat.reduceBEq,reduceCtorEq,TYX]
    exact fun _ _ => hk false (decide_eq_false fun h => hl (by rw [h]))
theorem f_sameIDs {l : List Id3} {H : AH} {R : D → AH → Prop} (h : R (.bool true) H) : ACall Tryz.prog 71 [.slc (idsD l),.slc (idsD l)] H R := by
  refine b71 fun hf => ?_
  have hbig := big_eq
  simp +contextual only [x71,ids_len,↓U71,↓XP,XW0,XW1,reduceSub,reduceAdd,reduceMul,reduceEqDiff,reduceLeDiff,Nat.reduceBEq,reduceCtorEq,TYX]
  refine fun _ => XW.loopK Go.Proofs.YtoeckfegggongaaGreatDoor.hm (fun F H' => ∃ (i : Nat),i ≤ l.length ∧ Fr 26 [(0,.slc (idsD l)),(1,.slc (idsD l)),(5,.int .i64 (i : Int))] F ∧ H = H') (fun F H => match F.getD 5 .any with | .int _ n' => l.length - n'.toNat | _ => 0) ⟨0,by omega,⟨rfl,rfl,rfl,rfl,trivial⟩,rfl⟩ ?_
  rintro _ _ ⟨i,hi,hF,rfl⟩ K hN hE hR
  obtain ⟨z,rfl⟩ : ∃ z : Nat → D,_ = .slc (idsD l) :: .slc (idsD l) :: zz z 2 3 (.int .i64 (i : Int) :: zz z 6 20 []) := hF.lit
  try dsimp only [zz,reduceAdd] at *
  clear hF
  rcases Classical.em (i < l.length) with hlt | hlt
  · have q1 := ids_get hlt
    have nx : ∀ F',Fr 26 [(0,.slc (idsD l)),(1,.slc (idsD l)),(5,.int .i64 ((i + 1 : Nat) : Int))] F' → K .normal F' H := fun F' hF' => hN _ _ ⟨i + 1,hlt,hF',(back_0 rfl).symm⟩ (by
      rw [List.getD_eq_getElem?_getD,hF'.2.2.2.1]
      simp only [List.getD_cons_succ,List.getD_cons_zero,Option.getD_some]
      omega)
    clear hN hE hR
    generalize l.getD i default = x at q1 nx
    have hx : x.d = [.int .i64 x.o,.int .i64 x.s,.int .i64 x.i] := rfl
    simp +contextual only [x71,ids_len,hlt,Int.ofNat_lt,q1,hx,wrap_succ (show i ≤ big by omega),↓U71,↓XP,XW0,XW1,reduceSub,reduceAdd,reduceMul,reduceEqDiff,reduceLeDiff,Nat.reduceBEq,reduceCtorEq,TYX]
    exact fun _ => nx _ ⟨rfl,rfl,rfl,rfl,trivial⟩
  · have hik : i = l.length := by omega
    subst hik
    clear hN
    simp +contextual only [x71,ids_len,↓U71,↓XP,XW0,XW1,reduceSub,reduceAdd,reduceMul,reduceEqDiff,reduceLeDiff,Nat.reduceBEq,reduceCtorEq,TYX]
    refine fun _ => hE _ _ _ ?_
    simp +contextual only [x71,ids_len,↓U71,↓XP,XW0,XW1,reduceSub,reduceAdd,reduceMul,reduceEqDiff,reduceLeDiff,Nat.reduceBEq,reduceCtorEq,TYX]
    exact h
theorem f_sameOp {o : OpP} {H : AH} {R : D → AH → Prop} (h : R (.bool true) H) : ACall Tryz.prog 41 [.agg o.d,.agg o.d] H R := by
  refine b41 fun hf => ?_
  have hbig := big_eq
  have hod : o.d = [.int .i64 o.k,.int .i64 o.on.o,.int .i64 o.on.s,.int .i64 o.on.i,.int .i64 o.to.o,.int .i64 o.to.s,.int .i64 o.to.i,.slc (idsD o.ids),.int .i64 o.n,.str o.name,.str o.text,.int .i64 o.a,.int .i64 o.b] := rfl
  simp +contextual only [x41,hod,ids_len,↓u41_s0,↓XP,XW0,XW1,reduceSub,reduceAdd,reduceMul,reduceEqDiff,reduceLeDiff,Nat.reduceBEq,reduceCtorEq,TYX]
  refine fun b2 _ b3 _ _ _ _ _ _ => f_sameIDs ?_
  simp +contextual only [x41,hod,ids_len,↓u41_s0,↓XP,XW0,XW1,reduceSub,reduceAdd,reduceMul,reduceEqDiff,reduceLeDiff,Nat.reduceBEq,reduceCtorEq,TYX]
  exact h
theorem f_same {p : Pt} {H : AH} {R : D → AH → Prop} (h : R (.bool true) H) : ACall Tryz.prog 18 [.agg p.d,.agg p.d] H R := by
  refine b18 fun hf => ?_
  have hbig := big_eq
  have hd := @dE p
  simp +contextual only [x18,hd,refs_len,ops_len,↓U18,↓XP,XW0,XW1,reduceSub,reduceAdd,reduceMul,reduceEqDiff,reduceLeDiff,Nat.reduceBEq,reduceCtorEq,TYX]
  rintro b2 h2 b3 ⟨n23,h3⟩
  intros
  simp only [← hd]
  refine XW.loopK Go.Proofs.YtoeckfegggongaaGreatDoor.hm (fun F H' => ∃ (i : Nat),i ≤ p.needs.length ∧ Fr 88 [(2,.ptr b2 0),(3,.ptr b3 0),(5,.int .i64 (i : Int))] F ∧ ((b3,AO.cells p.d) :: (b2,AO.cells p.d) :: H) = H') (fun F H => match F.getD 5 .any with | .int _ n' => p.needs.length - n'.toNat | _ => 0) ⟨0,by omega,⟨rfl,rfl,rfl,rfl,trivial⟩,rfl⟩ ?_
  rintro _ _ ⟨i,hi,hF,rfl⟩ K hN hE hR
  obtain ⟨z,rfl⟩ : ∃ z : Nat → D,_ = zz z 0 2 (.ptr b2 0 :: .ptr b3 0 :: z 4 :: .int .i64 (i : Int) :: zz z 6 82 []) := hF.lit
  try dsimp only [zz,reduceAdd] at *
  clear hF hR
  rcases Classical.em (i < p.needs.length) with hlt | hlt
  · have q1 := refs_get hlt
    have nx : ∀ F',Fr 88 [(2,.ptr b2 0),(3,.ptr b3 0),(5,.int .i64 ((i + 1 : Nat) : Int))] F' → K .normal F' ((b3,AO.cells p.d) :: (b2,AO.cells p.d) :: H) := fun F' hF' => hN _ _ ⟨i + 1,hlt,hF',(back_0 rfl).symm⟩ (by
      rw [List.getD_eq_getElem?_getD,hF'.2.2.2.1]
      simp only [List.getD_cons_succ,List.getD_cons_zero,Option.getD_some]
      omega)
    clear hN hE
    generalize p.needs.getD i default = x at q1 nx
    have hx : x.d = [.int .i64 x.o,.int .i64 x.s] := rfl
    simp +contextual only [x18,hd,refs_len,ops_len,hlt,Int.ofNat_lt,h_miss n23,q1,hx,wrap_succ (show i ≤ big by omega),↓U18,↓XP,XW0,XW1,reduceSub,reduceAdd,reduceMul,reduceEqDiff,reduceLeDiff,Nat.reduceBEq,reduceCtorEq,TYX]
    simp only [← hd]
    exact fun _ => nx _ ⟨rfl,rfl,rfl,rfl,trivial⟩
  · have hik : i = p.needs.length := by omega
    subst hik
    clear hN
    simp +contextual only [x18,hd,refs_len,ops_len,h_miss n23,↓U18,↓XP,XW0,XW1,reduceSub,reduceAdd,reduceMul,reduceEqDiff,reduceLeDiff,Nat.reduceBEq,reduceCtorEq,TYX]
    simp only [← hd]
    refine fun _ => hE _ _ _ ?_
    clear hE
    simp +contextual only [x18,hd,refs_len,ops_len,h_miss n23,↓U18,↓XP,XW0,XW1,reduceSub,reduceAdd,reduceMul,reduceEqDiff,reduceLeDiff,Nat.reduceBEq,reduceCtorEq,TYX]
    simp only [← hd]
    refine XW.loopK Go.Proofs.YtoeckfegggongaaGreatDoor.hm (fun F H' => ∃ (i : Nat),i ≤ p.ops.length ∧ Fr 88 [(2,.ptr b2 0),(3,.ptr b3 0),(6,.int .i64 (i : Int))] F ∧ ((b3,AO.cells p.d) :: (b2,AO.cells p.d) :: H) = H') (fun F H => match F.getD 6 .any with | .int _ n' => p.ops.length - n'.toNat | _ => 0) ⟨0,by omega,⟨rfl,rfl,rfl,rfl,trivial⟩,rfl⟩ ?_
    rintro _ _ ⟨i,hi,hF,rfl⟩ K hN hE hR
    obtain ⟨z,rfl⟩ : ∃ z : Nat → D,_ = zz z 0 2 (.ptr b2 0 :: .ptr b3 0 :: zz z 4 2 (.int .i64 (i : Int) :: zz z 7 81 [])) := hF.lit
    try dsimp only [zz,reduceAdd] at *
    clear hF hR
    rcases Classical.em (i < p.ops.length) with hlt | hlt
    · have q1 := ops_get hlt
      have nx : ∀ F',Fr 88 [(2,.ptr b2 0),(3,.ptr b3 0),(6,.int .i64 ((i + 1 : Nat) : Int))] F' → K .normal F' ((b3,AO.cells p.d) :: (b2,AO.cells p.d) :: H) := fun F' hF' => hN _ _ ⟨i + 1,hlt,hF',(back_0 rfl).symm⟩ (by
        rw [List.getD_eq_getElem?_getD,hF'.2.2.2.1]
        simp only [List.getD_cons_succ,List.getD_cons_zero,Option.getD_some]
        omega)
      clear hN hE
      generalize p.ops.getD i default = o at q1 nx
      have hod : o.d = [.int .i64 o.k,.int .i64 o.on.o,.int .i64 o.on.s,.int .i64 o.on.i,.int .i64 o.to.o,.int .i64 o.to.s,.int .i64 o.to.i,.slc (idsD o.ids),.int .i64 o.n,.str o.name,.str o.text,.int .i64 o.a,.int .i64 o.b] := rfl
      simp +contextual only [x18,hd,refs_len,ops_len,hlt,Int.ofNat_lt,h_miss n23,q1,hod,wrap_succ (show i ≤ big by omega),↓U18,↓XP,XW0,XW1,reduceSub,reduceAdd,reduceMul,reduceEqDiff,reduceLeDiff,Nat.reduceBEq,reduceCtorEq,TYX]
      refine fun _ => ⟨_,f_sameOp (o := o) ⟨rfl,rfl⟩,?_⟩
      simp +contextual only [x18,hd,refs_len,ops_len,wrap_succ (show i ≤ big by omega),↓U18,↓XP,XW0,XW1,reduceSub,reduceAdd,reduceMul,reduceEqDiff,reduceLeDiff,Nat.reduceBEq,reduceCtorEq,TYX]
      simp only [← hd]
      exact nx _ ⟨rfl,rfl,rfl,rfl,trivial⟩
    · have hik : i = p.ops.length := by omega
      subst hik
      clear hN
      simp +contextual only [x18,hd,refs_len,ops_len,h_miss n23,↓U18,↓XP,XW0,XW1,reduceSub,reduceAdd,reduceMul,reduceEqDiff,reduceLeDiff,Nat.reduceBEq,reduceCtorEq,TYX]
      simp only [← hd]
      refine fun _ => hE _ _ _ ?_
      simp +contextual only [x18,hd,refs_len,ops_len,↓U18,↓XP,XW0,XW1,reduceSub,reduceAdd,reduceMul,reduceEqDiff,reduceLeDiff,Nat.reduceBEq,reduceCtorEq,TYX]
      exact h
def zeros16 : List D := [.int .u8 0,.int .u8 0,.int .u8 0,.int .u8 0,.int .u8 0,.int .u8 0,.int .u8 0,.int .u8 0,.int .u8 0,.int .u8 0,.int .u8 0,.int .u8 0,.int .u8 0,.int .u8 0,.int .u8 0,.int .u8 0]
def shortK : List UInt8 := [115,104,111,114,116]
theorem f_signPublic {H : AH} {R : D → AH → Prop} (h : R (.tup [.agg zeros16,.int .i64 1]) H) : ACall Tryz.prog 56 [.str shortK,.int .i64 2] H R := by
  refine b56 fun hf => ?_
  have hbig := big_eq
  have hl : shortK.length = 5 := rfl
  simp +contextual only [x56,hl,show (((5 : Nat) : Int) = 32) = False from eq_false (by omega),↓U56,↓XP,XW0,XW1,reduceSub,reduceAdd,reduceMul,reduceEqDiff,reduceLeDiff,Nat.reduceBEq,reduceCtorEq,TYX]
  exact fun b hb _ => h
theorem f_public {H : AH} {R : D → AH → Prop} (h : R (.tup [.agg (zeros16 ++ [.int .i64 0]),.int .i64 1]) H) : ACall Tryz.prog 25 [.agg [.str shortK,.int .i64 2]] H R := by
  refine b25 fun hf => ?_
  have hbig := big_eq
  have hl : shortK.length = 5 := rfl
  simp +contextual only [x25,hl,show ((4 : Int) < 2) = False from by simp,show ((2 : Int) > 4) = False from by simp,↓U25,↓XP,XW0,XW1,reduceSub,reduceAdd,reduceMul,reduceEqDiff,reduceLeDiff,Nat.reduceBEq,reduceCtorEq,TYX]
  refine fun b1 h1 b2 h2 _ _ => f_signPublic ?_
  simp +contextual only [x25,hl,zeros16,show ((1 : Int) = 0) = False from by simp,h_miss h2.1,h_skip h2.1,↓U25,↓XP,XW0,XW1,reduceSub,reduceAdd,reduceMul,reduceEqDiff,reduceLeDiff,Nat.reduceBEq,reduceCtorEq,TYX]
  exact fun _ _ _ => h
theorem f_creates1 {p : Pt} {o : OpP} {H : AH} {R : D → AH → Prop} (hp : p.ops = [o]) (h1 : 1 ≤ o.k) (h4 : o.k ≤ 4) (h : R (.own (idsD [⟨p.o,p.s,0⟩])) H) : ACall Tryz.prog 26 [.agg p.d] H R := by
  refine b26 fun hf => ?_
  have hbig := big_eq
  have hd := @dE p
  rw [hp] at hd
  have ol : (opsD [o]).length = 1 := rfl
  have q0 : (opsD [o]).getD 0 [] = o.d := rfl
  have hod : o.d = [.int .i64 o.k,.int .i64 o.on.o,.int .i64 o.on.s,.int .i64 o.on.i,.int .i64 o.to.o,.int .i64 o.to.s,.int .i64 o.to.i,.slc (idsD o.ids),.int .i64 o.n,.str o.name,.str o.text,.int .i64 o.a,.int .i64 o.b] := rfl
  simp +contextual only [x26,ol,ids_len,hd,↓U26,↓XP,XW0,XW1,reduceSub,reduceAdd,reduceMul,reduceEqDiff,reduceLeDiff,Nat.reduceBEq,reduceCtorEq,TYX]
  intro b1 hb1 _
  obtain ⟨ids,hids⟩ : ∃ ids : List Id3,[⟨p.o,p.s,0⟩] = ids := ⟨_,rfl⟩
  refine XW.loopK Go.Proofs.YtoeckfegggongaaGreatDoor.hm (fun F H' => ∃ (i : Nat),i ≤ 1 ∧ Fr 28 [(1,.ptr b1 0),(3,.own (idsD (ids.take i))),(7,.slc (opsD [o])),(8,.int .i64 1),(9,.int .i64 (i : Int))] F ∧ ((b1,AO.cells [.int .i64 p.o,.int .i64 p.s,.int .i64 p.day,.slc (refsD p.needs),.slc (opsD [o]),.str p.sl]) :: H) = H') (fun F H => match F.getD 9 .any with | .int _ n' => 1 - n'.toNat | _ => 0) ⟨0,by omega,by subst hids; exact ⟨rfl,rfl,rfl,rfl,rfl,rfl,trivial⟩,rfl⟩ ?_
  rintro _ _ ⟨i,hi,hF,rfl⟩ K hN hE hR
  obtain ⟨z,rfl⟩ : ∃ z : Nat → D,_ = z 0 :: .ptr b1 0 :: z 2 :: .own (idsD (ids.take i)) :: zz z 4 3 (.slc (opsD [o]) :: .int .i64 1 :: .int .i64 (i : Int) :: zz z 10 18 []) := hF.lit
  try dsimp only [zz,reduceAdd] at *
  clear hF hR
  rcases Classical.em (i = 0) with hlt | hlt
  · subst hlt
    simp +contextual only [x26,ol,ids_len,hd,q0,hod,show (((0 : Nat) : Int) < 1) = True from eq_true (by omega),show ((0 : Nat) : Int).toNat = 0 from rfl,List.take_zero,↓U26,↓XP,XW0,XW1,reduceSub,reduceAdd,reduceMul,reduceEqDiff,reduceLeDiff,Nat.reduceBEq,reduceCtorEq,TYX]
    refine ⟨by omega,fun b5 hb5 _ => ?_⟩
    refine f_within ?_
    simp +contextual only [x26,ol,ids_len,decide_eq_true (show 1 ≤ o.k ∧ o.k ≤ 4 from ⟨h1,h4⟩),h_miss hb5.1,wrap_succ (show 0 ≤ big by omega),show (idsD ([] : List Id3)) = [] from rfl,↓U26,↓XP,XW0,XW1,reduceSub,reduceAdd,reduceMul,reduceEqDiff,reduceLeDiff,Nat.reduceBEq,reduceCtorEq,TYX]
    refine fun _ _ => hN _ _ ⟨1,by omega,?_,(back_1 rfl).symm⟩ ?_
    · subst hids
      exact ⟨rfl,rfl,rfl,rfl,rfl,rfl,trivial⟩
    · simp only [List.getD_cons_succ,List.getD_cons_zero]
      omega
  · have hik : i = 1 := by omega
    subst hik
    clear hN
    simp +contextual only [x26,ol,ids_len,hd,show (((1 : Nat) : Int) < 1) = False from eq_false (by omega),↓U26,↓XP,XW0,XW1,reduceSub,reduceAdd,reduceMul,reduceEqDiff,reduceLeDiff,Nat.reduceBEq,reduceCtorEq,TYX]
    refine hE _ _ _ ?_
    simp +contextual only [x26,ol,ids_len,↓U26,↓XP,XW0,XW1,reduceSub,reduceAdd,reduceMul,reduceEqDiff,reduceLeDiff,Nat.reduceBEq,reduceCtorEq,TYX]
    subst hids
    exact h
end Go.Proofs.YtoeckfegggongaaGreatDoor
end
section
namespace Go.Proofs.YtoeckfegggongaaGreatDoor
open Go Go.Aw
def opL : OpP := ⟨1,id0,id0,[],0,[110],[99,97,116],0,0⟩
def ptL : Pt := ⟨1,1,3,[],[opL],[]⟩
theorem enc_0 : encInt 0 = [128] := by
  unfold encInt mag
  simp [digs_zero]
theorem enc_s {n : Nat} (h0 : 0 < n) (h : n < 256) : encInt (n : Int) = [129,UInt8.ofNat n] := by
  unfold encInt mag
  have e : digs (n : Int).toNat = [UInt8.ofNat n] := by
    rw [Int.toNat_natCast,digs_pos (by omega),Nat.mod_eq_of_lt h,Nat.div_eq_of_lt h,digs_zero]
  rw [if_neg (by omega),if_neg (by omega),e]
  have : decide ((n : Int) < 0) = false := decide_eq_false (by omega)
  rw [this]
  rfl
theorem enc_1 : encInt 1 = [129,1] := enc_s (n := 1) (by omega) (by omega)
theorem enc_2 : encInt 2 = [129,2] := enc_s (n := 2) (by omega) (by omega)
theorem enc_3 : encInt 3 = [129,3] := enc_s (n := 3) (by omega) (by omega)
theorem enc_10 : encInt 10 = [129,10] := enc_s (n := 10) (by omega) (by omega)
theorem encL : encPt ptL = [129,3,129,1,129,1,129,3,128,129,1,129,10,129,1,128,128,128,128,128,128,128,128,128,128,129,2,129,1,110,129,3,99,97,116,128] := by
  simp [encPt,ptL,opL,encInts,encOp,encStrs,encBytes,opNums,needNums,id3,id0,enc_0,enc_1,enc_2,enc_3,enc_10]
theorem validL : validE ptL = 0 := by
  unfold validE
  have h1 : OkHead ptL := by decide
  have h2 : OkNeeds ptL := fun i hi => absurd hi (by simp [ptL])
  have h3 : OkOps ptL := fun o ho => by
    have : o = opL := by simpa [ptL] using ho
    subst this
    decide
  have h4 : bare ptL = ptL := rfl
  rw [if_neg (fun d => d h1),if_neg (by simp [ptL]),if_neg (by simp [ptL]),if_neg (fun d => d h2),if_neg (fun d => d h3),h4,encL,if_neg (by decide)]
theorem valid0 : validE pt0 = 5 := by
  unfold validE
  rw [if_pos (by decide)]
theorem goodL : Good ptL := by
  unfold Good encE
  rw [validL,if_neg (by simp),if_neg (by simp [ptL])]
theorem fit0 : Fit pt0 := ⟨by simp [pt0],by simp [pt0],by simp [pt0],by simp [pt0],by simp [pt0],by simp [pt0]⟩
theorem fitL : Fit ptL := ⟨by simp [ptL],by simp [ptL],by simp [ptL,opL],by simp [ptL,opL],by simp [ptL,opL],by simp [ptL]⟩
theorem f_lives {H : AH} {R : D → AH → Prop} (h : R (.bool true) H) : ACall Tryz.prog 9 [] H R := by
  refine b9 fun hf => ?_
  have hbig := big_eq
  have hop : opsD [opL] = [[D.int .i64 1,.int .i64 0,.int .i64 0,.int .i64 0,.int .i64 0,.int .i64 0,.int .i64 0,.slc [],.int .i64 0,.str [110],.str [99,97,116],.int .i64 0,.int .i64 0]] := rfl
  have hd : ptL.d = [D.int .i64 1,.int .i64 1,.int .i64 3,.slc [],.slc (opsD [opL]),.str []] := rfl
  obtain ⟨eb,heb⟩ : ∃ eb,encPt ptL = eb := ⟨_,rfl⟩
  have hel : eb.length = 36 := by rw [← heb,encL]; rfl
  have het : ((eb.map byteD).take 10).drop 0 = ([129,3,129,1,129,1,129,3,128,129] : List UInt8).map byteD := by rw [← heb,encL]; rfl
  simp +contextual only [x9,bytesD_len,↓U9,↓XP,XW0,XW1,reduceSub,reduceAdd,reduceMul,reduceEqDiff,reduceLeDiff,Nat.reduceBEq,reduceCtorEq,TYX]
  intro b1 h1
  simp only [← hop]
  refine f_iEncode (p := ptL) fitL ?_
  have hg : encE ptL = 0 := goodL
  rw [hg,if_pos rfl,heb]
  simp +contextual only [x9,bytesD_len,↓U9,↓XP,XW0,XW1,reduceSub,reduceAdd,reduceMul,reduceEqDiff,reduceLeDiff,Nat.reduceBEq,reduceCtorEq,TYX]
  refine fun _ _ => f_decode (b := eb) (by omega) ?_
  rw [← heb,decode_good goodL,heb]
  simp +contextual only [x9,bytesD_len,hd,↓U9,↓XP,XW0,XW1,reduceSub,reduceAdd,reduceMul,reduceEqDiff,reduceLeDiff,Nat.reduceBEq,reduceCtorEq,TYX]
  intro _ b4 h4
  have hb1 : bldI Tryz.prog 67 1 = some (1,false,1) := by kernel_rfl
  simp +contextual only [x9,bytesD_len,hd,hb1,↓U9,↓XP,XW0,XW1,reduceSub,reduceAdd,reduceMul,reduceEqDiff,reduceLeDiff,Nat.reduceBEq,reduceCtorEq,TYX]
  refine f_public ?_
  simp +contextual only [x9,bytesD_len,zeros16,↓U9,↓XP,XW0,XW1,reduceSub,reduceAdd,reduceMul,reduceEqDiff,reduceLeDiff,Nat.reduceBEq,reduceCtorEq,TYX]
  intro _ b6 h6
  have n14 : b1 ≠ b4 := h4.1
  have n46 : b4 ≠ b6 := h6.1
  have n16 : b1 ≠ b6 := h6.2.1
  simp +contextual only [x9,bytesD_len,h_miss n14,h_miss n16,↓U9,↓XP,XW0,XW1,reduceSub,reduceAdd,reduceMul,reduceEqDiff,reduceLeDiff,Nat.reduceBEq,reduceCtorEq,TYX]
  refine f_creates1 (p := ptL) (o := opL) rfl (by decide) (by decide) ?_
  have hid : idsD [⟨ptL.o,ptL.s,0⟩] = [[D.int .i64 1,.int .i64 1,.int .i64 0]] := rfl
  rw [hid]
  simp +contextual only [x9,bytesD_len,h_miss n14,h_miss n16,h_miss n46,hel,show (((36 : Nat) : Int) = 36) = True from eq_true rfl,↓U9,↓XP,XW0,XW1,reduceSub,reduceAdd,reduceMul,reduceEqDiff,reduceLeDiff,Nat.reduceBEq,reduceCtorEq,TYX]
  refine fun _ _ => f_same (p := ptL) ?_
  simp +contextual only [x9,bytesD_len,h_miss n14,h_miss n16,h_miss n46,hel,show (((1 : Nat) : Int) = 1) = True from eq_true rfl,show ((0 : Int) < ((1 : Nat) : Int)) = True from eq_true (by omega),show ((10 : Int) ≤ ((36 : Nat) : Int)) = True from eq_true (by omega),Int.reduceToNat,Int.reduceLE,Int.reduceLT,het,↓U9,↓XP,XW0,XW1,reduceSub,reduceAdd,reduceMul,reduceEqDiff,reduceLeDiff,Nat.reduceBEq,reduceCtorEq,TYX]
  refine fun _ => ⟨bytes_1,f_same01 (a := [129,3,129,1,129,1,129,3,128,129]) (b := [129,3,129,1,129,1,129,3,128,129]) ?_⟩
  rw [decide_eq_true rfl]
  simp +contextual only [x9,bytesD_len,h_miss n14,h_miss n16,h_miss n46,↓U9,↓XP,XW0,XW1,reduceSub,reduceAdd,reduceMul,reduceEqDiff,reduceLeDiff,Nat.reduceBEq,reduceCtorEq,TYX]
  refine f_iValid (p := ptL) fitL ?_
  rw [validL]
  simp +contextual only [x9,bytesD_len,h_miss n14,h_miss n16,h_miss n46,↓U9,↓XP,XW0,XW1,reduceSub,reduceAdd,reduceMul,reduceEqDiff,reduceLeDiff,Nat.reduceBEq,reduceCtorEq,TYX]
  intro _
  refine f_iValid (p := pt0) fit0 ?_
  rw [valid0]
  simp +contextual only [x9,bytesD_len,↓U9,↓XP,XW0,XW1,reduceSub,reduceAdd,reduceMul,reduceEqDiff,reduceLeDiff,Nat.reduceBEq,reduceCtorEq,TYX]
  trace_state
  exact fun _ => h
end Go.Proofs.YtoeckfegggongaaGreatDoor
end
section
namespace Go.Proofs.YtoeckfegggongaaGreatDoor
open Go Go.Aw
theorem splOne_len {p : Pt} {ok : Bool} : ∀ k,(upto (splOps p ok) k).length ≤ k := fun k => by
  have := upto_len (f := splOps p ok) (c := 1) (fun k => by unfold splOps; split <;> simp) k
  omega
theorem splTo_len {x : Gs} {seen : List Bool} (ho : ∀ q ∈ x.l,q.ops.length ≤ 1000) (i : Nat) : (upto (fun i => splOne (x.l.getD i default) (seen.getD i false)) i).length ≤ 1000 * i := by
  have := upto_len (f := fun i => splOne (x.l.getD i default) (seen.getD i false)) (c := 1000) (fun k => by
    have h1 := splOne_len (p := x.l.getD k default) (ok := seen.getD k false) (x.l.getD k default).ops.length
    have h2 : (x.l.getD k default).ops.length ≤ 1000 := getD_all (p := fun q : Pt => q.ops.length ≤ 1000) ho (by decide) k
    unfold splOne
    omega) i
  omega
theorem f_splits {x : Gs} {seen : List Bool} {p : Pt} {H : AH} {R : D → AH → Prop} (hs : x.l.length ≤ seen.length) (hb : x.l.length ≤ 100) (ho : ∀ q ∈ x.l,q.ops.length ≤ 1000) (hp : p.ops.length ≤ 1000) (h : R (.own (opsD (splits x seen p))) H) : ACall Tryz.prog 88 [.agg x.d,.slc (boolsD seen),.agg p.d] H R := by
  refine b88 fun hf => ?_
  have hbig := big_eq
  have hx : x.d = [.slc (ptsD x.l),.slc (pastD x.past)] := rfl
  have hd := @dE p
  simp +contextual only [x88,hx,hd,ops_len,pts_len,↓U88,↓XP,XW0,XW1,reduceSub,reduceAdd,reduceMul,reduceEqDiff,reduceLeDiff,Nat.reduceBEq,reduceCtorEq,TYX]
  rintro b1 h1 b2 ⟨n12,h2⟩
  simp only [← hx,← hd]
  refine XW.loopK hm (fun F H' => ∃ (i : Nat),i ≤ x.l.length ∧ Fr 81 [(1,.slc (boolsD seen)),(3,.ptr b1 0),(5,.ptr b2 0),(7,.own (opsD (upto (fun i => splOne (x.l.getD i default) (seen.getD i false)) i))),(8,.int .i64 i)] F ∧ ((b2,AO.cells p.d) :: (b1,AO.cells x.d) :: H) = H') (fun F H => match F.getD 8 .any with | .int _ n' => x.l.length - n'.toNat | _ => 0) ⟨0,by omega,⟨rfl,rfl,rfl,rfl,rfl,rfl,trivial⟩,rfl⟩ ?_
  rintro _ _ ⟨i,hi,hF,rfl⟩ K hN hE hR
  obtain ⟨z,rfl⟩ : ∃ z : Nat → D,_ = z 0 :: .slc (boolsD seen) :: z 2 :: .ptr b1 0 :: z 4 :: .ptr b2 0 :: z 6 :: .own (opsD (upto (fun i => splOne (x.l.getD i default) (seen.getD i false)) i)) :: .int .i64 i :: zz z 9 72 [] := hF.lit
  try dsimp only [zz,reduceAdd] at *
  clear hF
  have hv := splTo_len (x := x) (seen := seen) ho i
  by_cases hlt : i < x.l.length
  · have nx : ∀ F',Fr 81 [(1,.slc (boolsD seen)),(3,.ptr b1 0),(5,.ptr b2 0),(7,.own (opsD (upto (fun i => splOne (x.l.getD i default) (seen.getD i false)) (i + 1)))),(8,.int .i64 ((i + 1 : Nat) : Int))] F' → K .normal F' ((b2,AO.cells p.d) :: (b1,AO.cells x.d) :: H) := fun F' hF' => hN _ _ ⟨i + 1,hlt,hF',(back_0 rfl).symm⟩ (by
      rw [List.getD_eq_getElem?_getD,hF'.2.2.2.2.2.1]
      simp only [List.getD_cons_succ,List.getD_cons_zero,Option.getD_some]
      omega)
    clear hN hE hR
    have q1 := pts_get hlt
    have q2 := bools_get (l := seen) (i := i) (by omega)
    have hqo : (x.l.getD i default).ops.length ≤ 1000 := getD_all (p := fun q : Pt => q.ops.length ≤ 1000) ho (by decide) i
    have hun : upto (fun i => splOne (x.l.getD i default) (seen.getD i false)) (i + 1) = upto (fun i => splOne (x.l.getD i default) (seen.getD i false)) i ++ splOne (x.l.getD i default) (seen.getD i false) := rfl
    rw [hun] at nx
    generalize upto (fun i => splOne (x.l.getD i default) (seen.getD i false)) i = ac at nx hv
    generalize x.l.getD i default = q at q1 hqo nx
    generalize seen.getD i false = ok at q2 nx
    have hq : q.d = [.int .i64 q.o,.int .i64 q.s,.int .i64 q.day,.slc (refsD q.needs),.slc (opsD q.ops),.str q.sl] := rfl
    simp +contextual only [hx,hd,ops_len,pts_len,h_miss,h_skip,n12,wrap_succ (show i ≤ big by omega),q1,q2,hq,↓U88,↓XP,XW0,XW1,reduceSub,reduceAdd,reduceMul,reduceEqDiff,reduceLeDiff,Nat.reduceBEq,reduceCtorEq,TYX]
    refine fun _ => ⟨fun _ => ?_,fun hge => absurd (by omega) hge⟩
    simp only [← hx,← hd]
    refine XW.loopK hm (fun F H' => ∃ (k : Nat),k ≤ q.ops.length ∧ Fr 81 [(1,.slc (boolsD seen)),(3,.ptr b1 0),(5,.ptr b2 0),(7,.own (opsD (ac ++ upto (splOps q ok) k))),(8,.int .i64 i),(9,.int .i64 k)] F ∧ ((b2,AO.cells p.d) :: (b1,AO.cells x.d) :: H) = H') (fun F H => match F.getD 9 .any with | .int _ n' => q.ops.length - n'.toNat | _ => 0) ⟨0,by omega,by rw [upto,List.append_nil]; exact ⟨rfl,rfl,rfl,rfl,rfl,rfl,rfl,trivial⟩,rfl⟩ ?_
    rintro _ _ ⟨k,hk,hF,rfl⟩ K2 hN hE hR
    obtain ⟨z2,rfl⟩ : ∃ z2 : Nat → D,_ = (let z := z2; [z 0,.slc (boolsD seen),z 2,.ptr b1 0,z 4,.ptr b2 0,z 6,.own (opsD (ac ++ upto (splOps q ok) k)),.int .i64 i,.int .i64 k,z 10,z 11,z 12,z 13,z 14,z 15,z 16,z 17,z 18,z 19,z 20,z 21,z 22,z 23,z 24,z 25,z 26,z 27,z 28,z 29,z 30,z 31,z 32,z 33,z 34,z 35,z 36,z 37,z 38,z 39,z 40,z 41,z 42,z 43,z 44,z 45,z 46,z 47,z 48,z 49,z 50,z 51,z 52,z 53,z 54,z 55,z 56,z 57,z 58,z 59,z 60,z 61,z 62,z 63,z 64,z 65,z 66,z 67,z 68,z 69,z 70,z 71,z 72,z 73,z 74,z 75,z 76,z 77,z 78,z 79,z 80]) := hF.lit
    clear hF
    have hv3 := splOne_len (p := q) (ok := ok) k
    by_cases hlk : k < q.ops.length
    · have nx3 : ∀ F',Fr 81 [(1,.slc (boolsD seen)),(3,.ptr b1 0),(5,.ptr b2 0),(7,.own (opsD (ac ++ upto (splOps q ok) (k + 1)))),(8,.int .i64 i),(9,.int .i64 ((k + 1 : Nat) : Int))] F' → K2 .normal F' ((b2,AO.cells p.d) :: (b1,AO.cells x.d) :: H) := fun F' hF' => hN _ _ ⟨k + 1,hlk,hF',(back_0 rfl).symm⟩ (by
        rw [List.getD_eq_getElem?_getD,hF'.2.2.2.2.2.2.1]
        simp only [List.getD_cons_succ,List.getD_cons_zero,Option.getD_some]
        omega)
      clear hN hE hR nx
      have q3 := ops_get hlk
      have hu3 : upto (splOps q ok) (k + 1) = upto (splOps q ok) k ++ splOps q ok k := rfl
      rw [hu3] at nx3
      have ho3 : splOps q ok k = if ok = true ∧ (q.ops.getD k default).k = 16 then [q.ops.getD k default] else [] := rfl
      rw [ho3] at nx3
      generalize q.ops.getD k default = o at q3 nx3
      have hod : o.d = [.int .i64 o.k,.int .i64 o.on.o,.int .i64 o.on.s,.int .i64 o.on.i,.int .i64 o.to.o,.int .i64 o.to.s,.int .i64 o.to.i,.slc (idsD o.ids),.int .i64 o.n,.str o.name,.str o.text,.int .i64 o.a,.int .i64 o.b] := rfl
      generalize upto (splOps q ok) k = ac3 at nx3 hv3
      have hac : (ac ++ ac3).length ≤ 200000 := by rw [List.length_append]; omega
      rcases ok with _ | _
      · simp +contextual only [hx,hd,ops_len,pts_len,h_miss,h_skip,n12,wrap_succ (show k ≤ big by omega),q1,q2,hq,q3,bools_len,↓U88,↓XP,XW0,XW1,reduceSub,reduceAdd,reduceMul,reduceEqDiff,reduceLeDiff,Nat.reduceBEq,reduceCtorEq,TYX]
        refine fun _ => ⟨by omega,fun _ => ⟨fun _ => ⟨by omega,?_⟩,fun hge => absurd (by omega) hge⟩⟩
        rw [if_neg (by simp),List.append_nil] at nx3
        exact nx3 _ ⟨rfl,rfl,rfl,rfl,rfl,rfl,rfl,trivial⟩
      · simp +contextual only [hx,hd,ops_len,pts_len,h_miss,h_skip,n12,wrap_succ (show k ≤ big by omega),q1,q2,hq,q3,hod,bools_len,↓U88,↓XP,XW0,XW1,reduceSub,reduceAdd,reduceMul,reduceEqDiff,reduceLeDiff,Nat.reduceBEq,reduceCtorEq,TYX]
        refine fun _ => ⟨by omega,fun _ => ⟨fun _ => ⟨by omega,by omega,fun _ => ⟨fun hk' => ⟨by omega,ops_13,by omega,?_⟩,fun hk' => ?_⟩⟩,fun hge => absurd (by omega) hge⟩⟩
        · rw [if_pos ⟨rfl,hk'⟩,← List.append_assoc,← ops_app,show opsD [o] = [o.d] from rfl,hod,hk'] at nx3
          exact nx3 _ ⟨rfl,rfl,rfl,rfl,rfl,rfl,rfl,trivial⟩
        · rw [if_neg (fun hc => hk' hc.2),List.append_nil] at nx3
          exact nx3 _ ⟨rfl,rfl,rfl,rfl,rfl,rfl,rfl,trivial⟩
    · have hik : k = q.ops.length := by omega
      subst hik
      simp +contextual only [hx,hd,ops_len,pts_len,h_miss,h_skip,n12,q1,q2,hq,↓U88,↓XP,XW0,XW1,reduceSub,reduceAdd,reduceMul,reduceEqDiff,reduceLeDiff,Nat.reduceBEq,reduceCtorEq,TYX]
      refine fun _ => ⟨by omega,fun _ => hE _ _ _ ?_⟩
      clear hN hE hR
      simp +contextual only [hx,hd,ops_len,pts_len,h_miss,h_skip,n12,wrap_succ (show i ≤ big by omega),↓U88,↓XP,XW0,XW1,reduceSub,reduceAdd,reduceMul,reduceEqDiff,reduceLeDiff,Nat.reduceBEq,reduceCtorEq,TYX]
      exact nx _ ⟨rfl,rfl,rfl,rfl,rfl,rfl,trivial⟩
  · have hik : i = x.l.length := by omega
    subst hik
    clear hN
    simp +contextual only [hx,hd,ops_len,pts_len,h_miss,h_skip,n12,↓U88,↓XP,XW0,XW1,reduceSub,reduceAdd,reduceMul,reduceEqDiff,reduceLeDiff,Nat.reduceBEq,reduceCtorEq,TYX]
    refine fun _ => hE _ _ _ ?_
    clear hE hR
    have hv0 : splits x seen p = upto (fun i => splOne (x.l.getD i default) (seen.getD i false)) x.l.length ++ splOne p true := rfl
    rw [hv0] at h
    generalize upto (fun i => splOne (x.l.getD i default) (seen.getD i false)) x.l.length = ac at h hv ⊢
    simp +contextual only [hx,hd,ops_len,pts_len,h_miss,h_skip,n12,↓U88,↓XP,XW0,XW1,reduceSub,reduceAdd,reduceMul,reduceEqDiff,reduceLeDiff,Nat.reduceBEq,reduceCtorEq,TYX]
    simp only [← hx,← hd]
    refine XW.loopK hm (fun F H' => ∃ (k : Nat),k ≤ p.ops.length ∧ Fr 81 [(5,.ptr b2 0),(7,.own (opsD (ac ++ upto (splOps p true) k))),(10,.int .i64 k)] F ∧ ((b2,AO.cells p.d) :: (b1,AO.cells x.d) :: H) = H') (fun F H => match F.getD 10 .any with | .int _ n' => p.ops.length - n'.toNat | _ => 0) ⟨0,by omega,by rw [upto,List.append_nil]; exact ⟨rfl,rfl,rfl,rfl,trivial⟩,rfl⟩ ?_
    rintro _ _ ⟨k,hk,hF,rfl⟩ K hN hE hR
    obtain ⟨z,rfl⟩ : ∃ z : Nat → D,_ = zz z 0 5 (.ptr b2 0 :: z 6 :: .own (opsD (ac ++ upto (splOps p true) k)) :: zz z 8 2 (.int .i64 k :: zz z 11 70 [])) := hF.lit
    try dsimp only [zz,reduceAdd] at *
    clear hF
    have hv3 := splOne_len (p := p) (ok := true) k
    by_cases hlk : k < p.ops.length
    · have nx3 : ∀ F',Fr 81 [(5,.ptr b2 0),(7,.own (opsD (ac ++ upto (splOps p true) (k + 1)))),(10,.int .i64 ((k + 1 : Nat) : Int))] F' → K .normal F' ((b2,AO.cells p.d) :: (b1,AO.cells x.d) :: H) := fun F' hF' => hN _ _ ⟨k + 1,hlk,hF',(back_0 rfl).symm⟩ (by
        rw [List.getD_eq_getElem?_getD,hF'.2.2.2.1]
        simp only [List.getD_cons_succ,List.getD_cons_zero,Option.getD_some]
        omega)
      clear hN hE hR
      have q3 := ops_get hlk
      have hu3 : upto (splOps p true) (k + 1) = upto (splOps p true) k ++ splOps p true k := rfl
      rw [hu3] at nx3
      have ho3 : splOps p true k = if true = true ∧ (p.ops.getD k default).k = 16 then [p.ops.getD k default] else [] := rfl
      rw [ho3] at nx3
      generalize p.ops.getD k default = o at q3 nx3
      have hod : o.d = [.int .i64 o.k,.int .i64 o.on.o,.int .i64 o.on.s,.int .i64 o.on.i,.int .i64 o.to.o,.int .i64 o.to.s,.int .i64 o.to.i,.slc (idsD o.ids),.int .i64 o.n,.str o.name,.str o.text,.int .i64 o.a,.int .i64 o.b] := rfl
      generalize upto (splOps p true) k = ac3 at nx3 hv3
      have hac : (ac ++ ac3).length ≤ 200000 := by rw [List.length_append]; omega
      simp +contextual only [hx,hd,ops_len,pts_len,h_miss,h_skip,n12,wrap_succ (show k ≤ big by omega),q3,hod,↓U88,↓XP,XW0,XW1,reduceSub,reduceAdd,reduceMul,reduceEqDiff,reduceLeDiff,Nat.reduceBEq,reduceCtorEq,TYX]
      refine fun _ => ⟨fun _ _ => ⟨fun hk' => ⟨ops_13,by omega,?_⟩,fun hk' => ?_⟩,fun hge => absurd (by omega) hge⟩
      · rw [if_pos ⟨rfl,hk'⟩,← List.append_assoc,← ops_app,show opsD [o] = [o.d] from rfl,hod,hk'] at nx3
        exact nx3 _ ⟨rfl,rfl,rfl,rfl,trivial⟩
      · rw [if_neg (fun hc => hk' hc.2),List.append_nil] at nx3
        exact nx3 _ ⟨rfl,rfl,rfl,rfl,trivial⟩
    · have hik : k = p.ops.length := by omega
      subst hik
      simp +contextual only [hx,hd,ops_len,pts_len,h_miss,h_skip,n12,↓U88,↓XP,XW0,XW1,reduceSub,reduceAdd,reduceMul,reduceEqDiff,reduceLeDiff,Nat.reduceBEq,reduceCtorEq,TYX]
      refine fun _ => hE _ _ _ ?_
      clear hN hE hR
      simp +contextual only [hx,hd,ops_len,pts_len,h_miss,h_skip,n12,↓U88,↓XP,XW0,XW1,reduceSub,reduceAdd,reduceMul,reduceEqDiff,reduceLeDiff,Nat.reduceBEq,reduceCtorEq,TYX]
      exact h
end Go.Proofs.YtoeckfegggongaaGreatDoor
end
section
namespace Go.Proofs.YtoeckfegggongaaGreatDoor
open Go Go.Aw
theorem min_if (x : Int) : (if x < 1 then x else 1) = min 1 x := by
  by_cases h : x < 1
  · rw [if_pos h]; omega
  · rw [if_neg h]; omega
theorem f_small {sense other : Id3} {n : Int} {m : List Int} {H : AH} {R : D → AH → Prop} (h : R (.agg (small sense other n m).d) H) : ACall Tryz.prog 89 [.agg sense.d,.agg other.d,.int .i64 n,.slc (ints m)] H R := by
  refine b89 fun hf => ?_
  have hbig := big_eq
  have ho : sense.d = [.int .i64 sense.o,.int .i64 sense.s,.int .i64 sense.i] := rfl
  have ho2 : other.d = [.int .i64 other.o,.int .i64 other.s,.int .i64 other.i] := rfl
  simp +contextual only [x89,ho,ho2,↓U89,↓XP,XW0,XW1,reduceSub,reduceAdd,reduceMul,reduceEqDiff,reduceLeDiff,Nat.reduceBEq,reduceCtorEq,TYX]
  have r9 := atOf_range (l := m) (i := 3) (most := 9) (by omega)
  have r3 := atOf_range (l := m) (i := 3) (most := 3) (by omega)
  have r2 := atOf_range (l := m) (i := 3) (most := 2) (by omega)
  have e3 : ([[.str [102,114]],[.str [102,114]],[.str [100,101]]] : List (List D)) = strs lang3 := rfl
  have e2 : ([[.str [114,97,114,101]],[.str [108,97,119]]] : List (List D)) = strs lab2 := rfl
  have s3 := strs_get (show (atOf m 3 3).toNat < lang3.length by show _ < 3; omega)
  have s2 := strs_get (show (atOf m 3 2).toNat < lab2.length by show _ < 2; omega)
  have l3 : lang3.length = 3 := rfl
  have l2 : lab2.length = 2 := rfl
  rintro b1 h1 b2 ⟨n12,h2⟩ b3 ⟨n23,n13,h3⟩
  refine ⟨?_,fun c0 => ⟨?_,fun c1 => ⟨?_,fun c2 => ⟨?_,fun c3 => ⟨?_,fun c4 => ⟨?_,fun c5 => ⟨?_,fun c6 => ⟨?_,fun c7 => ⟨?_,fun c8 => ⟨?_,?_⟩⟩⟩⟩⟩⟩⟩⟩⟩⟩
  · rintro rfl
    refine ⟨_,f_rest (n := 3) ⟨rfl,rfl⟩,?_⟩
    simp +contextual only [ho,ho2,h_miss,h_skip,n12,n13,n23,↓U89,↓XP,XW0,XW1,reduceSub,reduceAdd,reduceMul,reduceEqDiff,reduceLeDiff,Nat.reduceBEq,reduceCtorEq,TYX]
    refine fun _ => ⟨_,f_gloss ⟨rfl,rfl⟩,?_⟩
    simp +contextual only [ho,ho2,h_miss,h_skip,n12,n13,n23,↓U89,↓XP,XW0,XW1,reduceSub,reduceAdd,reduceMul,reduceEqDiff,reduceLeDiff,Nat.reduceBEq,reduceCtorEq,TYX]
    intros
    exact h
  · rintro rfl
    refine ⟨_,f_rest (n := 3) ⟨rfl,rfl⟩,?_⟩
    simp +contextual only [ho,ho2,h_miss,h_skip,n12,n13,n23,↓U89,↓XP,XW0,XW1,reduceSub,reduceAdd,reduceMul,reduceEqDiff,reduceLeDiff,Nat.reduceBEq,reduceCtorEq,TYX]
    refine fun _ => ⟨_,f_gloss ⟨rfl,rfl⟩,?_⟩
    simp +contextual only [ho,ho2,h_miss,h_skip,n12,n13,n23,↓U89,↓XP,XW0,XW1,reduceSub,reduceAdd,reduceMul,reduceEqDiff,reduceLeDiff,Nat.reduceBEq,reduceCtorEq,TYX]
    intros
    exact h
  · rintro rfl
    refine ⟨_,f_at (i := 3) (by omega) ⟨rfl,rfl⟩,?_⟩
    simp +contextual only [ho,ho2,h_miss,h_skip,n12,n13,n23,↓U89,↓XP,XW0,XW1,reduceSub,reduceAdd,reduceMul,reduceEqDiff,reduceLeDiff,Nat.reduceBEq,reduceCtorEq,TYX]
    intros
    exact h
  · rintro rfl
    refine ⟨_,f_at (i := 3) (by omega) ⟨rfl,rfl⟩,?_⟩
    simp +contextual only [ho,ho2,h_miss,h_skip,n12,n13,n23,wrap_id (show -9223372036854775808 ≤ 1 + atOf m 3 9 by omega) (by omega),↓U89,↓XP,XW0,XW1,reduceSub,reduceAdd,reduceMul,reduceEqDiff,reduceLeDiff,Nat.reduceBEq,reduceCtorEq,TYX]
    intros
    exact h
  · rintro rfl
    refine ⟨_,f_at (i := 3) (by omega) ⟨rfl,rfl⟩,?_⟩
    simp +contextual only [ho,ho2,h_miss,h_skip,n12,n13,n23,e3,s3,l3,strs_len,↓U89,↓XP,XW0,XW1,reduceSub,reduceAdd,reduceMul,reduceEqDiff,reduceLeDiff,Nat.reduceBEq,reduceCtorEq,TYX]
    refine fun _ => ⟨by omega,by omega,fun _ => ?_⟩
    refine ⟨_,f_rest (n := 4) ⟨rfl,rfl⟩,?_⟩
    simp +contextual only [ho,ho2,h_miss,h_skip,n12,n13,n23,e3,s3,l3,strs_len,↓U89,↓XP,XW0,XW1,reduceSub,reduceAdd,reduceMul,reduceEqDiff,reduceLeDiff,Nat.reduceBEq,reduceCtorEq,TYX]
    refine fun _ => ⟨_,f_gloss ⟨rfl,rfl⟩,?_⟩
    simp +contextual only [ho,ho2,h_miss,h_skip,n12,n13,n23,e3,s3,l3,strs_len,↓U89,↓XP,XW0,XW1,reduceSub,reduceAdd,reduceMul,reduceEqDiff,reduceLeDiff,Nat.reduceBEq,reduceCtorEq,TYX]
    intros
    exact h
  · rintro rfl
    refine ⟨_,f_at (i := 3) (by omega) ⟨rfl,rfl⟩,?_⟩
    simp +contextual only [ho,ho2,h_miss,h_skip,n12,n13,n23,e2,s2,l2,strs_len,↓U89,↓XP,XW0,XW1,reduceSub,reduceAdd,reduceMul,reduceEqDiff,reduceLeDiff,Nat.reduceBEq,reduceCtorEq,TYX]
    refine fun _ => ⟨by omega,by omega,fun _ => ?_⟩
    refine ⟨_,f_at (i := 4) (by omega) ⟨rfl,rfl⟩,?_⟩
    simp +contextual only [ho,ho2,h_miss,h_skip,n12,n13,n23,e2,s2,l2,strs_len,min_if,↓U89,↓XP,XW0,XW1,reduceSub,reduceAdd,reduceMul,reduceEqDiff,reduceLeDiff,Nat.reduceBEq,reduceCtorEq,TYX]
    intros
    exact h
  · rintro rfl
    refine ⟨_,f_at (i := 3) (by omega) ⟨rfl,rfl⟩,?_⟩
    simp +contextual only [ho,ho2,h_miss,h_skip,n12,n13,n23,e2,s2,l2,strs_len,↓U89,↓XP,XW0,XW1,reduceSub,reduceAdd,reduceMul,reduceEqDiff,reduceLeDiff,Nat.reduceBEq,reduceCtorEq,TYX]
    refine fun _ => ⟨by omega,by omega,fun _ => ?_⟩
    refine ⟨_,f_at (i := 4) (by omega) ⟨rfl,rfl⟩,?_⟩
    simp +contextual only [ho,ho2,h_miss,h_skip,n12,n13,n23,e2,s2,l2,strs_len,min_if,↓U89,↓XP,XW0,XW1,reduceSub,reduceAdd,reduceMul,reduceEqDiff,reduceLeDiff,Nat.reduceBEq,reduceCtorEq,TYX]
    intros
    exact h
  · rintro rfl
    refine ⟨_,f_at (i := 3) (by omega) ⟨rfl,rfl⟩,?_⟩
    simp +contextual only [ho,ho2,h_miss,h_skip,n12,n13,n23,min_if,↓U89,↓XP,XW0,XW1,reduceSub,reduceAdd,reduceMul,reduceEqDiff,reduceLeDiff,Nat.reduceBEq,reduceCtorEq,TYX]
    intros
    exact h
  · rintro rfl
    refine ⟨_,f_at (i := 3) (by omega) ⟨rfl,rfl⟩,?_⟩
    simp +contextual only [ho,ho2,h_miss,h_skip,n12,n13,n23,min_if,↓U89,↓XP,XW0,XW1,reduceSub,reduceAdd,reduceMul,reduceEqDiff,reduceLeDiff,Nat.reduceBEq,reduceCtorEq,TYX]
    intros
    exact h
  · rintro rfl
    refine ⟨_,f_at (i := 3) (by omega) ⟨rfl,rfl⟩,?_⟩
    simp +contextual only [ho,ho2,h_miss,h_skip,n12,n13,n23,↓U89,↓XP,XW0,XW1,reduceSub,reduceAdd,reduceMul,reduceEqDiff,reduceLeDiff,Nat.reduceBEq,reduceCtorEq,TYX]
    intros
    exact h
  · intro c9
    have hs : small sense other n m = { op0 with k := 8,on := sense,n := atOf m 3 5 } := by
      unfold small
      simp only [c0,c1,c2,c3,c4,c5,c6,c7,c8,c9,or_self,if_false]
    rw [hs] at h
    refine ⟨_,f_at (i := 3) (by omega) ⟨rfl,rfl⟩,?_⟩
    simp +contextual only [ho,ho2,h_miss,h_skip,n12,n13,n23,↓U89,↓XP,XW0,XW1,reduceSub,reduceAdd,reduceMul,reduceEqDiff,reduceLeDiff,Nat.reduceBEq,reduceCtorEq,TYX]
    intros
    exact h
end Go.Proofs.YtoeckfegggongaaGreatDoor
end
section
namespace Go.Proofs.YtoeckfegggongaaGreatDoor
open Go Go.Aw
theorem meaning_len {p : Pt} {on : Id3} {m : List Int} : (meaning p on m).ops.length ≤ p.ops.length + 3 := by
  unfold meaning
  simp only
  split <;> simp only [with_len] <;> omega
theorem f_divided {p : Pt} {entry sense : Id3} {m : List Int} {H : AH} {R : D → AH → Prop} (hl : p.ops.length ≤ 800) (h : R (.agg (divided p entry sense m).d) H) : ACall Tryz.prog 87 [.agg p.d,.agg entry.d,.agg sense.d,.slc (ints m)] H R := by
  refine b87 fun hf => ?_
  have hbig := big_eq
  have hd := @dE p
  have he : entry.d = [.int .i64 entry.o,.int .i64 entry.s,.int .i64 entry.i] := rfl
  have hs : sense.d = [.int .i64 sense.o,.int .i64 sense.s,.int .i64 sense.i] := rfl
  simp +contextual only [x87,hd,he,hs,ops_len,h_miss,h_skip,↓U87,↓XP,XW0,XW1,reduceSub,reduceAdd,reduceMul,reduceEqDiff,reduceLeDiff,Nat.reduceBEq,reduceCtorEq,TYX]
  rintro b1 h1 b2 ⟨n12,h2⟩ b3 ⟨n23,n13,h3⟩ b4 ⟨n34,n24,n14,h4⟩ _ _ _ b5 ⟨n45,n35,n25,n15,h5⟩
  refine f_meaning (p := p) (on := entry) (m := m) (by omega) ?_
  obtain ⟨p1,hp1⟩ : ∃ q,q = meaning p entry m := ⟨_,rfl⟩
  have l1 : p1.ops.length ≤ p.ops.length + 3 := by rw [hp1]; exact meaning_len
  have hdv : divided p entry sense m = withOp (meaning p1 entry (m.drop 1)) { op0 with k := 16,on := sense,ids := [nextId p,nextId p1],n := atOf m 4 3 - 1 } := by rw [hp1]; rfl
  rw [← hp1]
  clear hp1
  have hd1 := @dE p1
  simp +contextual only [hd1,hd,he,hs,ops_len,h_miss,h_skip,n12,n13,n23,n14,n24,n34,n15,n25,n35,n45,↓U87,↓XP,XW0,XW1,reduceSub,reduceAdd,reduceMul,reduceEqDiff,reduceLeDiff,Nat.reduceBEq,reduceCtorEq,TYX]
  rintro _ _ _ b6 ⟨n56,n46,n36,n26,n16,h6⟩
  refine ⟨_,f_rest (n := 1) ⟨rfl,rfl⟩,?_⟩
  simp +contextual only [hd1,hd,he,hs,ops_len,h_miss,h_skip,n12,n13,n23,n14,n24,n34,n15,n25,n35,n45,n16,n26,n36,n46,n56,↓U87,↓XP,XW0,XW1,reduceSub,reduceAdd,reduceMul,reduceEqDiff,reduceLeDiff,Nat.reduceBEq,reduceCtorEq,TYX]
  refine fun _ => ⟨_,f_meaning (p := p1) (on := entry) (m := m.drop 1) (by omega) ⟨rfl,rfl⟩,?_⟩
  have l2 := meaning_len (p := p1) (on := entry) (m := m.drop 1)
  rw [hdv] at h
  generalize meaning p1 entry (m.drop 1) = p2 at h l2 ⊢
  have hd2 := @dE p2
  simp +contextual only [hd2,hd1,hd,he,hs,ops_len,h_miss,h_skip,n12,n13,n23,n14,n24,n34,n15,n25,n35,n45,n16,n26,n36,n46,n56,↓U87,↓XP,XW0,XW1,reduceSub,reduceAdd,reduceMul,reduceEqDiff,reduceLeDiff,Nat.reduceBEq,reduceCtorEq,TYX]
  have r3 := atOf_range (l := m) (i := 4) (most := 3) (by omega)
  refine ⟨_,f_at (i := 4) (by omega) ⟨rfl,rfl⟩,?_⟩
  have w3 : IntKind.i64.wrap (atOf m 4 3 - 1) = atOf m 4 3 - 1 := wrap_id (by omega) (by omega)
  simp +contextual only [hd2,hd1,hd,he,hs,ops_len,h_miss,h_skip,n12,n13,n23,n14,n24,n34,n15,n25,n35,n45,n16,n26,n36,n46,n56,w3,↓U87,↓XP,XW0,XW1,reduceSub,reduceAdd,reduceMul,reduceEqDiff,reduceLeDiff,Nat.reduceBEq,reduceCtorEq,TYX]
  refine fun _ => ⟨_,f_with (p := p2) (o := { op0 with k := 16,on := sense,ids := [nextId p,nextId p1],n := atOf m 4 3 - 1 }) (by omega) ⟨rfl,rfl⟩,?_⟩
  generalize withOp p2 { op0 with k := 16,on := sense,ids := [nextId p,nextId p1],n := atOf m 4 3 - 1 } = p3 at h ⊢
  have hd3 := @dE p3
  simp +contextual only [hd3,hd2,hd1,hd,he,hs,ops_len,h_miss,h_skip,n12,n13,n23,n14,n24,n34,n15,n25,n35,n45,n16,n26,n36,n46,n56,↓U87,↓XP,XW0,XW1,reduceSub,reduceAdd,reduceMul,reduceEqDiff,reduceLeDiff,Nat.reduceBEq,reduceCtorEq,TYX]
  intros
  exact h
theorem vis_len {x : Gs} {seen : List Bool} {p : Pt} {kind : Int} (ho : ∀ q ∈ x.l,q.ops.length ≤ 1000) (hb : x.l.length ≤ 100) (hp : p.ops.length ≤ 1000) : (visible x seen p kind).length ≤ 101000 := by
  have h1 := visTo_len (x := x) (seen := seen) (kind := kind) ho x.l.length
  have h2 := visOne_len (p := p) (kind := kind) (ok := true) p.ops.length
  unfold visible
  rw [List.length_append]
  unfold visOne at h1 ⊢
  omega
theorem f_quoted {x : Gs} {seen : List Bool} {p : Pt} {sense : Id3} {m : List Int} {H : AH} {R : D → AH → Prop} (hs : x.l.length ≤ seen.length) (hb : x.l.length ≤ 100) (ho : ∀ q ∈ x.l,q.ops.length ≤ 1000) (hp : p.ops.length ≤ 800) (h : R (.agg (quoted x seen p sense m).d) H) : ACall Tryz.prog 86 [.agg x.d,.slc (boolsD seen),.agg p.d,.agg sense.d,.slc (ints m)] H R := by
  refine b86 fun hf => ?_
  have hbig := big_eq
  have hx : x.d = [.slc (ptsD x.l),.slc (pastD x.past)] := rfl
  have hd := @dE p
  have he : sense.d = [.int .i64 sense.o,.int .i64 sense.s,.int .i64 sense.i] := rfl
  simp +contextual only [x86,hx,hd,he,ops_len,pts_len,h_miss,h_skip,↓U86,↓XP,XW0,XW1,reduceSub,reduceAdd,reduceMul,reduceEqDiff,reduceLeDiff,Nat.reduceBEq,reduceCtorEq,TYX]
  rintro b1 h1 b2 ⟨n12,h2⟩ b3 ⟨n23,n13,h3⟩ b4 ⟨n34,n24,n14,h4⟩
  refine f_visible (x := x) (p := p) hs hb ho (by omega) ?_
  have hvl : (visible x seen p 3).length ≤ 101000 := vis_len ho hb (by omega)
  unfold quoted at h
  simp only at h
  generalize visible x seen p 3 = src at h hvl ⊢
  simp +contextual only [hx,hd,he,ops_len,pts_len,ids_len,h_miss,h_skip,n12,n13,n23,n14,n24,n34,↓U86,↓XP,XW0,XW1,reduceSub,reduceAdd,reduceMul,reduceEqDiff,reduceLeDiff,Nat.reduceBEq,reduceCtorEq,TYX]
  rintro _ _ _ _ b5 ⟨n45,n35,n25,n15,h5⟩
  have r2 := atOf_range (l := m) (i := 2) (most := 60) (by omega)
  have r3 := atOf_range (l := m) (i := 3) (most := 3) (by omega)
  have r4 := atOf_range (l := m) (i := 4) (most := 8) (by omega)
  have r5 := atOf_range (l := m) (i := 5) (most := 90) (by omega)
  have w1 : IntKind.i64.wrap (400 * atOf m 2 60) = 400 * atOf m 2 60 := wrap_id (by omega) (by omega)
  have w2 : IntKind.i64.wrap (600000 + 400 * atOf m 2 60) = 600000 + 400 * atOf m 2 60 := wrap_id (by omega) (by omega)
  have w3 : IntKind.i64.wrap (300 * atOf m 4 8) = 300 * atOf m 4 8 := wrap_id (by omega) (by omega)
  have w4 : IntKind.i64.wrap (600000 + 400 * atOf m 2 60 + 300 * atOf m 4 8) = 600000 + 400 * atOf m 2 60 + 300 * atOf m 4 8 := wrap_id (by omega) (by omega)
  have w5 : IntKind.i64.wrap (1 + atOf m 5 90) = 1 + atOf m 5 90 := wrap_id (by omega) (by omega)
  have e3 : ([[.str [112,114,101,115,115]],[.str [104,101,105,114,115]],[.str [99,114,111,119,110]]] : List (List D)) = strs names3 := rfl
  have s3 := strs_get (show (atOf m 3 3).toNat < names3.length by show _ < 3; omega)
  have l3 : names3.length = 3 := rfl
  refine ⟨fun h0 => ?_,fun h0 => ?_⟩
  · rw [if_pos (.inl (by omega))] at h
    refine f_at (i := 2) (by omega) ?_
    simp +contextual only [hx,hd,he,ops_len,pts_len,ids_len,h_miss,h_skip,n12,n13,n23,n14,n24,n34,n15,n25,n35,n45,w1,w2,↓U86,↓XP,XW0,XW1,reduceSub,reduceAdd,reduceMul,reduceEqDiff,reduceLeDiff,Nat.reduceBEq,reduceCtorEq,TYX]
    refine fun _ => ⟨_,f_at (i := 3) (by omega) ⟨rfl,rfl⟩,?_⟩
    simp +contextual only [hx,hd,he,ops_len,pts_len,ids_len,h_miss,h_skip,n12,n13,n23,n14,n24,n34,n15,n25,n35,n45,w1,w2,e3,s3,l3,strs_len,↓U86,↓XP,XW0,XW1,reduceSub,reduceAdd,reduceMul,reduceEqDiff,reduceLeDiff,Nat.reduceBEq,reduceCtorEq,TYX]
    refine fun _ => ⟨by omega,by omega,fun _ => ?_⟩
    refine ⟨_,f_at (i := 4) (by omega) ⟨rfl,rfl⟩,?_⟩
    simp +contextual only [hx,hd,he,ops_len,pts_len,ids_len,h_miss,h_skip,n12,n13,n23,n14,n24,n34,n15,n25,n35,n45,w1,w2,w3,w4,e3,s3,l3,strs_len,↓U86,↓XP,XW0,XW1,reduceSub,reduceAdd,reduceMul,reduceEqDiff,reduceLeDiff,Nat.reduceBEq,reduceCtorEq,TYX]
    refine fun _ => ⟨_,f_with (p := p) (o := { op0 with k := 3,name := names3.getD (atN m 3 3) [],text := [97,110,110,97,108,115],a := 600000 + 400 * atOf m 2 60,b := 600000 + 400 * atOf m 2 60 + 300 * atOf m 4 8 }) (by omega) ⟨rfl,rfl⟩,?_⟩
    generalize hp1 : withOp p { op0 with k := 3,name := names3.getD (atN m 3 3) [],text := [97,110,110,97,108,115],a := 600000 + 400 * atOf m 2 60,b := 600000 + 400 * atOf m 2 60 + 300 * atOf m 4 8 } = p1 at h ⊢
    have lp1 : p1.ops.length ≤ 801 := by rw [← hp1,with_len]; omega
    have hd1 := @dE p1
    simp +contextual only [hd1,hx,hd,he,ops_len,pts_len,ids_len,h_miss,h_skip,n12,n13,n23,n14,n24,n34,n15,n25,n35,n45,↓U86,↓XP,XW0,XW1,reduceSub,reduceAdd,reduceMul,reduceEqDiff,reduceLeDiff,Nat.reduceBEq,reduceCtorEq,TYX]
    refine ⟨_,f_at (i := 5) (by omega) ⟨rfl,rfl⟩,?_⟩
    simp +contextual only [hd1,hx,hd,he,ops_len,pts_len,ids_len,h_miss,h_skip,n12,n13,n23,n14,n24,n34,n15,n25,n35,n45,w5,↓U86,↓XP,XW0,XW1,reduceSub,reduceAdd,reduceMul,reduceEqDiff,reduceLeDiff,Nat.reduceBEq,reduceCtorEq,TYX]
    refine fun _ => ⟨_,f_rest (n := 6) ⟨rfl,rfl⟩,?_⟩
    simp +contextual only [hd1,hx,hd,he,ops_len,pts_len,ids_len,h_miss,h_skip,n12,n13,n23,n14,n24,n34,n15,n25,n35,n45,w5,↓U86,↓XP,XW0,XW1,reduceSub,reduceAdd,reduceMul,reduceEqDiff,reduceLeDiff,Nat.reduceBEq,reduceCtorEq,TYX]
    refine fun _ => ⟨_,f_gloss ⟨rfl,rfl⟩,?_⟩
    simp +contextual only [hd1,hx,hd,he,ops_len,pts_len,ids_len,h_miss,h_skip,n12,n13,n23,n14,n24,n34,n15,n25,n35,n45,w5,↓U86,↓XP,XW0,XW1,reduceSub,reduceAdd,reduceMul,reduceEqDiff,reduceLeDiff,Nat.reduceBEq,reduceCtorEq,TYX]
    refine fun _ => ⟨_,f_with (p := p1) (o := { op0 with k := 4,on := sense,to := nextId p,n := 1 + atOf m 5 90,text := gloss (m.drop 6) }) (by omega) ⟨rfl,rfl⟩,?_⟩
    generalize withOp p1 { op0 with k := 4,on := sense,to := nextId p,n := 1 + atOf m 5 90,text := gloss (m.drop 6) } = p3 at h ⊢
    have hd3 := @dE p3
    simp +contextual only [hd3,hd1,hx,hd,he,ops_len,pts_len,ids_len,h_miss,h_skip,n12,n13,n23,n14,n24,n34,n15,n25,n35,n45,↓U86,↓XP,XW0,XW1,reduceSub,reduceAdd,reduceMul,reduceEqDiff,reduceLeDiff,Nat.reduceBEq,reduceCtorEq,TYX]
    intros
    exact h
  · refine f_at (i := 1) (by omega) ?_
    simp +contextual only [hx,hd,he,ops_len,pts_len,ids_len,h_miss,h_skip,n12,n13,n23,n14,n24,n34,n15,n25,n35,n45,↓U86,↓XP,XW0,XW1,reduceSub,reduceAdd,reduceMul,reduceEqDiff,reduceLeDiff,Nat.reduceBEq,reduceCtorEq,TYX]
    refine fun _ => ⟨fun h1 => ?_,fun h1 => ?_⟩
    · rw [if_pos (.inr h1)] at h
      refine f_at (i := 2) (by omega) ?_
      simp +contextual only [hx,hd,he,ops_len,pts_len,ids_len,h_miss,h_skip,n12,n13,n23,n14,n24,n34,n15,n25,n35,n45,w1,w2,↓U86,↓XP,XW0,XW1,reduceSub,reduceAdd,reduceMul,reduceEqDiff,reduceLeDiff,Nat.reduceBEq,reduceCtorEq,TYX]
      refine fun _ => ⟨_,f_at (i := 3) (by omega) ⟨rfl,rfl⟩,?_⟩
      simp +contextual only [hx,hd,he,ops_len,pts_len,ids_len,h_miss,h_skip,n12,n13,n23,n14,n24,n34,n15,n25,n35,n45,w1,w2,e3,s3,l3,strs_len,↓U86,↓XP,XW0,XW1,reduceSub,reduceAdd,reduceMul,reduceEqDiff,reduceLeDiff,Nat.reduceBEq,reduceCtorEq,TYX]
      refine fun _ => ⟨by omega,by omega,fun _ => ?_⟩
      refine ⟨_,f_at (i := 4) (by omega) ⟨rfl,rfl⟩,?_⟩
      simp +contextual only [hx,hd,he,ops_len,pts_len,ids_len,h_miss,h_skip,n12,n13,n23,n14,n24,n34,n15,n25,n35,n45,w1,w2,w3,w4,e3,s3,l3,strs_len,↓U86,↓XP,XW0,XW1,reduceSub,reduceAdd,reduceMul,reduceEqDiff,reduceLeDiff,Nat.reduceBEq,reduceCtorEq,TYX]
      refine fun _ => ⟨_,f_with (p := p) (o := { op0 with k := 3,name := names3.getD (atN m 3 3) [],text := [97,110,110,97,108,115],a := 600000 + 400 * atOf m 2 60,b := 600000 + 400 * atOf m 2 60 + 300 * atOf m 4 8 }) (by omega) ⟨rfl,rfl⟩,?_⟩
      generalize hp1 : withOp p { op0 with k := 3,name := names3.getD (atN m 3 3) [],text := [97,110,110,97,108,115],a := 600000 + 400 * atOf m 2 60,b := 600000 + 400 * atOf m 2 60 + 300 * atOf m 4 8 } = p1 at h ⊢
      have lp1 : p1.ops.length ≤ 801 := by rw [← hp1,with_len]; omega
      have hd1 := @dE p1
      simp +contextual only [hd1,hx,hd,he,ops_len,pts_len,ids_len,h_miss,h_skip,n12,n13,n23,n14,n24,n34,n15,n25,n35,n45,↓U86,↓XP,XW0,XW1,reduceSub,reduceAdd,reduceMul,reduceEqDiff,reduceLeDiff,Nat.reduceBEq,reduceCtorEq,TYX]
      refine ⟨_,f_at (i := 5) (by omega) ⟨rfl,rfl⟩,?_⟩
      simp +contextual only [hd1,hx,hd,he,ops_len,pts_len,ids_len,h_miss,h_skip,n12,n13,n23,n14,n24,n34,n15,n25,n35,n45,w5,↓U86,↓XP,XW0,XW1,reduceSub,reduceAdd,reduceMul,reduceEqDiff,reduceLeDiff,Nat.reduceBEq,reduceCtorEq,TYX]
      refine fun _ => ⟨_,f_rest (n := 6) ⟨rfl,rfl⟩,?_⟩
      simp +contextual only [hd1,hx,hd,he,ops_len,pts_len,ids_len,h_miss,h_skip,n12,n13,n23,n14,n24,n34,n15,n25,n35,n45,w5,↓U86,↓XP,XW0,XW1,reduceSub,reduceAdd,reduceMul,reduceEqDiff,reduceLeDiff,Nat.reduceBEq,reduceCtorEq,TYX]
      refine fun _ => ⟨_,f_gloss ⟨rfl,rfl⟩,?_⟩
      simp +contextual only [hd1,hx,hd,he,ops_len,pts_len,ids_len,h_miss,h_skip,n12,n13,n23,n14,n24,n34,n15,n25,n35,n45,w5,↓U86,↓XP,XW0,XW1,reduceSub,reduceAdd,reduceMul,reduceEqDiff,reduceLeDiff,Nat.reduceBEq,reduceCtorEq,TYX]
      refine fun _ => ⟨_,f_with (p := p1) (o := { op0 with k := 4,on := sense,to := nextId p,n := 1 + atOf m 5 90,text := gloss (m.drop 6) }) (by omega) ⟨rfl,rfl⟩,?_⟩
      generalize withOp p1 { op0 with k := 4,on := sense,to := nextId p,n := 1 + atOf m 5 90,text := gloss (m.drop 6) } = p3 at h ⊢
      have hd3 := @dE p3
      simp +contextual only [hd3,hd1,hx,hd,he,ops_len,pts_len,ids_len,h_miss,h_skip,n12,n13,n23,n14,n24,n34,n15,n25,n35,n45,↓U86,↓XP,XW0,XW1,reduceSub,reduceAdd,reduceMul,reduceEqDiff,reduceLeDiff,Nat.reduceBEq,reduceCtorEq,TYX]
      intros
      exact h
    · rw [if_neg (by rintro (hc | hc); exact h0 (by omega); exact h1 hc)] at h
      have r6 := atOf_range (l := m) (i := 2) (most := (src.length : Int)) (by omega)
      have s6 := ids_get (show (atOf m 2 src.length).toNat < src.length by omega)
      refine fun _ => f_at (i := 2) (most := (src.length : Int)) (by omega) ?_
      unfold atN at h
      generalize src.getD (atOf m 2 src.length).toNat default = to at s6 h
      have hto : to.d = [.int .i64 to.o,.int .i64 to.s,.int .i64 to.i] := rfl
      simp +contextual only [hx,hd,he,ops_len,pts_len,ids_len,h_miss,h_skip,n12,n13,n23,n14,n24,n34,n15,n25,n35,n45,s6,hto,↓U86,↓XP,XW0,XW1,reduceSub,reduceAdd,reduceMul,reduceEqDiff,reduceLeDiff,Nat.reduceBEq,reduceCtorEq,TYX]
      refine fun _ => ⟨by omega,by omega,?_⟩
      refine ⟨_,f_at (i := 5) (by omega) ⟨rfl,rfl⟩,?_⟩
      simp +contextual only [hto,hx,hd,he,ops_len,pts_len,ids_len,h_miss,h_skip,n12,n13,n23,n14,n24,n34,n15,n25,n35,n45,w5,↓U86,↓XP,XW0,XW1,reduceSub,reduceAdd,reduceMul,reduceEqDiff,reduceLeDiff,Nat.reduceBEq,reduceCtorEq,TYX]
      refine fun _ => ⟨_,f_rest (n := 6) ⟨rfl,rfl⟩,?_⟩
      simp +contextual only [hto,hx,hd,he,ops_len,pts_len,ids_len,h_miss,h_skip,n12,n13,n23,n14,n24,n34,n15,n25,n35,n45,w5,↓U86,↓XP,XW0,XW1,reduceSub,reduceAdd,reduceMul,reduceEqDiff,reduceLeDiff,Nat.reduceBEq,reduceCtorEq,TYX]
      refine fun _ => ⟨_,f_gloss ⟨rfl,rfl⟩,?_⟩
      simp +contextual only [hto,hx,hd,he,ops_len,pts_len,ids_len,h_miss,h_skip,n12,n13,n23,n14,n24,n34,n15,n25,n35,n45,w5,↓U86,↓XP,XW0,XW1,reduceSub,reduceAdd,reduceMul,reduceEqDiff,reduceLeDiff,Nat.reduceBEq,reduceCtorEq,TYX]
      refine fun _ => ⟨_,f_with (p := p) (o := { op0 with k := 4,on := sense,to := to,n := 1 + atOf m 5 90,text := gloss (m.drop 6) }) (by omega) ⟨rfl,rfl⟩,?_⟩
      generalize withOp p { op0 with k := 4,on := sense,to := to,n := 1 + atOf m 5 90,text := gloss (m.drop 6) } = p3 at h ⊢
      have hd3 := @dE p3
      simp +contextual only [hd3,hto,hx,hd,he,ops_len,pts_len,ids_len,h_miss,h_skip,n12,n13,n23,n14,n24,n34,n15,n25,n35,n45,↓U86,↓XP,XW0,XW1,reduceSub,reduceAdd,reduceMul,reduceEqDiff,reduceLeDiff,Nat.reduceBEq,reduceCtorEq,TYX]
      intros
      exact h
end Go.Proofs.YtoeckfegggongaaGreatDoor
end
