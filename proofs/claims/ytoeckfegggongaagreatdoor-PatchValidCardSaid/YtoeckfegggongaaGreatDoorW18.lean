/- A part of the proof of what the last text says: Gt5, Gt9, Gu1, Gp2, Gf4, Gn1, Gn3. Conditions: those in each theorem. -/
import Derived.Test.YtoeckfegggongaaGreatDoorW17
set_option linter.unusedVariables false
set_option linter.unusedSimpArgs false
set_option maxRecDepth 100000
set_option maxHeartbeats 16000000
open Nat (reduceSub reduceAdd reduceMul reduceEqDiff reduceLeDiff)
section
namespace Go.Proofs.YtoeckfegggongaaGreatDoor
open Go Go.Aw
structure Ext (n i : Nat) (l : List OpP) : Prop where
  len : l.length = i
  ids : ∀ o ∈ l,o.ids.length ≤ 2000000 + n
  name : ∀ o ∈ l,o.name.length ≤ 3000000
  text : ∀ o ∈ l,o.text.length ≤ 3000000
theorem Ext.nil {n : Nat} : Ext n 0 [] := ⟨rfl,by simp,by simp,by simp⟩
theorem Ext.add {n i : Nat} {l : List OpP} {o : OpP} (h : Ext n i l) (h1 : o.ids.length ≤ 2000000 + n) (h2 : o.name.length ≤ 3000000) (h3 : o.text.length ≤ 3000000) : Ext n (i + 1) (l ++ [o]) := by
  refine ⟨by simp [h.len],fun x hx => ?_,fun x hx => ?_,fun x hx => ?_⟩ <;> rcases List.mem_append.1 hx with hx | hx
  · exact h.ids x hx
  · rw [List.mem_singleton.1 hx]; exact h1
  · exact h.name x hx
  · rw [List.mem_singleton.1 hx]; exact h2
  · exact h.text x hx
  · rw [List.mem_singleton.1 hx]; exact h3
theorem Ext.sz {n i : Nat} {p : Pt} {l : List OpP} (h : Ext n i l) (hi : i ≤ 14) (hp : Sz n p) : Sz (n + 14) { p with ops := p.ops ++ l } :=
  (hp.more (m := 14) (by rw [h.len]; exact hi) h.ids h.name h.text)
theorem sp_L18 {p : Pt} {bb : Int} {b4 b8 : Nat} {H : AH} {Q : AQ} {F : List D} (n48 : b4 ≠ b8) {i : Nat} (hi : i = 0) (hF : Fr 278 [(3,.int .i64 bb),(4,.ptr b4 0),(8,.ptr b8 0),(15,.int .i64 (i : Int))] F)
    (hE : ∀ F' l,Fr 278 [(4,.ptr b4 0),(8,.ptr b8 0)] F' → l.length ≤ 10 → Q (.exit 5) F' ((b8,AO.cells [.int .i64 0,.int .i64 0,.int .i64 0,.own [],.own [],.str []]) :: (b4,AO.cells [.int .i64 p.o,.int .i64 p.s,.int .i64 p.day,.own (refsD l),.own (opsD p.ops),.str p.sl]) :: H)) {l : List Rf} (hl : l = []) : XW Tryz.prog x6_L8 F ((b8,AO.cells [.int .i64 0,.int .i64 0,.int .i64 0,.own [],.own [],.str []]) :: (b4,AO.cells [.int .i64 p.o,.int .i64 p.s,.int .i64 p.day,.own (refsD l),.own (opsD p.ops),.str p.sl]) :: H) Q := by
  have hbig := big_eq
  obtain ⟨r1,r2⟩ := around_range (n := bb) (most := 4) (by omega)
  refine XW.loopK hm (fun F H' => ∃ (i : Nat) (l : List Rf),i ≤ 10 ∧ l.length = i ∧ Fr 278 [(3,.int .i64 bb),(4,.ptr b4 0),(8,.ptr b8 0),(15,.int .i64 (i : Int))] F ∧ ((b8,AO.cells [.int .i64 0,.int .i64 0,.int .i64 0,.own [],.own [],.str []]) :: (b4,AO.cells [.int .i64 p.o,.int .i64 p.s,.int .i64 p.day,.own (refsD l),.own (opsD p.ops),.str p.sl]) :: H) = H') (fun F H => match F.getD 15 .any with | .int _ n' => 10 - n'.toNat | _ => 0) ⟨0,[],by omega,rfl,by subst hi; exact hF,by rw [hl]⟩ ?_
  clear hF hi hl i l
  rintro _ _ ⟨i,l,hi,hl,hF,rfl⟩ K hN hE' hR
  obtain ⟨z,rfl⟩ : ∃ z : Nat → D,_ = zz z 0 3 (.int .i64 bb :: .ptr b4 0 :: zz z 5 3 (.ptr b8 0 :: zz z 9 6 (.int .i64 (i : Int) :: zz z 16 262 []))) := hF.lit
  try dsimp only [zz,reduceAdd] at *
  clear hF hR
  simp +contextual only [x6,refs_len,ops_len,h_miss,h_skip,n48,↓U6,↓XP,XW0,XW1,reduceSub,reduceAdd,reduceMul,reduceEqDiff,reduceLeDiff,Nat.reduceBEq,reduceCtorEq,TYX]
  intros
  refine f_around (by omega) ?_
  generalize around bb 4 = r at r1 r2 ⊢
  simp +contextual only [x6,refs_len,ops_len,h_miss,h_skip,n48,wrap_id (show -9223372036854775808 ≤ 7 + r by omega) (by omega),↓U6,↓XP,XW0,XW1,reduceSub,reduceAdd,reduceMul,reduceEqDiff,reduceLeDiff,Nat.reduceBEq,reduceCtorEq,TYX]
  refine fun _ => ⟨fun hlt => ?_,fun hge => ?_⟩
  · have nx : ∀ F',Fr 278 [(3,.int .i64 bb),(4,.ptr b4 0),(8,.ptr b8 0),(15,.int .i64 ((i + 1 : Nat) : Int))] F' → ∀ l : List Rf,l.length = i + 1 → K .normal F' ((b8,AO.cells [.int .i64 0,.int .i64 0,.int .i64 0,.own [],.own [],.str []]) :: (b4,AO.cells [.int .i64 p.o,.int .i64 p.s,.int .i64 p.day,.own (refsD l),.own (opsD p.ops),.str p.sl]) :: H) := fun F' hF' l hl => hN _ _ ⟨i + 1,l,by omega,hl,hF',(back_0 rfl).symm⟩ (by
      rw [List.getD_eq_getElem?_getD,hF'.2.2.2.2.1]
      simp only [List.getD_cons_succ,List.getD_cons_zero,Option.getD_some]
      omega)
    rw [show ∀ x y,refsD l ++ [[.int .i64 x,.int .i64 y]] = refsD (l ++ [⟨x,y⟩]) from fun x y => by simp [refsD,Rf.d],wrap_succ (by omega)]
    exact ⟨refs_2,by omega,by omega,nx _ ⟨rfl,rfl,rfl,rfl,rfl,trivial⟩ _ (by simp [hl])⟩
  · exact hE' _ _ _ (hE _ l ⟨rfl,rfl,rfl,trivial⟩ (by omega))
theorem sp_L2 {p : Pt} {bb : Int} {kk n b4 b8 : Nat} {H : AH} {Q : AQ} {F : List D} (n48 : b4 ≠ b8) (hn : n ≤ 900) (hp : Sz n p) (hk : kk < p.ops.length) {i : Nat} (hi : i = 0) (hF : Fr 278 [(3,.int .i64 bb),(4,.ptr b4 0),(8,.ptr b8 0),(11,.int .i64 (kk : Int)),(13,.int .i64 (i : Int))] F)
    (hE : ∀ F' l,Fr 278 [(4,.ptr b4 0),(8,.ptr b8 0)] F' → Ext n 14 l → Q (.exit 1) F' ((b8,AO.cells [.int .i64 0,.int .i64 0,.int .i64 0,.own [],.own [],.str []]) :: (b4,AO.cells [.int .i64 p.o,.int .i64 p.s,.int .i64 p.day,.own (refsD p.needs),.own (opsD (p.ops ++ l)),.str p.sl]) :: H)) {l : List OpP} (hl : l = []) : XW Tryz.prog x6_L2 F ((b8,AO.cells [.int .i64 0,.int .i64 0,.int .i64 0,.own [],.own [],.str []]) :: (b4,AO.cells [.int .i64 p.o,.int .i64 p.s,.int .i64 p.day,.own (refsD p.needs),.own (opsD (p.ops ++ l)),.str p.sl]) :: H) Q := by
  have hbig := big_eq
  have l1 := hp.ops
  refine XW.loopK hm (fun F H' => ∃ (i : Nat) (l : List OpP),i ≤ 14 ∧ Ext n i l ∧ Fr 278 [(3,.int .i64 bb),(4,.ptr b4 0),(8,.ptr b8 0),(11,.int .i64 (kk : Int)),(13,.int .i64 (i : Int))] F ∧ ((b8,AO.cells [.int .i64 0,.int .i64 0,.int .i64 0,.own [],.own [],.str []]) :: (b4,AO.cells [.int .i64 p.o,.int .i64 p.s,.int .i64 p.day,.own (refsD p.needs),.own (opsD (p.ops ++ l)),.str p.sl]) :: H) = H') (fun F H => match F.getD 13 .any with | .int _ n' => 14 - n'.toNat | _ => 0) ⟨0,[],by omega,Ext.nil,by subst hi; exact hF,by rw [hl]⟩ ?_
  clear hF hi hl i l
  rintro _ _ ⟨i,l,hi,hl,hF,rfl⟩ K hN hE' hR
  obtain ⟨z,rfl⟩ : ∃ z : Nat → D,_ = zz z 0 3 (.int .i64 bb :: .ptr b4 0 :: zz z 5 3 (.ptr b8 0 :: zz z 9 2 (.int .i64 (kk : Int) :: z 12 :: .int .i64 (i : Int) :: zz z 14 264 []))) := hF.lit
  try dsimp only [zz,reduceAdd] at *
  clear hF hR
  have e1 := hl.len
  by_cases hlt : i < 14
  · have nx : ∀ F',Fr 278 [(3,.int .i64 bb),(4,.ptr b4 0),(8,.ptr b8 0),(11,.int .i64 (kk : Int)),(13,.int .i64 ((i + 1 : Nat) : Int))] F' → ∀ l : List OpP,Ext n (i + 1) l → K .normal F' ((b8,AO.cells [.int .i64 0,.int .i64 0,.int .i64 0,.own [],.own [],.str []]) :: (b4,AO.cells [.int .i64 p.o,.int .i64 p.s,.int .i64 p.day,.own (refsD p.needs),.own (opsD (p.ops ++ l)),.str p.sl]) :: H) := fun F' hF' l hl => hN _ _ ⟨i + 1,l,by omega,hl,hF',(back_0 rfl).symm⟩ (by
      rw [List.getD_eq_getElem?_getD,hF'.2.2.2.2.2.1]
      simp only [List.getD_cons_succ,List.getD_cons_zero,Option.getD_some]
      omega)
    clear hN hE hE'
    simp +contextual only [x6,refs_len,ops_len,h_miss,h_skip,n48,show ((i : Int) < 14) = True from eq_true (by omega),↓U6,↓XP,XW0,XW1,reduceSub,reduceAdd,reduceMul,reduceEqDiff,reduceLeDiff,Nat.reduceBEq,reduceCtorEq,TYX]
    intros
    rw [c_gh]
    refine Gz.giveA (bx := b4) (j := 4) (xs := opsD (p.ops ++ l)) (by rw [h_miss n48,h_hit]) rfl (fun b cap H' g1 g2 g3 => ?_)
    have q1 : (opsD (p.ops ++ l)).getD kk [] = (p.ops.getD kk default).d := by
      rw [ops_get (by rw [List.length_append]; omega)]
      congr 1
      simp only [List.getD_eq_getElem?_getD]
      rw [List.getElem?_append_left hk]
    have ho := getD_mem1 hk
    have o1 := hp.ids _ ho
    have o2 := hp.name _ ho
    have o3 := hp.text _ ho
    generalize p.ops.getD kk default = o at q1 o1 o2 o3
    have hd : o.d = [.int .i64 o.k,.int .i64 o.on.o,.int .i64 o.on.s,.int .i64 o.on.i,.int .i64 o.to.o,.int .i64 o.to.s,.int .i64 o.to.i,.slc (idsD o.ids),.int .i64 o.n,.str o.name,.str o.text,.int .i64 o.a,.int .i64 o.b] := rfl
    simp +contextual only [x6,refs_len,ops_len,h_miss,h_skip,n48,g1,ia_os,q1,hd,List.length_append,show (kk : Int) < ((p.ops.length + l.length : Nat) : Int) from by omega,↓U6,↓XP,XW0,XW1,reduceSub,reduceAdd,reduceMul,reduceEqDiff,reduceLeDiff,Nat.reduceBEq,reduceCtorEq,TYX]
    rw [x_apg]
    refine Gz.takeS (s := 89) (b := b) (cap := cap) (xs := opsD (p.ops ++ l)) rfl g2 ?_
    rw [g3]
    simp +contextual only [x6,refs_len,ops_len,h_miss,h_skip,n48,List.length_append,↓U6,↓XP,XW0,XW1,reduceSub,reduceAdd,reduceMul,reduceEqDiff,reduceLeDiff,Nat.reduceBEq,reduceCtorEq,TYX]
    rw [← hd,show opsD (p.ops ++ l) ++ [o.d] = opsD (p.ops ++ (l ++ [o])) by simp [opsD],wrap_succ (by omega)]
    exact ⟨ops_13,by omega,by omega,nx _ ⟨rfl,rfl,rfl,rfl,rfl,rfl,trivial⟩ _ (hl.add o1 o2 o3)⟩
  · have hik : i = 14 := by omega
    subst hik
    clear hN
    simp +contextual only [x6,refs_len,ops_len,h_miss,h_skip,n48,show (((14 : Nat) : Int) < 14) = False from eq_false (by omega),↓U6,↓XP,XW0,XW1,reduceSub,reduceAdd,reduceMul,reduceEqDiff,reduceLeDiff,Nat.reduceBEq,reduceCtorEq,TYX]
    refine hE' _ _ _ (hE _ l ?_ hl)
    exact ⟨rfl,rfl,rfl,trivial⟩
theorem sp_L5 {p : Pt} {bb : Int} {kk n b4 b8 : Nat} {H : AH} {Q : AQ} {F : List D} (n48 : b4 ≠ b8) (hn : n ≤ 900) (hp : Sz n p) (hk : kk < p.ops.length) {i : Nat} (hi : i = 0) (hF : Fr 278 [(3,.int .i64 bb),(4,.ptr b4 0),(8,.ptr b8 0),(11,.int .i64 (kk : Int)),(14,.int .i64 (i : Int))] F)
    (hE : ∀ F' l,Fr 278 [(4,.ptr b4 0),(8,.ptr b8 0)] F' → Ext n 7 l → Q (.exit 3) F' ((b8,AO.cells [.int .i64 0,.int .i64 0,.int .i64 0,.own [],.own [],.str []]) :: (b4,AO.cells [.int .i64 p.o,.int .i64 p.s,.int .i64 p.day,.own (refsD p.needs),.own (opsD (p.ops ++ l)),.str p.sl]) :: H)) {l : List OpP} (hl : l = []) : XW Tryz.prog x6_L5 F ((b8,AO.cells [.int .i64 0,.int .i64 0,.int .i64 0,.own [],.own [],.str []]) :: (b4,AO.cells [.int .i64 p.o,.int .i64 p.s,.int .i64 p.day,.own (refsD p.needs),.own (opsD (p.ops ++ l)),.str p.sl]) :: H) Q := by
  have hbig := big_eq
  have l1 := hp.ops
  refine XW.loopK hm (fun F H' => ∃ (i : Nat) (l : List OpP),i ≤ 7 ∧ Ext n i l ∧ Fr 278 [(3,.int .i64 bb),(4,.ptr b4 0),(8,.ptr b8 0),(11,.int .i64 (kk : Int)),(14,.int .i64 (i : Int))] F ∧ ((b8,AO.cells [.int .i64 0,.int .i64 0,.int .i64 0,.own [],.own [],.str []]) :: (b4,AO.cells [.int .i64 p.o,.int .i64 p.s,.int .i64 p.day,.own (refsD p.needs),.own (opsD (p.ops ++ l)),.str p.sl]) :: H) = H') (fun F H => match F.getD 14 .any with | .int _ n' => 7 - n'.toNat | _ => 0) ⟨0,[],by omega,Ext.nil,by subst hi; exact hF,by rw [hl]⟩ ?_
  clear hF hi hl i l
  rintro _ _ ⟨i,l,hi,hl,hF,rfl⟩ K hN hE' hR
  obtain ⟨z,rfl⟩ : ∃ z : Nat → D,_ = zz z 0 3 (.int .i64 bb :: .ptr b4 0 :: zz z 5 3 (.ptr b8 0 :: zz z 9 2 (.int .i64 (kk : Int) :: zz z 12 2 (.int .i64 (i : Int) :: zz z 15 263 [])))) := hF.lit
  try dsimp only [zz,reduceAdd] at *
  clear hF hR
  have e1 := hl.len
  by_cases hlt : i < 7
  · have nx : ∀ F',Fr 278 [(3,.int .i64 bb),(4,.ptr b4 0),(8,.ptr b8 0),(11,.int .i64 (kk : Int)),(14,.int .i64 ((i + 1 : Nat) : Int))] F' → ∀ l : List OpP,Ext n (i + 1) l → K .normal F' ((b8,AO.cells [.int .i64 0,.int .i64 0,.int .i64 0,.own [],.own [],.str []]) :: (b4,AO.cells [.int .i64 p.o,.int .i64 p.s,.int .i64 p.day,.own (refsD p.needs),.own (opsD (p.ops ++ l)),.str p.sl]) :: H) := fun F' hF' l hl => hN _ _ ⟨i + 1,l,by omega,hl,hF',(back_0 rfl).symm⟩ (by
      rw [List.getD_eq_getElem?_getD,hF'.2.2.2.2.2.1]
      simp only [List.getD_cons_succ,List.getD_cons_zero,Option.getD_some]
      omega)
    clear hN hE hE'
    simp +contextual only [x6,refs_len,ops_len,h_miss,h_skip,n48,show ((i : Int) < 7) = True from eq_true (by omega),↓U6,↓XP,XW0,XW1,reduceSub,reduceAdd,reduceMul,reduceEqDiff,reduceLeDiff,Nat.reduceBEq,reduceCtorEq,TYX]
    intros
    rw [c_gh]
    refine Gz.giveA (bx := b4) (j := 4) (xs := opsD (p.ops ++ l)) (by rw [h_miss n48,h_hit]) rfl (fun b cap H' g1 g2 g3 => ?_)
    simp +contextual only [x6,refs_len,ops_len,h_miss,h_skip,n48,g1,↓U6,↓XP,XW0,XW1,reduceSub,reduceAdd,reduceMul,reduceEqDiff,reduceLeDiff,Nat.reduceBEq,reduceCtorEq,TYX]
    obtain ⟨r1,r2⟩ := around_range (n := bb) (most := 125) (by omega)
    refine ⟨_,f_around (by omega) ⟨rfl,rfl⟩,?_⟩
    generalize around bb 125 = r at r1 r2 ⊢
    have w : IntKind.i64.wrap (900 + r) = 900 + r := wrap_id (by omega) (by omega)
    simp +contextual only [x6,refs_len,ops_len,h_miss,h_skip,n48,g1,w,↓U6,↓XP,XW0,XW1,reduceSub,reduceAdd,reduceMul,reduceEqDiff,reduceLeDiff,Nat.reduceBEq,reduceCtorEq,TYX]
    refine fun _ => ⟨by omega,infoB (by omega),zeroB,fun _ => ?_⟩
    rw [x_apg]
    refine Gz.takeS (s := 239) (b := b) (cap := cap) (xs := opsD (p.ops ++ l)) rfl g2 ?_
    rw [g3]
    simp +contextual only [x6,refs_len,ops_len,h_miss,h_skip,n48,List.length_append,↓U6,↓XP,XW0,XW1,reduceSub,reduceAdd,reduceMul,reduceEqDiff,reduceLeDiff,Nat.reduceBEq,reduceCtorEq,TYX]
    have e : ∀ t : List UInt8,opsD (p.ops ++ l) ++ [[.int .i64 7,.int .i64 0,.int .i64 1,.int .i64 0,.int .i64 0,.int .i64 0,.int .i64 0,.slc [],.int .i64 0,.str [],.str t,.int .i64 0,.int .i64 0]] = opsD (p.ops ++ (l ++ [{ op0 with k := 7,on := ⟨0,1,0⟩,text := t }])) := fun t => by simp [opsD,OpP.d,idsD,op0,id0]
    rw [e,wrap_succ (by omega)]
    exact ⟨ops_13,by omega,by omega,nx _ ⟨rfl,rfl,rfl,rfl,rfl,rfl,trivial⟩ _ (hl.add (by simp [op0]) (by simp [op0]) (by simp only [List.length_map,List.length_replicate]; omega))⟩
  · have hik : i = 7 := by omega
    subst hik
    clear hN
    simp +contextual only [x6,refs_len,ops_len,h_miss,h_skip,n48,show (((7 : Nat) : Int) < 7) = False from eq_false (by omega),↓U6,↓XP,XW0,XW1,reduceSub,reduceAdd,reduceMul,reduceEqDiff,reduceLeDiff,Nat.reduceBEq,reduceCtorEq,TYX]
    refine hE' _ _ _ (hE _ l ?_ hl)
    exact ⟨rfl,rfl,rfl,trivial⟩
end Go.Proofs.YtoeckfegggongaaGreatDoor
end
section
namespace Go.Proofs.YtoeckfegggongaaGreatDoor
open Go Go.Aw
theorem spA_5 {n : Nat} {p : Pt} {a how bb near : Int} {kk b4 b8 : Nat} {F : List D} {H : AH} {R : D → AH → Prop} (hm : around how 20 = 5) (hn : n ≤ 900) (hp : Sz n p) (n48 : b4 ≠ b8) (hk : kk < p.ops.length) (hF : Fr 278 [(1,.int .i64 a),(2,.int .i64 how),(3,.int .i64 bb),(4,.ptr b4 0),(8,.ptr b8 0),(11,.int .i64 (kk : Int)),(12,.int .i64 near)] F) (h : ∀ q,Sz (n + 14) q → R (.agg q.d) H) : xcode Tryz.prog x6_s38 F ((b8,.cells [.int .i64 0,.int .i64 0,.int .i64 0,.own [],.own [],.str []]) :: (b4,.cells [.int .i64 p.o,.int .i64 p.s,.int .i64 p.day,.own (refsD p.needs),.own (opsD p.ops),.str p.sl]) :: H) (retQ Tryz.prog [(.cell 8 26)] H.length R) := by
  obtain ⟨z,rfl⟩ : ∃ z : Nat → D,_ = z 0 :: .int .i64 a :: .int .i64 how :: .int .i64 bb :: .ptr b4 0 :: zz z 5 3 (.ptr b8 0 :: zz z 9 2 (.int .i64 (kk : Int) :: .int .i64 near :: zz z 13 265 [])) := hF.lit
  try dsimp only [zz,reduceAdd] at *
  clear hF
  have hbig := big_eq
  simp +contextual only [x6,refs_len,ops_len,h_miss,h_skip,Int.reduceEq,n48,↓U6,↓XP,XW0,XW1,reduceSub,reduceAdd,reduceMul,reduceEqDiff,reduceLeDiff,Nat.reduceBEq,reduceCtorEq,TYX]
  refine f_around (by omega) ?_
  rw [hm]
  simp +contextual only [x6,refs_len,ops_len,h_miss,h_skip,Int.reduceEq,n48,↓U6,↓XP,XW0,XW1,reduceSub,reduceAdd,reduceMul,reduceEqDiff,reduceLeDiff,Nat.reduceBEq,reduceCtorEq,TYX]
  intros
  rw [show opsD p.ops = opsD (p.ops ++ []) by rw [List.append_nil]]
  refine sp_L2 (i := 0) (l := []) n48 hn hp hk rfl ⟨rfl,rfl,rfl,rfl,rfl,rfl,trivial⟩ (fun F' l hF' hl => ?_) rfl
  obtain ⟨z,rfl⟩ : ∃ z : Nat → D,_ = zz z 0 4 (.ptr b4 0 :: zz z 5 3 (.ptr b8 0 :: zz z 9 269 [])) := hF'.lit
  try dsimp only [zz,reduceAdd] at *
  simp +contextual only [x6,refs_len,ops_len,h_miss,h_skip,Int.reduceEq,n48,↓U6,↓XP,XW0,XW1,reduceSub,reduceAdd,reduceMul,reduceEqDiff,reduceLeDiff,Nat.reduceBEq,reduceCtorEq,TYX]
  exact h { p with ops := p.ops ++ l } (hl.sz (by omega) hp)
theorem spA_16 {n : Nat} {p : Pt} {a how bb near : Int} {kk b4 b8 : Nat} {F : List D} {H : AH} {R : D → AH → Prop} (hm : around how 20 = 16) (hn : n ≤ 900) (hp : Sz n p) (n48 : b4 ≠ b8) (hk : kk < p.ops.length) (hF : Fr 278 [(1,.int .i64 a),(2,.int .i64 how),(3,.int .i64 bb),(4,.ptr b4 0),(8,.ptr b8 0),(11,.int .i64 (kk : Int)),(12,.int .i64 near)] F) (h : ∀ q,Sz (n + 14) q → R (.agg q.d) H) : xcode Tryz.prog x6_s38 F ((b8,.cells [.int .i64 0,.int .i64 0,.int .i64 0,.own [],.own [],.str []]) :: (b4,.cells [.int .i64 p.o,.int .i64 p.s,.int .i64 p.day,.own (refsD p.needs),.own (opsD p.ops),.str p.sl]) :: H) (retQ Tryz.prog [(.cell 8 26)] H.length R) := by
  obtain ⟨z,rfl⟩ : ∃ z : Nat → D,_ = z 0 :: .int .i64 a :: .int .i64 how :: .int .i64 bb :: .ptr b4 0 :: zz z 5 3 (.ptr b8 0 :: zz z 9 2 (.int .i64 (kk : Int) :: .int .i64 near :: zz z 13 265 [])) := hF.lit
  try dsimp only [zz,reduceAdd] at *
  clear hF
  have hbig := big_eq
  simp +contextual only [x6,refs_len,ops_len,h_miss,h_skip,Int.reduceEq,n48,↓U6,↓XP,XW0,XW1,reduceSub,reduceAdd,reduceMul,reduceEqDiff,reduceLeDiff,Nat.reduceBEq,reduceCtorEq,TYX]
  refine f_around (by omega) ?_
  rw [hm]
  simp +contextual only [x6,refs_len,ops_len,h_miss,h_skip,Int.reduceEq,n48,↓U6,↓XP,XW0,XW1,reduceSub,reduceAdd,reduceMul,reduceEqDiff,reduceLeDiff,Nat.reduceBEq,reduceCtorEq,TYX]
  intros
  rw [show opsD p.ops = opsD (p.ops ++ []) by rw [List.append_nil]]
  refine sp_L5 (i := 0) (l := []) n48 hn hp hk rfl ⟨rfl,rfl,rfl,rfl,rfl,rfl,trivial⟩ (fun F' l hF' hl => ?_) rfl
  obtain ⟨z,rfl⟩ : ∃ z : Nat → D,_ = zz z 0 4 (.ptr b4 0 :: zz z 5 3 (.ptr b8 0 :: zz z 9 269 [])) := hF'.lit
  try dsimp only [zz,reduceAdd] at *
  simp +contextual only [x6,refs_len,ops_len,h_miss,h_skip,Int.reduceEq,n48,↓U6,↓XP,XW0,XW1,reduceSub,reduceAdd,reduceMul,reduceEqDiff,reduceLeDiff,Nat.reduceBEq,reduceCtorEq,TYX]
  exact h { p with ops := p.ops ++ l } (hl.sz (by omega) hp)
theorem spA_18 {n : Nat} {p : Pt} {a how bb near : Int} {kk b4 b8 : Nat} {F : List D} {H : AH} {R : D → AH → Prop} (hm : around how 20 = 18) (hn : n ≤ 900) (hp : Sz n p) (n48 : b4 ≠ b8) (hk : kk < p.ops.length) (hF : Fr 278 [(1,.int .i64 a),(2,.int .i64 how),(3,.int .i64 bb),(4,.ptr b4 0),(8,.ptr b8 0),(11,.int .i64 (kk : Int)),(12,.int .i64 near)] F) (h : ∀ q,Sz (n + 14) q → R (.agg q.d) H) : xcode Tryz.prog x6_s38 F ((b8,.cells [.int .i64 0,.int .i64 0,.int .i64 0,.own [],.own [],.str []]) :: (b4,.cells [.int .i64 p.o,.int .i64 p.s,.int .i64 p.day,.own (refsD p.needs),.own (opsD p.ops),.str p.sl]) :: H) (retQ Tryz.prog [(.cell 8 26)] H.length R) := by
  obtain ⟨z,rfl⟩ : ∃ z : Nat → D,_ = z 0 :: .int .i64 a :: .int .i64 how :: .int .i64 bb :: .ptr b4 0 :: zz z 5 3 (.ptr b8 0 :: zz z 9 2 (.int .i64 (kk : Int) :: .int .i64 near :: zz z 13 265 [])) := hF.lit
  try dsimp only [zz,reduceAdd] at *
  clear hF
  have hbig := big_eq
  simp +contextual only [x6,refs_len,ops_len,h_miss,h_skip,Int.reduceEq,n48,↓U6,↓XP,XW0,XW1,reduceSub,reduceAdd,reduceMul,reduceEqDiff,reduceLeDiff,Nat.reduceBEq,reduceCtorEq,TYX]
  refine f_around (by omega) ?_
  rw [hm]
  simp +contextual only [x6,refs_len,ops_len,h_miss,h_skip,Int.reduceEq,n48,↓U6,↓XP,XW0,XW1,reduceSub,reduceAdd,reduceMul,reduceEqDiff,reduceLeDiff,Nat.reduceBEq,reduceCtorEq,TYX]
  refine fun _ => ⟨by omega,?_⟩
  refine sp_L18 (i := 0) (l := []) n48 rfl ⟨rfl,rfl,rfl,rfl,rfl,trivial⟩ (fun F' l hF' hl => ?_) rfl
  obtain ⟨z,rfl⟩ : ∃ z : Nat → D,_ = zz z 0 4 (.ptr b4 0 :: zz z 5 3 (.ptr b8 0 :: zz z 9 269 [])) := hF'.lit
  try dsimp only [zz,reduceAdd] at *
  simp +contextual only [x6,refs_len,ops_len,h_miss,h_skip,Int.reduceEq,n48,↓U6,↓XP,XW0,XW1,reduceSub,reduceAdd,reduceMul,reduceEqDiff,reduceLeDiff,Nat.reduceBEq,reduceCtorEq,TYX]
  exact h { p with needs := l } ⟨by have := hp.ops; simp only; omega,by simp only; omega,fun o ho => by have := hp.ids o ho; omega,hp.name,hp.text,hp.sl⟩
end Go.Proofs.YtoeckfegggongaaGreatDoor
end
section
namespace Go.Proofs.YtoeckfegggongaaGreatDoor
open Go Go.Aw
theorem f_spoil {n : Nat} {p : Pt} {a how bb : Int} {H : AH} {R : D → AH → Prop} (hn : n ≤ 900) (hp : Sz n p) (hne : 0 < p.ops.length) (h : ∀ q,Sz (n + 14) q → R (.agg q.d) H) : ACall Tryz.prog 6 [.agg p.d,.int .i64 a,.int .i64 how,.int .i64 bb] H R := by
  obtain ⟨r1,r2⟩ := around_range (n := how) (most := 20) (by omega)
  obtain ⟨m,hm⟩ : ∃ m,around how 20 = m := ⟨_,rfl⟩
  rw [hm] at r1 r2
  rcases (show m = 0 ∨ m = 1 ∨ m = 2 ∨ m = 3 ∨ m = 4 ∨ m = 5 ∨ m = 6 ∨ m = 7 ∨ m = 8 ∨ m = 9 ∨ m = 10 ∨ m = 11 ∨ m = 12 ∨ m = 13 ∨ m = 14 ∨ m = 15 ∨ m = 16 ∨ m = 17 ∨ m = 18 ∨ m = 19 by omega) with rfl | rfl | rfl | rfl | rfl | rfl | rfl | rfl | rfl | rfl | rfl | rfl | rfl | rfl | rfl | rfl | rfl | rfl | rfl | rfl
  · exact spA hn hp hne fun b4 b8 kk near F n48 k0 k1 hF => spA_0 hm hn hp n48 hF h
  · exact spA hn hp hne fun b4 b8 kk near F n48 k0 k1 hF => spA_1 hm hn hp n48 hF h
  · exact spA hn hp hne fun b4 b8 kk near F n48 k0 k1 hF => spA_2 hm hn hp n48 hF h
  · exact spA hn hp hne fun b4 b8 kk near F n48 k0 k1 hF => spA_3 hm hn hp n48 hF h
  · exact spA hn hp hne fun b4 b8 kk near F n48 k0 k1 hF => spA_4 hm hn hp n48 hF h
  · exact spA hn hp hne fun b4 b8 kk near F n48 k0 k1 hF => by obtain ⟨k,rfl⟩ := Int.eq_ofNat_of_zero_le k0; exact spA_5 hm hn hp n48 (by omega) hF h
  · exact spB hn hp hne fun b b4 b8 m kk near F n48 n4b n8b hk hF => spB_6 hm hn hp n48 n4b n8b hk hF h
  · exact spB hn hp hne fun b b4 b8 m kk near F n48 n4b n8b hk hF => spB_7 hm hn hp n48 n4b n8b hk hF h
  · exact spB hn hp hne fun b b4 b8 m kk near F n48 n4b n8b hk hF => spB_8 hm hn hp n48 n4b n8b hk hF h
  · exact spB hn hp hne fun b b4 b8 m kk near F n48 n4b n8b hk hF => spB_9 hm hn hp n48 n4b n8b hk hF h
  · exact spB hn hp hne fun b b4 b8 m kk near F n48 n4b n8b hk hF => spB_10 hm hn hp n48 n4b n8b hk hF h
  · exact spB hn hp hne fun b b4 b8 m kk near F n48 n4b n8b hk hF => spB_11 hm hn hp n48 n4b n8b hk hF h
  · exact spB hn hp hne fun b b4 b8 m kk near F n48 n4b n8b hk hF => spB_12 hm hn hp n48 n4b n8b hk hF h
  · exact spB hn hp hne fun b b4 b8 m kk near F n48 n4b n8b hk hF => spB_13 hm hn hp n48 n4b n8b hk hF h
  · exact spB hn hp hne fun b b4 b8 m kk near F n48 n4b n8b hk hF => spB_14 hm hn hp n48 n4b n8b hk hF h
  · exact spB hn hp hne fun b b4 b8 m kk near F n48 n4b n8b hk hF => spB_15 hm hn hp n48 n4b n8b hk hF h
  · exact spA hn hp hne fun b4 b8 kk near F n48 k0 k1 hF => by obtain ⟨k,rfl⟩ := Int.eq_ofNat_of_zero_le k0; exact spA_16 hm hn hp n48 (by omega) hF h
  · exact spA hn hp hne fun b4 b8 kk near F n48 k0 k1 hF => spA_17 hm hn hp n48 hF h
  · exact spA hn hp hne fun b4 b8 kk near F n48 k0 k1 hF => by obtain ⟨k,rfl⟩ := Int.eq_ofNat_of_zero_le k0; exact spA_18 hm hn hp n48 (by omega) hF h
  · exact spB hn hp hne fun b b4 b8 m kk near F n48 n4b n8b hk hF => spB_19 hm hn hp n48 n4b n8b hk hF h
end Go.Proofs.YtoeckfegggongaaGreatDoor
end
section
namespace Go.Proofs.YtoeckfegggongaaGreatDoor
open Go Go.Aw
def cls5 : List (List UInt8) := [[110],[110],[110],[118],[120]]
def cls2 : List (List UInt8) := [[110],[118]]
def stepRest (p : Pt) (sense other : Id3) (n : Int) (m : List Int) : Pt := withOp p (small sense other (n.tmod 11) (m.drop 1))
def step (x : Gs) (seen : List Bool) (p : Pt) (m : List Int) : Pt :=
  let entries := visible x seen p 1
  let senses := visible x seen p 2
  let n := atOf m 0 24
  if senses.length = 0 ∨ n ≤ 5 then
    meaning (withOp p { op0 with k := 1,name := cls5.getD (atN m 1 5) [],text := heads8.getD (atN m 2 8) [] }) (nextId p) (m.drop 3)
  else
    let entry := entries.getD (atN m 1 entries.length) default
    let sense := senses.getD (atN m 1 senses.length) default
    let other := senses.getD (atN m 2 senses.length) default
    if n = 6 then meaning p entry (m.drop 2)
    else if n = 7 then meaning p sense (m.drop 2)
    else if n = 8 ∨ n = 9 then quoted x seen p sense (m.drop 2)
    else if n = 10 then divided p entry sense (m.drop 2)
    else if n = 11 then (if other = sense then stepRest p sense other n m else withOp p { op0 with k := 17,on := sense,to := other })
    else if n = 12 then
      let l := splits x seen p
      if l.length = 0 then stepRest p sense other n m else
        let o := l.getD (atN m 3 l.length) default
        withOp p { op0 with k := 18,on := sense,to := o.on,ids := [o.ids.getD (atN m 4 o.ids.length) default] }
    else if n = 13 then
      if atOf m 2 2 = 0 then withOp p { op0 with k := 5,on := entry,text := heads8.getD (atN m 3 8) [] }
      else withOp p { op0 with k := 6,on := entry,name := cls2.getD (atN m 3 2) [] }
    else if n = 14 then
      let l := visible x seen p 3
      if l.length = 0 then stepRest p sense other n m else
        let from_ := 600000 + 500 * atOf m 3 60
        withOp p { op0 with k := 11,on := l.getD (atN m 2 l.length) default,a := from_,b := from_ + 99 }
    else stepRest p sense other n m
def lastTo (x : Gs) (office : Int) : Nat → Int
  | 0 => -1
  | i + 1 => if (x.l.getD i default).o = office then i else lastTo x office i
def last (x : Gs) (office : Int) : Int := lastTo x office x.l.length
structure Ns where
  p : Pt
  seen : List Bool
def seenWith (x : Gs) (seen : List Bool) (k : Nat) : List Bool := (List.range seen.length).map fun i => if i = k then true else if i < k then seen.getD i false || (x.past.getD k []).getD i false else seen.getD i false
def nextRound (x : Gs) (o : Int) (m : List Int) (q : Nat) (s : Ns) : Ns :=
  let k := last x q
  if k < 0 ∨ ((q : Int) ≠ o ∧ atOf m (1 + q) 4 = 1) then s else
    let pk := x.l.getD k.toNat default
    let p1 := { s.p with day := max s.p.day pk.day }
    ⟨if (q : Int) = o then { p1 with s := pk.s + 1 } else { p1 with needs := p1.needs ++ [⟨q,pk.s⟩] },seenWith x s.seen k.toNat⟩
def nextRounds (x : Gs) (o : Int) (m : List Int) : Nat → Ns
  | 0 => ⟨{ pt0 with o := o,s := 1,day := 1 },List.replicate x.l.length false⟩
  | q + 1 => nextRound x o m q (nextRounds x o m q)
def nextSteps (x : Gs) (seen : List Bool) (p : Pt) (m : List Int) : Nat → Pt
  | 0 => p
  | i + 1 => step x seen (nextSteps x seen p m i) (m.drop (6 + 13 * i))
def next (x : Gs) (offices : Nat) (m : List Int) : Gs :=
  let o := atOf m 0 offices
  let s := nextRounds x o m offices
  let p := nextSteps x s.seen { s.p with day := s.p.day + atOf m 4 4 } m (1 + atN m 5 2)
  ⟨x.l ++ [p],x.past ++ [s.seen]⟩
def known (l : List Pt) (office seq : Int) : Bool := l.any fun p => decide (p.o = office) && decide (p.s = seq)
def ready (l : List Pt) (p : Pt) : Bool := p.needs.all (fun r => known l r.o r.s) && (decide (p.s = 1) || known l p.o (p.s - 1))
def better (l : List Pt) (out : List Pt) (i : Nat) (best : Int) : Bool :=
  let p := l.getD i default
  ready out p && !known out p.o p.s && (decide (best < 0) || decide (p.o < (l.getD best.toNat default).o) || (decide (p.o = (l.getD best.toNat default).o) && decide (p.s < (l.getD best.toNat default).s)))
def bestTo (l : List Pt) (out : List Pt) : Nat → Int
  | 0 => -1
  | i + 1 => if better l out i (bestTo l out i) = true then i else bestTo l out i
def orderedTo (l : List Pt) : Nat → List Pt × Bool
  | 0 => ([],true)
  | n + 1 =>
    let s := orderedTo l n
    if s.2 = true then (if bestTo l s.1 l.length < 0 then (s.1,false) else (s.1 ++ [l.getD (bestTo l s.1 l.length).toNat default],true)) else s
def ordered (l : List Pt) : List Pt := (orderedTo l l.length).1
def patchesTo (l : List Int) (offices : Nat) : Nat → Gs
  | 0 => ⟨[],[]⟩
  | i + 1 => next (patchesTo l offices i) offices (l.drop (2 + 32 * i))
def patches (l : List Int) : List Pt := ordered (patchesTo l (2 + atN l 1 2) (2 + atN l 0 8)).l
end Go.Proofs.YtoeckfegggongaaGreatDoor
end
section
namespace Go.Proofs.YtoeckfegggongaaGreatDoor
open Go Go.Aw
def Gs.d (x : Gs) : List D := [.slc (ptsD x.l),.slc (pastD x.past)]
theorem visOne_len {p : Pt} {kind : Int} {ok : Bool} : ∀ k,(upto (visOps p kind ok) k).length ≤ k := fun k => by
  have := upto_len (f := visOps p kind ok) (c := 1) (fun k => by unfold visOps; split <;> simp) k
  omega
theorem visTo_len {x : Gs} {seen : List Bool} {kind : Int} (ho : ∀ q ∈ x.l,q.ops.length ≤ 1000) (i : Nat) : (upto (fun i => visOne (x.l.getD i default) kind (seen.getD i false)) i).length ≤ 1000 * i := by
  have := upto_len (f := fun i => visOne (x.l.getD i default) kind (seen.getD i false)) (c := 1000) (fun k => by
    have h1 := visOne_len (p := x.l.getD k default) (kind := kind) (ok := seen.getD k false) (x.l.getD k default).ops.length
    have h2 : (x.l.getD k default).ops.length ≤ 1000 := getD_all (p := fun q : Pt => q.ops.length ≤ 1000) ho (by decide) k
    unfold visOne
    omega) i
  omega
theorem f_visible {x : Gs} {seen : List Bool} {p : Pt} {kind : Int} {H : AH} {R : D → AH → Prop} (hs : x.l.length ≤ seen.length) (hb : x.l.length ≤ 100) (ho : ∀ q ∈ x.l,q.ops.length ≤ 1000) (hp : p.ops.length ≤ 1000) (h : R (.own (idsD (visible x seen p kind))) H) : ACall Tryz.prog 82 [.agg x.d,.slc (boolsD seen),.agg p.d,.int .i64 kind] H R := by
  refine b82 fun hf => ?_
  have hbig := big_eq
  have hx : x.d = [.slc (ptsD x.l),.slc (pastD x.past)] := rfl
  have hd := @dE p
  simp +contextual only [x82,hx,hd,ops_len,pts_len,↓U82,↓XP,XW0,XW1,reduceSub,reduceAdd,reduceMul,reduceEqDiff,reduceLeDiff,Nat.reduceBEq,reduceCtorEq,TYX]
  rintro b1 h1 b2 ⟨n12,h2⟩
  simp only [← hx,← hd]
  refine XW.loopK hm (fun F H' => ∃ (i : Nat),i ≤ x.l.length ∧ Fr 91 [(1,.slc (boolsD seen)),(3,.int .i64 kind),(4,.ptr b1 0),(6,.ptr b2 0),(9,.own (idsD (upto (fun i => visOne (x.l.getD i default) kind (seen.getD i false)) i))),(10,.int .i64 i)] F ∧ ((b2,AO.cells p.d) :: (b1,AO.cells x.d) :: H) = H') (fun F H => match F.getD 10 .any with | .int _ n' => x.l.length - n'.toNat | _ => 0) ⟨0,by omega,⟨rfl,rfl,rfl,rfl,rfl,rfl,rfl,trivial⟩,rfl⟩ ?_
  rintro _ _ ⟨i,hi,hF,rfl⟩ K hN hE hR
  obtain ⟨z,rfl⟩ : ∃ z : Nat → D,_ = z 0 :: .slc (boolsD seen) :: z 2 :: .int .i64 kind :: .ptr b1 0 :: z 5 :: .ptr b2 0 :: zz z 7 2 (.own (idsD (upto (fun i => visOne (x.l.getD i default) kind (seen.getD i false)) i)) :: .int .i64 i :: zz z 11 80 []) := hF.lit
  try dsimp only [zz,reduceAdd] at *
  clear hF
  have hv := visTo_len (x := x) (seen := seen) (kind := kind) ho i
  by_cases hlt : i < x.l.length
  · have nx : ∀ F',Fr 91 [(1,.slc (boolsD seen)),(3,.int .i64 kind),(4,.ptr b1 0),(6,.ptr b2 0),(9,.own (idsD (upto (fun i => visOne (x.l.getD i default) kind (seen.getD i false)) (i + 1)))),(10,.int .i64 ((i + 1 : Nat) : Int))] F' → K .normal F' ((b2,AO.cells p.d) :: (b1,AO.cells x.d) :: H) := fun F' hF' => hN _ _ ⟨i + 1,hlt,hF',(back_0 rfl).symm⟩ (by
      rw [List.getD_eq_getElem?_getD,hF'.2.2.2.2.2.2.1]
      simp only [List.getD_cons_succ,List.getD_cons_zero,Option.getD_some]
      omega)
    clear hN hE hR
    have q1 := pts_get hlt
    have q2 := bools_get (l := seen) (i := i) (by omega)
    have hqo : (x.l.getD i default).ops.length ≤ 1000 := getD_all (p := fun q : Pt => q.ops.length ≤ 1000) ho (by decide) i
    have hun : upto (fun i => visOne (x.l.getD i default) kind (seen.getD i false)) (i + 1) = upto (fun i => visOne (x.l.getD i default) kind (seen.getD i false)) i ++ visOne (x.l.getD i default) kind (seen.getD i false) := rfl
    rw [hun] at nx
    generalize upto (fun i => visOne (x.l.getD i default) kind (seen.getD i false)) i = ac at nx hv
    generalize x.l.getD i default = q at q1 hqo nx
    generalize seen.getD i false = ok at q2 nx
    have hq : q.d = [.int .i64 q.o,.int .i64 q.s,.int .i64 q.day,.slc (refsD q.needs),.slc (opsD q.ops),.str q.sl] := rfl
    simp +contextual only [hx,hd,ops_len,pts_len,h_miss,h_skip,n12,wrap_succ (show i ≤ big by omega),q1,q2,hq,↓U82,↓XP,XW0,XW1,reduceSub,reduceAdd,reduceMul,reduceEqDiff,reduceLeDiff,Nat.reduceBEq,reduceCtorEq,TYX]
    refine fun _ => ⟨fun _ => ?_,fun hge => absurd (by omega) hge⟩
    simp only [← hx,← hd]
    refine XW.loopK hm (fun F H' => ∃ (k : Nat),k ≤ q.ops.length ∧ Fr 91 [(1,.slc (boolsD seen)),(3,.int .i64 kind),(4,.ptr b1 0),(6,.ptr b2 0),(9,.own (idsD (ac ++ upto (visOps q kind ok) k))),(10,.int .i64 i),(11,.int .i64 k)] F ∧ ((b2,AO.cells p.d) :: (b1,AO.cells x.d) :: H) = H') (fun F H => match F.getD 11 .any with | .int _ n' => q.ops.length - n'.toNat | _ => 0) ⟨0,by omega,by rw [upto,List.append_nil]; exact ⟨rfl,rfl,rfl,rfl,rfl,rfl,rfl,rfl,trivial⟩,rfl⟩ ?_
    rintro _ _ ⟨k,hk,hF,rfl⟩ K2 hN hE hR
    obtain ⟨z2,rfl⟩ : ∃ z2 : Nat → D,_ = (let z := z2; [z 0,.slc (boolsD seen),z 2,.int .i64 kind,.ptr b1 0,z 5,.ptr b2 0,z 7,z 8,.own (idsD (ac ++ upto (visOps q kind ok) k)),.int .i64 i,.int .i64 k,z 12,z 13,z 14,z 15,z 16,z 17,z 18,z 19,z 20,z 21,z 22,z 23,z 24,z 25,z 26,z 27,z 28,z 29,z 30,z 31,z 32,z 33,z 34,z 35,z 36,z 37,z 38,z 39,z 40,z 41,z 42,z 43,z 44,z 45,z 46,z 47,z 48,z 49,z 50,z 51,z 52,z 53,z 54,z 55,z 56,z 57,z 58,z 59,z 60,z 61,z 62,z 63,z 64,z 65,z 66,z 67,z 68,z 69,z 70,z 71,z 72,z 73,z 74,z 75,z 76,z 77,z 78,z 79,z 80,z 81,z 82,z 83,z 84,z 85,z 86,z 87,z 88,z 89,z 90]) := hF.lit
    clear hF
    have hv3 := visOne_len (p := q) (kind := kind) (ok := ok) k
    by_cases hlk : k < q.ops.length
    · have nx3 : ∀ F',Fr 91 [(1,.slc (boolsD seen)),(3,.int .i64 kind),(4,.ptr b1 0),(6,.ptr b2 0),(9,.own (idsD (ac ++ upto (visOps q kind ok) (k + 1)))),(10,.int .i64 i),(11,.int .i64 ((k + 1 : Nat) : Int))] F' → K2 .normal F' ((b2,AO.cells p.d) :: (b1,AO.cells x.d) :: H) := fun F' hF' => hN _ _ ⟨k + 1,hlk,hF',(back_0 rfl).symm⟩ (by
        rw [List.getD_eq_getElem?_getD,hF'.2.2.2.2.2.2.2.1]
        simp only [List.getD_cons_succ,List.getD_cons_zero,Option.getD_some]
        omega)
      clear hN hE hR nx
      have q3 := ops_get hlk
      have hu3 : upto (visOps q kind ok) (k + 1) = upto (visOps q kind ok) k ++ visOps q kind ok k := rfl
      rw [hu3] at nx3
      have ho3 : visOps q kind ok k = if ok = true ∧ (q.ops.getD k default).k = kind then [⟨q.o,q.s,k⟩] else [] := rfl
      rw [ho3] at nx3
      generalize q.ops.getD k default = o at q3 nx3
      have hod : o.d = [.int .i64 o.k,.int .i64 o.on.o,.int .i64 o.on.s,.int .i64 o.on.i,.int .i64 o.to.o,.int .i64 o.to.s,.int .i64 o.to.i,.slc (idsD o.ids),.int .i64 o.n,.str o.name,.str o.text,.int .i64 o.a,.int .i64 o.b] := rfl
      generalize upto (visOps q kind ok) k = ac3 at nx3 hv3
      have hac : (idsD (ac ++ ac3)).length ≤ 200000 := by rw [ids_len,List.length_append]; omega
      rcases ok with _ | _
      · simp +contextual only [hx,hd,ops_len,pts_len,h_miss,h_skip,n12,wrap_succ (show k ≤ big by omega),q1,q2,hq,q3,bools_len,↓U82,↓XP,XW0,XW1,reduceSub,reduceAdd,reduceMul,reduceEqDiff,reduceLeDiff,Nat.reduceBEq,reduceCtorEq,TYX]
        refine fun _ => ⟨by omega,fun _ => ⟨fun _ => ⟨by omega,?_⟩,fun hge => absurd (by omega) hge⟩⟩
        rw [if_neg (by simp),List.append_nil] at nx3
        exact nx3 _ ⟨rfl,rfl,rfl,rfl,rfl,rfl,rfl,rfl,trivial⟩
      · simp +contextual only [hx,hd,ops_len,pts_len,h_miss,h_skip,n12,wrap_succ (show k ≤ big by omega),q1,q2,hq,q3,hod,bools_len,↓U82,↓XP,XW0,XW1,reduceSub,reduceAdd,reduceMul,reduceEqDiff,reduceLeDiff,Nat.reduceBEq,reduceCtorEq,TYX]
        refine fun _ => ⟨by omega,fun _ => ⟨fun _ => ⟨by omega,by omega,fun _ => ⟨fun hk' => ⟨by omega,fun _ => ⟨by omega,fun _ => ⟨ids_3,by omega,?_⟩⟩⟩,fun hk' => ?_⟩⟩,fun hge => absurd (by omega) hge⟩⟩
        · rw [if_pos ⟨rfl,hk'⟩,← List.append_assoc,← ids_app] at nx3
          exact nx3 _ ⟨rfl,rfl,rfl,rfl,rfl,rfl,rfl,rfl,trivial⟩
        · rw [if_neg (fun hc => hk' hc.2),List.append_nil] at nx3
          exact nx3 _ ⟨rfl,rfl,rfl,rfl,rfl,rfl,rfl,rfl,trivial⟩
    · have hik : k = q.ops.length := by omega
      subst hik
      simp +contextual only [hx,hd,ops_len,pts_len,h_miss,h_skip,n12,q1,q2,hq,↓U82,↓XP,XW0,XW1,reduceSub,reduceAdd,reduceMul,reduceEqDiff,reduceLeDiff,Nat.reduceBEq,reduceCtorEq,TYX]
      refine fun _ => ⟨by omega,fun _ => hE _ _ _ ?_⟩
      clear hN hE hR
      simp +contextual only [hx,hd,ops_len,pts_len,h_miss,h_skip,n12,wrap_succ (show i ≤ big by omega),↓U82,↓XP,XW0,XW1,reduceSub,reduceAdd,reduceMul,reduceEqDiff,reduceLeDiff,Nat.reduceBEq,reduceCtorEq,TYX]
      exact nx _ ⟨rfl,rfl,rfl,rfl,rfl,rfl,rfl,trivial⟩
  · have hik : i = x.l.length := by omega
    subst hik
    clear hN
    simp +contextual only [hx,hd,ops_len,pts_len,h_miss,h_skip,n12,↓U82,↓XP,XW0,XW1,reduceSub,reduceAdd,reduceMul,reduceEqDiff,reduceLeDiff,Nat.reduceBEq,reduceCtorEq,TYX]
    refine fun _ => hE _ _ _ ?_
    clear hE hR
    have hv0 : visible x seen p kind = upto (fun i => visOne (x.l.getD i default) kind (seen.getD i false)) x.l.length ++ visOne p kind true := rfl
    rw [hv0] at h
    generalize upto (fun i => visOne (x.l.getD i default) kind (seen.getD i false)) x.l.length = ac at h hv ⊢
    simp +contextual only [hx,hd,ops_len,pts_len,h_miss,h_skip,n12,↓U82,↓XP,XW0,XW1,reduceSub,reduceAdd,reduceMul,reduceEqDiff,reduceLeDiff,Nat.reduceBEq,reduceCtorEq,TYX]
    simp only [← hx,← hd]
    refine XW.loopK hm (fun F H' => ∃ (k : Nat),k ≤ p.ops.length ∧ Fr 91 [(3,.int .i64 kind),(6,.ptr b2 0),(9,.own (idsD (ac ++ upto (visOps p kind true) k))),(12,.int .i64 k)] F ∧ ((b2,AO.cells p.d) :: (b1,AO.cells x.d) :: H) = H') (fun F H => match F.getD 12 .any with | .int _ n' => p.ops.length - n'.toNat | _ => 0) ⟨0,by omega,by rw [upto,List.append_nil]; exact ⟨rfl,rfl,rfl,rfl,rfl,trivial⟩,rfl⟩ ?_
    rintro _ _ ⟨k,hk,hF,rfl⟩ K hN hE hR
    obtain ⟨z,rfl⟩ : ∃ z : Nat → D,_ = zz z 0 3 (.int .i64 kind :: zz z 4 2 (.ptr b2 0 :: zz z 7 2 (.own (idsD (ac ++ upto (visOps p kind true) k)) :: zz z 10 2 (.int .i64 k :: zz z 13 78 [])))) := hF.lit
    try dsimp only [zz,reduceAdd] at *
    clear hF
    have hv3 := visOne_len (p := p) (kind := kind) (ok := true) k
    by_cases hlk : k < p.ops.length
    · have nx3 : ∀ F',Fr 91 [(3,.int .i64 kind),(6,.ptr b2 0),(9,.own (idsD (ac ++ upto (visOps p kind true) (k + 1)))),(12,.int .i64 ((k + 1 : Nat) : Int))] F' → K .normal F' ((b2,AO.cells p.d) :: (b1,AO.cells x.d) :: H) := fun F' hF' => hN _ _ ⟨k + 1,hlk,hF',(back_0 rfl).symm⟩ (by
        rw [List.getD_eq_getElem?_getD,hF'.2.2.2.2.1]
        simp only [List.getD_cons_succ,List.getD_cons_zero,Option.getD_some]
        omega)
      clear hN hE hR
      have q3 := ops_get hlk
      have hu3 : upto (visOps p kind true) (k + 1) = upto (visOps p kind true) k ++ visOps p kind true k := rfl
      rw [hu3] at nx3
      have ho3 : visOps p kind true k = if true = true ∧ (p.ops.getD k default).k = kind then [⟨p.o,p.s,k⟩] else [] := rfl
      rw [ho3] at nx3
      generalize p.ops.getD k default = o at q3 nx3
      have hod : o.d = [.int .i64 o.k,.int .i64 o.on.o,.int .i64 o.on.s,.int .i64 o.on.i,.int .i64 o.to.o,.int .i64 o.to.s,.int .i64 o.to.i,.slc (idsD o.ids),.int .i64 o.n,.str o.name,.str o.text,.int .i64 o.a,.int .i64 o.b] := rfl
      generalize upto (visOps p kind true) k = ac3 at nx3 hv3
      have hac : (idsD (ac ++ ac3)).length ≤ 200000 := by rw [ids_len,List.length_append]; omega
      simp +contextual only [hx,hd,ops_len,pts_len,h_miss,h_skip,n12,wrap_succ (show k ≤ big by omega),q3,hod,↓U82,↓XP,XW0,XW1,reduceSub,reduceAdd,reduceMul,reduceEqDiff,reduceLeDiff,Nat.reduceBEq,reduceCtorEq,TYX]
      refine fun _ => ⟨fun _ _ => ⟨fun hk' _ _ => ⟨ids_3,by omega,?_⟩,fun hk' => ?_⟩,fun hge => absurd (by omega) hge⟩
      · rw [if_pos ⟨rfl,hk'⟩,← List.append_assoc,← ids_app] at nx3
        exact nx3 _ ⟨rfl,rfl,rfl,rfl,rfl,trivial⟩
      · rw [if_neg (fun hc => hk' hc.2),List.append_nil] at nx3
        exact nx3 _ ⟨rfl,rfl,rfl,rfl,rfl,trivial⟩
    · have hik : k = p.ops.length := by omega
      subst hik
      simp +contextual only [hx,hd,ops_len,pts_len,h_miss,h_skip,n12,↓U82,↓XP,XW0,XW1,reduceSub,reduceAdd,reduceMul,reduceEqDiff,reduceLeDiff,Nat.reduceBEq,reduceCtorEq,TYX]
      refine fun _ => hE _ _ _ ?_
      clear hN hE hR
      simp +contextual only [hx,hd,ops_len,pts_len,h_miss,h_skip,n12,↓U82,↓XP,XW0,XW1,reduceSub,reduceAdd,reduceMul,reduceEqDiff,reduceLeDiff,Nat.reduceBEq,reduceCtorEq,TYX]
      exact h
end Go.Proofs.YtoeckfegggongaaGreatDoor
end
section
namespace Go.Proofs.YtoeckfegggongaaGreatDoor
open Go Go.Aw
theorem f_last {x : Gs} {q : Int} {H : AH} {R : D → AH → Prop} (hb : x.l.length ≤ 100) (h : R (.int .i64 (last x q)) H) : ACall Tryz.prog 72 [.agg x.d,.int .i64 q] H R := by
  refine b72 fun hf => ?_
  have hbig := big_eq
  have hx : x.d = [.slc (ptsD x.l),.slc (pastD x.past)] := rfl
  have w1 : IntKind.i64.wrap ((x.l.length : Int) - 1) = (x.l.length : Int) - 1 := wrap_id (by omega) (by omega)
  simp +contextual only [x72,hx,pts_len,w1,↓U72,↓XP,XW0,XW1,reduceSub,reduceAdd,reduceMul,reduceEqDiff,reduceLeDiff,Nat.reduceBEq,reduceCtorEq,TYX]
  rintro b1 h1
  simp only [← hx]
  refine fun _ => XW.loopK hm (fun F H' => ∃ (j : Nat),j ≤ x.l.length ∧ last x q = lastTo x q j ∧ Fr 23 [(1,.int .i64 q),(2,.ptr b1 0),(5,.int .i64 ((j : Int) - 1))] F ∧ ((b1,AO.cells x.d) :: H) = H') (fun F H => match F.getD 5 .any with | .int _ n' => (n' + 1).toNat | _ => 0) ⟨x.l.length,by omega,rfl,⟨rfl,rfl,rfl,rfl,trivial⟩,rfl⟩ ?_
  rintro _ _ ⟨j,hj,hl,hF,rfl⟩ K hN hE hR
  obtain ⟨z,rfl⟩ : ∃ z : Nat → D,_ = z 0 :: .int .i64 q :: .ptr b1 0 :: zz z 3 2 (.int .i64 ((j : Int) - 1) :: zz z 6 17 []) := hF.lit
  try dsimp only [zz,reduceAdd] at *
  clear hF
  rcases j with _ | j
  · clear hN hR
    have e0 : ((0 : Nat) : Int) - 1 = -1 := by omega
    have e1 : (0 ≤ (-1 : Int)) = False := by simp
    simp +contextual only [hx,pts_len,h_miss,h_skip,e0,e1,↓U72,↓XP,XW0,XW1,reduceSub,reduceAdd,reduceMul,reduceEqDiff,reduceLeDiff,Nat.reduceBEq,reduceCtorEq,TYX]
    refine hE _ _ _ ?_
    rw [hl] at h
    simp +contextual only [hx,pts_len,h_miss,h_skip,↓U72,↓XP,XW0,XW1,reduceSub,reduceAdd,reduceMul,reduceEqDiff,reduceLeDiff,Nat.reduceBEq,reduceCtorEq,TYX]
    exact h
  · have e0 : ((j + 1 : Nat) : Int) - 1 = (j : Int) := by omega
    have nx : (x.l.getD j default).o ≠ q → ∀ F',Fr 23 [(1,.int .i64 q),(2,.ptr b1 0),(5,.int .i64 ((j : Int) - 1))] F' → K .normal F' ((b1,AO.cells x.d) :: H) := fun hne F' hF' => hN _ _ ⟨j,by omega,by rw [hl]; simp only [lastTo,if_neg hne],hF',(back_0 rfl).symm⟩ (by
      rw [List.getD_eq_getElem?_getD,hF'.2.2.2.1]
      simp only [List.getD_cons_succ,List.getD_cons_zero,Option.getD_some]
      omega)
    rw [e0]
    clear hN hE
    have q1 := pts_get (l := x.l) (i := j) (by omega)
    have hl2 : (x.l.getD j default).o = q → last x q = (j : Int) := fun he => by rw [hl]; simp only [lastTo,if_pos he]
    generalize x.l.getD j default = e at q1 nx hl2
    have hq : e.d = [.int .i64 e.o,.int .i64 e.s,.int .i64 e.day,.slc (refsD e.needs),.slc (opsD e.ops),.str e.sl] := rfl
    have w2 : IntKind.i64.wrap ((j : Int) - 1) = (j : Int) - 1 := wrap_id (by omega) (by omega)
    simp +contextual only [hx,pts_len,h_miss,h_skip,q1,hq,w2,↓U72,↓XP,XW0,XW1,reduceSub,reduceAdd,reduceMul,reduceEqDiff,reduceLeDiff,Nat.reduceBEq,reduceCtorEq,TYX]
    refine fun _ => ⟨by omega,fun _ => ⟨fun he => hR _ _ ?_,fun hne => ?_⟩⟩
    · rw [hl2 he] at h
      simp +contextual only [hx,pts_len,h_miss,h_skip,↓U72,↓XP,XW0,XW1,reduceSub,reduceAdd,reduceMul,reduceEqDiff,reduceLeDiff,Nat.reduceBEq,reduceCtorEq,TYX]
      exact h
    · simp only [← hx]
      exact nx hne _ ⟨rfl,rfl,rfl,rfl,trivial⟩
def knownTo (l : List Pt) (o s : Int) (i : Nat) : Bool := (l.take i).any fun p => decide (p.o = o) && decide (p.s = s)
theorem knownTo_succ {l : List Pt} {o s : Int} {i : Nat} (h : i < l.length) : knownTo l o s (i + 1) = (knownTo l o s i || (decide ((l.getD i default).o = o) && decide ((l.getD i default).s = s))) := by
  unfold knownTo
  rw [List.take_add_one,List.any_append]
  simp [h]
theorem f_known {l : List Pt} {o s : Int} {H : AH} {R : D → AH → Prop} (h : R (.bool (known l o s)) H) : ACall Tryz.prog 75 [.slc (ptsD l),.int .i64 o,.int .i64 s] H R := by
  refine b75 fun hf => ?_
  have hbig := big_eq
  have hlen : l.length ≤ big := by have := hf.1; simpa only [fact,pts_len] using this
  simp +contextual only [x75,↓U75,↓XP,XW0,XW1,reduceSub,reduceAdd,reduceMul,reduceEqDiff,reduceLeDiff,Nat.reduceBEq,reduceCtorEq,TYX]
  refine XW.loopK hm (fun F H' => ∃ (i : Nat),i ≤ l.length ∧ knownTo l o s i = false ∧ Fr 30 [(0,.slc (ptsD l)),(1,.int .i64 o),(2,.int .i64 s),(7,.int .i64 i)] F ∧ H = H') (fun F H => match F.getD 7 .any with | .int _ n' => l.length - n'.toNat | _ => 0) ⟨0,by omega,rfl,⟨rfl,rfl,rfl,rfl,rfl,trivial⟩,rfl⟩ ?_
  rintro _ _ ⟨i,hi,hk,hF,rfl⟩ K hN hE hR
  obtain ⟨z,rfl⟩ : ∃ z : Nat → D,_ = .slc (ptsD l) :: .int .i64 o :: .int .i64 s :: zz z 3 4 (.int .i64 i :: zz z 8 22 []) := hF.lit
  try dsimp only [zz,reduceAdd] at *
  clear hF
  by_cases hlt : i < l.length
  · have hk1 := knownTo_succ (o := o) (s := s) hlt
    rw [hk,Bool.false_or] at hk1
    have nx : knownTo l o s (i + 1) = false → ∀ F',Fr 30 [(0,.slc (ptsD l)),(1,.int .i64 o),(2,.int .i64 s),(7,.int .i64 ((i + 1 : Nat) : Int))] F' → K .normal F' H := fun hk F' hF' => hN _ _ ⟨i + 1,hlt,hk,hF',(back_0 rfl).symm⟩ (by
      rw [List.getD_eq_getElem?_getD,hF'.2.2.2.2.1]
      simp only [List.getD_cons_succ,List.getD_cons_zero,Option.getD_some]
      omega)
    have hkt : knownTo l o s (i + 1) = true → known l o s = true := fun h => by
      unfold knownTo at h
      unfold known
      rw [List.any_eq_true] at h ⊢
      obtain ⟨x,h1,h2⟩ := h
      exact ⟨x,List.mem_of_mem_take h1,h2⟩
    rw [hk1] at nx hkt
    clear hN hE
    have q1 := pts_get hlt
    generalize l.getD i default = e at q1 nx hkt
    have hq : e.d = [.int .i64 e.o,.int .i64 e.s,.int .i64 e.day,.slc (refsD e.needs),.slc (opsD e.ops),.str e.sl] := rfl
    simp +contextual only [pts_len,h_miss,h_skip,q1,hq,wrap_succ (show i ≤ big by omega),↓U75,↓XP,XW0,XW1,reduceSub,reduceAdd,reduceMul,reduceEqDiff,reduceLeDiff,Nat.reduceBEq,reduceCtorEq,TYX]
    refine fun _ => ⟨fun _ _ => ⟨fun ho _ => ⟨fun hs => hR _ _ ?_,fun hs => ?_⟩,fun ho => ?_⟩,fun hge => absurd (by omega) hge⟩
    · rw [hkt (by simp [ho,hs])] at h
      simp +contextual only [pts_len,h_miss,h_skip,↓U75,↓XP,XW0,XW1,reduceSub,reduceAdd,reduceMul,reduceEqDiff,reduceLeDiff,Nat.reduceBEq,reduceCtorEq,TYX]
      exact h
    · exact nx (by simp [hs]) _ ⟨rfl,rfl,rfl,rfl,rfl,trivial⟩
    · exact nx (by simp [ho]) _ ⟨rfl,rfl,rfl,rfl,rfl,trivial⟩
  · have hik : i = l.length := by omega
    subst hik
    clear hN
    simp +contextual only [pts_len,h_miss,h_skip,↓U75,↓XP,XW0,XW1,reduceSub,reduceAdd,reduceMul,reduceEqDiff,reduceLeDiff,Nat.reduceBEq,reduceCtorEq,TYX]
    refine fun _ => hE _ _ _ ?_
    rw [show known l o s = false by unfold knownTo at hk; rw [List.take_length] at hk; exact hk] at h
    simp +contextual only [pts_len,h_miss,h_skip,↓U75,↓XP,XW0,XW1,reduceSub,reduceAdd,reduceMul,reduceEqDiff,reduceLeDiff,Nat.reduceBEq,reduceCtorEq,TYX]
    exact h
def readyTo (l : List Pt) (p : Pt) (i : Nat) : Bool := (p.needs.take i).all fun r => known l r.o r.s
theorem readyTo_succ {l : List Pt} {p : Pt} {i : Nat} (h : i < p.needs.length) : readyTo l p (i + 1) = (readyTo l p i && known l (p.needs.getD i default).o (p.needs.getD i default).s) := by
  unfold readyTo
  rw [List.take_add_one,List.all_append]
  simp [h]
theorem f_ready {l : List Pt} {p : Pt} {H : AH} {R : D → AH → Prop} (hp : 0 ≤ p.s) (hp' : p.s ≤ 1000000) (hn : p.needs.length ≤ 1000000) (h : R (.bool (ready l p)) H) : ACall Tryz.prog 74 [.slc (ptsD l),.agg p.d] H R := by
  refine b74 fun hf => ?_
  have hbig := big_eq
  have hd := @dE p
  have wm : IntKind.i64.wrap (p.s - 1) = p.s - 1 := wrap_id (by omega) (by omega)
  simp +contextual only [x74,hd,↓U74,↓XP,XW0,XW1,reduceSub,reduceAdd,reduceMul,reduceEqDiff,reduceLeDiff,Nat.reduceBEq,reduceCtorEq,TYX]
  rintro b1 h1
  simp only [← hd]
  refine XW.loopK hm (fun F H' => ∃ (i : Nat),i ≤ p.needs.length ∧ readyTo l p i = true ∧ Fr 40 [(0,.slc (ptsD l)),(3,.ptr b1 0),(5,.int .i64 i)] F ∧ ((b1,AO.cells p.d) :: H) = H') (fun F H => match F.getD 5 .any with | .int _ n' => p.needs.length - n'.toNat | _ => 0) ⟨0,by omega,rfl,⟨rfl,rfl,rfl,rfl,trivial⟩,rfl⟩ ?_
  rintro _ _ ⟨i,hi,hk,hF,rfl⟩ K hN hE hR
  obtain ⟨z,rfl⟩ : ∃ z : Nat → D,_ = .slc (ptsD l) :: zz z 1 2 (.ptr b1 0 :: z 4 :: .int .i64 i :: zz z 6 34 []) := hF.lit
  try dsimp only [zz,reduceAdd] at *
  clear hF
  by_cases hlt : i < p.needs.length
  · have hk1 := readyTo_succ (l := l) hlt
    rw [hk,Bool.true_and] at hk1
    have nx : readyTo l p (i + 1) = true → ∀ F',Fr 40 [(0,.slc (ptsD l)),(3,.ptr b1 0),(5,.int .i64 ((i + 1 : Nat) : Int))] F' → K .normal F' ((b1,AO.cells p.d) :: H) := fun hk F' hF' => hN _ _ ⟨i + 1,hlt,hk,hF',(back_0 rfl).symm⟩ (by
      rw [List.getD_eq_getElem?_getD,hF'.2.2.2.1]
      simp only [List.getD_cons_succ,List.getD_cons_zero,Option.getD_some]
      omega)
    have hkt : readyTo l p (i + 1) = false → ready l p = false := fun h => by
      unfold readyTo at h
      unfold ready
      rw [Bool.and_eq_false_iff]
      left
      rw [List.all_eq_false] at h ⊢
      obtain ⟨x,h1,h2⟩ := h
      exact ⟨x,List.mem_of_mem_take h1,h2⟩
    rw [hk1] at nx hkt
    clear hN hE
    have q1 := refs_get hlt
    generalize p.needs.getD i default = e at q1 nx hkt
    have hq : e.d = [.int .i64 e.o,.int .i64 e.s] := rfl
    simp +contextual only [hd,refs_len,h_miss,h_skip,q1,hq,wrap_succ (show i ≤ big by omega),↓U74,↓XP,XW0,XW1,reduceSub,reduceAdd,reduceMul,reduceEqDiff,reduceLeDiff,Nat.reduceBEq,reduceCtorEq,TYX]
    refine fun _ => ⟨fun _ _ _ => ⟨_,f_known ⟨rfl,rfl⟩,?_⟩,fun hge => absurd (by omega) hge⟩
    rcases hkk : known l e.o e.s with _ | _
    · rw [hkt hkk] at h
      simp +contextual only [hd,refs_len,h_miss,h_skip,↓U74,↓XP,XW0,XW1,reduceSub,reduceAdd,reduceMul,reduceEqDiff,reduceLeDiff,Nat.reduceBEq,reduceCtorEq,TYX]
      refine hR _ _ ?_
      simp +contextual only [hd,refs_len,h_miss,h_skip,↓U74,↓XP,XW0,XW1,reduceSub,reduceAdd,reduceMul,reduceEqDiff,reduceLeDiff,Nat.reduceBEq,reduceCtorEq,TYX]
      exact h
    · simp +contextual only [hd,refs_len,h_miss,h_skip,wrap_succ (show i ≤ big by omega),↓U74,↓XP,XW0,XW1,reduceSub,reduceAdd,reduceMul,reduceEqDiff,reduceLeDiff,Nat.reduceBEq,reduceCtorEq,TYX]
      simp only [← hd]
      exact nx hkk _ ⟨rfl,rfl,rfl,rfl,trivial⟩
  · have hik : i = p.needs.length := by omega
    subst hik
    clear hN
    simp +contextual only [hd,refs_len,h_miss,h_skip,↓U74,↓XP,XW0,XW1,reduceSub,reduceAdd,reduceMul,reduceEqDiff,reduceLeDiff,Nat.reduceBEq,reduceCtorEq,TYX]
    refine fun _ => hE _ _ _ ?_
    have hr : ready l p = (decide (p.s = 1) || known l p.o (p.s - 1)) := by
      unfold readyTo at hk
      rw [List.take_length] at hk
      unfold ready
      rw [hk,Bool.true_and]
    rw [hr] at h
    simp +contextual only [hd,refs_len,h_miss,h_skip,wm,↓U74,↓XP,XW0,XW1,reduceSub,reduceAdd,reduceMul,reduceEqDiff,reduceLeDiff,Nat.reduceBEq,reduceCtorEq,TYX]
    refine fun _ => ⟨fun h1 => ?_,fun h1 _ => f_known ?_⟩
    · simp only [h1,decide_true,Bool.true_or] at h
      exact h
    · simp only [h1,decide_false,Bool.false_or] at h
      simp +contextual only [hd,refs_len,h_miss,h_skip,↓U74,↓XP,XW0,XW1,reduceSub,reduceAdd,reduceMul,reduceEqDiff,reduceLeDiff,Nat.reduceBEq,reduceCtorEq,TYX]
      exact h
end Go.Proofs.YtoeckfegggongaaGreatDoor
end
section
namespace Go.Proofs.YtoeckfegggongaaGreatDoor
open Go Go.Aw
def seenP (seen past : List Bool) (i : Nat) : List Bool := (List.range seen.length).map fun j => if j < i then seen.getD j false || past.getD j false else seen.getD j false
theorem seenP_len {seen past : List Bool} {i : Nat} : (seenP seen past i).length = seen.length := by simp [seenP]
theorem seenP_zero {seen past : List Bool} : seenP seen past 0 = seen := by
  refine List.ext_getElem (by simp [seenP]) fun j h1 h2 => ?_
  simp [seenP,h2]
theorem seenP_get {seen past : List Bool} {i : Nat} (h : i < seen.length) : (seenP seen past i).getD i false = seen.getD i false := by
  simp [seenP,h]
theorem seenP_succ {seen past : List Bool} {i : Nat} (h : i < seen.length) : (seenP seen past i).set i (seen.getD i false || past.getD i false) = seenP seen past (i + 1) := by
  refine List.ext_getElem (by simp [seenP]) fun j h1 h2 => ?_
  rw [List.getElem_set]
  simp only [seenP,List.getElem_map,List.getElem_range]
  split
  · rename_i e; subst e; rw [if_pos (by omega)]
  · rename_i e
    by_cases hj : j < i
    · rw [if_pos hj,if_pos (by omega)]
    · rw [if_neg hj,if_neg (by omega)]
theorem seenP_end {x : Gs} {seen : List Bool} {k : Nat} (h : k < seen.length) : (seenP seen (x.past.getD k []) k).set k true = seenWith x seen k := by
  refine List.ext_getElem (by simp [seenP,seenWith]) fun j h1 h2 => ?_
  rw [List.getElem_set]
  simp only [seenP,seenWith,List.getElem_map,List.getElem_range]
  split
  · rename_i e; subst e; rw [if_pos rfl]
  · rename_i e; rw [if_neg (Ne.symm e)]
theorem seenWith_len {x : Gs} {seen : List Bool} {k : Nat} : (seenWith x seen k).length = seen.length := by simp [seenWith]
theorem bl_get {l : List Bool} {i : Nat} (h : i < l.length) : (l.map D.bool)[i]? = some (.bool (l.getD i false)) := by simp [h]
theorem bl_set {l : List Bool} {i : Nat} {b : Bool} : (l.map D.bool).set i (.bool b) = (l.set i b).map D.bool := List.map_set.symm
theorem lastTo_range {x : Gs} {q : Int} : ∀ i,-1 ≤ lastTo x q i ∧ lastTo x q i < i
  | 0 => ⟨by simp [lastTo],by simp [lastTo]⟩
  | i + 1 => by
    have := lastTo_range (x := x) (q := q) i
    unfold lastTo
    split
    · omega
    · omega
def Pt.dn (p : Pt) : List D := [.int .i64 p.o,.int .i64 p.s,.int .i64 p.day,.own (refsD p.needs),.slc [],.str []]
structure Nx (b3 b6 b8 b9 : Nat) : Prop where
  n39 : b3 ≠ b9
  n38 : b3 ≠ b8
  n36 : b3 ≠ b6
  n89 : b8 ≠ b9
  n69 : b6 ≠ b9
  n68 : b6 ≠ b8
theorem n_inner {x : Gs} {offices n k b3 b6 b8 b9 : Nat} {o q : Int} {m : List Int} {seen : List Bool} {pc : List D} {c6 : AO} {H : AH} {Q : AQ} {F : List D} (nx : Nx b3 b6 b8 b9) (hk : k < x.l.length) (hb : x.l.length ≤ 100) (hn : n = x.l.length) (hs : seen.length = n) (hp : x.past.length = x.l.length) (hpk : (x.past.getD k []).length = k)
    (hF : Fr 139 [(1,.int .i64 offices),(2,.slc (ints m)),(3,.ptr b3 0),(6,.ptr b6 0),(7,.int .i64 o),(8,.ptr b8 0),(9,.hsl b9 n),(10,.int .i64 q),(11,.int .i64 (k : Int)),(12,.int .i64 0)] F) (hE : ∀ F',Fr 139 [(1,.int .i64 offices),(2,.slc (ints m)),(3,.ptr b3 0),(6,.ptr b6 0),(7,.int .i64 o),(8,.ptr b8 0),(9,.hsl b9 n),(10,.int .i64 q),(11,.int .i64 (k : Int))] F' → Q (.exit 2) F' ((b9,.cells ((seenP seen (x.past.getD k []) k).map D.bool)) :: (b8,AO.cells pc) :: (b6,c6) :: (b3,AO.cells [.own (ptsD x.l),.own (pastD x.past)]) :: H)) :
    XW Tryz.prog x43_L2 F ((b9,.cells (seen.map D.bool)) :: (b8,AO.cells pc) :: (b6,c6) :: (b3,AO.cells [.own (ptsD x.l),.own (pastD x.past)]) :: H) Q := by
  have hbig := big_eq
  obtain ⟨n39,n38,n36,n89,n69,n68⟩ := nx
  refine XW.loopK hm (fun F H' => ∃ (i : Nat),i ≤ k ∧ Fr 139 [(1,.int .i64 offices),(2,.slc (ints m)),(3,.ptr b3 0),(6,.ptr b6 0),(7,.int .i64 o),(8,.ptr b8 0),(9,.hsl b9 n),(10,.int .i64 q),(11,.int .i64 (k : Int)),(12,.int .i64 i)] F ∧ (b9,AO.cells ((seenP seen (x.past.getD k []) i).map D.bool)) :: (b8,AO.cells pc) :: (b6,c6) :: (b3,AO.cells [.own (ptsD x.l),.own (pastD x.past)]) :: H = H') (fun F H => match F.getD 12 .any with | .int _ n' => k - n'.toNat | _ => 0) ⟨0,by omega,hF,by rw [seenP_zero]⟩ ?_
  rintro _ _ ⟨i,hi,hF,rfl⟩ K hN hE' hR
  obtain ⟨z,rfl⟩ : ∃ z : Nat → D,_ = z 0 :: .int .i64 offices :: .slc (ints m) :: .ptr b3 0 :: zz z 4 2 (.ptr b6 0 :: .int .i64 o :: .ptr b8 0 :: .hsl b9 n :: .int .i64 q :: .int .i64 (k : Int) :: .int .i64 i :: zz z 13 126 []) := hF.lit
  try dsimp only [zz,reduceAdd] at *
  clear hF
  by_cases hlt : i < k
  · have nx : ∀ F',Fr 139 [(1,.int .i64 offices),(2,.slc (ints m)),(3,.ptr b3 0),(6,.ptr b6 0),(7,.int .i64 o),(8,.ptr b8 0),(9,.hsl b9 n),(10,.int .i64 q),(11,.int .i64 (k : Int)),(12,.int .i64 ((i + 1 : Nat) : Int))] F' → K .normal F' ((b9,.cells ((seenP seen (x.past.getD k []) (i + 1)).map D.bool)) :: (b8,AO.cells pc) :: (b6,c6) :: (b3,AO.cells [.own (ptsD x.l),.own (pastD x.past)]) :: H) := fun F' hF' => hN _ _ ⟨i + 1,hlt,hF',(back_0 rfl).symm⟩ (by
      rw [List.getD_eq_getElem?_getD,hF'.2.2.2.2.2.2.2.2.2.2.1]
      simp only [List.getD_cons_succ,List.getD_cons_zero,Option.getD_some]
      omega)
    clear hN hE' hR hE
    have hl9 := seenP_len (seen := seen) (past := x.past.getD k []) (i := i)
    rw [← seenP_succ (by omega)] at nx
    have q1 := bl_get (l := seenP seen (x.past.getD k []) i) (i := i) (by omega)
    rw [seenP_get (by omega)] at q1
    have q2 := past_get (l := x.past) (i := k) (by omega)
    have q3 := bools_get (l := x.past.getD k []) (i := i) (by omega)
    have hw : (seenP seen (x.past.getD k []) i).length = n := by omega
    generalize seenP seen (x.past.getD k []) i = s9 at q1 nx hl9 hw ⊢
    generalize (x.past.getD k []).getD i false = pb at q3 nx
    generalize seen.getD i false = sb at q1 nx
    rcases sb with _ | _
    · simp +contextual only [Nat.mul_one,bl_set,past_len,bools_len,h_miss,h_skip,n39,n38,n36,n89,n69,n68,q1,q2,q3,x43,wrap_succ (show i ≤ big by omega),↓U43,↓XP,XW0,XW1,reduceSub,reduceAdd,reduceMul,reduceEqDiff,reduceLeDiff,Nat.reduceBEq,reduceCtorEq,TYX]
      rw [Bool.false_or] at nx
      exact ⟨fun _ => ⟨by omega,fun _ => ⟨by omega,fun _ => ⟨by omega,by omega,by omega,nx _ ⟨rfl,rfl,rfl,rfl,rfl,rfl,rfl,rfl,rfl,rfl,rfl,trivial⟩⟩⟩⟩,fun hge => absurd (by omega) hge⟩
    · simp +contextual only [Nat.mul_one,bl_set,past_len,bools_len,h_miss,h_skip,n39,n38,n36,n89,n69,n68,q1,q2,q3,x43,wrap_succ (show i ≤ big by omega),↓U43,↓XP,XW0,XW1,reduceSub,reduceAdd,reduceMul,reduceEqDiff,reduceLeDiff,Nat.reduceBEq,reduceCtorEq,TYX]
      rw [Bool.true_or] at nx
      exact ⟨fun _ => ⟨by omega,by omega,by omega,nx _ ⟨rfl,rfl,rfl,rfl,rfl,rfl,rfl,rfl,rfl,rfl,rfl,trivial⟩⟩,fun hge => absurd (by omega) hge⟩
  · have hik : i = k := by omega
    subst hik
    clear hN
    simp +contextual only [Nat.mul_one,bl_set,past_len,bools_len,h_miss,h_skip,n39,n38,n36,n89,n69,n68,x43,↓U43,↓XP,XW0,XW1,reduceSub,reduceAdd,reduceMul,reduceEqDiff,reduceLeDiff,Nat.reduceBEq,reduceCtorEq,TYX]
    exact hE' _ _ _ (hE _ ⟨rfl,rfl,rfl,rfl,rfl,rfl,rfl,rfl,rfl,rfl,trivial⟩)
end Go.Proofs.YtoeckfegggongaaGreatDoor
end
