/- A part of the proof of what the last text says: Gp1, Gf1, Gf2, Gt0, Gt1, XcG, Gt2. Conditions: those in each theorem. -/
import Derived.Test.YtoeckfegggongaaGreatDoorW15
set_option linter.unusedVariables false
set_option linter.unusedSimpArgs false
set_option maxRecDepth 100000
set_option maxHeartbeats 16000000
open Nat (reduceSub reduceAdd reduceMul reduceEqDiff reduceLeDiff)
section
namespace Go.Proofs.YtoeckfegggongaaGreatDoor
open Go Go.Aw
def heads8 : List (List UInt8) := [[99,97,116],[97,110,116],[98,101,116],[110,101,115,116],[116,101,110],[116,101,101],[99,104,101],[115,101,116]]
def core4 : List (List UInt8) := [[97],[97,110],[98,101],[99]]
def words16 : List (List UInt8) := core4 ++ heads8 ++ [[99,97,116,115],[97,110,116,115],[98,101,116,115,116],[120,121,122]]
def seps3 : List (List UInt8) := [[32],[44,32],[32]]
def atN (l : List Int) (i : Nat) (most : Int) : Nat := (atOf l i most).toNat
def glossTo (l : List Int) : Nat → List UInt8
  | 0 => words16.getD (atN l 0 16) []
  | i + 1 => glossTo l i ++ (seps3.getD (atN l (2 + i) 3) [] ++ words16.getD (atN l (4 + i) (6 + i)) [])
def gloss (l : List Int) : List UInt8 := if atOf l 6 19 = 18 then [] else glossTo l (atN l 1 3)
def withOp (p : Pt) (o : OpP) : Pt := { p with ops := p.ops ++ [o] }
def nextId (p : Pt) : Id3 := ⟨p.o,p.s,p.ops.length⟩
def meaning (p : Pt) (on : Id3) (m : List Int) : Pt :=
  let p1 := withOp p { op0 with k := 2,on := on,n := atOf m 2 5 }
  let p2 := withOp p1 { op0 with k := 7,on := nextId p,text := gloss (m.drop 3) }
  if atOf m 1 9 = 5 then p2 else withOp p2 { op0 with k := 9,on := nextId p,n := 1 }
structure Gs where
  l : List Pt
  past : List (List Bool)
def visOps (p : Pt) (kind : Int) (ok : Bool) : Nat → List Id3 := fun k => if ok = true ∧ (p.ops.getD k default).k = kind then [⟨p.o,p.s,k⟩] else []
def visOne (p : Pt) (kind : Int) (ok : Bool) : List Id3 := upto (visOps p kind ok) p.ops.length
def visible (x : Gs) (seen : List Bool) (p : Pt) (kind : Int) : List Id3 := upto (fun i => visOne (x.l.getD i default) kind (seen.getD i false)) x.l.length ++ visOne p kind true
def splOps (p : Pt) (ok : Bool) : Nat → List OpP := fun k => if ok = true ∧ (p.ops.getD k default).k = 16 then [p.ops.getD k default] else []
def splOne (p : Pt) (ok : Bool) : List OpP := upto (splOps p ok) p.ops.length
def splits (x : Gs) (seen : List Bool) (p : Pt) : List OpP := upto (fun i => splOne (x.l.getD i default) (seen.getD i false)) x.l.length ++ splOne p true
def names3 : List (List UInt8) := [[112,114,101,115,115],[104,101,105,114,115],[99,114,111,119,110]]
def quoted (x : Gs) (seen : List Bool) (p : Pt) (sense : Id3) (m : List Int) : Pt :=
  let sources := visible x seen p 3
  if sources.length = 0 ∨ atOf m 1 4 = 1 then
    let from_ := 600000 + 400 * atOf m 2 60
    let p1 := withOp p { op0 with k := 3,name := names3.getD (atN m 3 3) [],text := [97,110,110,97,108,115],a := from_,b := from_ + 300 * atOf m 4 8 }
    withOp p1 { op0 with k := 4,on := sense,to := nextId p,n := 1 + atOf m 5 90,text := gloss (m.drop 6) }
  else withOp p { op0 with k := 4,on := sense,to := sources.getD (atN m 2 sources.length) default,n := 1 + atOf m 5 90,text := gloss (m.drop 6) }
def divided (p : Pt) (entry sense : Id3) (m : List Int) : Pt :=
  let p1 := meaning p entry m
  let p2 := meaning p1 entry (m.drop 1)
  withOp p2 { op0 with k := 16,on := sense,ids := [nextId p,nextId p1],n := atOf m 4 3 - 1 }
def lang3 : List (List UInt8) := [[102,114],[102,114],[100,101]]
def lab2 : List (List UInt8) := [[114,97,114,101],[108,97,119]]
def small (sense other : Id3) (n : Int) (m : List Int) : OpP :=
  if n = 0 ∨ n = 1 then { op0 with k := 7,on := sense,text := gloss (m.drop 3) }
  else if n = 2 then { op0 with k := 9,on := sense,n := atOf m 3 2 }
  else if n = 3 then { op0 with k := 10,on := sense,n := 1 + atOf m 3 9 }
  else if n = 4 then { op0 with k := 12,on := sense,name := lang3.getD (atN m 3 3) [],text := gloss (m.drop 4) }
  else if n = 5 ∨ n = 6 then { op0 with k := 14,on := sense,name := lab2.getD (atN m 3 2) [],n := min 1 (atOf m 4 4) }
  else if n = 7 ∨ n = 8 then { op0 with k := 15,on := sense,to := other,n := min 1 (atOf m 3 5) }
  else if n = 9 then { op0 with k := 13,on := sense,to := other,n := atOf m 3 3 }
  else { op0 with k := 8,on := sense,n := atOf m 3 5 }
end Go.Proofs.YtoeckfegggongaaGreatDoor
end
section
namespace Go.Proofs.YtoeckfegggongaaGreatDoor
open Go Go.Aw
def strs (l : List (List UInt8)) : List (List D) := l.map fun s => [.str s]
theorem strs_len {l : List (List UInt8)} : (strs l).length = l.length := by simp [strs]
theorem strs_get {l : List (List UInt8)} {i : Nat} (h : i < l.length) : (strs l).getD i [] = [.str (l.getD i [])] := by simp [strs,h]
theorem strs_1 {l : List (List UInt8)} : ∀ x ∈ strs l,x.length = 1 := by
  intro x hx
  obtain ⟨t,_,rfl⟩ := List.mem_map.1 hx
  rfl
theorem ints_1 {l : List Int} : ∀ x ∈ ints l,x.length = 1 := by
  intro x hx
  obtain ⟨t,_,rfl⟩ := List.mem_map.1 hx
  rfl
theorem f_rest {l : List Int} {n : Nat} {H : AH} {R : D → AH → Prop} (h : R (.slc (ints (l.drop n))) H) : ACall Tryz.prog 44 [.slc (ints l),.int .i64 n] H R := by
  refine b44 fun hf => ?_
  have hbig := big_eq
  simp +contextual only [x44,ints_len,↓u44_s0,↓XP,XW0,XW1,reduceSub,reduceAdd,reduceMul,reduceEqDiff,reduceLeDiff,Nat.reduceBEq,reduceCtorEq,TYX]
  refine fun _ => ⟨ints_1,?_⟩
  rw [List.take_of_length_le (show (ints l).length ≤ l.length by rw [ints_len]; exact Nat.le_refl _)]
  by_cases hc : (l.length : Int) < (n : Int)
  · simp only [if_pos hc,Int.toNat_natCast]
    refine ⟨by omega,by omega,?_⟩
    rw [List.drop_of_length_le (show (ints l).length ≤ l.length by rw [ints_len]; exact Nat.le_refl _)]
    rw [List.drop_of_length_le (show l.length ≤ n by omega)] at h
    exact h
  · simp only [if_neg hc,Int.toNat_natCast]
    refine ⟨by omega,by omega,?_⟩
    rw [show List.drop n (ints l) = ints (l.drop n) from List.map_drop.symm]
    exact h
theorem f_core {H : AH} {R : D → AH → Prop} (h : R (.own (strs core4)) H) : ACall Tryz.prog 103 [] H R := by
  refine b103 fun hf => ?_
  simp +contextual only [x103,↓u103_s0,↓XP,XW0,XW1,reduceSub,reduceAdd,reduceMul,reduceEqDiff,reduceLeDiff,Nat.reduceBEq,reduceCtorEq,TYX]
  intros
  exact h
theorem f_heads {H : AH} {R : D → AH → Prop} (h : R (.own (strs heads8)) H) : ACall Tryz.prog 84 [] H R := by
  refine b84 fun hf => ?_
  simp +contextual only [x84,↓u84_s0,↓XP,XW0,XW1,reduceSub,reduceAdd,reduceMul,reduceEqDiff,reduceLeDiff,Nat.reduceBEq,reduceCtorEq,TYX]
  intros
  exact h
theorem getD_all {α : Type} {l : List α} {d : α} {p : α → Prop} (h : ∀ x ∈ l,p x) (hd : p d) (i : Nat) : p (l.getD i d) := by
  rcases Nat.lt_or_ge i l.length with hi | hi
  · rw [getD_lt hi]; exact h _ (List.getElem_mem hi)
  · rw [show l.getD i d = d by simp [List.getD,List.getElem?_eq_none hi]]; exact hd
theorem word_len (i : Nat) : (words16.getD i []).length ≤ 5 := getD_all (p := fun x : List UInt8 => x.length ≤ 5) (by decide) (by decide) i
theorem sep_len (i : Nat) : (seps3.getD i []).length ≤ 2 := getD_all (p := fun x : List UInt8 => x.length ≤ 2) (by decide) (by decide) i
theorem glossTo_len {l : List Int} : ∀ i,(glossTo l i).length ≤ 5 + 7 * i
  | 0 => by
    have := word_len (atN l 0 16)
    simp only [glossTo]
    omega
  | i + 1 => by
    have h1 := glossTo_len (l := l) i
    have h2 := sep_len (atN l (2 + i) 3)
    have h3 := word_len (atN l (4 + i) (6 + i))
    simp only [glossTo,List.length_append]
    omega
theorem f_gloss {l : List Int} {H : AH} {R : D → AH → Prop} (h : R (.str (gloss l)) H) : ACall Tryz.prog 97 [.slc (ints l)] H R := by
  refine b97 fun hf => ?_
  have hbig := big_eq
  simp +contextual only [x97,↓U97,↓XP,XW0,XW1,reduceSub,reduceAdd,reduceMul,reduceEqDiff,reduceLeDiff,Nat.reduceBEq,reduceCtorEq,TYX]
  refine f_core ?_
  simp +contextual only [↓U97,↓XP,XW0,XW1,reduceSub,reduceAdd,reduceMul,reduceEqDiff,reduceLeDiff,Nat.reduceBEq,reduceCtorEq,TYX]
  intros
  refine f_heads ?_
  simp +contextual only [strs_len,↓U97,↓XP,XW0,XW1,reduceSub,reduceAdd,reduceMul,reduceEqDiff,reduceLeDiff,Nat.reduceBEq,reduceCtorEq,TYX]
  have e : strs core4 ++ strs heads8 ++ [[.str [99,97,116,115]],[.str [97,110,116,115]],[.str [98,101,116,115,116]],[.str [120,121,122]]] = strs words16 := rfl
  have hw : words16.length = 16 := rfl
  have e2 : (strs core4 ++ strs heads8).length = 12 := rfl
  have c8 : core4.length = 4 := rfl
  have h8 : heads8.length = 8 := rfl
  rw [e,e2,c8,h8]
  refine fun _ => ⟨strs_1,strs_1,by omega,strs_1 (l := core4 ++ heads8),by omega,fun _ => ?_⟩
  rw [strs_len,hw,show ((16 : Nat) : Int) = (16 : Int) from rfl]
  have a0 := atOf_range (l := l) (i := 0) (most := 16) (by omega)
  have a1 := atOf_range (l := l) (i := 1) (most := 3) (by omega)
  refine f_at (i := 0) (by omega) ?_
  simp +contextual only [strs_len,strs_get (show (atOf l 0 16).toNat < words16.length by rw [hw]; omega),hw,↓U97,↓XP,XW0,XW1,reduceSub,reduceAdd,reduceMul,reduceEqDiff,reduceLeDiff,Nat.reduceBEq,reduceCtorEq,TYX]
  refine fun _ => ⟨by omega,by omega,fun _ => f_at (i := 1) (by omega) ?_⟩
  simp +contextual only [↓U97,↓XP,XW0,XW1,reduceSub,reduceAdd,reduceMul,reduceEqDiff,reduceLeDiff,Nat.reduceBEq,reduceCtorEq,TYX]
  obtain ⟨n,hn⟩ : ∃ n : Nat,atOf l 1 3 = n := ⟨(atOf l 1 3).toNat,by omega⟩
  have hn' : atN l 1 3 = n := by unfold atN; omega
  rw [hn]
  intros
  refine XW.loopK hm (fun F H' => ∃ (i : Nat),i ≤ n ∧ Fr 50 [(0,.slc (ints l)),(3,.own (strs words16)),(4,.str (glossTo l i)),(5,.int .i64 n),(6,.int .i64 i)] F ∧ H = H') (fun F H => match F.getD 6 .any with | .int _ n' => n - n'.toNat | _ => 0) ⟨0,by omega,⟨rfl,rfl,rfl,rfl,rfl,rfl,trivial⟩,rfl⟩ ?_
  rintro _ _ ⟨i,hi,hF,rfl⟩ K hN hE hR
  obtain ⟨z,rfl⟩ : ∃ z : Nat → D,_ = .slc (ints l) :: zz z 1 2 (.own (strs words16) :: .str (glossTo l i) :: .int .i64 n :: .int .i64 i :: zz z 7 43 []) := hF.lit
  try dsimp only [zz,reduceAdd] at *
  clear hF
  by_cases hlt : i < n
  · have nx : ∀ F',Fr 50 [(0,.slc (ints l)),(3,.own (strs words16)),(4,.str (glossTo l (i + 1))),(5,.int .i64 n),(6,.int .i64 ((i + 1 : Nat) : Int))] F' → K .normal F' H := fun F' hF' => hN _ _ ⟨i + 1,hlt,hF',(back_0 rfl).symm⟩ (by
      rw [List.getD_eq_getElem?_getD,hF'.2.2.2.2.2.1]
      simp only [List.getD_cons_succ,List.getD_cons_zero,Option.getD_some]
      omega)
    clear hN hE hR
    have w2 : IntKind.i64.wrap (2 + (i : Int)) = ((2 + i : Nat) : Int) := by rw [wrap_id (by omega) (by omega)]; omega
    have w4 : IntKind.i64.wrap (4 + (i : Int)) = ((4 + i : Nat) : Int) := by rw [wrap_id (by omega) (by omega)]; omega
    have w6 : IntKind.i64.wrap (6 + (i : Int)) = 6 + (i : Int) := wrap_id (by omega) (by omega)
    have b0 := atOf_range (l := l) (i := 2 + i) (most := 3) (by omega)
    have b1 := atOf_range (l := l) (i := 4 + i) (most := 6 + (i : Int)) (by omega)
    simp +contextual only [w2,w4,w6,wrap_succ (show i ≤ big by omega),↓U97,↓XP,XW0,XW1,reduceSub,reduceAdd,reduceMul,reduceEqDiff,reduceLeDiff,Nat.reduceBEq,reduceCtorEq,TYX]
    have g0 := glossTo_len (l := l) i
    have g2 := sep_len (atN l (2 + i) 3)
    have g3 := word_len (atN l (4 + i) (6 + i))
    have hse : ([[.str [32]],[.str [44,32]],[.str [32]]] : List (List D)) = strs seps3 := rfl
    have hs3 : seps3.length = 3 := rfl
    have s1 := strs_get (show (atOf l (2 + i) 3).toNat < seps3.length by rw [hs3]; omega)
    have s2 := strs_get (show (atOf l (4 + i) (6 + (i : Int))).toNat < words16.length by rw [hw]; omega)
    refine ⟨fun _ => ⟨_,f_at (by omega) ⟨rfl,rfl⟩,?_⟩,fun hge => absurd (by omega) hge⟩
    simp +contextual only [w2,w4,w6,hse,hs3,hw,s1,s2,strs_len,wrap_succ (show i ≤ big by omega),↓U97,↓XP,XW0,XW1,reduceSub,reduceAdd,reduceMul,reduceEqDiff,reduceLeDiff,Nat.reduceBEq,reduceCtorEq,TYX]
    refine fun _ => ⟨by omega,by omega,fun _ => ⟨?_,⟨_,f_at (by omega) ⟨rfl,rfl⟩,?_⟩⟩⟩
    · unfold atN at g2
      omega
    simp +contextual only [w2,w4,w6,hse,hs3,hw,s1,s2,strs_len,wrap_succ (show i ≤ big by omega),↓U97,↓XP,XW0,XW1,reduceSub,reduceAdd,reduceMul,reduceEqDiff,reduceLeDiff,Nat.reduceBEq,reduceCtorEq,TYX]
    have hu : glossTo l i ++ seps3.getD (atOf l (2 + i) 3).toNat [] ++ words16.getD (atOf l (4 + i) (6 + (i : Int))).toNat [] = glossTo l (i + 1) := by
      rw [glossTo,List.append_assoc]
      rfl
    rw [hu]
    unfold atN at g2 g3
    refine fun _ => ⟨by omega,by omega,fun _ => ⟨by simp only [List.length_append]; omega,nx _ ⟨rfl,rfl,rfl,rfl,rfl,rfl,trivial⟩⟩⟩
  · have hin : i = n := by omega
    subst hin
    simp +contextual only [↓U97,↓XP,XW0,XW1,reduceSub,reduceAdd,reduceMul,reduceEqDiff,reduceLeDiff,Nat.reduceBEq,reduceCtorEq,TYX]
    refine hE _ _ _ ?_
    simp +contextual only [↓U97,↓XP,XW0,XW1,reduceSub,reduceAdd,reduceMul,reduceEqDiff,reduceLeDiff,Nat.reduceBEq,reduceCtorEq,TYX]
    refine f_at (i := 6) (by omega) ?_
    simp +contextual only [↓U97,↓XP,XW0,XW1,reduceSub,reduceAdd,reduceMul,reduceEqDiff,reduceLeDiff,Nat.reduceBEq,reduceCtorEq,TYX]
    unfold gloss at h
    rw [hn'] at h
    refine fun _ => ⟨fun h18 => ?_,fun h18 => ?_⟩
    · rw [if_pos h18] at h
      exact h
    · rw [if_neg h18] at h
      exact h
end Go.Proofs.YtoeckfegggongaaGreatDoor
end
section
namespace Go.Proofs.YtoeckfegggongaaGreatDoor
open Go Go.Aw
theorem f_with {p : Pt} {o : OpP} {H : AH} {R : D → AH → Prop} (hl : p.ops.length ≤ 1000) (h : R (.agg (withOp p o).d) H) : ACall Tryz.prog 83 [.agg p.d,.agg o.d] H R := by
  refine b83 fun hf => ?_
  have hbig := big_eq
  simp +contextual only [x83,Pt.d,OpP.d,↓U83,↓XP,XW0,XW1,reduceSub,reduceAdd,reduceMul,reduceEqDiff,reduceLeDiff,Nat.reduceBEq,reduceCtorEq,TYX]
  intro b1 h1 b2 h2 b3 h3
  have e : opsD p.ops ++ [[.int .i64 o.k,.int .i64 o.on.o,.int .i64 o.on.s,.int .i64 o.on.i,.int .i64 o.to.o,.int .i64 o.to.s,.int .i64 o.to.i,.slc (idsD o.ids),.int .i64 o.n,.str o.name,.str o.text,.int .i64 o.a,.int .i64 o.b]] = opsD (p.ops ++ [o]) := by simp [opsD,OpP.d]
  refine fun _ => ⟨ops_13,by rw [ops_len]; omega,ops_13,by rw [ops_len]; omega,by omega,?_⟩
  rw [e]
  exact h
theorem with_len {p : Pt} {o : OpP} : (withOp p o).ops.length = p.ops.length + 1 := by simp [withOp]
theorem f_meaning {p : Pt} {on : Id3} {m : List Int} {H : AH} {R : D → AH → Prop} (hl : p.ops.length ≤ 900) (h : R (.agg (meaning p on m).d) H) : ACall Tryz.prog 85 [.agg p.d,.agg on.d,.slc (ints m)] H R := by
  refine b85 fun hf => ?_
  have hbig := big_eq
  have hd := @dE p
  have ho : on.d = [.int .i64 on.o,.int .i64 on.s,.int .i64 on.i] := rfl
  simp +contextual only [x85,hd,ho,ops_len,↓U85,↓XP,XW0,XW1,reduceSub,reduceAdd,reduceMul,reduceEqDiff,reduceLeDiff,Nat.reduceBEq,reduceCtorEq,TYX]
  rintro b1 h1 b2 ⟨n12,h2⟩ b3 ⟨n23,n13,h3⟩ _ _ _ b4 ⟨n34,n24,n14,h4⟩
  simp +contextual only [hd,ho,ops_len,h_miss,h_skip,n12,n13,n23,n14,n24,n34,↓U85,↓XP,XW0,XW1,reduceSub,reduceAdd,reduceMul,reduceEqDiff,reduceLeDiff,Nat.reduceBEq,reduceCtorEq,TYX]
  refine ⟨_,f_at (i := 2) (by omega) ⟨rfl,rfl⟩,?_⟩
  simp +contextual only [hd,ho,ops_len,h_miss,h_skip,n12,n13,n23,n14,n24,n34,↓U85,↓XP,XW0,XW1,reduceSub,reduceAdd,reduceMul,reduceEqDiff,reduceLeDiff,Nat.reduceBEq,reduceCtorEq,TYX]
  refine fun _ => ⟨_,f_with (p := p) (o := { op0 with k := 2,on := on,n := atOf m 2 5 }) (by omega) ⟨rfl,rfl⟩,?_⟩
  obtain ⟨p1,hp1⟩ : ∃ q,q = withOp p { op0 with k := 2,on := on,n := atOf m 2 5 } := ⟨_,rfl⟩
  have l1 : p1.ops.length = p.ops.length + 1 := by rw [hp1,with_len]
  rw [← hp1]
  have hd1 := @dE p1
  simp +contextual only [hd1,hd,ho,ops_len,h_miss,h_skip,n12,n13,n23,n14,n24,n34,↓U85,↓XP,XW0,XW1,reduceSub,reduceAdd,reduceMul,reduceEqDiff,reduceLeDiff,Nat.reduceBEq,reduceCtorEq,TYX]
  intros
  refine ⟨_,f_rest (n := 3) ⟨rfl,rfl⟩,?_⟩
  simp +contextual only [hd1,hd,ho,ops_len,h_miss,h_skip,n12,n13,n23,n14,n24,n34,↓U85,↓XP,XW0,XW1,reduceSub,reduceAdd,reduceMul,reduceEqDiff,reduceLeDiff,Nat.reduceBEq,reduceCtorEq,TYX]
  refine fun _ => ⟨_,f_gloss ⟨rfl,rfl⟩,?_⟩
  simp +contextual only [hd1,hd,ho,ops_len,h_miss,h_skip,n12,n13,n23,n14,n24,n34,↓U85,↓XP,XW0,XW1,reduceSub,reduceAdd,reduceMul,reduceEqDiff,reduceLeDiff,Nat.reduceBEq,reduceCtorEq,TYX]
  refine fun _ => ⟨_,f_with (p := p1) (o := { op0 with k := 7,on := nextId p,text := gloss (m.drop 3) }) (by omega) ⟨rfl,rfl⟩,?_⟩
  obtain ⟨p2,hp2⟩ : ∃ q,q = withOp p1 { op0 with k := 7,on := nextId p,text := gloss (m.drop 3) } := ⟨_,rfl⟩
  have l2 : p2.ops.length = p1.ops.length + 1 := by rw [hp2,with_len]
  rw [← hp2]
  have hd2 := @dE p2
  simp +contextual only [hd2,hd1,hd,ho,ops_len,h_miss,h_skip,n12,n13,n23,n14,n24,n34,↓U85,↓XP,XW0,XW1,reduceSub,reduceAdd,reduceMul,reduceEqDiff,reduceLeDiff,Nat.reduceBEq,reduceCtorEq,TYX]
  intros
  refine f_at (i := 1) (by omega) ?_
  have hm : meaning p on m = if atOf m 1 9 = 5 then p2 else withOp p2 { op0 with k := 9,on := nextId p,n := 1 } := by
    unfold meaning
    simp only
    rw [← hp1,← hp2]
  rw [hm] at h
  simp +contextual only [hd2,hd1,hd,ho,ops_len,h_miss,h_skip,n12,n13,n23,n14,n24,n34,↓U85,↓XP,XW0,XW1,reduceSub,reduceAdd,reduceMul,reduceEqDiff,reduceLeDiff,Nat.reduceBEq,reduceCtorEq,TYX]
  refine fun _ => ⟨fun h5 => f_with (p := p2) (o := { op0 with k := 9,on := nextId p,n := 1 }) (by omega) ?_,fun h5 => ?_⟩
  · rw [if_neg h5] at h
    obtain ⟨p3,hp3⟩ : ∃ q,q = withOp p2 { op0 with k := 9,on := nextId p,n := 1 } := ⟨_,rfl⟩
    rw [← hp3] at h ⊢
    have hd3 := @dE p3
    simp +contextual only [hd3,hd2,hd1,hd,ho,ops_len,h_miss,h_skip,n12,n13,n23,n14,n24,n34,↓U85,↓XP,XW0,XW1,reduceSub,reduceAdd,reduceMul,reduceEqDiff,reduceLeDiff,Nat.reduceBEq,reduceCtorEq,TYX]
    intros
    exact h
  · rw [if_pos h5] at h
    exact h
end Go.Proofs.YtoeckfegggongaaGreatDoor
end
section
namespace Go.Aw
open Go Go.RowKit
section
variable {F : List D} {H : AH} {k : List D → AH → Prop}
theorem Gz.give0 {bx j : Nat} {cs : List D} (hg : getH H bx = some (.cells cs)) (hj : cs[j]? = some (.own [])) (h : k F (setH H bx (.cells (cs.set j (.osl 0 0 []))))) : Gz F H k := by
  intro K w t hs
  refine ⟨F,_,K,h,.refl K w,hs.krel,⟨by rw [keys_set]; exact hs.hrel.nd,fun c' o' hm' => ?_⟩,hs.len,hs.slot⟩
  rcases mem_set hs.hrel.nd hm' with ⟨rfl,rfl⟩ | ⟨hne,hm'⟩
  · obtain ⟨hpb,c,T,hb,hcs,hrc⟩ := hs.hrel.ok c' _ (getH_mem hg)
    refine ⟨hpb,c,T,hb,by simpa using hcs,fun q d hd => ?_⟩
    rcases getElem?_set_some hd with ⟨rfl,rfl,_⟩ | ⟨_,hd⟩
    · obtain ⟨u,f1,f2,f3⟩ := hrc _ _ hj
      have f4 : OwnAt K w _ [] u := f3
      refine ⟨u,f1,f2,?_⟩
      rcases f4 with ⟨_,a,rfl⟩ | ⟨b,cap,sz,c2,T2,_,_,_,_,hp,_⟩
      · exact .oslnil 0 0 a
      · simp at hp
    · exact hrc q d hd
  · exact hs.hrel.ok c' o' hm'
theorem Gz.giveA {bx j : Nat} {cs : List D} {xs : List (List D)} (hg : getH H bx = some (.cells cs)) (hj : cs[j]? = some (.own xs))
    (h : ∀ b cap H',getH H' bx = some (.cells (cs.set j (.osl b cap xs))) → (xs ≠ [] → getH H' b = some (.room cap xs)) → dropR H' b xs = setH H bx (.cells (cs.set j (.osl b cap xs))) → k F H') : Gz F H k := by
  rcases Classical.em (xs = []) with hx | hx
  · subst hx
    exact Gz.give0 hg hj (h 0 0 _ (h_own (by rw [hg]; rfl)) (fun e => (e rfl).elim) (by simp only [dropR,if_true]))
  · refine Gz.give hx hg hj fun b cap hf => h b cap _ ?_ (fun _ => h_hit) (by simp only [dropR,if_neg hx,e_hit])
    rw [h_miss (fun e => freshH_mem hf (getH_mem hg) e),h_own (by rw [hg]; rfl)]
end
end Go.Aw
end
section
namespace Go.Proofs.YtoeckfegggongaaGreatDoor
open Go Go.Aw
structure Sz (n : Nat) (p : Pt) : Prop where
  ops : p.ops.length ≤ n
  needs : p.needs.length ≤ n
  ids : ∀ o ∈ p.ops,o.ids.length ≤ 2000000 + n
  name : ∀ o ∈ p.ops,o.name.length ≤ 3000000
  text : ∀ o ∈ p.ops,o.text.length ≤ 3000000
  sl : p.sl.length ≤ 3000000
theorem Sz.le {n m : Nat} {p : Pt} (h : Sz n p) (hn : n ≤ m) : Sz m p :=
  ⟨by have := h.ops; omega,by have := h.needs; omega,fun o ho => by have := h.ids o ho; omega,h.name,h.text,h.sl⟩
theorem Sz.setOp {n : Nat} {p : Pt} (h : Sz n p) {k : Nat} {o : OpP} (h1 : o.ids.length ≤ 2000014 + n) (h2 : o.name.length ≤ 3000000) (h3 : o.text.length ≤ 3000000) : Sz (n + 14) { p with ops := p.ops.set k o } := by
  refine ⟨by simp only [List.length_set]; have := h.ops; omega,by have := h.needs; simp only; omega,fun x hx => ?_,fun x hx => ?_,fun x hx => ?_,h.sl⟩
  · rcases List.mem_or_eq_of_mem_set hx with hx | rfl
    · have := h.ids x hx; omega
    · omega
  · rcases List.mem_or_eq_of_mem_set hx with hx | rfl
    · exact h.name x hx
    · exact h2
  · rcases List.mem_or_eq_of_mem_set hx with hx | rfl
    · exact h.text x hx
    · exact h3
theorem Sz.more {n : Nat} {p : Pt} (h : Sz n p) {l : List OpP} {m : Nat} (hl : l.length ≤ m) (h1 : ∀ o ∈ l,o.ids.length ≤ 2000000 + n) (h2 : ∀ o ∈ l,o.name.length ≤ 3000000) (h3 : ∀ o ∈ l,o.text.length ≤ 3000000) : Sz (n + m) { p with ops := p.ops ++ l } := by
  refine ⟨by simp only [List.length_append]; have := h.ops; omega,by have := h.needs; simp only; omega,fun x hx => ?_,fun x hx => ?_,fun x hx => ?_,h.sl⟩
  · rcases List.mem_append.1 hx with hx | hx
    · have := h.ids x hx; omega
    · have := h1 x hx; omega
  · exact (List.mem_append.1 hx).elim (h.name x) (h2 x)
  · exact (List.mem_append.1 hx).elim (h.text x) (h3 x)
theorem fl_split {xs : List (List D)} {sz k : Nat} (hs : ∀ x ∈ xs,x.length = sz) (hk : k < xs.length) (rest : List D) :
    xs.flatten ++ rest = (xs.take k).flatten ++ (xs.getD k [] ++ ((xs.drop (k + 1)).flatten ++ rest)) ∧ (xs.take k).flatten.length = k * sz ∧ (xs.getD k []).length = sz := by
  have e : xs = xs.take k ++ (xs.getD k [] :: xs.drop (k + 1)) := by
    have h1 : xs.getD k [] = xs[k] := by simp [hk]
    rw [h1,List.getElem_cons_drop,List.take_append_drop]
  refine ⟨?_,?_,?_⟩
  · conv => lhs; rw [e]
    simp only [List.flatten_append,List.flatten_cons,List.append_assoc]
  · rw [flat_len (sz := sz) (fun x hx => hs x (List.mem_of_mem_take hx)),List.length_take,Nat.min_eq_left (by omega)]
  · have h1 : xs.getD k [] = xs[k] := by simp [hk]
    rw [h1]
    exact hs _ (List.getElem_mem hk)
theorem fl_join {xs : List (List D)} {k : Nat} (hk : k < xs.length) (y rest : List D) : (xs.take k).flatten ++ (y ++ ((xs.drop (k + 1)).flatten ++ rest)) = (xs.set k y).flatten ++ rest := by
  rw [List.set_eq_take_append_cons_drop,if_pos hk]
  simp only [List.flatten_append,List.flatten_cons,List.append_assoc]
theorem fl_set {xs : List (List D)} {sz k j : Nat} {v : D} {rest : List D} (hs : ∀ x ∈ xs,x.length = sz) (hk : k < xs.length) (hj : j < sz) :
    (xs.flatten ++ rest).set (k * sz + j) v = (xs.set k ((xs.getD k []).set j v)).flatten ++ rest := by
  obtain ⟨h1,h2,h3⟩ := fl_split hs hk rest
  rw [h1,← fl_join hk,List.set_append_right _ _ (by omega),h2,Nat.add_sub_cancel_left,List.set_append_left _ _ (by omega)]
theorem ap_sets {A x r v : List D} {a j m sz : Nat} (ha : A.length = a) (hx : x.length = sz) (hj : j + m ≤ sz) :
    (A ++ (x ++ r)).take (a + j) ++ (v ++ (A ++ (x ++ r)).drop (a + j + m)) = A ++ ((x.take j ++ (v ++ x.drop (j + m))) ++ r) := by
  subst ha
  rw [List.take_length_add_append,Nat.add_assoc,List.drop_length_add_append,List.take_append_of_le_length (by omega),List.drop_append_of_le_length (by omega)]
  simp only [List.append_assoc]
theorem ap_gets {A x r : List D} {a j m sz : Nat} (ha : A.length = a) (hx : x.length = sz) (hj : j + m ≤ sz) :
    ((A ++ (x ++ r)).drop (a + j)).take m = (x.drop j).take m := by
  subst ha
  rw [List.drop_length_add_append,List.drop_append_of_le_length (by omega),List.take_append_of_le_length (by rw [List.length_drop]; omega)]
theorem fl_sets {xs : List (List D)} {sz k j m : Nat} {v : List D} {rest : List D} (hs : ∀ x ∈ xs,x.length = sz) (hk : k < xs.length) (hj : j + m ≤ sz) :
    (xs.flatten ++ rest).take (k * sz + j) ++ (v ++ (xs.flatten ++ rest).drop (k * sz + j + m)) = (xs.set k ((xs.getD k []).take j ++ (v ++ (xs.getD k []).drop (j + m)))).flatten ++ rest := by
  obtain ⟨h1,h2,h3⟩ := fl_split hs hk rest
  rw [h1,← fl_join hk]
  exact ap_sets h2 h3 hj
theorem fl_gets {xs : List (List D)} {sz k j m : Nat} {rest : List D} (hs : ∀ x ∈ xs,x.length = sz) (hk : k < xs.length) (hj : j + m ≤ sz) :
    ((xs.flatten ++ rest).drop (k * sz + j)).take m = ((xs.getD k []).drop j).take m := by
  obtain ⟨h1,h2,h3⟩ := fl_split hs hk rest
  rw [h1]
  exact ap_gets h2 h3 hj
theorem fl_get {xs : List (List D)} {sz k j : Nat} {rest : List D} (hs : ∀ x ∈ xs,x.length = sz) (hk : k < xs.length) (hj : j < sz) :
    (xs.flatten ++ rest)[k * sz + j]? = (xs.getD k [])[j]? := by
  obtain ⟨h1,h2,h3⟩ := fl_split hs hk rest
  rw [h1,List.getElem?_append_right (by omega),h2,Nat.add_sub_cancel_left,List.getElem?_append_left (by omega)]
theorem ops_set {l : List OpP} {k : Nat} {o : OpP} : (opsD l).set k o.d = opsD (l.set k o) := by simp only [opsD,List.map_set]
end Go.Proofs.YtoeckfegggongaaGreatDoor
end
section
namespace Go.Proofs.YtoeckfegggongaaGreatDoor
open Go.Xs
open Go Go.Aw
def x6_s0 : XC := (.reg [m 13 86,b (.binOp .add 3 (t 86) (i 1) 3) 87,n 87 13])
def x6_s1 : XC := (.seq (.block 2 (.gh (.regV [f 26 4 4 88,c (.load 24 (t 88)) 89,f 26 4 4 90,l 24 90 91,m 11 92,j 24 91 92 93,l 55 93 94,a (.buildSlice 24 1 #[(0,(t 94))]) 95] [b (.call ⟨(.builtin .append),#[(t 89),(t 95)],#[24,24,0,0]⟩) 96,f 26 4 4 97,w 24 97 96]))) x6_s0)
def x6_L2 : XC := (.seq (.seq (.reg [m 13 84,a (.binOp .lss 3 (t 84) (i 14) 3) 85]) (.cond (t 85) .skip (.exit 1))) x6_s1)
def x6_s3 : XC := (.reg [m 14 236,b (.binOp .add 3 (t 236) (i 1) 3) 237,n 237 14])
def x6_s4 : XC := (.seq (.block 4 (.gh (.regV [f 26 4 4 238,c (.load 24 (t 238)) 239,a (.build 50 #[(1,(i 1))]) 240,m 3 241,a (k 15 #[(t 241),(i 125)] #[3,3]) 242,a (.binOp .add 3 (i 900) (t 242) 3) 243,a (.makeSlice 35 (t 243) (t 243)) 244,a (.convert 35 9 (t 244)) 245,a (.build 55 #[(0,(i 7)),(1,(t 240)),(6,(t 245))]) 246,a (.buildSlice 24 1 #[(0,(t 246))]) 247] [b (.call ⟨(.builtin .append),#[(t 239),(t 247)],#[24,24,0,0]⟩) 248,f 26 4 4 249,w 24 249 248]))) x6_s3)
def x6_L5 : XC := (.seq (.seq (.reg [m 14 234,a (.binOp .lss 3 (t 234) (i 7) 3) 235]) (.cond (t 235) .skip (.exit 3))) x6_s4)
def x6_s6 : XC := (.reg [m 15 268,b (.binOp .add 3 (t 268) (i 1) 3) 269,n 269 15])
def x6_s7 : XC := (.seq (.block 6 (.reg [f 26 4 3 270,c (.load 23 (t 270)) 271,m 15 272,a (.build 48 #[(0,(t 272)),(1,(i 1))]) 273,a (.buildSlice 23 1 #[(0,(t 273))]) 274,b (.call ⟨(.builtin .append),#[(t 271),(t 274)],#[23,23]⟩) 275,f 26 4 3 276,w 23 276 275])) x6_s6)
def x6_L8 : XC := (.seq (.seq (.reg [m 15 263,m 3 264,a (k 15 #[(t 264),(i 4)] #[3,3]) 265,a (.binOp .add 3 (i 7) (t 265) 3) 266,a (.binOp .lss 3 (t 263) (t 266) 3) 267]) (.cond (t 267) .skip (.exit 5))) x6_s7)
def x6_c9 : XC := (.regD [f 26 4 4 36,l 24 36 37,m 11 38,m 3 39,a (k 15 #[(t 39),(i 18)] #[3,3]) 40,b (.binOp .add 3 (i 1) (t 40) 3) 41,j 24 37 38 42,f 55 42 0 43,w 3 43 41])
def x6_s10 : XC := (.cond (t 260) (.seq (.reg [f 26 4 3 262,s (.store 23 (t 262) (.const (.slice .none 0 0)))]) (.seq (.reg [a (.assign (i 0)) 15]) (.block 5 (.loop x6_L8)))) x6_c9)
def x6_c11 : XC := (.reg [a (.buildSlice 22 4 #[(0,(i 0)),(1,(i 1)),(2,(i 1200)),(3,(i 1201))]) 252,m 3 253,a (k 15 #[(t 253),(i 4)] #[3,3]) 254,j 22 252 254 255,l 3 255 256,a (.makeSlice 35 (t 256) (t 256)) 257,b (.convert 35 9 (t 257)) 258,f 26 4 5 259,w 9 259 258])
def x6_c12 : XC := (.seq (.reg [b (.binOp .eql 3 (t 35) (i 17) 3) 251,n 251 250]) (.cond (t 250) x6_c11 (.seq (.reg [b (.binOp .eql 3 (t 35) (i 18) 3) 261,n 261 260]) x6_s10)))
def x6_c13 : XC := (.regD [f 26 4 4 217,l 24 217 218,m 11 219,a (.build 50 #[(0,(i 1)),(1,(i 1))]) 220,a (.build 50 #[(0,(i 1)),(1,(i 1)),(2,(i 2))]) 221,m 3 222,a (k 15 #[(t 222),(i 4)] #[3,3]) 223,a (.build 50 #[(0,(i 1)),(1,(i 1)),(2,(t 223))]) 224,a (.buildSlice 51 2 #[(0,(t 221)),(1,(t 224))]) 225,m 3 226,a (.binOp .quo 3 (t 226) (i 4) 3) 227,a (k 15 #[(t 227),(i 5)] #[3,3]) 228,a (.binOp .sub 3 (t 228) (i 2) 3) 229,b (.build 55 #[(0,(i 16)),(1,(t 220)),(3,(t 225)),(4,(t 229))]) 230,j 24 218 219 231,w 55 231 230])
def x6_s14 : XC := (.cond (t 215) x6_c13 (.seq (.reg [b (.binOp .eql 3 (t 35) (i 16) 3) 233,n 233 232]) (.cond (t 232) (.seq (.reg [a (.assign (i 0)) 14]) (.block 3 (.loop x6_L5))) x6_c12)))
def x6_c15 : XC := (.regD [f 26 4 4 200,l 24 200 201,m 11 202,m 12 203,a (.build 50 #[(0,(i 1)),(1,(i 1)),(2,(t 203))]) 204,c (.buildSlice 51 1 #[(0,(t 204))]) 205,f 26 4 4 206,l 24 206 207,m 11 208,j 24 207 208 209,f 55 209 3 210,l 51 210 211,b (.call ⟨(.builtin .append),#[(t 205),(t 211)],#[51,51]⟩) 212,j 24 201 202 213,f 55 213 3 214,w 51 214 212])
def x6_c16 : XC := (.regD [f 26 4 4 188,l 24 188 189,m 11 190,m 3 191,a (k 15 #[(t 191),(i 3)] #[3,3]) 192,m 3 193,a (k 15 #[(t 193),(i 5)] #[3,3]) 194,b (.build 53 #[(0,(t 192)),(1,(t 194))]) 195,j 24 189 190 196,f 55 196 7 197,w 53 197 195])
def x6_c17 : XC := (.seq (.reg [b (.binOp .eql 3 (t 35) (i 14) 3) 199,n 199 198]) (.cond (t 198) x6_c15 (.seq (.reg [b (.binOp .eql 3 (t 35) (i 15) 3) 216,n 216 215]) x6_s14)))
def x6_c18 : XC := (.regD [f 26 4 4 174,l 24 174 175,m 11 176,a (.buildSlice 22 4 #[(0,(i 0)),(1,(i 1)),(2,(i 1024)),(3,(i 1025))]) 177,m 3 178,a (k 15 #[(t 178),(i 4)] #[3,3]) 179,j 22 177 179 180,l 3 180 181,a (.makeSlice 35 (t 181) (t 181)) 182,b (.convert 35 9 (t 182)) 183,j 24 175 176 184,f 55 184 6 185,w 9 185 183])
def x6_s19 : XC := (.cond (t 172) x6_c18 (.seq (.reg [b (.binOp .eql 3 (t 35) (i 13) 3) 187,n 187 186]) (.cond (t 186) x6_c16 x6_c17)))
def x6_c20 : XC := (.regD [f 26 4 4 164,l 24 164 165,m 11 166,m 3 167,a (k 15 #[(t 167),(i 18)] #[3,3]) 168,b (.slice 9 (.const (.string ⟨#[115,105,120,116,101,101,110,32,108,101,116,116,101,114,115,33,33]⟩)) .none (.some (t 168)) .none) 169,j 24 165 166 170,f 55 170 5 171,w 9 171 169])
def x6_c21 : XC := (.regD [f 26 4 4 151,l 24 151 152,m 11 153,m 3 154,a (.buildSlice 22 10 #[(0,(i (-2))),(1,(i (-1))),(2,(i 0)),(3,(i 1)),(4,(i 2)),(5,(i 1023)),(6,(i 1024)),(7,(i 1048576)),(8,(i 1048577)),(9,(t 154))]) 155,m 3 156,a (k 15 #[(t 156),(i 10)] #[3,3]) 157,j 22 155 157 158,b (.load 3 (t 158)) 159,j 24 152 153 160,f 55 160 4 161,w 3 161 159])
def x6_c22 : XC := (.seq (.reg [b (.binOp .eql 3 (t 35) (i 11) 3) 163,n 163 162]) (.cond (t 162) x6_c20 (.seq (.reg [b (.binOp .eql 3 (t 35) (i 12) 3) 173,n 173 172]) x6_s19)))
def x6_c23 : XC := (.regD [f 26 4 4 138,l 24 138 139,m 11 140,f 26 4 4 141,l 24 141 142,m 11 143,j 24 142 143 144,f 55 144 1 145,b (.load 50 (t 145)) 146,j 24 139 140 147,f 55 147 2 148,w 50 148 146])
def x6_s24 : XC := (.cond (t 136) x6_c23 (.seq (.reg [b (.binOp .eql 3 (t 35) (i 10) 3) 150,n 150 149]) (.cond (t 149) x6_c21 x6_c22)))
def x6_c25 : XC := (.regD [f 26 4 4 123,l 24 123 124,m 11 125,m 3 126,a (k 15 #[(t 126),(i 9)] #[3,3]) 127,m 12 128,m 3 129,a (.binOp .quo 3 (t 129) (i 5) 3) 130,a (k 15 #[(t 130),(i 18)] #[3,3]) 131,a (.binOp .sub 3 (t 131) (i 1) 3) 132,b (.build 50 #[(0,(t 127)),(1,(t 128)),(2,(t 132))]) 133,j 24 124 125 134,f 55 134 2 135,w 50 135 133])
def x6_c26 : XC := (.regD [f 26 4 4 108,l 24 108 109,m 11 110,m 12 111,m 3 112,a (k 15 #[(t 112),(i 19)] #[3,3]) 113,m 3 114,a (.binOp .quo 3 (t 114) (i 5) 3) 115,a (k 15 #[(t 115),(i 18)] #[3,3]) 116,a (.binOp .sub 3 (t 116) (i 1) 3) 117,b (.build 50 #[(0,(t 111)),(1,(t 113)),(2,(t 117))]) 118,j 24 109 110 119,f 55 119 1 120,w 50 120 118])
def x6_c27 : XC := (.seq (.reg [b (.binOp .eql 3 (t 35) (i 8) 3) 122,n 122 121]) (.cond (t 121) x6_c25 (.seq (.reg [b (.binOp .eql 3 (t 35) (i 9) 3) 137,n 137 136]) x6_s24)))
def x6_c28 : XC := (.reg [f 26 4 4 100,l 24 100 101,m 11 102,b (.move (t 12)) 103,j 24 101 102 104,f 55 104 0 105,w 3 105 103])
def x6_s29 : XC := (.cond (t 98) x6_c28 (.seq (.reg [b (.binOp .eql 3 (t 35) (i 7) 3) 107,n 107 106]) (.cond (t 106) x6_c26 x6_c27)))
def x6_s30 : XC := (.cond (t 82) (.seq (.reg [a (.assign (i 0)) 13]) (.block 1 (.loop x6_L2))) (.seq (.reg [b (.binOp .eql 3 (t 35) (i 6) 3) 99,n 99 98]) x6_s29))
def x6_c31 : XC := (.reg [f 26 4 4 78,l 24 78 79,b (.slice 24 (t 79) .none (.some (i 0)) .none) 80,f 26 4 4 81,w 24 81 80])
def x6_c32 : XC := (.gh (.regV [f 26 4 3 63,c (.load 23 (t 63)) 64,m 3 65,a (k 15 #[(t 65),(i 10)] #[3,3]) 66,a (.binOp .sub 3 (t 66) (i 1) 3) 67,m 3 68,a (.binOp .quo 3 (t 68) (i 10) 3) 69,a (k 15 #[(t 69),(i 19)] #[3,3]) 70,a (.binOp .sub 3 (t 70) (i 1) 3) 71,a (.build 48 #[(0,(t 67)),(1,(t 71))]) 72,a (.buildSlice 23 1 #[(0,(t 72))]) 73] [b (.call ⟨(.builtin .append),#[(t 64),(t 73)],#[23,23,0,0]⟩) 74,f 26 4 3 75,w 23 75 74]))
def x6_c33 : XC := (.seq (.reg [b (.binOp .eql 3 (t 35) (i 4) 3) 77,n 77 76]) (.cond (t 76) x6_c31 (.seq (.reg [b (.binOp .eql 3 (t 35) (i 5) 3) 83,n 83 82]) x6_s30)))
def x6_c34 : XC := (.reg [m 3 54,a (.buildSlice 22 5 #[(0,(i 0)),(1,(i 1)),(2,(i 1048576)),(3,(i 1048577)),(4,(t 54))]) 55,m 3 56,a (k 15 #[(t 56),(i 5)] #[3,3]) 57,j 22 55 57 58,b (.load 3 (t 58)) 59,f 26 4 2 60,w 3 60 59])
def x6_s35 : XC := (.cond (t 52) x6_c34 (.seq (.reg [b (.binOp .eql 3 (t 35) (i 3) 3) 62,n 62 61]) (.cond (t 61) x6_c32 x6_c33)))
def x6_s36 : XC := (.cond (t 48) (.reg [b (.move (t 12)) 50,f 26 4 1 51,w 3 51 50]) (.seq (.reg [b (.binOp .eql 3 (t 35) (i 2) 3) 53,n 53 52]) x6_s35))
def x6_s37 : XC := (.cond (t 44) (.reg [b (.move (t 12)) 46,f 26 4 0 47,w 3 47 46]) (.seq (.reg [b (.binOp .eql 3 (t 35) (i 1) 3) 49,n 49 48]) x6_s36))
def x6_s38 : XC := (.seq (.seq (.reg [m 2 34,a (k 15 #[(t 34),(i 20)] #[3,3]) 35]) (.block 0 (.seq (.reg [b (.binOp .eql 3 (t 35) (i 0) 3) 45,n 45 44]) x6_s37))) (.seq (.reg [b (.load 26 (t 4)) 277,w 26 8 277]) .ret))
def x6_s39 : XC := (.seq (.reg [m 3 31,a (k 15 #[(t 31),(i 22)] #[3,3]) 32,b (.binOp .sub 3 (t 32) (i 2) 3) 33,n 33 12]) x6_s38)
theorem u6_s39 : type_of% (@unf _ _ x6_s39.eq_1) := unf x6_s39.eq_1
def x6_s40 : XC := (.seq (.reg [m 1 26,f 26 4 4 27,l 24 27 28,e 24 28 29,b (k 15 #[(t 26),(t 29)] #[3,3]) 30,n 30 11]) x6_s39)
theorem u6_s40 : type_of% (@unf _ _ x6_s40.eq_1) := unf x6_s40.eq_1
def x6_s41 : XC := (.seq (.reg [c (.move (t 10)) 21,f 26 4 4 22,l 24 22 23,b (.call ⟨(.builtin .append),#[(t 21),(t 23)],#[24,24]⟩) 24,f 26 4 4 25,w 24 25 24]) x6_s40)
theorem u6_s41 : type_of% (@unf _ _ x6_s41.eq_1) := unf x6_s41.eq_1
def x6_s42 : XC := (.seq (.reg [c (.move (t 9)) 16,f 26 4 3 17,l 23 17 18,b (.call ⟨(.builtin .append),#[(t 16),(t 18)],#[23,23]⟩) 19,f 26 4 3 20,w 23 20 19]) (.seq (.reg [a (.assign (.const (.slice .none 0 0))) 10]) x6_s41))
theorem u6_s42 : type_of% (@unf _ _ x6_s42.eq_1) := unf x6_s42.eq_1
def V6 := PLift.up (aI (aI (aI (aI (aI (@unf _ _ x6_s0.eq_1) (@unf _ _ x6_s1.eq_1)) (aI (@unf _ _ x6_L2.eq_1) (aI (@unf _ _ x6_s3.eq_1) (@unf _ _ x6_s4.eq_1)))) (aI (aI (@unf _ _ x6_L5.eq_1) (@unf _ _ x6_s6.eq_1)) (aI (@unf _ _ x6_s7.eq_1) (aI (@unf _ _ x6_L8.eq_1) (@unf _ _ x6_c9.eq_1))))) (aI (aI (aI (@unf _ _ x6_s10.eq_1) (@unf _ _ x6_c11.eq_1)) (aI (@unf _ _ x6_c12.eq_1) (aI (@unf _ _ x6_c13.eq_1) (@unf _ _ x6_s14.eq_1)))) (aI (aI (@unf _ _ x6_c15.eq_1) (aI (@unf _ _ x6_c16.eq_1) (@unf _ _ x6_c17.eq_1))) (aI (@unf _ _ x6_c18.eq_1) (aI (@unf _ _ x6_s19.eq_1) (@unf _ _ x6_c20.eq_1)))))) (aI (aI (aI (aI (@unf _ _ x6_c21.eq_1) (@unf _ _ x6_c22.eq_1)) (aI (@unf _ _ x6_c23.eq_1) (aI (@unf _ _ x6_s24.eq_1) (@unf _ _ x6_c25.eq_1)))) (aI (aI (@unf _ _ x6_c26.eq_1) (aI (@unf _ _ x6_c27.eq_1) (@unf _ _ x6_c28.eq_1))) (aI (@unf _ _ x6_s29.eq_1) (aI (@unf _ _ x6_s30.eq_1) (@unf _ _ x6_c31.eq_1))))) (aI (aI (aI (@unf _ _ x6_c32.eq_1) (@unf _ _ x6_c33.eq_1)) (aI (@unf _ _ x6_c34.eq_1) (aI (@unf _ _ x6_s35.eq_1) (@unf _ _ x6_s36.eq_1)))) (aI (aI (@unf _ _ x6_s37.eq_1) (aI (@unf _ _ x6_s38.eq_1) (@u6_s39))) (aI (@u6_s40) (aI (@u6_s41) (@u6_s42)))))))
theorem U6 : type_of% V6.down := V6.down
def x6 : XC := (.seq (.reg [a (.box 26 (t 0)) 4,a (.alloc 26) 8]) (.seq (.reg [a (.assign (.const (.slice .none 0 0))) 9]) x6_s42))
theorem b6 : Bt 6 278 x6 [(.cell 8 26)] := bt Tryz.func6 rfl (by kernel_rfl) (by kernel_rfl) (by kernel_rfl)
def x6v_s0 : XC := (.reg [m 13 86,b (.binOp .add 3 (t 86) (i 1) 3) 87,n 87 13])
def x6v_s1 : XC := (.seq (.block 2 (.regD [f 26 4 4 88,c (.load 24 (t 88)) 89,f 26 4 4 90,l 24 90 91,m 11 92,j 24 91 92 93,l 55 93 94,a (.buildSlice 24 1 #[(0,(t 94))]) 95,b (.call ⟨(.builtin .append),#[(t 89),(t 95)],#[24,24]⟩) 96,f 26 4 4 97,w 24 97 96])) x6v_s0)
def x6v_L2 : XC := (.seq (.seq (.reg [m 13 84,a (.binOp .lss 3 (t 84) (i 14) 3) 85]) (.cond (t 85) .skip (.exit 1))) x6v_s1)
def x6v_s3 : XC := (.reg [m 14 236,b (.binOp .add 3 (t 236) (i 1) 3) 237,n 237 14])
def x6v_s4 : XC := (.seq (.block 4 (.regD [f 26 4 4 238,c (.load 24 (t 238)) 239,a (.build 50 #[(1,(i 1))]) 240,m 3 241,a (k 15 #[(t 241),(i 125)] #[3,3]) 242,a (.binOp .add 3 (i 900) (t 242) 3) 243,a (.makeSlice 35 (t 243) (t 243)) 244,a (.convert 35 9 (t 244)) 245,a (.build 55 #[(0,(i 7)),(1,(t 240)),(6,(t 245))]) 246,a (.buildSlice 24 1 #[(0,(t 246))]) 247,b (.call ⟨(.builtin .append),#[(t 239),(t 247)],#[24,24]⟩) 248,f 26 4 4 249,w 24 249 248])) x6v_s3)
def x6v_L5 : XC := (.seq (.seq (.reg [m 14 234,a (.binOp .lss 3 (t 234) (i 7) 3) 235]) (.cond (t 235) .skip (.exit 3))) x6v_s4)
def x6v_s6 : XC := (.reg [m 15 268,b (.binOp .add 3 (t 268) (i 1) 3) 269,n 269 15])
def x6v_s7 : XC := (.seq (.block 6 (.reg [f 26 4 3 270,c (.load 23 (t 270)) 271,m 15 272,a (.build 48 #[(0,(t 272)),(1,(i 1))]) 273,a (.buildSlice 23 1 #[(0,(t 273))]) 274,b (.call ⟨(.builtin .append),#[(t 271),(t 274)],#[23,23]⟩) 275,f 26 4 3 276,w 23 276 275])) x6v_s6)
def x6v_L8 : XC := (.seq (.seq (.reg [m 15 263,m 3 264,a (k 15 #[(t 264),(i 4)] #[3,3]) 265,a (.binOp .add 3 (i 7) (t 265) 3) 266,a (.binOp .lss 3 (t 263) (t 266) 3) 267]) (.cond (t 267) .skip (.exit 5))) x6v_s7)
def x6v_c9 : XC := (.regD [f 26 4 4 36,l 24 36 37,m 11 38,m 3 39,a (k 15 #[(t 39),(i 18)] #[3,3]) 40,b (.binOp .add 3 (i 1) (t 40) 3) 41,j 24 37 38 42,f 55 42 0 43,w 3 43 41])
def x6v_s10 : XC := (.cond (t 260) (.seq (.reg [f 26 4 3 262,s (.store 23 (t 262) (.const (.slice .none 0 0)))]) (.seq (.reg [a (.assign (i 0)) 15]) (.block 5 (.loop x6v_L8)))) x6v_c9)
def x6v_c11 : XC := (.reg [a (.buildSlice 22 4 #[(0,(i 0)),(1,(i 1)),(2,(i 1200)),(3,(i 1201))]) 252,m 3 253,a (k 15 #[(t 253),(i 4)] #[3,3]) 254,j 22 252 254 255,l 3 255 256,a (.makeSlice 35 (t 256) (t 256)) 257,b (.convert 35 9 (t 257)) 258,f 26 4 5 259,w 9 259 258])
def x6v_c12 : XC := (.seq (.reg [b (.binOp .eql 3 (t 35) (i 17) 3) 251,n 251 250]) (.cond (t 250) x6v_c11 (.seq (.reg [b (.binOp .eql 3 (t 35) (i 18) 3) 261,n 261 260]) x6v_s10)))
def x6v_c13 : XC := (.regD [f 26 4 4 217,l 24 217 218,m 11 219,a (.build 50 #[(0,(i 1)),(1,(i 1))]) 220,a (.build 50 #[(0,(i 1)),(1,(i 1)),(2,(i 2))]) 221,m 3 222,a (k 15 #[(t 222),(i 4)] #[3,3]) 223,a (.build 50 #[(0,(i 1)),(1,(i 1)),(2,(t 223))]) 224,a (.buildSlice 51 2 #[(0,(t 221)),(1,(t 224))]) 225,m 3 226,a (.binOp .quo 3 (t 226) (i 4) 3) 227,a (k 15 #[(t 227),(i 5)] #[3,3]) 228,a (.binOp .sub 3 (t 228) (i 2) 3) 229,b (.build 55 #[(0,(i 16)),(1,(t 220)),(3,(t 225)),(4,(t 229))]) 230,j 24 218 219 231,w 55 231 230])
def x6v_s14 : XC := (.cond (t 215) x6v_c13 (.seq (.reg [b (.binOp .eql 3 (t 35) (i 16) 3) 233,n 233 232]) (.cond (t 232) (.seq (.reg [a (.assign (i 0)) 14]) (.block 3 (.loop x6v_L5))) x6v_c12)))
def x6v_c15 : XC := (.regD [f 26 4 4 200,l 24 200 201,m 11 202,m 12 203,a (.build 50 #[(0,(i 1)),(1,(i 1)),(2,(t 203))]) 204,c (.buildSlice 51 1 #[(0,(t 204))]) 205,f 26 4 4 206,l 24 206 207,m 11 208,j 24 207 208 209,f 55 209 3 210,l 51 210 211,b (.call ⟨(.builtin .append),#[(t 205),(t 211)],#[51,51]⟩) 212,j 24 201 202 213,f 55 213 3 214,w 51 214 212])
def x6v_c16 : XC := (.regD [f 26 4 4 188,l 24 188 189,m 11 190,m 3 191,a (k 15 #[(t 191),(i 3)] #[3,3]) 192,m 3 193,a (k 15 #[(t 193),(i 5)] #[3,3]) 194,b (.build 53 #[(0,(t 192)),(1,(t 194))]) 195,j 24 189 190 196,f 55 196 7 197,w 53 197 195])
def x6v_c17 : XC := (.seq (.reg [b (.binOp .eql 3 (t 35) (i 14) 3) 199,n 199 198]) (.cond (t 198) x6v_c15 (.seq (.reg [b (.binOp .eql 3 (t 35) (i 15) 3) 216,n 216 215]) x6v_s14)))
def x6v_c18 : XC := (.regD [f 26 4 4 174,l 24 174 175,m 11 176,a (.buildSlice 22 4 #[(0,(i 0)),(1,(i 1)),(2,(i 1024)),(3,(i 1025))]) 177,m 3 178,a (k 15 #[(t 178),(i 4)] #[3,3]) 179,j 22 177 179 180,l 3 180 181,a (.makeSlice 35 (t 181) (t 181)) 182,b (.convert 35 9 (t 182)) 183,j 24 175 176 184,f 55 184 6 185,w 9 185 183])
def x6v_s19 : XC := (.cond (t 172) x6v_c18 (.seq (.reg [b (.binOp .eql 3 (t 35) (i 13) 3) 187,n 187 186]) (.cond (t 186) x6v_c16 x6v_c17)))
def x6v_c20 : XC := (.regD [f 26 4 4 164,l 24 164 165,m 11 166,m 3 167,a (k 15 #[(t 167),(i 18)] #[3,3]) 168,b (.slice 9 (.const (.string ⟨#[115,105,120,116,101,101,110,32,108,101,116,116,101,114,115,33,33]⟩)) .none (.some (t 168)) .none) 169,j 24 165 166 170,f 55 170 5 171,w 9 171 169])
def x6v_c21 : XC := (.regD [f 26 4 4 151,l 24 151 152,m 11 153,m 3 154,a (.buildSlice 22 10 #[(0,(i (-2))),(1,(i (-1))),(2,(i 0)),(3,(i 1)),(4,(i 2)),(5,(i 1023)),(6,(i 1024)),(7,(i 1048576)),(8,(i 1048577)),(9,(t 154))]) 155,m 3 156,a (k 15 #[(t 156),(i 10)] #[3,3]) 157,j 22 155 157 158,b (.load 3 (t 158)) 159,j 24 152 153 160,f 55 160 4 161,w 3 161 159])
def x6v_c22 : XC := (.seq (.reg [b (.binOp .eql 3 (t 35) (i 11) 3) 163,n 163 162]) (.cond (t 162) x6v_c20 (.seq (.reg [b (.binOp .eql 3 (t 35) (i 12) 3) 173,n 173 172]) x6v_s19)))
def x6v_c23 : XC := (.regD [f 26 4 4 138,l 24 138 139,m 11 140,f 26 4 4 141,l 24 141 142,m 11 143,j 24 142 143 144,f 55 144 1 145,b (.load 50 (t 145)) 146,j 24 139 140 147,f 55 147 2 148,w 50 148 146])
def x6v_s24 : XC := (.cond (t 136) x6v_c23 (.seq (.reg [b (.binOp .eql 3 (t 35) (i 10) 3) 150,n 150 149]) (.cond (t 149) x6v_c21 x6v_c22)))
def x6v_c25 : XC := (.regD [f 26 4 4 123,l 24 123 124,m 11 125,m 3 126,a (k 15 #[(t 126),(i 9)] #[3,3]) 127,m 12 128,m 3 129,a (.binOp .quo 3 (t 129) (i 5) 3) 130,a (k 15 #[(t 130),(i 18)] #[3,3]) 131,a (.binOp .sub 3 (t 131) (i 1) 3) 132,b (.build 50 #[(0,(t 127)),(1,(t 128)),(2,(t 132))]) 133,j 24 124 125 134,f 55 134 2 135,w 50 135 133])
def x6v_c26 : XC := (.regD [f 26 4 4 108,l 24 108 109,m 11 110,m 12 111,m 3 112,a (k 15 #[(t 112),(i 19)] #[3,3]) 113,m 3 114,a (.binOp .quo 3 (t 114) (i 5) 3) 115,a (k 15 #[(t 115),(i 18)] #[3,3]) 116,a (.binOp .sub 3 (t 116) (i 1) 3) 117,b (.build 50 #[(0,(t 111)),(1,(t 113)),(2,(t 117))]) 118,j 24 109 110 119,f 55 119 1 120,w 50 120 118])
def x6v_c27 : XC := (.seq (.reg [b (.binOp .eql 3 (t 35) (i 8) 3) 122,n 122 121]) (.cond (t 121) x6v_c25 (.seq (.reg [b (.binOp .eql 3 (t 35) (i 9) 3) 137,n 137 136]) x6v_s24)))
def x6v_c28 : XC := (.reg [f 26 4 4 100,l 24 100 101,m 11 102,b (.move (t 12)) 103,j 24 101 102 104,f 55 104 0 105,w 3 105 103])
def x6v_s29 : XC := (.cond (t 98) x6v_c28 (.seq (.reg [b (.binOp .eql 3 (t 35) (i 7) 3) 107,n 107 106]) (.cond (t 106) x6v_c26 x6v_c27)))
def x6v_s30 : XC := (.cond (t 82) (.seq (.reg [a (.assign (i 0)) 13]) (.block 1 (.loop x6v_L2))) (.seq (.reg [b (.binOp .eql 3 (t 35) (i 6) 3) 99,n 99 98]) x6v_s29))
def x6v_c31 : XC := (.reg [f 26 4 4 78,l 24 78 79,b (.slice 24 (t 79) .none (.some (i 0)) .none) 80,f 26 4 4 81,w 24 81 80])
def x6v_c32 : XC := (.regD [f 26 4 3 63,c (.load 23 (t 63)) 64,m 3 65,a (k 15 #[(t 65),(i 10)] #[3,3]) 66,a (.binOp .sub 3 (t 66) (i 1) 3) 67,m 3 68,a (.binOp .quo 3 (t 68) (i 10) 3) 69,a (k 15 #[(t 69),(i 19)] #[3,3]) 70,a (.binOp .sub 3 (t 70) (i 1) 3) 71,a (.build 48 #[(0,(t 67)),(1,(t 71))]) 72,a (.buildSlice 23 1 #[(0,(t 72))]) 73,b (.call ⟨(.builtin .append),#[(t 64),(t 73)],#[23,23]⟩) 74,f 26 4 3 75,w 23 75 74])
def x6v_c33 : XC := (.seq (.reg [b (.binOp .eql 3 (t 35) (i 4) 3) 77,n 77 76]) (.cond (t 76) x6v_c31 (.seq (.reg [b (.binOp .eql 3 (t 35) (i 5) 3) 83,n 83 82]) x6v_s30)))
def x6v_c34 : XC := (.reg [m 3 54,a (.buildSlice 22 5 #[(0,(i 0)),(1,(i 1)),(2,(i 1048576)),(3,(i 1048577)),(4,(t 54))]) 55,m 3 56,a (k 15 #[(t 56),(i 5)] #[3,3]) 57,j 22 55 57 58,b (.load 3 (t 58)) 59,f 26 4 2 60,w 3 60 59])
def x6v_s35 : XC := (.cond (t 52) x6v_c34 (.seq (.reg [b (.binOp .eql 3 (t 35) (i 3) 3) 62,n 62 61]) (.cond (t 61) x6v_c32 x6v_c33)))
def x6v_s36 : XC := (.cond (t 48) (.reg [b (.move (t 12)) 50,f 26 4 1 51,w 3 51 50]) (.seq (.reg [b (.binOp .eql 3 (t 35) (i 2) 3) 53,n 53 52]) x6v_s35))
def x6v_s37 : XC := (.cond (t 44) (.reg [b (.move (t 12)) 46,f 26 4 0 47,w 3 47 46]) (.seq (.reg [b (.binOp .eql 3 (t 35) (i 1) 3) 49,n 49 48]) x6v_s36))
def x6v_s38 : XC := (.seq (.seq (.reg [m 2 34,a (k 15 #[(t 34),(i 20)] #[3,3]) 35]) (.block 0 (.seq (.reg [b (.binOp .eql 3 (t 35) (i 0) 3) 45,n 45 44]) x6v_s37))) (.seq (.gh (.reg [b (.load 26 (t 4)) 277,w 26 8 277])) .ret))
def x6v_s39 : XC := (.seq (.reg [m 3 31,a (k 15 #[(t 31),(i 22)] #[3,3]) 32,b (.binOp .sub 3 (t 32) (i 2) 3) 33,n 33 12]) x6v_s38)
theorem u6v_s39 : type_of% (@unf _ _ x6v_s39.eq_1) := unf x6v_s39.eq_1
def x6v_s40 : XC := (.seq (.reg [m 1 26,f 26 4 4 27,l 24 27 28,e 24 28 29,b (k 15 #[(t 26),(t 29)] #[3,3]) 30,n 30 11]) x6v_s39)
theorem u6v_s40 : type_of% (@unf _ _ x6v_s40.eq_1) := unf x6v_s40.eq_1
def x6v_s41 : XC := (.seq (.reg [c (.move (t 10)) 21,f 26 4 4 22,l 24 22 23,b (.call ⟨(.builtin .append),#[(t 21),(t 23)],#[24,24,0]⟩) 24,f 26 4 4 25,w 24 25 24]) x6v_s40)
theorem u6v_s41 : type_of% (@unf _ _ x6v_s41.eq_1) := unf x6v_s41.eq_1
def x6v_s42 : XC := (.seq (.reg [c (.move (t 9)) 16,f 26 4 3 17,l 23 17 18,b (.call ⟨(.builtin .append),#[(t 16),(t 18)],#[23,23]⟩) 19,f 26 4 3 20,w 23 20 19]) (.seq (.reg [a (.assign (.const (.slice .none 0 0))) 10]) x6v_s41))
theorem u6v_s42 : type_of% (@unf _ _ x6v_s42.eq_1) := unf x6v_s42.eq_1
def V6v := PLift.up (aI (aI (aI (aI (aI (@unf _ _ x6v_s0.eq_1) (@unf _ _ x6v_s1.eq_1)) (aI (@unf _ _ x6v_L2.eq_1) (aI (@unf _ _ x6v_s3.eq_1) (@unf _ _ x6v_s4.eq_1)))) (aI (aI (@unf _ _ x6v_L5.eq_1) (@unf _ _ x6v_s6.eq_1)) (aI (@unf _ _ x6v_s7.eq_1) (aI (@unf _ _ x6v_L8.eq_1) (@unf _ _ x6v_c9.eq_1))))) (aI (aI (aI (@unf _ _ x6v_s10.eq_1) (@unf _ _ x6v_c11.eq_1)) (aI (@unf _ _ x6v_c12.eq_1) (aI (@unf _ _ x6v_c13.eq_1) (@unf _ _ x6v_s14.eq_1)))) (aI (aI (@unf _ _ x6v_c15.eq_1) (aI (@unf _ _ x6v_c16.eq_1) (@unf _ _ x6v_c17.eq_1))) (aI (@unf _ _ x6v_c18.eq_1) (aI (@unf _ _ x6v_s19.eq_1) (@unf _ _ x6v_c20.eq_1)))))) (aI (aI (aI (aI (@unf _ _ x6v_c21.eq_1) (@unf _ _ x6v_c22.eq_1)) (aI (@unf _ _ x6v_c23.eq_1) (aI (@unf _ _ x6v_s24.eq_1) (@unf _ _ x6v_c25.eq_1)))) (aI (aI (@unf _ _ x6v_c26.eq_1) (aI (@unf _ _ x6v_c27.eq_1) (@unf _ _ x6v_c28.eq_1))) (aI (@unf _ _ x6v_s29.eq_1) (aI (@unf _ _ x6v_s30.eq_1) (@unf _ _ x6v_c31.eq_1))))) (aI (aI (aI (@unf _ _ x6v_c32.eq_1) (@unf _ _ x6v_c33.eq_1)) (aI (@unf _ _ x6v_c34.eq_1) (aI (@unf _ _ x6v_s35.eq_1) (@unf _ _ x6v_s36.eq_1)))) (aI (aI (@unf _ _ x6v_s37.eq_1) (aI (@unf _ _ x6v_s38.eq_1) (@u6v_s39))) (aI (@u6v_s40) (aI (@u6v_s41) (@u6v_s42)))))))
theorem U6v : type_of% V6v.down := V6v.down
def x6v : XC := (.seq (.reg [a (.box 26 (t 0)) 4,a (.alloc 26) 8]) (.seq (.reg [a (.assign (.const (.slice .none 0 0))) 9]) x6v_s42))
theorem b6v : Bt 6 278 x6v [(.cell 8 26)] := bt Tryz.func6 rfl (by kernel_rfl) (by kernel_rfl) (by kernel_rfl)
def x3_s0 : XC := (.seq (.regD [l 26 13 44,a (k 7 #[(t 44)] #[26]) 45,l 26 13 46,a (k 8 #[(t 46)] #[26]) 47,a (.binOp .neq 29 (t 45) (t 47) 29) 48]) (.cond (t 48) (.seq (.reg [a (.assign (.const (.bool false))) 10]) .ret) .skip))
def x3_c1 : XC := (.seq (.reg [l 26 12 37,m 1 38,a (.binOp .quo 3 (t 38) (i 7) 3) 39,m 2 40,a (.binOp .quo 3 (t 40) (i 20) 3) 41,m 4 42,b (k 6 #[(t 37),(t 39),(t 41),(t 42)] #[26,3,3,3]) 43,a (.alloc 26) 13,w 26 13 43]) x3_s0)
def x3_s2 : XC := (.seq (.seq (.reg [f 26 12 4 33,l 24 33 34,e 24 34 35,a (.binOp .gtr 3 (t 35) (i 0) 3) 36]) (.cond (t 36) x3_c1 .skip)) (.seq (.reg [b (k 9 #[] #[]) 49,n 49 10]) .ret))
def x3_s3 : XC := (.seq (.seq (.regD [l 26 11 23,a (k 7 #[(t 23)] #[26]) 24,a (.binOp .neq 29 (t 24) (i 0) 29) 25,m 25 26,g (.load 26 (t 12)) 27 26 false,g (k 7 #[(t 27)] #[26]) 28 26 false,g (.load 26 (t 12)) 29 26 false,g (k 8 #[(t 29)] #[26]) 30 26 false,g (.binOp .neq 29 (t 28) (t 30) 29) 31 26 false,a (.pick (t 26) (.const (.bool true)) (t 31)) 32]) (.cond (t 32) (.seq (.reg [a (.assign (.const (.bool false))) 10]) .ret) .skip)) x3_s2)
def x3_s4 : XC := (.seq (.reg [l 26 11 17,m 1 18,a (.binOp .quo 3 (t 18) (i 5) 3) 19,m 2 20,m 3 21,b (k 6 #[(t 17),(t 19),(t 20),(t 21)] #[26,3,3,3]) 22,a (.alloc 26) 12,w 26 12 22]) x3_s3)
def x3_s5 : XC := (.seq (.reg [m 0 14,m 1 15,b (k 5 #[(t 14),(t 15)] #[22,3]) 16,a (.alloc 26) 11,w 26 11 16]) x3_s4)
def V3 := PLift.up (aI (aI (@unf _ _ x3_s0.eq_1) (aI (@unf _ _ x3_c1.eq_1) (@unf _ _ x3_s2.eq_1))) (aI (@unf _ _ x3_s3.eq_1) (aI (@unf _ _ x3_s4.eq_1) (@unf _ _ x3_s5.eq_1))))
theorem U3 : type_of% V3.down := V3.down
def x3 : XC := (.seq (.reg [a (.assign (.const (.bool false))) 10]) x3_s5)
theorem b3 : Bt 3 50 x3 [(.tmp 10)] := bt Tryz.func3 rfl (by kernel_rfl) (by kernel_rfl) (by kernel_rfl)
end Go.Proofs.YtoeckfegggongaaGreatDoor
end
section
namespace Go.Proofs.YtoeckfegggongaaGreatDoor
open Go Go.Aw
theorem spA {n : Nat} {p : Pt} {a how bb : Int} {H : AH} {R : D → AH → Prop} (hn : n ≤ 900) (hp : Sz n p) (hne : 0 < p.ops.length)
    (h : ∀ (b4 b8 : Nat) (kk near : Int) (F : List D),b4 ≠ b8 → 0 ≤ kk → kk < p.ops.length → Fr 278 [(1,.int .i64 a),(2,.int .i64 how),(3,.int .i64 bb),(4,.ptr b4 0),(8,.ptr b8 0),(11,.int .i64 kk),(12,.int .i64 near)] F → xcode Tryz.prog x6_s38 F ((b8,.cells [.int .i64 0,.int .i64 0,.int .i64 0,.own [],.own [],.str []]) :: (b4,.cells [.int .i64 p.o,.int .i64 p.s,.int .i64 p.day,.own (refsD p.needs),.own (opsD p.ops),.str p.sl]) :: H) (retQ Tryz.prog [(.cell 8 26)] H.length R)) :
    ACall Tryz.prog 6 [.agg p.d,.int .i64 a,.int .i64 how,.int .i64 bb] H R := by
  refine b6 fun hf => ?_
  have hbig := big_eq
  have hd := @dE p
  have l1 := hp.ops
  have l2 := hp.needs
  simp +contextual only [x6,↓u6_s42,↓u6_s41,↓u6_s40,↓u6_s39,refs_len,ops_len,h_miss,h_skip,hd,↓XP,XW0,XW1,reduceSub,reduceAdd,reduceMul,reduceEqDiff,reduceLeDiff,Nat.reduceBEq,reduceCtorEq,TYX]
  intro b4 h4 b8 hh h8
  obtain ⟨n48,h8'⟩ := hh
  have a1 := around_range (n := a) (most := (p.ops.length : Int)) (by omega)
  have a2 := around_range (n := bb) (most := 22) (by omega)
  refine ⟨refs_2,by omega,by omega,fun _ => ⟨ops_13,by omega,by omega,f_around (by omega) ?_⟩⟩
  simp +contextual only [x6,↓u6_s42,↓u6_s41,↓u6_s40,↓u6_s39,refs_len,ops_len,h_miss,h_skip,hd,n48,↓XP,XW0,XW1,reduceSub,reduceAdd,reduceMul,reduceEqDiff,reduceLeDiff,Nat.reduceBEq,reduceCtorEq,TYX]
  refine fun _ => f_around (by omega) ?_
  simp +contextual only [x6,↓u6_s42,↓u6_s41,↓u6_s40,↓u6_s39,refs_len,ops_len,h_miss,h_skip,hd,n48,wrap_id (show -9223372036854775808 ≤ around bb 22 - 2 by omega) (by omega),↓XP,XW0,XW1,reduceSub,reduceAdd,reduceMul,reduceEqDiff,reduceLeDiff,Nat.reduceBEq,reduceCtorEq,TYX]
  intros
  refine h b4 b8 _ (around bb 22 - 2) _ n48 a1.1 a1.2 ?_
  exact ⟨rfl,rfl,rfl,rfl,rfl,rfl,rfl,rfl,trivial⟩
end Go.Proofs.YtoeckfegggongaaGreatDoor
end
