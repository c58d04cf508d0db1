/- A part of the proof of what the last text says: Gw3, Gw4, Gv1. Conditions: those in each theorem. -/
import Derived.Test.YtoeckfegggongaaGreatDoorW20
set_option linter.unusedVariables false
set_option linter.unusedSimpArgs false
set_option maxRecDepth 100000
set_option maxHeartbeats 16000000
open Nat (reduceSub reduceAdd reduceMul reduceEqDiff reduceLeDiff)
section
namespace Go.Proofs.YtoeckfegggongaaGreatDoor
open Go Go.Aw
def id3 (x : Id3) : List Int := [x.o,x.s,x.i]
def opNums (o : OpP) : List Int := [o.k] ++ id3 o.on ++ id3 o.to ++ [o.n,o.a,o.b]
def encOp (o : OpP) : List UInt8 := encInts (opNums o) ++ encInts (o.ids.flatMap id3) ++ encStrs [o.name,o.text]
def needNums (l : List Rf) : List Int := l.flatMap fun r => [r.o,r.s]
def encPt (p : Pt) : List UInt8 := encInts [p.o,p.s,p.day] ++ encInts (needNums p.needs) ++ encInt p.ops.length ++ p.ops.flatMap encOp ++ encBytes p.sl
structure Fit (p : Pt) : Prop where
  ops : p.ops.length ≤ 1000
  needs : p.needs.length ≤ 3000000
  ids : ∀ o ∈ p.ops,o.ids.length ≤ 3000000
  name : ∀ o ∈ p.ops,o.name.length ≤ 3000000
  text : ∀ o ∈ p.ops,o.text.length ≤ 3000000
  sl : p.sl.length ≤ 3000000
theorem ints_app {a b : List Int} : ints a ++ ints b = ints (a ++ b) := by simp [ints]
theorem flat_takeI {α : Type} {l : List α} {f : α → List Int} {i : Nat} {d : α} (h : i < l.length) : (l.take (i + 1)).flatMap f = (l.take i).flatMap f ++ f (l.getD i d) := by
  rw [List.take_add_one,List.flatMap_append]
  simp [h]
theorem needs_len {l : List Rf} : (needNums l).length = 2 * l.length := by
  induction l with
  | nil => rfl
  | cons x r ih => simp only [needNums,List.flatMap_cons,List.length_append,List.length_cons,List.length_nil] at ih ⊢; omega
theorem ids3_len {l : List Id3} : (l.flatMap id3).length = 3 * l.length := by
  induction l with
  | nil => rfl
  | cons x r ih => simp only [List.flatMap_cons,List.length_append,id3,List.length_cons,List.length_nil] at ih ⊢; omega
theorem n_needs {p : Pt} {acc : D} {b1 : Nat} {H : AH} {Q : AQ} {F : List D} (hp : Fit p) (hF : Fr 123 [(1,.ptr b1 0),(3,acc),(4,.own []),(5,.int .i64 0)] F) (hE : ∀ F',Fr 123 [(1,.ptr b1 0),(3,acc),(4,.own (ints (needNums p.needs)))] F' → Q (.exit 0) F' ((b1,AO.cells p.d) :: H)) : XW Tryz.prog x14_L2 F ((b1,AO.cells p.d) :: H) Q := by
  have hbig := big_eq
  have hpn := hp.needs
  have hd := @dE p
  refine XW.loopK Go.Proofs.YtoeckfegggongaaGreatDoor.hm (fun F H' => ∃ (i : Nat),i ≤ p.needs.length ∧ Fr 123 [(1,.ptr b1 0),(3,acc),(4,.own (ints (needNums (p.needs.take i)))),(5,.int .i64 i)] F ∧ ((b1,AO.cells p.d) :: H) = H') (fun F H => match F.getD 5 .any with | .int _ n' => p.needs.length - n'.toNat | _ => 0) ⟨0,by omega,hF,rfl⟩ ?_
  rintro _ _ ⟨i,hi,hF,rfl⟩ K hN hE' hR
  obtain ⟨z,rfl⟩ : ∃ z : Nat → D,_ = z 0 :: .ptr b1 0 :: z 2 :: acc :: .own (ints (needNums (p.needs.take i))) :: .int .i64 i :: zz z 6 117 [] := hF.lit
  try dsimp only [zz,reduceAdd] at *
  clear hF hR
  by_cases hlt : i < p.needs.length
  · have nx : ∀ F',Fr 123 [(1,.ptr b1 0),(3,acc),(4,.own (ints (needNums (p.needs.take i) ++ [(p.needs.getD i default).o,(p.needs.getD i default).s]))),(5,.int .i64 ((i + 1 : Nat) : Int))] F' → K .normal F' ((b1,AO.cells p.d) :: H) := fun F' hF' => hN _ _ ⟨i + 1,hlt,by rw [show needNums (p.needs.take (i + 1)) = needNums (p.needs.take i) ++ [(p.needs.getD i default).o,(p.needs.getD i default).s] from flat_takeI (d := default) hlt]; exact hF',(back_0 rfl).symm⟩ (by
      rw [List.getD_eq_getElem?_getD,hF'.2.2.2.2.1]
      simp only [List.getD_cons_succ,List.getD_cons_zero,Option.getD_some]
      omega)
    clear hN hE hE'
    have q1 := refs_get hlt
    have hl : (needNums (p.needs.take i)).length ≤ 6000000 := by rw [needs_len,List.length_take]; omega
    generalize needNums (p.needs.take i) = ac at nx hl ⊢
    generalize p.needs.getD i default = e at q1 nx
    have he : e.d = [.int .i64 e.o,.int .i64 e.s] := rfl
    simp +contextual only [x14,refs_len,ints_len,hd,q1,he,wrap_succ (show i ≤ big by omega),↓U14,↓XP,XW0,XW1,reduceSub,reduceAdd,reduceMul,reduceEqDiff,reduceLeDiff,Nat.reduceBEq,reduceCtorEq,TYX]
    refine fun _ => ⟨fun _ _ _ => ⟨ints_1,by omega,?_⟩,fun hge => absurd (by omega) hge⟩
    rw [← ints_app] at nx
    exact nx _ ⟨rfl,rfl,rfl,rfl,rfl,trivial⟩
  · have hik : i = p.needs.length := by omega
    subst hik
    clear hN
    simp +contextual only [x14,refs_len,ints_len,hd,↓U14,↓XP,XW0,XW1,reduceSub,reduceAdd,reduceMul,reduceEqDiff,reduceLeDiff,Nat.reduceBEq,reduceCtorEq,TYX]
    rw [List.take_length]
    exact fun _ => hE' _ _ _ (hE _ ⟨rfl,rfl,rfl,rfl,trivial⟩)
theorem n_ids {o : OpP} {p1 acc l8 : D} {q : Int} {b7 : Nat} {H : AH} {Q : AQ} {F : List D} (ho : o.ids.length ≤ 3000000) (hF : Fr 123 [(1,p1),(3,acc),(6,.int .i64 q),(7,.ptr b7 0),(8,l8),(9,.own []),(10,.int .i64 0)] F) (hE : ∀ F',Fr 123 [(1,p1),(3,acc),(6,.int .i64 q),(7,.ptr b7 0),(8,l8),(9,.own (ints (o.ids.flatMap id3)))] F' → Q (.exit 4) F' ((b7,AO.cells o.d) :: H)) : XW Tryz.prog x14_L5 F ((b7,AO.cells o.d) :: H) Q := by
  have hbig := big_eq
  have hod : o.d = [.int .i64 o.k,.int .i64 o.on.o,.int .i64 o.on.s,.int .i64 o.on.i,.int .i64 o.to.o,.int .i64 o.to.s,.int .i64 o.to.i,.slc (idsD o.ids),.int .i64 o.n,.str o.name,.str o.text,.int .i64 o.a,.int .i64 o.b] := rfl
  refine XW.loopK Go.Proofs.YtoeckfegggongaaGreatDoor.hm (fun F H' => ∃ (i : Nat),i ≤ o.ids.length ∧ Fr 123 [(1,p1),(3,acc),(6,.int .i64 q),(7,.ptr b7 0),(8,l8),(9,.own (ints ((o.ids.take i).flatMap id3))),(10,.int .i64 i)] F ∧ ((b7,AO.cells o.d) :: H) = H') (fun F H => match F.getD 10 .any with | .int _ n' => o.ids.length - n'.toNat | _ => 0) ⟨0,by omega,hF,rfl⟩ ?_
  rintro _ _ ⟨i,hi,hF,rfl⟩ K hN hE' hR
  obtain ⟨z,rfl⟩ : ∃ z : Nat → D,_ = z 0 :: p1 :: z 2 :: acc :: zz z 4 2 (.int .i64 q :: .ptr b7 0 :: l8 :: .own (ints ((o.ids.take i).flatMap id3)) :: .int .i64 i :: zz z 11 112 []) := hF.lit
  try dsimp only [zz,reduceAdd] at *
  clear hF hR
  by_cases hlt : i < o.ids.length
  · have nx : ∀ F',Fr 123 [(1,p1),(3,acc),(6,.int .i64 q),(7,.ptr b7 0),(8,l8),(9,.own (ints ((o.ids.take i).flatMap id3 ++ id3 (o.ids.getD i default)))),(10,.int .i64 ((i + 1 : Nat) : Int))] F' → K .normal F' ((b7,AO.cells o.d) :: H) := fun F' hF' => hN _ _ ⟨i + 1,hlt,by rw [flat_takeI (d := default) hlt]; exact hF',(back_0 rfl).symm⟩ (by
      rw [List.getD_eq_getElem?_getD,hF'.2.2.2.2.2.2.2.1]
      simp only [List.getD_cons_succ,List.getD_cons_zero,Option.getD_some]
      omega)
    clear hN hE hE'
    have q1 := ids_get hlt
    have hl : ((o.ids.take i).flatMap id3).length ≤ 9000000 := by rw [ids3_len,List.length_take]; omega
    generalize (o.ids.take i).flatMap id3 = ac at nx hl ⊢
    generalize o.ids.getD i default = e at q1 nx
    have he : e.d = [.int .i64 e.o,.int .i64 e.s,.int .i64 e.i] := rfl
    simp +contextual only [x14,ids_len,ints_len,hod,q1,he,wrap_succ (show i ≤ big by omega),↓U14,↓XP,XW0,XW1,reduceSub,reduceAdd,reduceMul,reduceEqDiff,reduceLeDiff,Nat.reduceBEq,reduceCtorEq,TYX]
    refine fun _ => ⟨fun _ => f_three (x := e) ?_,fun hge => absurd (by omega) hge⟩
    have h3 : [e.o,e.s,e.i].length = 3 := rfl
    simp +contextual only [x14,ids_len,ints_len,hod,q1,he,h3,wrap_succ (show i ≤ big by omega),↓U14,↓XP,XW0,XW1,reduceSub,reduceAdd,reduceMul,reduceEqDiff,reduceLeDiff,Nat.reduceBEq,reduceCtorEq,TYX]
    rw [← ints_app] at nx
    exact fun _ => ⟨ints_1,ints_1,by omega,nx _ ⟨rfl,rfl,rfl,rfl,rfl,rfl,rfl,rfl,trivial⟩⟩
  · have hik : i = o.ids.length := by omega
    subst hik
    clear hN
    simp +contextual only [x14,ids_len,ints_len,hod,↓U14,↓XP,XW0,XW1,reduceSub,reduceAdd,reduceMul,reduceEqDiff,reduceLeDiff,Nat.reduceBEq,reduceCtorEq,TYX]
    rw [List.take_length]
    exact fun _ => hE' _ _ _ (hE _ ⟨rfl,rfl,rfl,rfl,rfl,rfl,rfl,trivial⟩)
end Go.Proofs.YtoeckfegggongaaGreatDoor
end
section
namespace Go.Proofs.YtoeckfegggongaaGreatDoor
open Go Go.Aw
theorem strs_two {l : List (List UInt8)} (h : ∀ x ∈ l,x.length ≤ 3000000) : (encStrs l).length ≤ (9 + 3000000) * l.length + (encInt l.length).length := by
  have := flat_lenB h (by omega)
  rw [encStrs,List.length_append]
  omega
theorem n_ops {p : Pt} {pre : List UInt8} {b1 : Nat} {H : AH} {Q : AQ} {F : List D} (hp : Fit p) (hpre : pre.length ≤ 100000000) (hF : Fr 123 [(1,.ptr b1 0),(3,.own (pre.map byteD)),(6,.int .i64 0)] F) (hE : (pre ++ p.ops.flatMap encOp).length ≤ 1000000000000 → ∀ F',Fr 123 [(1,.ptr b1 0),(3,.own ((pre ++ p.ops.flatMap encOp).map byteD))] F' → Q (.exit 2) F' ((b1,AO.cells p.d) :: H)) : XW Tryz.prog x14_L16 F ((b1,AO.cells p.d) :: H) Q := by
  have hbig := big_eq
  have hpo := hp.ops
  have hd := @dE p
  refine XW.loopK Go.Proofs.YtoeckfegggongaaGreatDoor.hm (fun F H' => ∃ (i : Nat),i ≤ p.ops.length ∧ (pre ++ (p.ops.take i).flatMap encOp).length ≤ 100000000 + 100000000 * i ∧ Fr 123 [(1,.ptr b1 0),(3,.own ((pre ++ (p.ops.take i).flatMap encOp).map byteD)),(6,.int .i64 (i : Int))] F ∧ ((b1,AO.cells p.d) :: H) = H') (fun F H => match F.getD 6 .any with | .int _ n' => p.ops.length - n'.toNat | _ => 0) ⟨0,by omega,by simpa using hpre,by simpa using hF,rfl⟩ ?_
  clear hF
  rintro _ _ ⟨i,hi,hln,hF,rfl⟩ K hN hE' hR
  obtain ⟨z,rfl⟩ : ∃ z : Nat → D,_ = z 0 :: .ptr b1 0 :: z 2 :: .own ((pre ++ (p.ops.take i).flatMap encOp).map byteD) :: zz z 4 2 (.int .i64 (i : Int) :: zz z 7 116 []) := hF.lit
  try dsimp only [zz,reduceAdd] at *
  clear hF hR
  by_cases hlt : i < p.ops.length
  · have nx : (encOp (p.ops.getD i default)).length ≤ 100000000 → ∀ F' H',back ((b1,AO.cells p.d) :: H).length H' = ((b1,AO.cells p.d) :: H) → Fr 123 [(1,.ptr b1 0),(3,.own ((pre ++ (p.ops.take i).flatMap encOp ++ encOp (p.ops.getD i default)).map byteD)),(6,.int .i64 ((i + 1 : Nat) : Int))] F' → K .normal F' H' := fun hl F' H' hH hF' => hN _ _ ⟨i + 1,hlt,by
        rw [flat_take (d := default) hlt,← List.append_assoc,List.length_append]
        omega,by rw [flat_take (d := default) hlt,← List.append_assoc]; exact hF',hH.symm⟩ (by
      rw [List.getD_eq_getElem?_getD,hF'.2.2.2.1]
      simp only [List.getD_cons_succ,List.getD_cons_zero,Option.getD_some]
      omega)
    clear hN hE hE'
    have q1 := ops_get hlt
    have hm : p.ops.getD i default ∈ p.ops := by rw [getD_lt hlt]; exact List.getElem_mem hlt
    have o1 := hp.ids _ hm
    have o2 := hp.name _ hm
    have o3 := hp.text _ hm
    generalize pre ++ (p.ops.take i).flatMap encOp = ac at nx hln ⊢
    generalize p.ops.getD i default = o at q1 nx o1 o2 o3
    have hod : o.d = [.int .i64 o.k,.int .i64 o.on.o,.int .i64 o.on.s,.int .i64 o.on.i,.int .i64 o.to.o,.int .i64 o.to.s,.int .i64 o.to.i,.slc (idsD o.ids),.int .i64 o.n,.str o.name,.str o.text,.int .i64 o.a,.int .i64 o.b] := rfl
    simp +contextual only [x14,ops_len,ints_len,hd,bytesD_len,q1,hod,↓U14,↓XP,XW0,XW1,reduceSub,reduceAdd,reduceMul,reduceEqDiff,reduceLeDiff,Nat.reduceBEq,reduceCtorEq,TYX]
    refine fun _ => ⟨fun _ b7 hb _ => f_three (x := o.on) ?_,fun hge => absurd (by omega) hge⟩
    obtain ⟨n17,h7⟩ := hb
    simp +contextual only [x14,ops_len,ints_len,hd,bytesD_len,hod,n17,h_miss,h_skip,ints,↓U14,↓XP,XW0,XW1,reduceSub,reduceAdd,reduceMul,reduceEqDiff,reduceLeDiff,Nat.reduceBEq,reduceCtorEq,TYX]
    refine fun _ => f_three (x := o.to) ?_
    simp +contextual only [x14,ops_len,ints_len,hd,bytesD_len,hod,n17,h_miss,h_skip,ints,↓U14,↓XP,XW0,XW1,reduceSub,reduceAdd,reduceMul,reduceEqDiff,reduceLeDiff,Nat.reduceBEq,reduceCtorEq,TYX]
    refine fun _ _ _ _ => n_ids (o := o) (p1 := .ptr b1 0) (acc := .own (ac.map byteD)) (l8 := .own (ints (opNums o))) (q := i) (b7 := b7) o1 ⟨rfl,rfl,rfl,rfl,rfl,rfl,rfl,rfl,trivial⟩ (fun F' hF' => ?_)
    obtain ⟨z,rfl⟩ : ∃ z : Nat → D,_ = z 0 :: .ptr b1 0 :: z 2 :: .own (ac.map byteD) :: zz z 4 2 (.int .i64 (i : Int) :: .ptr b7 0 :: .own (ints (opNums o)) :: .own (ints (o.ids.flatMap id3)) :: zz z 10 113 []) := hF'.lit
    try dsimp only [zz,reduceAdd] at *
    clear hF'
    have l10 : (opNums o).length = 10 := rfl
    have l3 := ids3_len (l := o.ids)
    simp +contextual only [x14,ops_len,ints_len,hd,bytesD_len,hod,n17,h_miss,h_skip,↓U14,↓XP,XW0,XW1,reduceSub,reduceAdd,reduceMul,reduceEqDiff,reduceLeDiff,Nat.reduceBEq,reduceCtorEq,TYX]
    refine f_rInts (by omega) fun k1 => ?_
    simp +contextual only [x14,ops_len,ints_len,hd,bytesD_len,hod,n17,h_miss,h_skip,↓U14,↓XP,XW0,XW1,reduceSub,reduceAdd,reduceMul,reduceEqDiff,reduceLeDiff,Nat.reduceBEq,reduceCtorEq,TYX]
    refine fun _ => ⟨bytes_1,bytes_1,by omega,f_rInts (by omega) fun k2 => ?_⟩
    simp +contextual only [x14,ops_len,ints_len,hd,bytesD_len,hod,n17,h_miss,h_skip,← List.map_append,List.length_append,↓U14,↓XP,XW0,XW1,reduceSub,reduceAdd,reduceMul,reduceEqDiff,reduceLeDiff,Nat.reduceBEq,reduceCtorEq,TYX]
    refine fun _ => ⟨bytes_1,bytes_1,by omega,?_⟩
    have hb3 : ∀ x ∈ [o.name,o.text],x.length ≤ 3000000 := by
      intro x hx
      simp only [List.mem_cons,List.not_mem_nil,or_false] at hx
      rcases hx with rfl | rfl
      · exact o2
      · exact o3
    have k3 := strs_two hb3
    have k4 := encLen (n := [o.name,o.text].length) (by simp)
    refine fun _ _ => f_rStrings (l := [o.name,o.text]) (by simp) hb3 ?_
    simp +contextual only [x14,ops_len,ints_len,hd,bytesD_len,hod,n17,h_miss,h_skip,← List.map_append,List.length_append,wrap_succ (show i ≤ big by omega),↓U14,↓XP,XW0,XW1,reduceSub,reduceAdd,reduceMul,reduceEqDiff,reduceLeDiff,Nat.reduceBEq,reduceCtorEq,TYX]
    have e2 : ([o.name,o.text] : List (List UInt8)).length = 2 := rfl
    rw [e2] at k3 k4
    refine fun _ => ⟨bytes_1,bytes_1,by omega,nx ?_ _ _ (back_1 rfl) ?_⟩
    · simp only [encOp,List.length_append]
      omega
    · rw [show ac ++ encOp o = ac ++ encInts (opNums o) ++ encInts (o.ids.flatMap id3) ++ encStrs [o.name,o.text] by simp only [encOp,List.append_assoc]]
      exact ⟨rfl,rfl,rfl,rfl,trivial⟩
  · have hik : i = p.ops.length := by omega
    subst hik
    clear hN
    simp +contextual only [x14,ops_len,ints_len,hd,bytesD_len,↓U14,↓XP,XW0,XW1,reduceSub,reduceAdd,reduceMul,reduceEqDiff,reduceLeDiff,Nat.reduceBEq,reduceCtorEq,TYX]
    rw [List.take_length] at hln ⊢
    simp only [← hd]
    exact fun _ => hE' _ _ _ (hE (by omega) _ ⟨rfl,rfl,rfl,trivial⟩)
theorem f_rEnc {p : Pt} {H : AH} {R : D → AH → Prop} (hp : Fit p) (h : (encPt p).length ≤ 2000000000000 → R (.own ((encPt p).map byteD)) H) : ACall Tryz.prog 14 [.agg p.d] H R := by
  refine b14 fun hf => ?_
  have hbig := big_eq
  have hpo := hp.ops
  have hpn := hp.needs
  have hps := hp.sl
  have hd := @dE p
  simp +contextual only [x14,ops_len,ints_len,hd,bytesD_len,← List.map_append,List.length_append,↓U14,↓XP,XW0,XW1,reduceSub,reduceAdd,reduceMul,reduceEqDiff,reduceLeDiff,Nat.reduceBEq,reduceCtorEq,TYX]
  refine fun b1 h1 _ _ _ => f_rInts (l := [p.o,p.s,p.day]) (by simp) fun k1 => ?_
  have e3 : ([p.o,p.s,p.day] : List Int).length = 3 := rfl
  rw [e3] at k1
  have hk := fun c => (c : Prop)
  simp +contextual only [x14,ops_len,ints_len,hd,bytesD_len,← List.map_append,List.length_append,↓U14,↓XP,XW0,XW1,reduceSub,reduceAdd,reduceMul,reduceEqDiff,reduceLeDiff,Nat.reduceBEq,reduceCtorEq,TYX]
  simp only [← hd]
  obtain ⟨pre,hpre⟩ : ∃ pre,encInts [p.o,p.s,p.day] = pre := ⟨_,rfl⟩
  have henc : encPt p = pre ++ encInts (needNums p.needs) ++ encInt p.ops.length ++ p.ops.flatMap encOp ++ encBytes p.sl := by rw [← hpre]; rfl
  rw [henc] at h
  rw [hpre] at k1 ⊢
  refine fun _ => n_needs (p := p) (acc := .own (pre.map byteD)) hp ⟨rfl,rfl,rfl,rfl,rfl,trivial⟩ (fun F' hF' => ?_)
  obtain ⟨z,rfl⟩ : ∃ z : Nat → D,_ = z 0 :: .ptr b1 0 :: z 2 :: .own (pre.map byteD) :: .own (ints (needNums p.needs)) :: zz z 5 118 [] := hF'.lit
  try dsimp only [zz,reduceAdd] at *
  clear hF'
  have l2 := needs_len (l := p.needs)
  simp +contextual only [x14,ops_len,ints_len,hd,bytesD_len,← List.map_append,List.length_append,↓U14,↓XP,XW0,XW1,reduceSub,reduceAdd,reduceMul,reduceEqDiff,reduceLeDiff,Nat.reduceBEq,reduceCtorEq,TYX]
  refine f_rInts (by omega) fun k2 => ?_
  simp +contextual only [x14,ops_len,ints_len,hd,bytesD_len,← List.map_append,List.length_append,↓U14,↓XP,XW0,XW1,reduceSub,reduceAdd,reduceMul,reduceEqDiff,reduceLeDiff,Nat.reduceBEq,reduceCtorEq,TYX]
  have k3 := encLen (n := p.ops.length) (by omega)
  refine fun _ => ⟨bytes_1,bytes_1,by omega,fun _ => f_rInt fun _ => ?_⟩
  simp +contextual only [x14,ops_len,ints_len,hd,bytesD_len,← List.map_append,List.length_append,↓U14,↓XP,XW0,XW1,reduceSub,reduceAdd,reduceMul,reduceEqDiff,reduceLeDiff,Nat.reduceBEq,reduceCtorEq,TYX]
  simp only [← hd]
  refine fun _ => ⟨bytes_1,bytes_1,by omega,?_⟩
  obtain ⟨pre2,hp2⟩ : ∃ pre2,pre ++ encInts (needNums p.needs) ++ encInt p.ops.length = pre2 := ⟨_,rfl⟩
  have hl2 : pre2.length ≤ 100000000 := by rw [← hp2]; simp only [List.length_append]; omega
  rw [hp2] at h ⊢
  refine n_ops (p := p) (pre := pre2) hp hl2 ⟨rfl,rfl,rfl,rfl,trivial⟩ (fun k5 F' hF' => ?_)
  obtain ⟨z,rfl⟩ : ∃ z : Nat → D,_ = z 0 :: .ptr b1 0 :: z 2 :: .own ((pre2 ++ p.ops.flatMap encOp).map byteD) :: zz z 4 119 [] := hF'.lit
  try dsimp only [zz,reduceAdd] at *
  clear hF'
  simp only [List.length_append] at k5
  simp +contextual only [x14,ops_len,ints_len,hd,bytesD_len,← List.map_append,List.length_append,↓U14,↓XP,XW0,XW1,reduceSub,reduceAdd,reduceMul,reduceEqDiff,reduceLeDiff,Nat.reduceBEq,reduceCtorEq,TYX]
  have k6 := encLen (n := p.sl.length) (by omega)
  refine fun _ => f_rBytes (by omega) ?_
  have k7 : (encBytes p.sl).length ≤ 9 + 3000000 := by simp only [encBytes,List.length_append]; omega
  simp +contextual only [x14,ops_len,ints_len,hd,bytesD_len,← List.map_append,List.length_append,↓U14,↓XP,XW0,XW1,reduceSub,reduceAdd,reduceMul,reduceEqDiff,reduceLeDiff,Nat.reduceBEq,reduceCtorEq,TYX]
  exact fun _ => ⟨bytes_1,bytes_1,by omega,h (by simp only [List.length_append]; omega)⟩
end Go.Proofs.YtoeckfegggongaaGreatDoor
end
section
namespace Go.Proofs.YtoeckfegggongaaGreatDoor
open Go Go.Aw
def OkId (x : Id3) : Prop := 0 ≤ x.o ∧ x.o ≤ 7 ∧ 1 ≤ x.s ∧ x.s ≤ 16 ∧ 0 ≤ x.i ∧ x.i ≤ 15
instance (x : Id3) : Decidable (OkId x) := by unfold OkId; exact inferInstance
def OkSpan (a b : Int) : Prop := 1 ≤ a ∧ a ≤ b ∧ b ≤ 1022679
instance (a b : Int) : Decidable (OkSpan a b) := by unfold OkSpan; exact inferInstance
def uses (k : Int) : List UInt8 :=
  if k = 1 then [65,88] else if k = 2 ∨ k = 8 ∨ k = 10 ∨ k = 9 then [79,78] else if k = 3 then [65,88,83] else if k = 4 then [79,84,78,88]
  else if k = 5 ∨ k = 7 then [79,88] else if k = 6 then [79,65] else if k = 11 then [79,83] else if k = 12 then [79,65,88] else if k = 13 ∨ k = 15 then [79,84,78]
  else if k = 14 then [79,65,78] else if k = 16 then [79,73,78] else if k = 17 then [79,84] else if k = 18 then [79,84,73] else []
def numLow (k : Int) : Int := if k = 16 then -1 else 0
def numHigh (o : OpP) : Int := if o.k = 9 ∨ o.k = 14 ∨ o.k = 15 then 1 else if o.k = 13 then 1023 else if o.k = 16 then o.ids.length - 1 else 1048576
def OkNum (o : OpP) : Prop := numLow o.k ≤ o.n ∧ o.n ≤ numHigh o
instance (o : OpP) : Decidable (OkNum o) := by unfold OkNum; exact inferInstance
def OkIds (o : OpP) : Prop := (∀ x ∈ o.ids,OkId x ∧ (o.k = 16 → x ≠ o.on)) ∧ o.ids.Nodup ∧ (o.k = 18 → o.ids.length = 1) ∧ (o.k ≠ 18 → 2 ≤ o.ids.length ∧ o.ids.length ≤ 4)
instance (o : OpP) : Decidable (OkIds o) := by unfold OkIds; exact inferInstance
theorem f_rID {x : Id3} {H : AH} {R : D → AH → Prop} (h : R (.bool (decide (OkId x))) H) : ACall Tryz.prog 52 [.agg x.d] H R := by
  refine b52 fun hf => ?_
  have hd : x.d = [.int .i64 x.o,.int .i64 x.s,.int .i64 x.i] := rfl
  have hk : ∀ b,decide (OkId x) = b → R (.bool b) H := fun b hb => hb ▸ h
  simp +contextual only [x52,hd,↓u52_s0,↓XP,XW0,XW1,reduceSub,reduceAdd,reduceMul,reduceEqDiff,reduceLeDiff,Nat.reduceBEq,reduceCtorEq,TYX]
  intro b1 h1
  repeat' (first | apply And.intro | intro _)
  all_goals first
    | exact hk _ (decide_eq_true (by unfold OkId; omega))
    | exact hk _ (decide_eq_false (by unfold OkId; omega))
    | exact hk _ (decide_eq_decide.2 (by unfold OkId; omega))
    | skip
theorem f_rSpan {a b : Int} {H : AH} {R : D → AH → Prop} (h : R (.bool (decide (OkSpan a b))) H) : ACall Tryz.prog 55 [.agg [.int .i64 a,.int .i64 b]] H R := by
  refine b55 fun hf => ?_
  have hk : ∀ c,decide (OkSpan a b) = c → R (.bool c) H := fun b hb => hb ▸ h
  simp +contextual only [x55,↓u55_s0,↓XP,XW0,XW1,reduceSub,reduceAdd,reduceMul,reduceEqDiff,reduceLeDiff,Nat.reduceBEq,reduceCtorEq,TYX]
  intro b1 h1
  repeat' (first | apply And.intro | intro _)
  all_goals first
    | exact hk _ (decide_eq_true (by unfold OkSpan; omega))
    | exact hk _ (decide_eq_false (by unfold OkSpan; omega))
    | exact hk _ (decide_eq_decide.2 (by unfold OkSpan; omega))
    | skip
theorem f_rUses {k : Int} {H : AH} {R : D → AH → Prop} (h : R (.str (uses k)) H) : ACall Tryz.prog 50 [.int .i64 k] H R := by
  refine b50 fun hf => ?_
  have hk : ∀ s,uses k = s → R (.str s) H := fun b hb => hb ▸ h
  simp +contextual only [x50,↓U50,↓XP,XW0,XW1,reduceSub,reduceAdd,reduceMul,reduceEqDiff,reduceLeDiff,Nat.reduceBEq,reduceCtorEq,TYX]
  repeat' (first | apply And.intro | intro _)
  all_goals first
    | exact hk _ (by unfold uses; simp [*])
    | skip
theorem f_rHas {s : List UInt8} {c : UInt8} {H : AH} {R : D → AH → Prop} (h : R (.bool (decide (c ∈ s))) H) : ACall Tryz.prog 51 [.str s,.int .u8 (c.toNat : Int)] H R := by
  refine b51 fun hf => ?_
  have hbig := big_eq
  have hlen : s.length ≤ big := hf.1
  have hk : ∀ b,decide (c ∈ s) = b → R (.bool b) H := fun b hb => hb ▸ h
  simp +contextual only [x51,↓U51,↓XP,XW0,XW1,reduceSub,reduceAdd,reduceMul,reduceEqDiff,reduceLeDiff,Nat.reduceBEq,reduceCtorEq,TYX]
  refine XW.loopK Go.Proofs.YtoeckfegggongaaGreatDoor.hm (fun F H' => ∃ (i : Nat),i ≤ s.length ∧ c ∉ s.take i ∧ Fr 17 [(0,.str s),(1,.int .u8 (c.toNat : Int)),(5,.int .i64 i)] F ∧ H = H') (fun F H => match F.getD 5 .any with | .int _ n' => s.length - n'.toNat | _ => 0) ⟨0,by omega,by simp,⟨rfl,rfl,rfl,rfl,trivial⟩,rfl⟩ ?_
  rintro _ _ ⟨i,hi,hn,hF,rfl⟩ K hN hE hR
  obtain ⟨z,rfl⟩ : ∃ z : Nat → D,_ = .str s :: .int .u8 (c.toNat : Int) :: zz z 2 3 (.int .i64 i :: zz z 6 11 []) := hF.lit
  try dsimp only [zz,reduceAdd] at *
  clear hF
  by_cases hlt : i < s.length
  · have nx : c ∉ s.take (i + 1) → ∀ F',Fr 17 [(0,.str s),(1,.int .u8 (c.toNat : Int)),(5,.int .i64 ((i + 1 : Nat) : Int))] F' → K .normal F' H := fun hn F' hF' => hN _ _ ⟨i + 1,hlt,hn,hF',(back_0 rfl).symm⟩ (by
      rw [List.getD_eq_getElem?_getD,hF'.2.2.2.1]
      simp only [List.getD_cons_succ,List.getD_cons_zero,Option.getD_some]
      omega)
    clear hN hE
    have hmem : s.getD i 0 ∈ s := by rw [getD_lt hlt]; exact List.getElem_mem hlt
    have hnt : s.getD i 0 ≠ c → c ∉ s.take (i + 1) := fun hne hm => by
      rw [List.take_add_one] at hm
      rcases List.mem_append.1 hm with hm | hm
      · exact hn hm
      · simp [hlt] at hm
        exact hne (by simp [hlt,hm])
    generalize hd : s.getD i 0 = d at hmem hnt
    have heq : (((d.toNat : Nat) : Int) = ((c.toNat : Nat) : Int)) = (d = c) := by
      apply propext
      constructor
      · intro h; exact UInt8.toNat_inj.1 (by omega)
      · intro h; rw [h]
    simp +contextual only [x51,hd,heq,wrap_succ (show i ≤ big by omega),↓U51,↓XP,XW0,XW1,reduceSub,reduceAdd,reduceMul,reduceEqDiff,reduceLeDiff,Nat.reduceBEq,reduceCtorEq,TYX]
    refine fun _ => ⟨fun _ => ⟨fun he => hR _ _ ?_,fun he => nx (hnt he) _ ⟨rfl,rfl,rfl,rfl,trivial⟩⟩,fun hge => absurd (by omega) hge⟩
    simp +contextual only [x51,↓U51,↓XP,XW0,XW1,reduceSub,reduceAdd,reduceMul,reduceEqDiff,reduceLeDiff,Nat.reduceBEq,reduceCtorEq,TYX]
    exact hk _ (decide_eq_true (he ▸ hmem))
  · have hik : i = s.length := by omega
    subst hik
    clear hN
    rw [List.take_length] at hn
    simp +contextual only [x51,↓U51,↓XP,XW0,XW1,reduceSub,reduceAdd,reduceMul,reduceEqDiff,reduceLeDiff,Nat.reduceBEq,reduceCtorEq,TYX]
    refine fun _ => hE _ _ _ ?_
    simp +contextual only [x51,↓U51,↓XP,XW0,XW1,reduceSub,reduceAdd,reduceMul,reduceEqDiff,reduceLeDiff,Nat.reduceBEq,reduceCtorEq,TYX]
    exact hk _ (decide_eq_false hn)
theorem f_rNum {o : OpP} {H : AH} {R : D → AH → Prop} (h : R (.bool (decide (OkNum o))) H) : ACall Tryz.prog 53 [.agg o.d] H R := by
  refine b53 fun hf => ?_
  have hbig := big_eq
  have hod : o.d = [.int .i64 o.k,.int .i64 o.on.o,.int .i64 o.on.s,.int .i64 o.on.i,.int .i64 o.to.o,.int .i64 o.to.s,.int .i64 o.to.i,.slc (idsD o.ids),.int .i64 o.n,.str o.name,.str o.text,.int .i64 o.a,.int .i64 o.b] := rfl
  have hk : ∀ b,decide (OkNum o) = b → R (.bool b) H := fun b hb => hb ▸ h
  have w1 : o.ids.length ≤ big → IntKind.i64.wrap ((o.ids.length : Int) - 1) = (o.ids.length : Int) - 1 := fun h => wrap_id (by omega) (by omega)
  simp +contextual only [x53,hod,ids_len,w1,↓U53,↓XP,XW0,XW1,reduceSub,reduceAdd,reduceMul,reduceEqDiff,reduceLeDiff,Nat.reduceBEq,reduceCtorEq,TYX]
  repeat' (first | apply And.intro | intro _)
  all_goals first
    | exact hk _ (decide_eq_decide.2 (by simp [OkNum,numLow,numHigh, *]))
    | exact hk _ (decide_eq_false (by simp [OkNum,numLow,numHigh, *]; omega))
    | exact hk _ (decide_eq_false (by simp [OkNum,numLow,numHigh, *]))
    | skip
theorem nodup_take {l : List Id3} {i : Nat} (h : i < l.length) : (l.take (i + 1)).Nodup ↔ (l.take i).Nodup ∧ l.getD i default ∉ l.take i := by
  rw [List.take_add_one,show l[i]?.toList = [l.getD i default] by simp [h],List.nodup_append]
  constructor
  · rintro ⟨h1,_,h3⟩
    exact ⟨h1,fun hm => h3 _ hm _ (List.mem_singleton.2 rfl) rfl⟩
  · rintro ⟨h1,h2⟩
    exact ⟨h1,by simp,fun a ha b hb e => h2 (by rw [List.mem_singleton] at hb; rw [← hb,← e]; exact ha)⟩
theorem f_rParts {o : OpP} {H : AH} {R : D → AH → Prop} (h : R (.bool (decide (OkIds o))) H) : ACall Tryz.prog 54 [.agg o.d] H R := by
  refine b54 fun hf => ?_
  have hbig := big_eq
  have hod : o.d = [.int .i64 o.k,.int .i64 o.on.o,.int .i64 o.on.s,.int .i64 o.on.i,.int .i64 o.to.o,.int .i64 o.to.s,.int .i64 o.to.i,.slc (idsD o.ids),.int .i64 o.n,.str o.name,.str o.text,.int .i64 o.a,.int .i64 o.b] := rfl
  have hk : ∀ b,decide (OkIds o) = b → R (.bool b) H := fun b hb => hb ▸ h
  clear h
  simp +contextual only [x54,ids_len,hod,↓U54,↓XP,XW0,XW1,reduceSub,reduceAdd,reduceMul,reduceEqDiff,reduceLeDiff,Nat.reduceBEq,reduceCtorEq,TYX]
  intro b1 h1
  simp only [← hod]
  refine XW.loopK Go.Proofs.YtoeckfegggongaaGreatDoor.hm (fun F H' => ∃ (i : Nat),i ≤ o.ids.length ∧ (∀ x ∈ o.ids.take i,OkId x ∧ (o.k = 16 → x ≠ o.on)) ∧ (o.ids.take i).Nodup ∧ Fr 67 [(1,.ptr b1 0),(3,.int .i64 i)] F ∧ ((b1,AO.cells o.d) :: H) = H') (fun F H => match F.getD 3 .any with | .int _ n' => o.ids.length - n'.toNat | _ => 0) ⟨0,by omega,by simp,by simp,⟨rfl,rfl,rfl,trivial⟩,rfl⟩ ?_
  rintro _ _ ⟨i,hi,hv,hn,hF,rfl⟩ K hN hE hR
  obtain ⟨z,rfl⟩ : ∃ z : Nat → D,_ = z 0 :: .ptr b1 0 :: z 2 :: .int .i64 i :: zz z 4 63 [] := hF.lit
  try dsimp only [zz,reduceAdd] at *
  clear hF
  by_cases hlt : i < o.ids.length
  · have nx : (OkId (o.ids.getD i default) ∧ (o.k = 16 → o.ids.getD i default ≠ o.on)) → o.ids.getD i default ∉ o.ids.take i → ∀ F',Fr 67 [(1,.ptr b1 0),(3,.int .i64 ((i + 1 : Nat) : Int))] F' → K .normal F' ((b1,AO.cells o.d) :: H) := fun h1 h2 F' hF' => hN _ _ ⟨i + 1,hlt,fun x hx => by
        rw [List.take_add_one] at hx
        rcases List.mem_append.1 hx with hx | hx
        · exact hv x hx
        · simp [hlt] at hx
          have : x = o.ids.getD i default := by simp [hlt,hx]
          rw [this]; exact h1,(nodup_take hlt).2 ⟨hn,h2⟩,hF',(back_0 rfl).symm⟩ (by
      rw [List.getD_eq_getElem?_getD,hF'.2.2.1]
      simp only [List.getD_cons_succ,List.getD_cons_zero,Option.getD_some]
      omega)
    clear hN hE
    have q1 := ids_get hlt
    have hm : o.ids.getD i default ∈ o.ids := by rw [getD_lt hlt]; exact List.getElem_mem hlt
    generalize hxe : o.ids.getD i default = x at q1 nx hm
    have hxd : x.d = [.int .i64 x.o,.int .i64 x.s,.int .i64 x.i] := rfl
    simp +contextual only [x54,ids_len,hod,q1,hxd,↓U54,↓XP,XW0,XW1,reduceSub,reduceAdd,reduceMul,reduceEqDiff,reduceLeDiff,Nat.reduceBEq,reduceCtorEq,TYX]
    refine fun _ => ⟨fun _ => ⟨_,f_rID (x := x) ⟨rfl,rfl⟩,?_⟩,fun hge => absurd (by omega) hge⟩
    have hdc : ∀ y : Id3,(decide (x.o = y.o) && (decide (x.s = y.s) && decide (x.i = y.i))) = decide (x = y) := fun y => by
      cases x; cases y; simp
    have inner : (OkId x ∧ (o.k = 16 → x ≠ o.on)) → ∀ F',Fr 67 [(1,.ptr b1 0),(3,.int .i64 i),(4,.int .i64 0)] F' → XW Tryz.prog x54_L2 F' ((b1,AO.cells o.d) :: H) (blockQ 2 (blockQ 1 (seqQ Tryz.prog x54_s3 K))) := fun hg F' hF' => by
      refine XW.loopK Go.Proofs.YtoeckfegggongaaGreatDoor.hm (fun F H' => ∃ (k : Nat),k ≤ i ∧ x ∉ o.ids.take k ∧ Fr 67 [(1,.ptr b1 0),(3,.int .i64 i),(4,.int .i64 k)] F ∧ ((b1,AO.cells o.d) :: H) = H') (fun F H => match F.getD 4 .any with | .int _ n' => i - n'.toNat | _ => 0) ⟨0,by omega,by simp,hF',rfl⟩ ?_
      rintro _ _ ⟨k,hki,hnk,hF,rfl⟩ K2 hN2 hE2 hR2
      obtain ⟨z2,rfl⟩ : ∃ z2 : Nat → D,_ = (let z := z2; [z 0,.ptr b1 0,z 2,.int .i64 i,.int .i64 k,z 5,z 6,z 7,z 8,z 9,z 10,z 11,z 12,z 13,z 14,z 15,z 16,z 17,z 18,z 19,z 20,z 21,z 22,z 23,z 24,z 25,z 26,z 27,z 28,z 29,z 30,z 31,z 32,z 33,z 34,z 35,z 36,z 37,z 38,z 39,z 40,z 41,z 42,z 43,z 44,z 45,z 46,z 47,z 48,z 49,z 50,z 51,z 52,z 53,z 54,z 55,z 56,z 57,z 58,z 59,z 60,z 61,z 62,z 63,z 64,z 65,z 66]) := hF.lit
      clear hF hF'
      by_cases hlk : k < i
      · have nx2 : x ≠ o.ids.getD k default → ∀ F',Fr 67 [(1,.ptr b1 0),(3,.int .i64 i),(4,.int .i64 ((k + 1 : Nat) : Int))] F' → K2 .normal F' ((b1,AO.cells o.d) :: H) := fun h1 F' hF' => hN2 _ _ ⟨k + 1,hlk,fun hx => by
            rw [List.take_add_one] at hx
            rcases List.mem_append.1 hx with hx | hx
            · exact hnk hx
            · simp [show k < o.ids.length by omega] at hx
              exact h1 (by simp [show k < o.ids.length by omega,hx]),hF',(back_0 rfl).symm⟩ (by
          rw [List.getD_eq_getElem?_getD,hF'.2.2.2.1]
          simp only [List.getD_cons_succ,List.getD_cons_zero,Option.getD_some]
          omega)
        have q2 := ids_get (l := o.ids) (i := k) (by omega)
        have hny : o.ids.getD k default = x → ¬ OkIds o := fun he ho => by
          have h2 := (ho.2.1).sublist (List.take_sublist (i + 1) o.ids)
          exact ((nodup_take hlt).1 h2).2 (by
            rw [hxe,← he,getD_lt (show k < o.ids.length by omega)]
            exact List.mem_take_iff_getElem.2 ⟨k,by omega,rfl⟩)
        generalize o.ids.getD k default = y at nx2 q2 hny
        have hyd : y.d = [.int .i64 y.o,.int .i64 y.s,.int .i64 y.i] := rfl
        have hdy : (decide (y.o = x.o) && (decide (y.s = x.s) && decide (y.i = x.i))) = decide (y = x) := by
          cases x; cases y; simp
        have hlt' : (k : Int) < (i : Int) := by omega
        by_cases hyx : y = x
        · simp +contextual only [x54,ids_len,hod,q1,q2,hxd,hyd,hdy,hyx,hlt',↓U54,↓XP,XW0,XW1,reduceSub,reduceAdd,reduceMul,reduceEqDiff,reduceLeDiff,Nat.reduceBEq,reduceCtorEq,TYX]
          refine fun _ => ⟨by omega,by omega,hR2 _ _ ?_⟩
          simp +contextual only [x54,ids_len,hod,↓U54,↓XP,XW0,XW1,reduceSub,reduceAdd,reduceMul,reduceEqDiff,reduceLeDiff,Nat.reduceBEq,reduceCtorEq,TYX]
          refine hR _ _ ?_
          simp +contextual only [x54,ids_len,hod,↓U54,↓XP,XW0,XW1,reduceSub,reduceAdd,reduceMul,reduceEqDiff,reduceLeDiff,Nat.reduceBEq,reduceCtorEq,TYX]
          exact hk _ (decide_eq_false (hny hyx))
        · simp +contextual only [x54,ids_len,hod,q1,q2,hxd,hyd,hdy,hyx,hlt',wrap_succ (show k ≤ big by omega),↓U54,↓XP,XW0,XW1,reduceSub,reduceAdd,reduceMul,reduceEqDiff,reduceLeDiff,Nat.reduceBEq,reduceCtorEq,TYX]
          simp only [← hod]
          exact fun _ => ⟨by omega,by omega,nx2 (Ne.symm hyx) _ ⟨rfl,rfl,rfl,rfl,trivial⟩⟩
      · have hik : k = i := by omega
        subst hik
        clear hN2
        simp +contextual only [x54,ids_len,hod,↓U54,↓XP,XW0,XW1,reduceSub,reduceAdd,reduceMul,reduceEqDiff,reduceLeDiff,Nat.reduceBEq,reduceCtorEq,TYX]
        refine hE2 _ _ _ ?_
        simp +contextual only [x54,ids_len,hod,wrap_succ (show k ≤ big by omega),↓U54,↓XP,XW0,XW1,reduceSub,reduceAdd,reduceMul,reduceEqDiff,reduceLeDiff,Nat.reduceBEq,reduceCtorEq,TYX]
        simp only [← hod]
        exact nx hg hnk _ ⟨rfl,rfl,rfl,trivial⟩
    by_cases hok : OkId x
    · by_cases hk16 : o.k = 16
      · have hk16' : (o.k = 16) = True := eq_true hk16
        by_cases hxo : x = o.on
        · have hxo' : (x = o.on) = True := eq_true hxo
          simp +contextual only [x54,ids_len,hod,q1,hxd,hok,hk16',hdc,hxo',↓U54,↓XP,XW0,XW1,reduceSub,reduceAdd,reduceMul,reduceEqDiff,reduceLeDiff,Nat.reduceBEq,reduceCtorEq,TYX]
          refine fun _ _ => ⟨by omega,hR _ _ ?_⟩
          simp +contextual only [x54,ids_len,hod,↓U54,↓XP,XW0,XW1,reduceSub,reduceAdd,reduceMul,reduceEqDiff,reduceLeDiff,Nat.reduceBEq,reduceCtorEq,TYX]
          exact hk _ (decide_eq_false (fun hh => (hh.1 x hm).2 hk16 hxo))
        · simp +contextual only [x54,ids_len,hod,q1,hxd,hok,hk16',hdc,hxo,↓U54,↓XP,XW0,XW1,reduceSub,reduceAdd,reduceMul,reduceEqDiff,reduceLeDiff,Nat.reduceBEq,reduceCtorEq,TYX]
          simp only [← hod]
          exact fun _ _ => ⟨by omega,inner ⟨hok,fun _ => hxo⟩ _ ⟨rfl,rfl,rfl,rfl,trivial⟩⟩
      · have hk16' : (o.k = 16) = False := eq_false hk16
        simp +contextual only [x54,ids_len,hod,q1,hxd,hok,hk16',↓U54,↓XP,XW0,XW1,reduceSub,reduceAdd,reduceMul,reduceEqDiff,reduceLeDiff,Nat.reduceBEq,reduceCtorEq,TYX]
        simp only [← hod]
        exact fun _ => inner ⟨hok,fun h => (hk16 h).elim⟩ _ ⟨rfl,rfl,rfl,rfl,trivial⟩
    · simp +contextual only [x54,ids_len,hod,q1,hxd,hok,↓U54,↓XP,XW0,XW1,reduceSub,reduceAdd,reduceMul,reduceEqDiff,reduceLeDiff,Nat.reduceBEq,reduceCtorEq,TYX]
      refine hR _ _ ?_
      simp +contextual only [x54,ids_len,hod,↓U54,↓XP,XW0,XW1,reduceSub,reduceAdd,reduceMul,reduceEqDiff,reduceLeDiff,Nat.reduceBEq,reduceCtorEq,TYX]
      exact hk _ (decide_eq_false (fun hh => hok (hh.1 x hm).1))
  · have hik : i = o.ids.length := by omega
    subst hik
    clear hN
    rw [List.take_length] at hn hv
    simp +contextual only [x54,ids_len,hod,↓U54,↓XP,XW0,XW1,reduceSub,reduceAdd,reduceMul,reduceEqDiff,reduceLeDiff,Nat.reduceBEq,reduceCtorEq,TYX]
    refine fun _ => hE _ _ _ ?_
    have hk18 : ∀ {c : Int},(o.k = c) = (o.k = c) := rfl
    simp +contextual only [x54,ids_len,hod,↓U54,↓XP,XW0,XW1,reduceSub,reduceAdd,reduceMul,reduceEqDiff,reduceLeDiff,Nat.reduceBEq,reduceCtorEq,TYX]
    have c1 : ((o.ids.length : Int) = 1) = (o.ids.length = 1) := by apply propext; omega
    have c2 : (2 ≤ (o.ids.length : Int)) = (2 ≤ o.ids.length) := by apply propext; omega
    have c3 : ((o.ids.length : Int) ≤ 4) = (o.ids.length ≤ 4) := by apply propext; omega
    refine fun _ => ⟨fun e _ => ?_,fun e _ => ⟨fun e2 => ?_,fun e2 => ?_⟩⟩
    · exact hk _ (decide_eq_decide.2 ⟨fun h => by have := h.2.2.1 e; omega,fun h => ⟨hv,hn,fun _ => by omega,fun h => (h e).elim⟩⟩)
    · exact hk _ (decide_eq_decide.2 ⟨fun h => by have := h.2.2.2 e; omega,fun h => ⟨hv,hn,fun h => (e h).elim,fun _ => by omega⟩⟩)
    · exact hk _ (decide_eq_false (fun h => by have := h.2.2.2 e; omega))
end Go.Proofs.YtoeckfegggongaaGreatDoor
end
