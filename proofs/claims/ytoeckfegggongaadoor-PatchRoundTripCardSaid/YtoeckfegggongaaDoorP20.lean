/- A part of the proof of what the last text says: Gm4, Gm5, Gk2, Gk3. Conditions: those in each theorem. -/
import Derived.Test.YtoeckfegggongaaDoorP19
set_option linter.unusedVariables false
set_option linter.unusedSimpArgs false
set_option maxRecDepth 100000
set_option maxHeartbeats 16000000
section
namespace Go.Proofs.YtoeckfegggongaaDoor
open Go Go.Aw
theorem m_needs {p : Pt} {acc : D} {b1 : Nat} {H : AH} {Q : AQ} {F : List D} (hp : p.needs.length ≤ 3000000) (hF : Fr 99 [(1,.ptr b1 0),(3,acc),(4,.own []),(20,.slc (refsD p.needs)),(21,.int .i64 p.needs.length),(22,.int .i64 0)] F) (hE : ∀ F',Fr 99 [(1,.ptr b1 0),(3,acc),(4,.own (ints (needNums p.needs)))] F' → Q (.exit 0) F' ((b1,AO.cells p.d) :: H)) : XW Tryd.prog x16_L2 F ((b1,AO.cells p.d) :: H) Q := by
  have hbig := big_eq
  refine XW.loopK Go.Proofs.YtoeckfegggongaaDoor.hm (fun F H' => ∃ (i : Nat),i ≤ p.needs.length ∧ Fr 99 [(1,.ptr b1 0),(3,acc),(4,.own (ints (needNums (p.needs.take i)))),(20,.slc (refsD p.needs)),(21,.int .i64 p.needs.length),(22,.int .i64 i)] F ∧ ((b1,AO.cells p.d) :: H) = H') (fun F H => match F.getD 22 .any with | .int _ n' => p.needs.length - n'.toNat | _ => 0) ⟨0,by omega,hF,rfl⟩ ?_
  rintro _ _ ⟨i,hi,hF,rfl⟩ K hN hE' hR
  obtain ⟨z,rfl⟩ : ∃ z : Nat → D,_ = [z 0,.ptr b1 0,z 2,acc,.own (ints (needNums (p.needs.take i))),z 5,z 6,z 7,z 8,z 9,z 10,z 11,z 12,z 13,z 14,z 15,z 16,z 17,z 18,z 19,.slc (refsD p.needs),.int .i64 p.needs.length,.int .i64 i,z 23,z 24,z 25,z 26,z 27,z 28,z 29,z 30,z 31,z 32,z 33,z 34,z 35,z 36,z 37,z 38,z 39,z 40,z 41,z 42,z 43,z 44,z 45,z 46,z 47,z 48,z 49,z 50,z 51,z 52,z 53,z 54,z 55,z 56,z 57,z 58,z 59,z 60,z 61,z 62,z 63,z 64,z 65,z 66,z 67,z 68,z 69,z 70,z 71,z 72,z 73,z 74,z 75,z 76,z 77,z 78,z 79,z 80,z 81,z 82,z 83,z 84,z 85,z 86,z 87,z 88,z 89,z 90,z 91,z 92,z 93,z 94,z 95,z 96,z 97,z 98] := hF.lit
  clear hF hR
  by_cases hlt : i < p.needs.length
  · have nx : ∀ F' H',back ((b1,AO.cells p.d) :: H).length H' = ((b1,AO.cells p.d) :: H) → Fr 99 [(1,.ptr b1 0),(3,acc),(4,.own (ints (needNums (p.needs.take i) ++ [(p.needs.getD i default).o,(p.needs.getD i default).s]))),(20,.slc (refsD p.needs)),(21,.int .i64 p.needs.length),(22,.int .i64 ((i + 1 : Nat) : Int))] F' → K .normal F' H' := fun F' H' hH hF' => hN _ _ ⟨i + 1,hlt,by rw [show needNums (p.needs.take (i + 1)) = needNums (p.needs.take i) ++ [(p.needs.getD i default).o,(p.needs.getD i default).s] from flat_takeI (d := default) hlt]; exact hF',hH.symm⟩ (by
      rw [List.getD_eq_getElem?_getD,hF'.2.2.2.2.2.2.1]
      simp only [List.getD_cons_succ,List.getD_cons_zero,Option.getD_some]
      omega)
    clear hN hE hE'
    have q1 := refs_get hlt
    have hl : (needNums (p.needs.take i)).length ≤ 6000000 := by rw [needs_len,List.length_take]; omega
    generalize needNums (p.needs.take i) = ac at nx hl ⊢
    generalize p.needs.getD i default = e at q1 nx
    have he : e.d = [.int .i64 e.o,.int .i64 e.s] := rfl
    simp +contextual only [x16,refs_len,ints_len,hlt,Int.ofNat_lt,q1,he,wrap_succ (show i ≤ big by omega),↓U16,↓XP,XQ,XM,cellsOf,okc,one1,resOne,resAll,eqCells,cellEq,fits,sameK,ne_eq,ite_true,ite_false,Nat.reduceSub,Nat.reduceAdd,Nat.reduceMul,Nat.reduceEqDiff,Nat.reduceLeDiff,Nat.reduceBEq,reduceCtorEq,TYX]
    refine fun b6 _ _ _ => ⟨ints_1,by omega,?_⟩
    rw [← ints_app] at nx
    exact nx _ _ (back_1 rfl) ⟨rfl,rfl,rfl,rfl,rfl,rfl,rfl,trivial⟩
  · have hik : i = p.needs.length := by omega
    subst hik
    clear hN
    simp +contextual only [x16,refs_len,ints_len,↓U16,↓XP,XQ,XM,cellsOf,okc,one1,resOne,resAll,eqCells,cellEq,fits,sameK,ne_eq,ite_true,ite_false,Nat.reduceSub,Nat.reduceAdd,Nat.reduceMul,Nat.reduceEqDiff,Nat.reduceLeDiff,Nat.reduceBEq,reduceCtorEq,TYX]
    rw [List.take_length]
    exact hE' _ _ _ (hE _ ⟨rfl,rfl,rfl,rfl,trivial⟩)
theorem m_op {o : OpP} {ac : List UInt8} {p1 c45 c46 : D} {b8 : Nat} {q : Int} {H : AH} {Q : AQ} {F : List D} (o1 : o.ids.length ≤ 3000000) (o2 : o.name.length ≤ 3000000) (o3 : o.text.length ≤ 3000000) (hln : ac.length ≤ 1000000000000) (hF : Fr 99 [(1,p1),(3,.own (ac.map byteD)),(8,.ptr b8 0),(45,c45),(46,c46),(47,.int .i64 q)] F)
    (hE : (encOp o).length ≤ 100000000 → ∀ F' H',(∃ pre,H' = pre ++ ((b8,AO.cells o.d) :: H)) → Fr 99 [(1,p1),(3,.own ((ac ++ encOp o).map byteD)),(45,c45),(46,c46),(47,.int .i64 q)] F' → Q .normal F' H') : xcode Tryd.prog x16_s9 F ((b8,AO.cells o.d) :: H) Q := by
  have hbig := big_eq
  obtain ⟨z,rfl⟩ : ∃ z : Nat → D,_ = [z 0,p1,z 2,.own (ac.map byteD),z 4,z 5,z 6,z 7,.ptr b8 0,z 9,z 10,z 11,z 12,z 13,z 14,z 15,z 16,z 17,z 18,z 19,z 20,z 21,z 22,z 23,z 24,z 25,z 26,z 27,z 28,z 29,z 30,z 31,z 32,z 33,z 34,z 35,z 36,z 37,z 38,z 39,z 40,z 41,z 42,z 43,z 44,c45,c46,.int .i64 q,z 48,z 49,z 50,z 51,z 52,z 53,z 54,z 55,z 56,z 57,z 58,z 59,z 60,z 61,z 62,z 63,z 64,z 65,z 66,z 67,z 68,z 69,z 70,z 71,z 72,z 73,z 74,z 75,z 76,z 77,z 78,z 79,z 80,z 81,z 82,z 83,z 84,z 85,z 86,z 87,z 88,z 89,z 90,z 91,z 92,z 93,z 94,z 95,z 96,z 97,z 98] := hF.lit
  have hod : o.d = [.int .i64 o.k,.int .i64 o.on.o,.int .i64 o.on.s,.int .i64 o.on.i,.int .i64 o.to.o,.int .i64 o.to.s,.int .i64 o.to.i,.slc (idsD o.ids),.int .i64 o.n,.str o.name,.str o.text,.int .i64 o.a,.int .i64 o.b] := rfl
  simp +contextual only [x16,ids_len,ints_len,bytesD_len,hod,↓U16,↓XP,XQ,XM,cellsOf,okc,one1,resOne,resAll,eqCells,cellEq,fits,sameK,ne_eq,ite_true,ite_false,Nat.reduceSub,Nat.reduceAdd,Nat.reduceMul,Nat.reduceEqDiff,Nat.reduceLeDiff,Nat.reduceBEq,reduceCtorEq,TYX]
  refine fun _ => ⟨by decide,fun br cap hr b9 hb9 => ?_⟩
  rw [c_gh]
  refine Gz.take (j := 0) rfl (fun _ => h_hit) ?_
  have e1 : dropR ((br,.room cap [[D.int .i64 o.k]]) :: (b8,AO.cells o.d) :: H) br [[D.int .i64 o.k]] = ((b8,AO.cells o.d) :: H) := by simp [dropR,eraseH]
  rw [hod] at e1
  simp +contextual only [x16,ids_len,ints_len,bytesD_len,e1,hod,↓U16,↓XP,XQ,XM,cellsOf,okc,one1,resOne,resAll,eqCells,cellEq,fits,sameK,ne_eq,ite_true,ite_false,Nat.reduceSub,Nat.reduceAdd,Nat.reduceMul,Nat.reduceEqDiff,Nat.reduceLeDiff,Nat.reduceBEq,reduceCtorEq,TYX]
  clear e1 hF
  obtain ⟨_,h89,h9⟩ := hb9
  obtain ⟨_,h8r⟩ := hr
  have hn9 : getH ((b8,AO.cells o.d) :: H) b9 = none := freshH_none ⟨Ne.symm h89,h9⟩
  rw [hod] at hn9
  simp +contextual only [x16,ids_len,ints_len,bytesD_len,hod,h_miss h89,↓U16,↓XP,XQ,XM,cellsOf,okc,one1,resOne,resAll,eqCells,cellEq,fits,sameK,ne_eq,ite_true,ite_false,Nat.reduceSub,Nat.reduceAdd,Nat.reduceMul,Nat.reduceEqDiff,Nat.reduceLeDiff,Nat.reduceBEq,reduceCtorEq,TYX]
  refine f_id (x := o.on) (xs := [o.k]) (by simp) hn9 ?_
  simp +contextual only [x16,ids_len,ints_len,bytesD_len,hod,h_miss h89,↓U16,↓XP,XQ,XM,cellsOf,okc,one1,resOne,resAll,eqCells,cellEq,fits,sameK,ne_eq,ite_true,ite_false,Nat.reduceSub,Nat.reduceAdd,Nat.reduceMul,Nat.reduceEqDiff,Nat.reduceLeDiff,Nat.reduceBEq,reduceCtorEq,TYX]
  refine f_id (x := o.to) (xs := [o.k] ++ id3 o.on) (by simp [id3]) hn9 ?_
  simp +contextual only [x16,ids_len,ints_len,bytesD_len,hod,h_miss h89,↓U16,↓XP,XQ,XM,cellsOf,okc,one1,resOne,resAll,eqCells,cellEq,fits,sameK,ne_eq,ite_true,ite_false,Nat.reduceSub,Nat.reduceAdd,Nat.reduceMul,Nat.reduceEqDiff,Nat.reduceLeDiff,Nat.reduceBEq,reduceCtorEq,TYX]
  refine fun _ _ _ => ⟨ints_1,by simp [id3],?_⟩
  rw [show ints (o.k :: (id3 o.on ++ id3 o.to)) ++ [[D.int .i64 o.n],[D.int .i64 o.a],[D.int .i64 o.b]] = ints (opNums o) from rfl]
  have l10 : (opNums o).length = 10 := rfl
  have l3 := ids3_len (l := o.ids)
  refine f_wInts (by omega) fun k1 => ?_
  simp +contextual only [x16,ids_len,ints_len,bytesD_len,hod,h_miss h89,↓U16,↓XP,XQ,XM,cellsOf,okc,one1,resOne,resAll,eqCells,cellEq,fits,sameK,ne_eq,ite_true,ite_false,Nat.reduceSub,Nat.reduceAdd,Nat.reduceMul,Nat.reduceEqDiff,Nat.reduceLeDiff,Nat.reduceBEq,reduceCtorEq,TYX]
  refine fun _ => ⟨bytes_1,bytes_1,by omega,fun b10 hb10 => ?_⟩
  obtain ⟨h910,h810,h10⟩ := hb10
  have hn10 : getH ((b9,AO.cells [.slc (ints (o.k :: (id3 o.on ++ id3 o.to)))]) :: (b8,AO.cells o.d) :: H) b10 = none := freshH_none ⟨Ne.symm h910,Ne.symm h810,h10⟩
  rw [hod] at hn10
  refine fun _ => f_each (ids := o.ids) (xs := []) rfl o1 (by simp) hn10 ?_
  rw [List.nil_append]
  simp +contextual only [x16,ids_len,ints_len,bytesD_len,hod,h_miss h89,h_miss h810,↓U16,↓XP,XQ,XM,cellsOf,okc,one1,resOne,resAll,eqCells,cellEq,fits,sameK,ne_eq,ite_true,ite_false,Nat.reduceSub,Nat.reduceAdd,Nat.reduceMul,Nat.reduceEqDiff,Nat.reduceLeDiff,Nat.reduceBEq,reduceCtorEq,TYX]
  refine fun _ => f_wInts (l := o.ids.flatMap id3) (by omega) fun k2 => ?_
  simp +contextual only [x16,ids_len,ints_len,bytesD_len,hod,h_miss h89,h_miss h810,h_miss h910,← List.map_append,List.length_append,↓U16,↓XP,XQ,XM,cellsOf,okc,one1,resOne,resAll,eqCells,cellEq,fits,sameK,ne_eq,ite_true,ite_false,Nat.reduceSub,Nat.reduceAdd,Nat.reduceMul,Nat.reduceEqDiff,Nat.reduceLeDiff,Nat.reduceBEq,reduceCtorEq,TYX]
  refine fun _ => ⟨bytes_1,bytes_1,by omega,?_⟩
  have hb3 : ∀ x ∈ [o.name,o.text],x.length ≤ 3000000 := by
    intro x hx
    simp only [List.mem_cons,List.not_mem_nil,or_false] at hx
    rcases hx with rfl | rfl
    · exact o2
    · exact o3
  have k3 := strs_two hb3
  have k4 := encLen (n := [o.name,o.text].length) (by simp)
  refine fun _ _ => f_wStrings (l := [o.name,o.text]) (by simp) hb3 ?_
  simp +contextual only [x16,ids_len,ints_len,bytesD_len,hod,h_miss h89,← List.map_append,List.length_append,↓U16,↓XP,XQ,XM,cellsOf,okc,one1,resOne,resAll,eqCells,cellEq,fits,sameK,ne_eq,ite_true,ite_false,Nat.reduceSub,Nat.reduceAdd,Nat.reduceMul,Nat.reduceEqDiff,Nat.reduceLeDiff,Nat.reduceBEq,reduceCtorEq,TYX]
  have e2 : ([o.name,o.text] : List (List UInt8)).length = 2 := rfl
  rw [e2] at k3 k4
  refine fun _ => ⟨bytes_1,bytes_1,by omega,hE ?_ _ _ ⟨[(b10,_),(b9,_)],rfl⟩ ?_⟩
  · simp only [encOp,List.length_append]
    omega
  · rw [show ac ++ encOp o = ac ++ encInts (opNums o) ++ encInts (o.ids.flatMap id3) ++ encStrs [o.name,o.text] by simp only [encOp,List.append_assoc]]
    exact ⟨rfl,rfl,rfl,rfl,rfl,rfl,trivial⟩
end Go.Proofs.YtoeckfegggongaaDoor
end
section
namespace Go.Proofs.YtoeckfegggongaaDoor
open Go Go.Aw
theorem back_app {A H : AH} : back H.length (A ++ H) = H := by simp [back]
theorem m_ops {p : Pt} {pre : List UInt8} {b1 : Nat} {H : AH} {Q : AQ} {F : List D} (hp : Fit p) (hpre : pre.length ≤ 100000000) (hF : Fr 99 [(1,.ptr b1 0),(3,.own (pre.map byteD)),(45,.slc (opsD p.ops)),(46,.int .i64 p.ops.length),(47,.int .i64 0)] F) (hE : (pre ++ p.ops.flatMap encOp).length ≤ 1000000000000 → ∀ F',Fr 99 [(1,.ptr b1 0),(3,.own ((pre ++ p.ops.flatMap encOp).map byteD))] F' → Q (.exit 2) F' ((b1,AO.cells p.d) :: H)) : XW Tryd.prog x16_L11 F ((b1,AO.cells p.d) :: H) Q := by
  have hbig := big_eq
  have hpo := hp.ops
  refine XW.loopK Go.Proofs.YtoeckfegggongaaDoor.hm (fun F H' => ∃ (i : Nat),i ≤ p.ops.length ∧ (pre ++ (p.ops.take i).flatMap encOp).length ≤ 100000000 + 100000000 * i ∧ Fr 99 [(1,.ptr b1 0),(3,.own ((pre ++ (p.ops.take i).flatMap encOp).map byteD)),(45,.slc (opsD p.ops)),(46,.int .i64 p.ops.length),(47,.int .i64 (i : Int))] F ∧ ((b1,AO.cells p.d) :: H) = H') (fun F H => match F.getD 47 .any with | .int _ n' => p.ops.length - n'.toNat | _ => 0) ⟨0,by omega,by simpa using hpre,by simpa using hF,rfl⟩ ?_
  clear hF
  rintro _ _ ⟨i,hi,hln,hF,rfl⟩ K hN hE' hR
  obtain ⟨z,rfl⟩ : ∃ z : Nat → D,_ = [z 0,.ptr b1 0,z 2,.own ((pre ++ (p.ops.take i).flatMap encOp).map byteD),z 4,z 5,z 6,z 7,z 8,z 9,z 10,z 11,z 12,z 13,z 14,z 15,z 16,z 17,z 18,z 19,z 20,z 21,z 22,z 23,z 24,z 25,z 26,z 27,z 28,z 29,z 30,z 31,z 32,z 33,z 34,z 35,z 36,z 37,z 38,z 39,z 40,z 41,z 42,z 43,z 44,.slc (opsD p.ops),.int .i64 p.ops.length,.int .i64 (i : Int),z 48,z 49,z 50,z 51,z 52,z 53,z 54,z 55,z 56,z 57,z 58,z 59,z 60,z 61,z 62,z 63,z 64,z 65,z 66,z 67,z 68,z 69,z 70,z 71,z 72,z 73,z 74,z 75,z 76,z 77,z 78,z 79,z 80,z 81,z 82,z 83,z 84,z 85,z 86,z 87,z 88,z 89,z 90,z 91,z 92,z 93,z 94,z 95,z 96,z 97,z 98] := hF.lit
  clear hF hR
  by_cases hlt : i < p.ops.length
  · have nx : (encOp (p.ops.getD i default)).length ≤ 100000000 → ∀ F' H',back ((b1,AO.cells p.d) :: H).length H' = ((b1,AO.cells p.d) :: H) → Fr 99 [(1,.ptr b1 0),(3,.own ((pre ++ (p.ops.take i).flatMap encOp ++ encOp (p.ops.getD i default)).map byteD)),(45,.slc (opsD p.ops)),(46,.int .i64 p.ops.length),(47,.int .i64 ((i + 1 : Nat) : Int))] F' → K .normal F' H' := fun hl F' H' hH hF' => hN _ _ ⟨i + 1,hlt,by
        rw [flat_take (d := default) hlt,← List.append_assoc,List.length_append]
        omega,by rw [flat_take (d := default) hlt,← List.append_assoc]; exact hF',hH.symm⟩ (by
      rw [List.getD_eq_getElem?_getD,hF'.2.2.2.2.2.1]
      simp only [List.getD_cons_succ,List.getD_cons_zero,Option.getD_some]
      omega)
    clear hN hE hE'
    have q1 := ops_get hlt
    have hm : p.ops.getD i default ∈ p.ops := by rw [getD_lt hlt]; exact List.getElem_mem hlt
    have o1 := hp.ids _ hm
    have o2 := hp.name _ hm
    have o3 := hp.text _ hm
    generalize pre ++ (p.ops.take i).flatMap encOp = ac at nx hln ⊢
    generalize p.ops.getD i default = o at q1 nx o1 o2 o3
    have hod : o.d = [.int .i64 o.k,.int .i64 o.on.o,.int .i64 o.on.s,.int .i64 o.on.i,.int .i64 o.to.o,.int .i64 o.to.s,.int .i64 o.to.i,.slc (idsD o.ids),.int .i64 o.n,.str o.name,.str o.text,.int .i64 o.a,.int .i64 o.b] := rfl
    simp +contextual only [x16_L11,u16_L11,u16_s10,ops_len,hlt,Int.ofNat_lt,q1,hod,↓XP,XQ,XM,cellsOf,okc,one1,resOne,resAll,eqCells,cellEq,fits,sameK,ne_eq,ite_true,ite_false,Nat.reduceSub,Nat.reduceAdd,Nat.reduceMul,Nat.reduceEqDiff,Nat.reduceLeDiff,Nat.reduceBEq,reduceCtorEq,TYX]
    refine fun b8 hb => m_op (o := o) (ac := ac) (q := i) (b8 := b8) (p1 := .ptr b1 0) o1 o2 o3 (by omega) ⟨rfl,rfl,rfl,rfl,rfl,rfl,rfl,trivial⟩ fun hl F' H' hpre' hF' => ?_
    obtain ⟨pr,rfl⟩ := hpre'
    obtain ⟨z,rfl⟩ : ∃ z : Nat → D,_ = [z 0,.ptr b1 0,z 2,.own ((ac ++ encOp o).map byteD),z 4,z 5,z 6,z 7,z 8,z 9,z 10,z 11,z 12,z 13,z 14,z 15,z 16,z 17,z 18,z 19,z 20,z 21,z 22,z 23,z 24,z 25,z 26,z 27,z 28,z 29,z 30,z 31,z 32,z 33,z 34,z 35,z 36,z 37,z 38,z 39,z 40,z 41,z 42,z 43,z 44,.slc (opsD p.ops),.int .i64 p.ops.length,.int .i64 (i : Int),z 48,z 49,z 50,z 51,z 52,z 53,z 54,z 55,z 56,z 57,z 58,z 59,z 60,z 61,z 62,z 63,z 64,z 65,z 66,z 67,z 68,z 69,z 70,z 71,z 72,z 73,z 74,z 75,z 76,z 77,z 78,z 79,z 80,z 81,z 82,z 83,z 84,z 85,z 86,z 87,z 88,z 89,z 90,z 91,z 92,z 93,z 94,z 95,z 96,z 97,z 98] := hF'.lit
    clear hF'
    simp +contextual only [x16,ops_len,ints_len,bytesD_len,wrap_succ (show i ≤ big by omega),↓U16,↓XP,XQ,XM,cellsOf,okc,one1,resOne,resAll,eqCells,cellEq,fits,sameK,ne_eq,ite_true,ite_false,Nat.reduceSub,Nat.reduceAdd,Nat.reduceMul,Nat.reduceEqDiff,Nat.reduceLeDiff,Nat.reduceBEq,reduceCtorEq,TYX]
    refine nx hl _ _ ?_ ⟨rfl,rfl,rfl,rfl,rfl,rfl,trivial⟩
    rw [show pr ++ (b8,AO.cells o.d) :: (b1,AO.cells p.d) :: H = (pr ++ [(b8,AO.cells o.d)]) ++ (b1,AO.cells p.d) :: H by simp]
    exact back_app
  · have hik : i = p.ops.length := by omega
    subst hik
    clear hN
    simp +contextual only [x16,ops_len,ints_len,bytesD_len,↓U16,↓XP,XQ,XM,cellsOf,okc,one1,resOne,resAll,eqCells,cellEq,fits,sameK,ne_eq,ite_true,ite_false,Nat.reduceSub,Nat.reduceAdd,Nat.reduceMul,Nat.reduceEqDiff,Nat.reduceLeDiff,Nat.reduceBEq,reduceCtorEq,TYX]
    rw [List.take_length] at hln ⊢
    exact hE' _ _ _ (hE (by omega) _ ⟨rfl,rfl,rfl,trivial⟩)
theorem f_enc {p : Pt} {H : AH} {R : D → AH → Prop} (hp : Fit p) (h : (encPt p).length ≤ 2000000000000 → R (.own ((encPt p).map byteD)) H) : ACall Tryd.prog 16 [.agg p.d] H R := by
  refine b16 fun hf => ?_
  have hbig := big_eq
  have hpo := hp.ops
  have hpn := hp.needs
  have hps := hp.sl
  have hd : p.d = [.int .i64 p.o,.int .i64 p.s,.int .i64 p.day,.slc (refsD p.needs),.slc (opsD p.ops),.str p.sl] := rfl
  simp +contextual only [x16,refs_len,ops_len,ints_len,bytesD_len,← List.map_append,List.length_append,hd,↓U16,↓XP,XQ,XM,cellsOf,okc,one1,resOne,resAll,eqCells,cellEq,fits,sameK,ne_eq,ite_true,ite_false,Nat.reduceSub,Nat.reduceAdd,Nat.reduceMul,Nat.reduceEqDiff,Nat.reduceLeDiff,Nat.reduceBEq,reduceCtorEq,TYX]
  refine fun b1 h1 _ _ _ => f_wInts (l := [p.o,p.s,p.day]) (by simp) fun k1 => ?_
  have e3 : ([p.o,p.s,p.day] : List Int).length = 3 := rfl
  rw [e3] at k1
  simp +contextual only [x16,refs_len,ops_len,ints_len,bytesD_len,← List.map_append,List.length_append,hd,↓U16,↓XP,XQ,XM,cellsOf,okc,one1,resOne,resAll,eqCells,cellEq,fits,sameK,ne_eq,ite_true,ite_false,Nat.reduceSub,Nat.reduceAdd,Nat.reduceMul,Nat.reduceEqDiff,Nat.reduceLeDiff,Nat.reduceBEq,reduceCtorEq,TYX]
  simp only [← hd]
  obtain ⟨pre,hpre⟩ : ∃ pre,encInts [p.o,p.s,p.day] = pre := ⟨_,rfl⟩
  have henc : encPt p = pre ++ encInts (needNums p.needs) ++ encInt p.ops.length ++ p.ops.flatMap encOp ++ encBytes p.sl := by rw [← hpre]; rfl
  rw [henc] at h
  rw [hpre] at k1 ⊢
  refine fun _ _ => m_needs (p := p) (acc := .own (pre.map byteD)) hpn ⟨rfl,rfl,rfl,rfl,rfl,rfl,rfl,trivial⟩ (fun F' hF' => ?_)
  obtain ⟨z,rfl⟩ : ∃ z : Nat → D,_ = [z 0,.ptr b1 0,z 2,.own (pre.map byteD),.own (ints (needNums p.needs)),z 5,z 6,z 7,z 8,z 9,z 10,z 11,z 12,z 13,z 14,z 15,z 16,z 17,z 18,z 19,z 20,z 21,z 22,z 23,z 24,z 25,z 26,z 27,z 28,z 29,z 30,z 31,z 32,z 33,z 34,z 35,z 36,z 37,z 38,z 39,z 40,z 41,z 42,z 43,z 44,z 45,z 46,z 47,z 48,z 49,z 50,z 51,z 52,z 53,z 54,z 55,z 56,z 57,z 58,z 59,z 60,z 61,z 62,z 63,z 64,z 65,z 66,z 67,z 68,z 69,z 70,z 71,z 72,z 73,z 74,z 75,z 76,z 77,z 78,z 79,z 80,z 81,z 82,z 83,z 84,z 85,z 86,z 87,z 88,z 89,z 90,z 91,z 92,z 93,z 94,z 95,z 96,z 97,z 98] := hF'.lit
  clear hF'
  have l2 := needs_len (l := p.needs)
  simp +contextual only [x16,refs_len,ops_len,ints_len,bytesD_len,← List.map_append,List.length_append,hd,↓U16,↓XP,XQ,XM,cellsOf,okc,one1,resOne,resAll,eqCells,cellEq,fits,sameK,ne_eq,ite_true,ite_false,Nat.reduceSub,Nat.reduceAdd,Nat.reduceMul,Nat.reduceEqDiff,Nat.reduceLeDiff,Nat.reduceBEq,reduceCtorEq,TYX]
  refine f_wInts (l := needNums p.needs) (by omega) fun k2 => ?_
  simp +contextual only [x16,refs_len,ops_len,ints_len,bytesD_len,← List.map_append,List.length_append,hd,↓U16,↓XP,XQ,XM,cellsOf,okc,one1,resOne,resAll,eqCells,cellEq,fits,sameK,ne_eq,ite_true,ite_false,Nat.reduceSub,Nat.reduceAdd,Nat.reduceMul,Nat.reduceEqDiff,Nat.reduceLeDiff,Nat.reduceBEq,reduceCtorEq,TYX]
  have k3 := encLen (n := p.ops.length) (by omega)
  refine fun _ => ⟨bytes_1,bytes_1,by omega,?_⟩
  refine fun _ => f_wInt fun _ => ?_
  simp +contextual only [x16,refs_len,ops_len,ints_len,bytesD_len,← List.map_append,List.length_append,hd,↓U16,↓XP,XQ,XM,cellsOf,okc,one1,resOne,resAll,eqCells,cellEq,fits,sameK,ne_eq,ite_true,ite_false,Nat.reduceSub,Nat.reduceAdd,Nat.reduceMul,Nat.reduceEqDiff,Nat.reduceLeDiff,Nat.reduceBEq,reduceCtorEq,TYX]
  simp only [← hd]
  refine fun _ => ⟨bytes_1,bytes_1,by omega,?_⟩
  obtain ⟨pre2,hp2⟩ : ∃ pre2,pre ++ encInts (needNums p.needs) ++ encInt p.ops.length = pre2 := ⟨_,rfl⟩
  have hl2 : pre2.length ≤ 100000000 := by rw [← hp2]; simp only [List.length_append]; omega
  rw [hp2] at h ⊢
  refine fun _ => m_ops (p := p) (pre := pre2) hp hl2 ⟨rfl,rfl,rfl,rfl,rfl,rfl,trivial⟩ (fun k5 F' hF' => ?_)
  obtain ⟨z,rfl⟩ : ∃ z : Nat → D,_ = [z 0,.ptr b1 0,z 2,.own ((pre2 ++ p.ops.flatMap encOp).map byteD),z 4,z 5,z 6,z 7,z 8,z 9,z 10,z 11,z 12,z 13,z 14,z 15,z 16,z 17,z 18,z 19,z 20,z 21,z 22,z 23,z 24,z 25,z 26,z 27,z 28,z 29,z 30,z 31,z 32,z 33,z 34,z 35,z 36,z 37,z 38,z 39,z 40,z 41,z 42,z 43,z 44,z 45,z 46,z 47,z 48,z 49,z 50,z 51,z 52,z 53,z 54,z 55,z 56,z 57,z 58,z 59,z 60,z 61,z 62,z 63,z 64,z 65,z 66,z 67,z 68,z 69,z 70,z 71,z 72,z 73,z 74,z 75,z 76,z 77,z 78,z 79,z 80,z 81,z 82,z 83,z 84,z 85,z 86,z 87,z 88,z 89,z 90,z 91,z 92,z 93,z 94,z 95,z 96,z 97,z 98] := hF'.lit
  clear hF'
  simp only [List.length_append] at k5
  simp +contextual only [x16,refs_len,ops_len,ints_len,bytesD_len,← List.map_append,List.length_append,hd,↓U16,↓XP,XQ,XM,cellsOf,okc,one1,resOne,resAll,eqCells,cellEq,fits,sameK,ne_eq,ite_true,ite_false,Nat.reduceSub,Nat.reduceAdd,Nat.reduceMul,Nat.reduceEqDiff,Nat.reduceLeDiff,Nat.reduceBEq,reduceCtorEq,TYX]
  have k6 := encLen (n := p.sl.length) (by omega)
  refine fun _ => f_wBytes (s := p.sl) (by omega) ?_
  have k7 : (encBytes p.sl).length ≤ 9 + 3000000 := by simp only [encBytes,List.length_append]; omega
  simp +contextual only [x16,refs_len,ops_len,ints_len,bytesD_len,← List.map_append,List.length_append,hd,↓U16,↓XP,XQ,XM,cellsOf,okc,one1,resOne,resAll,eqCells,cellEq,fits,sameK,ne_eq,ite_true,ite_false,Nat.reduceSub,Nat.reduceAdd,Nat.reduceMul,Nat.reduceEqDiff,Nat.reduceLeDiff,Nat.reduceBEq,reduceCtorEq,TYX]
  exact fun _ => ⟨bytes_1,bytes_1,by omega,h (by simp only [List.length_append]; omega)⟩
theorem isByteD {l : List UInt8} : ∀ x ∈ l.map byteD,isByte x := by
  intro x hx
  obtain ⟨t,_,rfl⟩ := List.mem_map.1 hx
  have := t.toNat_lt
  exact ⟨by omega,by omega⟩
theorem unbyteD {l : List UInt8} : (l.map byteD).map unbyte = l := by
  rw [List.map_map]
  refine (List.map_congr_left fun x _ => ?_).trans (List.map_id l)
  simp [byteD,unbyte]
theorem f_msg {p : Pt} {H : AH} {R : D → AH → Prop} (hp : Fit p) (h : R (.str (encPt { p with sl := [] })) H) : ACall Tryd.prog 36 [.agg p.d] H R := by
  refine b36 fun hf => ?_
  have hbig := big_eq
  have hd : p.d = [.int .i64 p.o,.int .i64 p.s,.int .i64 p.day,.slc (refsD p.needs),.slc (opsD p.ops),.str p.sl] := rfl
  simp +contextual only [x36,bytesD_len,hd,↓u36_s0,↓XP,XQ,XM,cellsOf,okc,one1,resOne,resAll,eqCells,cellEq,fits,sameK,ne_eq,ite_true,ite_false,Nat.reduceSub,Nat.reduceAdd,Nat.reduceMul,Nat.reduceEqDiff,Nat.reduceLeDiff,Nat.reduceBEq,reduceCtorEq,TYX]
  refine fun b1 h1 => f_enc (p := { p with sl := [] }) ⟨hp.ops,hp.needs,hp.ids,hp.name,hp.text,by simp⟩ fun k => ?_
  simp +contextual only [x36,bytesD_len,hd,↓u36_s0,↓XP,XQ,XM,cellsOf,okc,one1,resOne,resAll,eqCells,cellEq,fits,sameK,ne_eq,ite_true,ite_false,Nat.reduceSub,Nat.reduceAdd,Nat.reduceMul,Nat.reduceEqDiff,Nat.reduceLeDiff,Nat.reduceBEq,reduceCtorEq,TYX]
  refine fun _ => ⟨isByteD,?_⟩
  rw [unbyteD]
  exact h
end Go.Proofs.YtoeckfegggongaaDoor
end
section
namespace Go.Proofs.YtoeckfegggongaaDoor
open Go Go.Aw
theorem f_index {l : List Id3} {x : Id3} {H : AH} {R : D → AH → Prop} (h : ∀ k : Int,(0 ≤ k ↔ x ∈ l) → R (.int .i64 k) H) : ACall Tryd.prog 66 [.slc (idsD l),.agg x.d] H R := by
  refine b66 fun hf => ?_
  have hbig := big_eq
  have hlen : (idsD l).length ≤ big := hf.1
  rw [ids_len] at hlen
  have hxd : x.d = [.int .i64 x.o,.int .i64 x.s,.int .i64 x.i] := rfl
  simp +contextual only [x66,ids_len,hxd,↓U66,↓XP,XQ,XM,cellsOf,okc,one1,resOne,resAll,eqCells,cellEq,fits,sameK,ne_eq,ite_true,ite_false,Nat.reduceSub,Nat.reduceAdd,Nat.reduceMul,Nat.reduceEqDiff,Nat.reduceLeDiff,Nat.reduceBEq,reduceCtorEq,TYX]
  intro b1 h1
  simp only [← hxd]
  refine fun _ => XW.loopK Go.Proofs.YtoeckfegggongaaDoor.hm (fun F H' => ∃ (i : Nat),i ≤ l.length ∧ x ∉ l.take i ∧ Fr 19 [(0,.slc (idsD l)),(3,.ptr b1 0),(7,.int .i64 l.length),(8,.int .i64 i)] F ∧ ((b1,AO.cells x.d) :: H) = H') (fun F H => match F.getD 8 .any with | .int _ n' => l.length - n'.toNat | _ => 0) ⟨0,by omega,by simp,⟨rfl,rfl,rfl,rfl,rfl,trivial⟩,rfl⟩ ?_
  rintro _ _ ⟨i,hi,hn,hF,rfl⟩ K hN hE hR
  obtain ⟨z,rfl⟩ : ∃ z : Nat → D,_ = [.slc (idsD l),z 1,z 2,.ptr b1 0,z 4,z 5,z 6,.int .i64 l.length,.int .i64 i,z 9,z 10,z 11,z 12,z 13,z 14,z 15,z 16,z 17,z 18] := hF.lit
  clear hF
  by_cases hlt : i < l.length
  · have nx : x ∉ l.take (i + 1) → ∀ F',Fr 19 [(0,.slc (idsD l)),(3,.ptr b1 0),(7,.int .i64 l.length),(8,.int .i64 ((i + 1 : Nat) : Int))] F' → K .normal F' ((b1,AO.cells x.d) :: H) := fun hn F' hF' => hN _ _ ⟨i + 1,hlt,hn,hF',(back_0 rfl).symm⟩ (by
      rw [List.getD_eq_getElem?_getD,hF'.2.2.2.2.1]
      simp only [List.getD_cons_succ,List.getD_cons_zero,Option.getD_some]
      omega)
    clear hN hE
    have q1 := ids_get hlt
    have hm : l.getD i default ∈ l := by rw [getD_lt hlt]; exact List.getElem_mem hlt
    have hnt : x ≠ l.getD i default → x ∉ l.take (i + 1) := fun hne hm => by
      rw [List.take_add_one] at hm
      rcases List.mem_append.1 hm with hm | hm
      · exact hn hm
      · simp [hlt] at hm
        exact hne (by simp [hlt,hm])
    generalize l.getD i default = y at q1 hm hnt
    have hyd : y.d = [.int .i64 y.o,.int .i64 y.s,.int .i64 y.i] := rfl
    have hdy : (decide (x.o = y.o) && (decide (x.s = y.s) && decide (x.i = y.i))) = decide (x = y) := by
      cases x; cases y; simp
    have hlt' : ((i : Int) < (l.length : Int)) = True := eq_true (by omega)
    by_cases hxy : x = y
    · simp +contextual only [x66,ids_len,q1,hxd,hyd,hdy,eq_true hxy,hlt',↓U66,↓XP,XQ,XM,cellsOf,okc,one1,resOne,resAll,eqCells,cellEq,fits,sameK,ne_eq,ite_true,ite_false,Nat.reduceSub,Nat.reduceAdd,Nat.reduceMul,Nat.reduceEqDiff,Nat.reduceLeDiff,Nat.reduceBEq,reduceCtorEq,TYX]
      refine hR _ _ ?_
      simp +contextual only [x66,ids_len,↓U66,↓XP,XQ,XM,cellsOf,okc,one1,resOne,resAll,eqCells,cellEq,fits,sameK,ne_eq,ite_true,ite_false,Nat.reduceSub,Nat.reduceAdd,Nat.reduceMul,Nat.reduceEqDiff,Nat.reduceLeDiff,Nat.reduceBEq,reduceCtorEq,TYX]
      exact h _ ⟨fun _ => hxy ▸ hm,fun _ => by omega⟩
    · simp +contextual only [x66,ids_len,q1,hxd,hyd,hdy,eq_false hxy,hlt',wrap_succ (show i ≤ big by omega),↓U66,↓XP,XQ,XM,cellsOf,okc,one1,resOne,resAll,eqCells,cellEq,fits,sameK,ne_eq,ite_true,ite_false,Nat.reduceSub,Nat.reduceAdd,Nat.reduceMul,Nat.reduceEqDiff,Nat.reduceLeDiff,Nat.reduceBEq,reduceCtorEq,TYX]
      simp only [← hxd]
      exact nx (hnt hxy) _ ⟨rfl,rfl,rfl,rfl,rfl,trivial⟩
  · have hik : i = l.length := by omega
    subst hik
    clear hN
    rw [List.take_length] at hn
    simp +contextual only [x66,ids_len,↓U66,↓XP,XQ,XM,cellsOf,okc,one1,resOne,resAll,eqCells,cellEq,fits,sameK,ne_eq,ite_true,ite_false,Nat.reduceSub,Nat.reduceAdd,Nat.reduceMul,Nat.reduceEqDiff,Nat.reduceLeDiff,Nat.reduceBEq,reduceCtorEq,TYX]
    refine hE _ _ _ ?_
    simp +contextual only [x66,ids_len,↓U66,↓XP,XQ,XM,cellsOf,okc,one1,resOne,resAll,eqCells,cellEq,fits,sameK,ne_eq,ite_true,ite_false,Nat.reduceSub,Nat.reduceAdd,Nat.reduceMul,Nat.reduceEqDiff,Nat.reduceLeDiff,Nat.reduceBEq,reduceCtorEq,TYX]
    exact h _ ⟨fun h => by omega,fun h => (hn h).elim⟩
theorem f_contains {l : List Id3} {x : Id3} {H : AH} {R : D → AH → Prop} (h : R (.bool (decide (x ∈ l))) H) : ACall Tryd.prog 55 [.slc (idsD l),.agg x.d] H R := by
  refine b55 fun hf => ?_
  have hxd : x.d = [.int .i64 x.o,.int .i64 x.s,.int .i64 x.i] := rfl
  have hk : ∀ b,decide (x ∈ l) = b → R (.bool b) H := fun b hb => hb ▸ h
  simp +contextual only [x55,hxd,↓u55_s0,↓XP,XQ,XM,cellsOf,okc,one1,resOne,resAll,eqCells,cellEq,fits,sameK,ne_eq,ite_true,ite_false,Nat.reduceSub,Nat.reduceAdd,Nat.reduceMul,Nat.reduceEqDiff,Nat.reduceLeDiff,Nat.reduceBEq,reduceCtorEq,TYX]
  simp only [← hxd]
  refine fun b1 h1 => f_index fun k hkk => ?_
  simp +contextual only [x55,hxd,↓u55_s0,↓XP,XQ,XM,cellsOf,okc,one1,resOne,resAll,eqCells,cellEq,fits,sameK,ne_eq,ite_true,ite_false,Nat.reduceSub,Nat.reduceAdd,Nat.reduceMul,Nat.reduceEqDiff,Nat.reduceLeDiff,Nat.reduceBEq,reduceCtorEq,TYX]
  exact fun _ => hk _ (decide_eq_decide.2 hkk.symm)
structure Shp where
  on : Bool
  to : Bool
  name : Bool
  text : Bool
  span : Bool
  low : Int
  high : Int
  a : Int
  b : Int
def Shp.d (s : Shp) : List D := [.bool s.on,.bool s.to,.bool s.name,.bool s.text,.bool s.span,.int .i64 s.low,.int .i64 s.high,.int .i64 s.a,.int .i64 s.b]
def shpZ : Shp := ⟨false,false,false,false,false,0,0,0,0⟩
def shp (k n : Int) : Shp :=
  if k = 1 then { shpZ with name := true,text := true } else if k = 3 then { shpZ with name := true,text := true,span := true }
  else if k = 4 then { shpZ with on := true,to := true,text := true,high := 1048576 } else if k = 2 ∨ k = 8 ∨ k = 10 then { shpZ with on := true,high := 1048576 }
  else if k = 5 ∨ k = 7 then { shpZ with on := true,text := true } else if k = 6 then { shpZ with on := true,name := true } else if k = 9 then { shpZ with on := true,high := 1 }
  else if k = 11 then { shpZ with on := true,span := true } else if k = 12 then { shpZ with on := true,name := true,text := true } else if k = 13 then { shpZ with on := true,to := true,high := 1023 }
  else if k = 14 then { shpZ with on := true,name := true,high := 1 } else if k = 15 then { shpZ with on := true,to := true,high := 1 }
  else if k = 16 then { shpZ with on := true,low := -1,high := n - 1,a := 2,b := 4 } else if k = 17 then { shpZ with on := true,to := true }
  else if k = 18 then { shpZ with on := true,to := true,a := 1,b := 1 } else shpZ
theorem f_shapeOf {o : OpP} {H : AH} {R : D → AH → Prop} (h : R (.tup [.agg (shp o.k o.ids.length).d,.bool (decide (1 ≤ o.k ∧ o.k ≤ 18))]) H) : ACall Tryd.prog 52 [.agg o.d] H R := by
  refine b52 fun hf => ?_
  have hbig := big_eq
  have hod : o.d = [.int .i64 o.k,.int .i64 o.on.o,.int .i64 o.on.s,.int .i64 o.on.i,.int .i64 o.to.o,.int .i64 o.to.s,.int .i64 o.to.i,.slc (idsD o.ids),.int .i64 o.n,.str o.name,.str o.text,.int .i64 o.a,.int .i64 o.b] := rfl
  have hk : ∀ on to name text span low high a b c,shp o.k o.ids.length = ⟨on,to,name,text,span,low,high,a,b⟩ → decide (1 ≤ o.k ∧ o.k ≤ 18) = c → R (.tup [.agg [.bool on,.bool to,.bool name,.bool text,.bool span,.int .i64 low,.int .i64 high,.int .i64 a,.int .i64 b],.bool c]) H := fun on to name text span low high a b c hs hc => by
    rw [hs,hc] at h; exact h
  have w1 : o.ids.length ≤ big → IntKind.i64.wrap ((o.ids.length : Int) - 1) = (o.ids.length : Int) - 1 := fun h => wrap_id (by omega) (by omega)
  clear h
  simp +contextual only [x52,ids_len,hod,↓U52,↓XP,XQ,XM,cellsOf,okc,one1,resOne,resAll,eqCells,cellEq,fits,sameK,ne_eq,ite_true,ite_false,Nat.reduceSub,Nat.reduceAdd,Nat.reduceMul,Nat.reduceEqDiff,Nat.reduceLeDiff,Nat.reduceBEq,reduceCtorEq,TYX]
  clear hf hbig hod
  intro b1 h1 b2 h2 b3 h3
  have hno : ∀ x y,getH ((b2,x) :: (b1,y) :: H) b3 = none := fun x y => freshH_none (H := (b2,x) :: (b1,y) :: H) ⟨Ne.symm h3.1,Ne.symm h3.2.1,h3.2.2⟩
  repeat' (first | apply And.intro | intro _)
  all_goals first
    | exact hno _ _
    | omega
    | exact hk _ _ _ _ _ _ _ _ _ _ (by simp [shp,shpZ, *]) (decide_eq_true (by omega))
    | exact hk _ _ _ _ _ _ _ _ _ _ (by simp [shp,shpZ, *]) (decide_eq_false (by omega))
    | skip
end Go.Proofs.YtoeckfegggongaaDoor
end
section
namespace Go.Proofs.YtoeckfegggongaaDoor
open Go Go.Aw
def I1 (s : Shp) (o : OpP) : Prop := (s.low ≤ o.n ∧ o.n ≤ s.high) ∧ (s.a ≤ o.ids.length ∧ o.ids.length ≤ s.b) ∧ o.text.length ≤ 1024
def I2 (s : Shp) (o : OpP) : Prop := (s.name = true ↔ 1 ≤ o.name.length ∧ o.name.length ≤ 16) ∧ (s.name = false → o.name = []) ∧ (s.text = false → o.text = [])
def I3 (s : Shp) (o : OpP) : Prop := (s.on = true ↔ o.on ≠ id0) ∧ (s.to = true ↔ o.to ≠ id0) ∧ (s.span = true ↔ ¬ (o.a = 0 ∧ o.b = 0))
def I4 (s : Shp) (o : OpP) : Prop := (s.on = true → OkId o.on) ∧ (s.to = true → OkId o.to) ∧ (s.span = true → OkSpan o.a o.b)
def I5 (o : OpP) : Prop := (∀ x ∈ o.ids,OkId x ∧ (o.k = 16 → x ≠ o.on)) ∧ o.ids.Nodup
def VI (o : OpP) : Prop := (1 ≤ o.k ∧ o.k ≤ 18) ∧ I1 (shp o.k o.ids.length) o ∧ I2 (shp o.k o.ids.length) o ∧ I3 (shp o.k o.ids.length) o ∧ I4 (shp o.k o.ids.length) o ∧ I5 o ∧ VO5 o
theorem vi_8 {o : OpP} {b1 b3 : Nat} {on to name text span : Bool} {low high a b : Int} {F : List D} {H : AH} {R : D → AH → Prop} (n13 : b1 ≠ b3) (hF : Fr 165 [(1,.ptr b1 0),(3,.ptr b3 0),(4,.bool true)] F) (kF : ¬ I1 (Shp.mk on to name text span low high a b) o → R (.bool false) H) (go : I1 (Shp.mk on to name text span low high a b) o → ∀ F',Fr 165 [(1,.ptr b1 0),(3,.ptr b3 0)] F' → xcode Tryd.prog x35_s7 F' ((b3,AO.cells [.bool on,.bool to,.bool name,.bool text,.bool span,.int .i64 low,.int .i64 high,.int .i64 a,.int .i64 b]) :: (b1,AO.cells o.d) :: H) (retQ Tryd.prog [.tmp 2] H.length R)) : xcode Tryd.prog x35_s8 F ((b3,AO.cells [.bool on,.bool to,.bool name,.bool text,.bool span,.int .i64 low,.int .i64 high,.int .i64 a,.int .i64 b]) :: (b1,AO.cells o.d) :: H) (retQ Tryd.prog [.tmp 2] H.length R) := by
  have hbig := big_eq
  have hod : o.d = [.int .i64 o.k,.int .i64 o.on.o,.int .i64 o.on.s,.int .i64 o.on.i,.int .i64 o.to.o,.int .i64 o.to.s,.int .i64 o.to.i,.slc (idsD o.ids),.int .i64 o.n,.str o.name,.str o.text,.int .i64 o.a,.int .i64 o.b] := rfl
  obtain ⟨z,rfl⟩ : ∃ z : Nat → D,_ = [z 0,.ptr b1 0,z 2,.ptr b3 0,.bool true,z 5,z 6,z 7,z 8,z 9,z 10,z 11,z 12,z 13,z 14,z 15,z 16,z 17,z 18,z 19,z 20,z 21,z 22,z 23,z 24,z 25,z 26,z 27,z 28,z 29,z 30,z 31,z 32,z 33,z 34,z 35,z 36,z 37,z 38,z 39,z 40,z 41,z 42,z 43,z 44,z 45,z 46,z 47,z 48,z 49,z 50,z 51,z 52,z 53,z 54,z 55,z 56,z 57,z 58,z 59,z 60,z 61,z 62,z 63,z 64,z 65,z 66,z 67,z 68,z 69,z 70,z 71,z 72,z 73,z 74,z 75,z 76,z 77,z 78,z 79,z 80,z 81,z 82,z 83,z 84,z 85,z 86,z 87,z 88,z 89,z 90,z 91,z 92,z 93,z 94,z 95,z 96,z 97,z 98,z 99,z 100,z 101,z 102,z 103,z 104,z 105,z 106,z 107,z 108,z 109,z 110,z 111,z 112,z 113,z 114,z 115,z 116,z 117,z 118,z 119,z 120,z 121,z 122,z 123,z 124,z 125,z 126,z 127,z 128,z 129,z 130,z 131,z 132,z 133,z 134,z 135,z 136,z 137,z 138,z 139,z 140,z 141,z 142,z 143,z 144,z 145,z 146,z 147,z 148,z 149,z 150,z 151,z 152,z 153,z 154,z 155,z 156,z 157,z 158,z 159,z 160,z 161,z 162,z 163,z 164] := hF.lit
  clear hF
  all_goals simp +contextual only [↓u35_s8,hod,ids_len,h_miss,h_skip,n13,id_dec,idz_dec,Int.reduceToNat,Bool.true_beq,Bool.false_beq,Bool.not_not,↓XP,XQ,XM,cellsOf,okc,one1,resOne,resAll,eqCells,cellEq,fits,sameK,ne_eq,ite_true,ite_false,Nat.reduceSub,Nat.reduceAdd,Nat.reduceMul,Nat.reduceEqDiff,Nat.reduceLeDiff,Nat.reduceBEq,reduceCtorEq,TYX]
  all_goals repeat' (first | (refine f_within ?_; simp +contextual only [↓u35_s8,hod,ids_len,h_miss,h_skip,n13,id_dec,idz_dec,Int.reduceToNat,Bool.true_beq,Bool.false_beq,Bool.not_not,↓XP,XQ,XM,cellsOf,okc,one1,resOne,resAll,eqCells,cellEq,fits,sameK,ne_eq,ite_true,ite_false,Nat.reduceSub,Nat.reduceAdd,Nat.reduceMul,Nat.reduceEqDiff,Nat.reduceLeDiff,Nat.reduceBEq,reduceCtorEq,TYX]) | intro _ | with_reducible apply And.intro)
  all_goals (try simp only [← hod])
  all_goals first
    | omega
    | exact kF (fun hh => by simp only [I1] at hh; omega)
    | exact go ⟨by omega,by omega,by omega⟩ _ ⟨rfl,rfl,rfl,trivial⟩
    | skip
theorem vi_7 {o : OpP} {b1 b3 : Nat} {on to name text span : Bool} {low high a b : Int} {F : List D} {H : AH} {R : D → AH → Prop} (n13 : b1 ≠ b3) (hF : Fr 165 [(1,.ptr b1 0),(3,.ptr b3 0)] F) (kF : ¬ I2 (Shp.mk on to name text span low high a b) o → R (.bool false) H) (go : I2 (Shp.mk on to name text span low high a b) o → ∀ F',Fr 165 [(1,.ptr b1 0),(3,.ptr b3 0)] F' → xcode Tryd.prog x35_s6 F' ((b3,AO.cells [.bool on,.bool to,.bool name,.bool text,.bool span,.int .i64 low,.int .i64 high,.int .i64 a,.int .i64 b]) :: (b1,AO.cells o.d) :: H) (retQ Tryd.prog [.tmp 2] H.length R)) : xcode Tryd.prog x35_s7 F ((b3,AO.cells [.bool on,.bool to,.bool name,.bool text,.bool span,.int .i64 low,.int .i64 high,.int .i64 a,.int .i64 b]) :: (b1,AO.cells o.d) :: H) (retQ Tryd.prog [.tmp 2] H.length R) := by
  have hbig := big_eq
  have hod : o.d = [.int .i64 o.k,.int .i64 o.on.o,.int .i64 o.on.s,.int .i64 o.on.i,.int .i64 o.to.o,.int .i64 o.to.s,.int .i64 o.to.i,.slc (idsD o.ids),.int .i64 o.n,.str o.name,.str o.text,.int .i64 o.a,.int .i64 o.b] := rfl
  obtain ⟨z,rfl⟩ : ∃ z : Nat → D,_ = [z 0,.ptr b1 0,z 2,.ptr b3 0,z 4,z 5,z 6,z 7,z 8,z 9,z 10,z 11,z 12,z 13,z 14,z 15,z 16,z 17,z 18,z 19,z 20,z 21,z 22,z 23,z 24,z 25,z 26,z 27,z 28,z 29,z 30,z 31,z 32,z 33,z 34,z 35,z 36,z 37,z 38,z 39,z 40,z 41,z 42,z 43,z 44,z 45,z 46,z 47,z 48,z 49,z 50,z 51,z 52,z 53,z 54,z 55,z 56,z 57,z 58,z 59,z 60,z 61,z 62,z 63,z 64,z 65,z 66,z 67,z 68,z 69,z 70,z 71,z 72,z 73,z 74,z 75,z 76,z 77,z 78,z 79,z 80,z 81,z 82,z 83,z 84,z 85,z 86,z 87,z 88,z 89,z 90,z 91,z 92,z 93,z 94,z 95,z 96,z 97,z 98,z 99,z 100,z 101,z 102,z 103,z 104,z 105,z 106,z 107,z 108,z 109,z 110,z 111,z 112,z 113,z 114,z 115,z 116,z 117,z 118,z 119,z 120,z 121,z 122,z 123,z 124,z 125,z 126,z 127,z 128,z 129,z 130,z 131,z 132,z 133,z 134,z 135,z 136,z 137,z 138,z 139,z 140,z 141,z 142,z 143,z 144,z 145,z 146,z 147,z 148,z 149,z 150,z 151,z 152,z 153,z 154,z 155,z 156,z 157,z 158,z 159,z 160,z 161,z 162,z 163,z 164] := hF.lit
  clear hF
  all_goals cases name
  all_goals cases text
  all_goals simp +contextual only [↓u35_s7,hod,ids_len,h_miss,h_skip,n13,id_dec,idz_dec,Int.reduceToNat,Bool.true_beq,Bool.false_beq,Bool.not_not,↓XP,XQ,XM,cellsOf,okc,one1,resOne,resAll,eqCells,cellEq,fits,sameK,ne_eq,ite_true,ite_false,Nat.reduceSub,Nat.reduceAdd,Nat.reduceMul,Nat.reduceEqDiff,Nat.reduceLeDiff,Nat.reduceBEq,reduceCtorEq,TYX]
  all_goals repeat' (first | (refine ⟨_,f_within ⟨rfl,rfl⟩,?_⟩; simp +contextual only [↓u35_s7,hod,ids_len,h_miss,h_skip,n13,id_dec,idz_dec,Int.reduceToNat,Bool.true_beq,Bool.false_beq,Bool.not_not,↓XP,XQ,XM,cellsOf,okc,one1,resOne,resAll,eqCells,cellEq,fits,sameK,ne_eq,ite_true,ite_false,Nat.reduceSub,Nat.reduceAdd,Nat.reduceMul,Nat.reduceEqDiff,Nat.reduceLeDiff,Nat.reduceBEq,reduceCtorEq,TYX]) | (refine f_within ?_; simp +contextual only [↓u35_s7,hod,ids_len,h_miss,h_skip,n13,id_dec,idz_dec,Int.reduceToNat,Bool.true_beq,Bool.false_beq,Bool.not_not,↓XP,XQ,XM,cellsOf,okc,one1,resOne,resAll,eqCells,cellEq,fits,sameK,ne_eq,ite_true,ite_false,Nat.reduceSub,Nat.reduceAdd,Nat.reduceMul,Nat.reduceEqDiff,Nat.reduceLeDiff,Nat.reduceBEq,reduceCtorEq,TYX]) | intro _ | with_reducible apply And.intro)
  all_goals (try simp only [← hod])
  all_goals first
    | omega
    | exact kF (fun hh => by simp [I2] at hh; simp_all <;> omega)
    | exact go (by simp [I2]; simp_all <;> omega) _ ⟨rfl,rfl,rfl,trivial⟩
    | (have g := go (by simp [I2]; simp_all <;> omega); clear go kF; simp only [hod, *] at g; exact g _ ⟨rfl,rfl,rfl,trivial⟩)
    | skip
theorem vi_6 {o : OpP} {b1 b3 : Nat} {on to name text span : Bool} {low high a b : Int} {F : List D} {H : AH} {R : D → AH → Prop} (n13 : b1 ≠ b3) (hF : Fr 165 [(1,.ptr b1 0),(3,.ptr b3 0)] F) (kF : ¬ I3 (Shp.mk on to name text span low high a b) o → R (.bool false) H) (go : I3 (Shp.mk on to name text span low high a b) o → ∀ F',Fr 165 [(1,.ptr b1 0),(3,.ptr b3 0)] F' → xcode Tryd.prog x35_s5 F' ((b3,AO.cells [.bool on,.bool to,.bool name,.bool text,.bool span,.int .i64 low,.int .i64 high,.int .i64 a,.int .i64 b]) :: (b1,AO.cells o.d) :: H) (retQ Tryd.prog [.tmp 2] H.length R)) : xcode Tryd.prog x35_s6 F ((b3,AO.cells [.bool on,.bool to,.bool name,.bool text,.bool span,.int .i64 low,.int .i64 high,.int .i64 a,.int .i64 b]) :: (b1,AO.cells o.d) :: H) (retQ Tryd.prog [.tmp 2] H.length R) := by
  have hbig := big_eq
  have hod : o.d = [.int .i64 o.k,.int .i64 o.on.o,.int .i64 o.on.s,.int .i64 o.on.i,.int .i64 o.to.o,.int .i64 o.to.s,.int .i64 o.to.i,.slc (idsD o.ids),.int .i64 o.n,.str o.name,.str o.text,.int .i64 o.a,.int .i64 o.b] := rfl
  obtain ⟨z,rfl⟩ : ∃ z : Nat → D,_ = [z 0,.ptr b1 0,z 2,.ptr b3 0,z 4,z 5,z 6,z 7,z 8,z 9,z 10,z 11,z 12,z 13,z 14,z 15,z 16,z 17,z 18,z 19,z 20,z 21,z 22,z 23,z 24,z 25,z 26,z 27,z 28,z 29,z 30,z 31,z 32,z 33,z 34,z 35,z 36,z 37,z 38,z 39,z 40,z 41,z 42,z 43,z 44,z 45,z 46,z 47,z 48,z 49,z 50,z 51,z 52,z 53,z 54,z 55,z 56,z 57,z 58,z 59,z 60,z 61,z 62,z 63,z 64,z 65,z 66,z 67,z 68,z 69,z 70,z 71,z 72,z 73,z 74,z 75,z 76,z 77,z 78,z 79,z 80,z 81,z 82,z 83,z 84,z 85,z 86,z 87,z 88,z 89,z 90,z 91,z 92,z 93,z 94,z 95,z 96,z 97,z 98,z 99,z 100,z 101,z 102,z 103,z 104,z 105,z 106,z 107,z 108,z 109,z 110,z 111,z 112,z 113,z 114,z 115,z 116,z 117,z 118,z 119,z 120,z 121,z 122,z 123,z 124,z 125,z 126,z 127,z 128,z 129,z 130,z 131,z 132,z 133,z 134,z 135,z 136,z 137,z 138,z 139,z 140,z 141,z 142,z 143,z 144,z 145,z 146,z 147,z 148,z 149,z 150,z 151,z 152,z 153,z 154,z 155,z 156,z 157,z 158,z 159,z 160,z 161,z 162,z 163,z 164] := hF.lit
  clear hF
  all_goals cases on
  all_goals cases to
  all_goals cases span
  all_goals simp +contextual only [↓u35_s6,hod,ids_len,h_miss,h_skip,n13,id_dec,idz_dec,Int.reduceToNat,Bool.true_beq,Bool.false_beq,Bool.not_not,↓XP,XQ,XM,cellsOf,okc,one1,resOne,resAll,eqCells,cellEq,fits,sameK,ne_eq,ite_true,ite_false,Nat.reduceSub,Nat.reduceAdd,Nat.reduceMul,Nat.reduceEqDiff,Nat.reduceLeDiff,Nat.reduceBEq,reduceCtorEq,TYX]
  all_goals repeat' (first | intro _ | with_reducible apply And.intro)
  all_goals (try simp only [← hod])
  all_goals first
    | exact kF (fun hh => by simp [I3] at hh; simp_all)
    | exact go (by simp [I3]; simp_all) _ ⟨rfl,rfl,rfl,trivial⟩
    | (have g := go (by simp [I3]; simp_all); clear go kF; simp only [hod, *] at g; exact g _ ⟨rfl,rfl,rfl,trivial⟩)
    | skip
theorem vi_5 {o : OpP} {b1 b3 : Nat} {on to name text span : Bool} {low high a b : Int} {F : List D} {H : AH} {R : D → AH → Prop} (n13 : b1 ≠ b3) (hF : Fr 165 [(1,.ptr b1 0),(3,.ptr b3 0)] F) (kF : ¬ I4 (Shp.mk on to name text span low high a b) o → R (.bool false) H) (go : I4 (Shp.mk on to name text span low high a b) o → ∀ F',Fr 165 [(1,.ptr b1 0),(3,.ptr b3 0)] F' → xcode Tryd.prog x35_s4 F' ((b3,AO.cells [.bool on,.bool to,.bool name,.bool text,.bool span,.int .i64 low,.int .i64 high,.int .i64 a,.int .i64 b]) :: (b1,AO.cells o.d) :: H) (retQ Tryd.prog [.tmp 2] H.length R)) : xcode Tryd.prog x35_s5 F ((b3,AO.cells [.bool on,.bool to,.bool name,.bool text,.bool span,.int .i64 low,.int .i64 high,.int .i64 a,.int .i64 b]) :: (b1,AO.cells o.d) :: H) (retQ Tryd.prog [.tmp 2] H.length R) := by
  have hbig := big_eq
  have hod : o.d = [.int .i64 o.k,.int .i64 o.on.o,.int .i64 o.on.s,.int .i64 o.on.i,.int .i64 o.to.o,.int .i64 o.to.s,.int .i64 o.to.i,.slc (idsD o.ids),.int .i64 o.n,.str o.name,.str o.text,.int .i64 o.a,.int .i64 o.b] := rfl
  obtain ⟨z,rfl⟩ : ∃ z : Nat → D,_ = [z 0,.ptr b1 0,z 2,.ptr b3 0,z 4,z 5,z 6,z 7,z 8,z 9,z 10,z 11,z 12,z 13,z 14,z 15,z 16,z 17,z 18,z 19,z 20,z 21,z 22,z 23,z 24,z 25,z 26,z 27,z 28,z 29,z 30,z 31,z 32,z 33,z 34,z 35,z 36,z 37,z 38,z 39,z 40,z 41,z 42,z 43,z 44,z 45,z 46,z 47,z 48,z 49,z 50,z 51,z 52,z 53,z 54,z 55,z 56,z 57,z 58,z 59,z 60,z 61,z 62,z 63,z 64,z 65,z 66,z 67,z 68,z 69,z 70,z 71,z 72,z 73,z 74,z 75,z 76,z 77,z 78,z 79,z 80,z 81,z 82,z 83,z 84,z 85,z 86,z 87,z 88,z 89,z 90,z 91,z 92,z 93,z 94,z 95,z 96,z 97,z 98,z 99,z 100,z 101,z 102,z 103,z 104,z 105,z 106,z 107,z 108,z 109,z 110,z 111,z 112,z 113,z 114,z 115,z 116,z 117,z 118,z 119,z 120,z 121,z 122,z 123,z 124,z 125,z 126,z 127,z 128,z 129,z 130,z 131,z 132,z 133,z 134,z 135,z 136,z 137,z 138,z 139,z 140,z 141,z 142,z 143,z 144,z 145,z 146,z 147,z 148,z 149,z 150,z 151,z 152,z 153,z 154,z 155,z 156,z 157,z 158,z 159,z 160,z 161,z 162,z 163,z 164] := hF.lit
  clear hF
  all_goals cases on
  all_goals cases to
  all_goals cases span
  all_goals simp +contextual only [↓u35_s5,hod,ids_len,h_miss,h_skip,n13,id_dec,idz_dec,Int.reduceToNat,Bool.true_beq,Bool.false_beq,Bool.not_not,↓XP,XQ,XM,cellsOf,okc,one1,resOne,resAll,eqCells,cellEq,fits,sameK,ne_eq,ite_true,ite_false,Nat.reduceSub,Nat.reduceAdd,Nat.reduceMul,Nat.reduceEqDiff,Nat.reduceLeDiff,Nat.reduceBEq,reduceCtorEq,TYX]
  all_goals repeat' (first | (refine f_names ?_; simp +contextual only [↓u35_s5,hod,ids_len,h_miss,h_skip,n13,id_dec,idz_dec,Int.reduceToNat,Bool.true_beq,Bool.false_beq,Bool.not_not,↓XP,XQ,XM,cellsOf,okc,one1,resOne,resAll,eqCells,cellEq,fits,sameK,ne_eq,ite_true,ite_false,Nat.reduceSub,Nat.reduceAdd,Nat.reduceMul,Nat.reduceEqDiff,Nat.reduceLeDiff,Nat.reduceBEq,reduceCtorEq,TYX]) | (refine f_cSpan ?_; simp +contextual only [↓u35_s5,hod,ids_len,h_miss,h_skip,n13,id_dec,idz_dec,Int.reduceToNat,Bool.true_beq,Bool.false_beq,Bool.not_not,↓XP,XQ,XM,cellsOf,okc,one1,resOne,resAll,eqCells,cellEq,fits,sameK,ne_eq,ite_true,ite_false,Nat.reduceSub,Nat.reduceAdd,Nat.reduceMul,Nat.reduceEqDiff,Nat.reduceLeDiff,Nat.reduceBEq,reduceCtorEq,TYX]) | intro _ | with_reducible apply And.intro)
  all_goals (try simp only [← hod])
  all_goals first
    | exact kF (fun hh => by simp [I4] at hh; simp_all)
    | exact go (by simp [I4]; simp_all) _ ⟨rfl,rfl,rfl,trivial⟩
    | exact go (by simp [I4]) _ ⟨rfl,rfl,rfl,trivial⟩
    | skip
end Go.Proofs.YtoeckfegggongaaDoor
end
