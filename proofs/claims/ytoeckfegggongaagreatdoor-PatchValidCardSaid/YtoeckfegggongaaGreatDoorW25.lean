/- A part of the proof of what the last text says: Gk3, Gk4, Gk5. Conditions: those in each theorem. -/
import Derived.Test.YtoeckfegggongaaGreatDoorW24
set_option linter.unusedVariables false
set_option linter.unusedSimpArgs false
set_option maxRecDepth 100000
set_option maxHeartbeats 16000000
open Nat (reduceSub reduceAdd reduceMul reduceEqDiff reduceLeDiff)
section
namespace Go.Proofs.YtoeckfegggongaaGreatDoor
open Go Go.Aw
def I1 (s : Shp) (o : OpP) : Prop := (s.low ≤ o.n ∧ o.n ≤ s.high) ∧ (s.a ≤ o.ids.length ∧ o.ids.length ≤ s.b) ∧ o.text.length ≤ 1024
def I2 (s : Shp) (o : OpP) : Prop := (s.name = true ↔ 1 ≤ o.name.length ∧ o.name.length ≤ 16) ∧ (s.name = false → o.name = []) ∧ (s.text = false → o.text = [])
def I3 (s : Shp) (o : OpP) : Prop := (s.on = true ↔ o.on ≠ id0) ∧ (s.to = true ↔ o.to ≠ id0) ∧ (s.span = true ↔ ¬ (o.a = 0 ∧ o.b = 0))
def I4 (s : Shp) (o : OpP) : Prop := (s.on = true → OkId o.on) ∧ (s.to = true → OkId o.to) ∧ (s.span = true → OkSpan o.a o.b)
def I5 (o : OpP) : Prop := (∀ x ∈ o.ids,OkId x ∧ (o.k = 16 → x ≠ o.on)) ∧ o.ids.Nodup
def VI (o : OpP) : Prop := (1 ≤ o.k ∧ o.k ≤ 18) ∧ I1 (shp o.k o.ids.length) o ∧ I2 (shp o.k o.ids.length) o ∧ I3 (shp o.k o.ids.length) o ∧ I4 (shp o.k o.ids.length) o ∧ I5 o ∧ VO5 o
theorem vi_8 {o : OpP} {b1 b3 : Nat} {on to name text span : Bool} {low high a b : Int} {F : List D} {H : AH} {R : D → AH → Prop} (n13 : b1 ≠ b3) (hF : Fr 165 [(1,.ptr b1 0),(3,.ptr b3 0),(4,.bool true)] F) (kF : ¬ I1 (Shp.mk on to name text span low high a b) o → R (.bool false) H) (go : I1 (Shp.mk on to name text span low high a b) o → ∀ F',Fr 165 [(1,.ptr b1 0),(3,.ptr b3 0)] F' → xcode Tryz.prog x22_s7 F' ((b3,AO.cells [.bool on,.bool to,.bool name,.bool text,.bool span,.int .i64 low,.int .i64 high,.int .i64 a,.int .i64 b]) :: (b1,AO.cells o.d) :: H) (retQ Tryz.prog [.tmp 2] H.length R)) : xcode Tryz.prog x22_s8 F ((b3,AO.cells [.bool on,.bool to,.bool name,.bool text,.bool span,.int .i64 low,.int .i64 high,.int .i64 a,.int .i64 b]) :: (b1,AO.cells o.d) :: H) (retQ Tryz.prog [.tmp 2] H.length R) := by
  have hbig := big_eq
  have hod : o.d = [.int .i64 o.k,.int .i64 o.on.o,.int .i64 o.on.s,.int .i64 o.on.i,.int .i64 o.to.o,.int .i64 o.to.s,.int .i64 o.to.i,.slc (idsD o.ids),.int .i64 o.n,.str o.name,.str o.text,.int .i64 o.a,.int .i64 o.b] := rfl
  obtain ⟨z,rfl⟩ : ∃ z : Nat → D,_ = z 0 :: .ptr b1 0 :: z 2 :: .ptr b3 0 :: .bool true :: zz z 5 160 [] := hF.lit
  try dsimp only [zz,reduceAdd] at *
  clear hF
  all_goals simp +contextual only [↓u22_s8,hod,ids_len,h_miss,h_skip,n13,id_dec,idz_dec,Int.reduceToNat,Bool.true_beq,Bool.false_beq,Bool.not_not,↓XP,XW0,XW1,reduceSub,reduceAdd,reduceMul,reduceEqDiff,reduceLeDiff,Nat.reduceBEq,reduceCtorEq,TYX]
  all_goals repeat' (first | (refine f_within ?_; simp +contextual only [↓u22_s8,hod,ids_len,h_miss,h_skip,n13,id_dec,idz_dec,Int.reduceToNat,Bool.true_beq,Bool.false_beq,Bool.not_not,↓XP,XW0,XW1,reduceSub,reduceAdd,reduceMul,reduceEqDiff,reduceLeDiff,Nat.reduceBEq,reduceCtorEq,TYX]) | intro _ | with_reducible apply And.intro)
  all_goals (try simp only [← hod])
  all_goals first
    | omega
    | exact kF (fun hh => by simp only [I1] at hh; omega)
    | exact go ⟨by omega,by omega,by omega⟩ _ ⟨rfl,rfl,rfl,trivial⟩
    | skip
theorem vi_7 {o : OpP} {b1 b3 : Nat} {on to name text span : Bool} {low high a b : Int} {F : List D} {H : AH} {R : D → AH → Prop} (n13 : b1 ≠ b3) (hF : Fr 165 [(1,.ptr b1 0),(3,.ptr b3 0)] F) (kF : ¬ I2 (Shp.mk on to name text span low high a b) o → R (.bool false) H) (go : I2 (Shp.mk on to name text span low high a b) o → ∀ F',Fr 165 [(1,.ptr b1 0),(3,.ptr b3 0)] F' → xcode Tryz.prog x22_s6 F' ((b3,AO.cells [.bool on,.bool to,.bool name,.bool text,.bool span,.int .i64 low,.int .i64 high,.int .i64 a,.int .i64 b]) :: (b1,AO.cells o.d) :: H) (retQ Tryz.prog [.tmp 2] H.length R)) : xcode Tryz.prog x22_s7 F ((b3,AO.cells [.bool on,.bool to,.bool name,.bool text,.bool span,.int .i64 low,.int .i64 high,.int .i64 a,.int .i64 b]) :: (b1,AO.cells o.d) :: H) (retQ Tryz.prog [.tmp 2] H.length R) := by
  have hbig := big_eq
  have hod : o.d = [.int .i64 o.k,.int .i64 o.on.o,.int .i64 o.on.s,.int .i64 o.on.i,.int .i64 o.to.o,.int .i64 o.to.s,.int .i64 o.to.i,.slc (idsD o.ids),.int .i64 o.n,.str o.name,.str o.text,.int .i64 o.a,.int .i64 o.b] := rfl
  obtain ⟨z,rfl⟩ : ∃ z : Nat → D,_ = z 0 :: .ptr b1 0 :: z 2 :: .ptr b3 0 :: zz z 4 161 [] := hF.lit
  try dsimp only [zz,reduceAdd] at *
  clear hF
  all_goals cases name
  all_goals cases text
  all_goals simp +contextual only [↓u22_s7,hod,ids_len,h_miss,h_skip,n13,id_dec,idz_dec,Int.reduceToNat,Bool.true_beq,Bool.false_beq,Bool.not_not,↓XP,XW0,XW1,reduceSub,reduceAdd,reduceMul,reduceEqDiff,reduceLeDiff,Nat.reduceBEq,reduceCtorEq,TYX]
  all_goals repeat' (first | (refine ⟨_,f_within ⟨rfl,rfl⟩,?_⟩; simp +contextual only [↓u22_s7,hod,ids_len,h_miss,h_skip,n13,id_dec,idz_dec,Int.reduceToNat,Bool.true_beq,Bool.false_beq,Bool.not_not,↓XP,XW0,XW1,reduceSub,reduceAdd,reduceMul,reduceEqDiff,reduceLeDiff,Nat.reduceBEq,reduceCtorEq,TYX]) | (refine f_within ?_; simp +contextual only [↓u22_s7,hod,ids_len,h_miss,h_skip,n13,id_dec,idz_dec,Int.reduceToNat,Bool.true_beq,Bool.false_beq,Bool.not_not,↓XP,XW0,XW1,reduceSub,reduceAdd,reduceMul,reduceEqDiff,reduceLeDiff,Nat.reduceBEq,reduceCtorEq,TYX]) | intro _ | with_reducible apply And.intro)
  all_goals (try simp only [← hod])
  all_goals first
    | omega
    | exact kF (fun hh => by simp [I2] at hh; simp_all <;> omega)
    | exact go (by simp [I2]; simp_all <;> omega) _ ⟨rfl,rfl,rfl,trivial⟩
    | (have g := go (by simp [I2]; simp_all <;> omega); clear go kF; simp only [hod, *] at g; exact g _ ⟨rfl,rfl,rfl,trivial⟩)
    | skip
theorem vi_6 {o : OpP} {b1 b3 : Nat} {on to name text span : Bool} {low high a b : Int} {F : List D} {H : AH} {R : D → AH → Prop} (n13 : b1 ≠ b3) (hF : Fr 165 [(1,.ptr b1 0),(3,.ptr b3 0)] F) (kF : ¬ I3 (Shp.mk on to name text span low high a b) o → R (.bool false) H) (go : I3 (Shp.mk on to name text span low high a b) o → ∀ F',Fr 165 [(1,.ptr b1 0),(3,.ptr b3 0)] F' → xcode Tryz.prog x22_s5 F' ((b3,AO.cells [.bool on,.bool to,.bool name,.bool text,.bool span,.int .i64 low,.int .i64 high,.int .i64 a,.int .i64 b]) :: (b1,AO.cells o.d) :: H) (retQ Tryz.prog [.tmp 2] H.length R)) : xcode Tryz.prog x22_s6 F ((b3,AO.cells [.bool on,.bool to,.bool name,.bool text,.bool span,.int .i64 low,.int .i64 high,.int .i64 a,.int .i64 b]) :: (b1,AO.cells o.d) :: H) (retQ Tryz.prog [.tmp 2] H.length R) := by
  have hbig := big_eq
  have hod : o.d = [.int .i64 o.k,.int .i64 o.on.o,.int .i64 o.on.s,.int .i64 o.on.i,.int .i64 o.to.o,.int .i64 o.to.s,.int .i64 o.to.i,.slc (idsD o.ids),.int .i64 o.n,.str o.name,.str o.text,.int .i64 o.a,.int .i64 o.b] := rfl
  obtain ⟨z,rfl⟩ : ∃ z : Nat → D,_ = z 0 :: .ptr b1 0 :: z 2 :: .ptr b3 0 :: zz z 4 161 [] := hF.lit
  try dsimp only [zz,reduceAdd] at *
  clear hF
  all_goals cases on
  all_goals cases to
  all_goals cases span
  all_goals simp +contextual only [↓u22_s6,hod,ids_len,h_miss,h_skip,n13,id_dec,idz_dec,Int.reduceToNat,Bool.true_beq,Bool.false_beq,Bool.not_not,↓XP,XW0,XW1,reduceSub,reduceAdd,reduceMul,reduceEqDiff,reduceLeDiff,Nat.reduceBEq,reduceCtorEq,TYX]
  all_goals repeat' (first | intro _ | with_reducible apply And.intro)
  all_goals (try simp only [← hod])
  all_goals first
    | exact kF (fun hh => by simp [I3] at hh; simp_all)
    | exact go (by simp [I3]; simp_all) _ ⟨rfl,rfl,rfl,trivial⟩
    | (have g := go (by simp [I3]; simp_all); clear go kF; simp only [hod, *] at g; exact g _ ⟨rfl,rfl,rfl,trivial⟩)
    | skip
theorem vi_5 {o : OpP} {b1 b3 : Nat} {on to name text span : Bool} {low high a b : Int} {F : List D} {H : AH} {R : D → AH → Prop} (n13 : b1 ≠ b3) (hF : Fr 165 [(1,.ptr b1 0),(3,.ptr b3 0)] F) (kF : ¬ I4 (Shp.mk on to name text span low high a b) o → R (.bool false) H) (go : I4 (Shp.mk on to name text span low high a b) o → ∀ F',Fr 165 [(1,.ptr b1 0),(3,.ptr b3 0)] F' → xcode Tryz.prog x22_s4 F' ((b3,AO.cells [.bool on,.bool to,.bool name,.bool text,.bool span,.int .i64 low,.int .i64 high,.int .i64 a,.int .i64 b]) :: (b1,AO.cells o.d) :: H) (retQ Tryz.prog [.tmp 2] H.length R)) : xcode Tryz.prog x22_s5 F ((b3,AO.cells [.bool on,.bool to,.bool name,.bool text,.bool span,.int .i64 low,.int .i64 high,.int .i64 a,.int .i64 b]) :: (b1,AO.cells o.d) :: H) (retQ Tryz.prog [.tmp 2] H.length R) := by
  have hbig := big_eq
  have hod : o.d = [.int .i64 o.k,.int .i64 o.on.o,.int .i64 o.on.s,.int .i64 o.on.i,.int .i64 o.to.o,.int .i64 o.to.s,.int .i64 o.to.i,.slc (idsD o.ids),.int .i64 o.n,.str o.name,.str o.text,.int .i64 o.a,.int .i64 o.b] := rfl
  obtain ⟨z,rfl⟩ : ∃ z : Nat → D,_ = z 0 :: .ptr b1 0 :: z 2 :: .ptr b3 0 :: zz z 4 161 [] := hF.lit
  try dsimp only [zz,reduceAdd] at *
  clear hF
  all_goals cases on
  all_goals cases to
  all_goals cases span
  all_goals simp +contextual only [↓u22_s5,hod,ids_len,h_miss,h_skip,n13,id_dec,idz_dec,Int.reduceToNat,Bool.true_beq,Bool.false_beq,Bool.not_not,↓XP,XW0,XW1,reduceSub,reduceAdd,reduceMul,reduceEqDiff,reduceLeDiff,Nat.reduceBEq,reduceCtorEq,TYX]
  all_goals repeat' (first | (refine f_names ?_; simp +contextual only [↓u22_s5,hod,ids_len,h_miss,h_skip,n13,id_dec,idz_dec,Int.reduceToNat,Bool.true_beq,Bool.false_beq,Bool.not_not,↓XP,XW0,XW1,reduceSub,reduceAdd,reduceMul,reduceEqDiff,reduceLeDiff,Nat.reduceBEq,reduceCtorEq,TYX]) | (refine f_cSpan ?_; simp +contextual only [↓u22_s5,hod,ids_len,h_miss,h_skip,n13,id_dec,idz_dec,Int.reduceToNat,Bool.true_beq,Bool.false_beq,Bool.not_not,↓XP,XW0,XW1,reduceSub,reduceAdd,reduceMul,reduceEqDiff,reduceLeDiff,Nat.reduceBEq,reduceCtorEq,TYX]) | intro _ | with_reducible apply And.intro)
  all_goals (try simp only [← hod])
  all_goals first
    | exact kF (fun hh => by simp [I4] at hh; simp_all)
    | exact go (by simp [I4]; simp_all) _ ⟨rfl,rfl,rfl,trivial⟩
    | exact go (by simp [I4]) _ ⟨rfl,rfl,rfl,trivial⟩
    | skip
end Go.Proofs.YtoeckfegggongaaGreatDoor
end
section
namespace Go.Proofs.YtoeckfegggongaaGreatDoor
open Go Go.Aw
theorem ids_take {l : List Id3} {i : Nat} : (idsD l).take i = idsD (l.take i) := by simp [idsD,List.map_take]
theorem vi_4 {o : OpP} {b1 b3 : Nat} {on to name text span : Bool} {low high a b : Int} {F : List D} {H : AH} {R : D → AH → Prop} (n13 : b1 ≠ b3) (hF : Fr 165 [(1,.ptr b1 0),(3,.ptr b3 0)] F) (kF : ¬ I5 o → R (.bool false) H) (go : I5 o → ∀ F',Fr 165 [(1,.ptr b1 0),(3,.ptr b3 0)] F' → xcode Tryz.prog x22_s3 F' ((b3,AO.cells [.bool on,.bool to,.bool name,.bool text,.bool span,.int .i64 low,.int .i64 high,.int .i64 a,.int .i64 b]) :: (b1,AO.cells o.d) :: H) (retQ Tryz.prog [.tmp 2] H.length R)) : xcode Tryz.prog x22_s4 F ((b3,AO.cells [.bool on,.bool to,.bool name,.bool text,.bool span,.int .i64 low,.int .i64 high,.int .i64 a,.int .i64 b]) :: (b1,AO.cells o.d) :: H) (retQ Tryz.prog [.tmp 2] H.length R) := by
  have hbig := big_eq
  have hod : o.d = [.int .i64 o.k,.int .i64 o.on.o,.int .i64 o.on.s,.int .i64 o.on.i,.int .i64 o.to.o,.int .i64 o.to.s,.int .i64 o.to.i,.slc (idsD o.ids),.int .i64 o.n,.str o.name,.str o.text,.int .i64 o.a,.int .i64 o.b] := rfl
  obtain ⟨z,rfl⟩ : ∃ z : Nat → D,_ = z 0 :: .ptr b1 0 :: z 2 :: .ptr b3 0 :: zz z 4 161 [] := hF.lit
  try dsimp only [zz,reduceAdd] at *
  clear hF
  simp +contextual only [↓u22_s4,↓u22_L2,↓u22_s1,↓u22_s0,hod,ids_len,h_miss,h_skip,n13,id_dec,idz_dec,↓XP,XW0,XW1,reduceSub,reduceAdd,reduceMul,reduceEqDiff,reduceLeDiff,Nat.reduceBEq,reduceCtorEq,TYX]
  simp only [← hod]
  intro hlen
  refine XW.loopK Go.Proofs.YtoeckfegggongaaGreatDoor.hm (fun F H' => ∃ (i : Nat),i ≤ o.ids.length ∧ (∀ x ∈ o.ids.take i,OkId x ∧ (o.k = 16 → x ≠ o.on)) ∧ (o.ids.take i).Nodup ∧ Fr 165 [(1,.ptr b1 0),(3,.ptr b3 0),(125,.slc (idsD o.ids)),(126,.int .i64 o.ids.length),(127,.int .i64 i)] F ∧ ((b3,AO.cells [.bool on,.bool to,.bool name,.bool text,.bool span,.int .i64 low,.int .i64 high,.int .i64 a,.int .i64 b]) :: (b1,AO.cells o.d) :: H) = H') (fun F H => match F.getD 127 .any with | .int _ n' => o.ids.length - n'.toNat | _ => 0) ⟨0,by omega,by simp,by simp,⟨rfl,rfl,rfl,rfl,rfl,rfl,trivial⟩,rfl⟩ ?_
  rintro _ _ ⟨i,hi,hv,hn,hF,rfl⟩ K hN hE hR
  obtain ⟨z,rfl⟩ : ∃ z : Nat → D,_ = z 0 :: .ptr b1 0 :: z 2 :: .ptr b3 0 :: zz z 4 121 (.slc (idsD o.ids) :: .int .i64 o.ids.length :: .int .i64 i :: zz z 128 37 []) := hF.lit
  try dsimp only [zz,reduceAdd] at *
  clear hF
  by_cases hlt : i < o.ids.length
  · have nx : (OkId (o.ids.getD i default) ∧ (o.k = 16 → o.ids.getD i default ≠ o.on)) → o.ids.getD i default ∉ o.ids.take i → ∀ F' H',back (((b3,AO.cells [.bool on,.bool to,.bool name,.bool text,.bool span,.int .i64 low,.int .i64 high,.int .i64 a,.int .i64 b]) :: (b1,AO.cells o.d) :: H) : AH).length H' = ((b3,AO.cells [.bool on,.bool to,.bool name,.bool text,.bool span,.int .i64 low,.int .i64 high,.int .i64 a,.int .i64 b]) :: (b1,AO.cells o.d) :: H) → Fr 165 [(1,.ptr b1 0),(3,.ptr b3 0),(125,.slc (idsD o.ids)),(126,.int .i64 o.ids.length),(127,.int .i64 ((i + 1 : Nat) : Int))] F' → K .normal F' H' := fun h1 h2 F' H' hH hF' => hN _ _ ⟨i + 1,hlt,fun x hx => by
        rw [List.take_add_one] at hx
        rcases List.mem_append.1 hx with hx | hx
        · exact hv x hx
        · simp [hlt] at hx
          have : x = o.ids.getD i default := by simp [hlt,hx]
          rw [this]; exact h1,(nodup_take hlt).2 ⟨hn,h2⟩,hF',hH.symm⟩ (by
      rw [List.getD_eq_getElem?_getD,hF'.2.2.2.2.2.1]
      simp only [List.getD_cons_succ,List.getD_cons_zero,Option.getD_some]
      omega)
    clear hN hE
    have q1 := ids_get hlt
    have hm : o.ids.getD i default ∈ o.ids := by rw [getD_lt hlt]; exact List.getElem_mem hlt
    generalize hxe : o.ids.getD i default = x at q1 nx hm
    have hxd : x.d = [.int .i64 x.o,.int .i64 x.s,.int .i64 x.i] := rfl
    have hlt' : ((i : Int) < (o.ids.length : Int)) = True := eq_true (by omega)
    simp +contextual only [↓u22_s4,↓u22_L2,↓u22_s1,↓u22_s0,hod,ids_len,h_miss,h_skip,n13,id_dec,idz_dec,q1,hxd,hlt',↓XP,XW0,XW1,reduceSub,reduceAdd,reduceMul,reduceEqDiff,reduceLeDiff,Nat.reduceBEq,reduceCtorEq,TYX]
    intro b6 h6
    obtain ⟨n36,n16,h6⟩ := h6
    have hgx : x ∈ o.ids.take i → ¬ I5 o := fun hxm h5 => ((nodup_take hlt).1 (h5.2.sublist (List.take_sublist (i + 1) o.ids))).2 (hxe ▸ hxm)
    refine ⟨_,f_names (x := x) ⟨rfl,rfl⟩,?_⟩
    by_cases hok : OkId x
    · simp +contextual only [↓u22_s4,↓u22_L2,↓u22_s1,↓u22_s0,hod,ids_len,h_miss,h_skip,n13,id_dec,idz_dec,q1,hxd,hlt',ids_take,n36,n16,eq_true hok,show (0 ≤ (i : Int)) = True from eq_true (by omega),show ((i : Int) ≤ (o.ids.length : Int)) = True from eq_true (by omega),↓XP,XW0,XW1,reduceSub,reduceAdd,reduceMul,reduceEqDiff,reduceLeDiff,Nat.reduceBEq,reduceCtorEq,TYX]
      refine fun _ => ⟨fun y hy => by obtain ⟨y',_,rfl⟩ := List.mem_map.1 hy; rfl,⟨_,f_contains (l := o.ids.take i) (x := x) ⟨rfl,rfl⟩,?_⟩⟩
      by_cases hmem : x ∈ o.ids.take i
      · simp +contextual only [↓u22_s4,↓u22_L2,↓u22_s1,↓u22_s0,hod,ids_len,h_miss,h_skip,n13,id_dec,idz_dec,q1,hxd,n36,n16,eq_true hmem,↓XP,XW0,XW1,reduceSub,reduceAdd,reduceMul,reduceEqDiff,reduceLeDiff,Nat.reduceBEq,reduceCtorEq,TYX]
        refine hR _ _ ?_
        simp +contextual only [↓u22_s4,↓u22_L2,↓u22_s1,↓u22_s0,hod,ids_len,h_miss,h_skip,n13,id_dec,idz_dec,↓XP,XW0,XW1,reduceSub,reduceAdd,reduceMul,reduceEqDiff,reduceLeDiff,Nat.reduceBEq,reduceCtorEq,TYX]
        exact kF (hgx hmem)
      · have bk : ∀ y : AO,back (((b3,AO.cells [.bool on,.bool to,.bool name,.bool text,.bool span,.int .i64 low,.int .i64 high,.int .i64 a,.int .i64 b]) :: (b1,AO.cells o.d) :: H) : AH).length ((b6,y) :: ((b3,AO.cells [.bool on,.bool to,.bool name,.bool text,.bool span,.int .i64 low,.int .i64 high,.int .i64 a,.int .i64 b]) :: (b1,AO.cells o.d) :: H)) = ((b3,AO.cells [.bool on,.bool to,.bool name,.bool text,.bool span,.int .i64 low,.int .i64 high,.int .i64 a,.int .i64 b]) :: (b1,AO.cells o.d) :: H) := fun y => back_1 rfl
        by_cases hk16 : o.k = 16
        · by_cases hxo : x = o.on
          · simp +contextual only [↓u22_s4,↓u22_L2,↓u22_s1,↓u22_s0,hod,ids_len,h_miss,h_skip,n13,id_dec,idz_dec,q1,hxd,n36,n16,eq_false hmem,eq_true hk16,eq_true hxo,↓XP,XW0,XW1,reduceSub,reduceAdd,reduceMul,reduceEqDiff,reduceLeDiff,Nat.reduceBEq,reduceCtorEq,TYX]
            refine fun _ => hR _ _ ?_
            simp +contextual only [↓u22_s4,↓u22_L2,↓u22_s1,↓u22_s0,hod,ids_len,h_miss,h_skip,n13,id_dec,idz_dec,↓XP,XW0,XW1,reduceSub,reduceAdd,reduceMul,reduceEqDiff,reduceLeDiff,Nat.reduceBEq,reduceCtorEq,TYX]
            exact kF (fun h5 => (h5.1 x hm).2 hk16 hxo)
          · simp +contextual only [↓u22_s4,↓u22_L2,↓u22_s1,↓u22_s0,hod,ids_len,h_miss,h_skip,n13,id_dec,idz_dec,q1,hxd,n36,n16,eq_false hmem,eq_true hk16,eq_false hxo,wrap_succ (show i ≤ big by omega),↓XP,XW0,XW1,reduceSub,reduceAdd,reduceMul,reduceEqDiff,reduceLeDiff,Nat.reduceBEq,reduceCtorEq,TYX]
            simp only [← hod]
            exact fun _ => nx ⟨hok,fun _ => hxo⟩ hmem _ _ (bk _) ⟨rfl,rfl,rfl,rfl,rfl,rfl,trivial⟩
        · simp +contextual only [↓u22_s4,↓u22_L2,↓u22_s1,↓u22_s0,hod,ids_len,h_miss,h_skip,n13,id_dec,idz_dec,q1,hxd,n36,n16,eq_false hmem,eq_false hk16,wrap_succ (show i ≤ big by omega),↓XP,XW0,XW1,reduceSub,reduceAdd,reduceMul,reduceEqDiff,reduceLeDiff,Nat.reduceBEq,reduceCtorEq,TYX]
          simp only [← hod]
          exact fun _ => nx ⟨hok,fun h => (hk16 h).elim⟩ hmem _ _ (bk _) ⟨rfl,rfl,rfl,rfl,rfl,rfl,trivial⟩
    · simp +contextual only [↓u22_s4,↓u22_L2,↓u22_s1,↓u22_s0,hod,ids_len,h_miss,h_skip,n13,id_dec,idz_dec,q1,hxd,hlt',n36,n16,eq_false hok,↓XP,XW0,XW1,reduceSub,reduceAdd,reduceMul,reduceEqDiff,reduceLeDiff,Nat.reduceBEq,reduceCtorEq,TYX]
      refine hR _ _ ?_
      simp +contextual only [↓u22_s4,↓u22_L2,↓u22_s1,↓u22_s0,hod,ids_len,h_miss,h_skip,n13,id_dec,idz_dec,↓XP,XW0,XW1,reduceSub,reduceAdd,reduceMul,reduceEqDiff,reduceLeDiff,Nat.reduceBEq,reduceCtorEq,TYX]
      exact kF (fun h5 => hok (h5.1 x hm).1)
  · have hik : i = o.ids.length := by omega
    subst hik
    clear hN
    rw [List.take_length] at hn hv
    simp +contextual only [↓u22_s4,↓u22_L2,↓u22_s1,↓u22_s0,hod,ids_len,h_miss,h_skip,n13,id_dec,idz_dec,↓XP,XW0,XW1,reduceSub,reduceAdd,reduceMul,reduceEqDiff,reduceLeDiff,Nat.reduceBEq,reduceCtorEq,TYX]
    refine hE _ _ _ ?_
    simp +contextual only [↓u22_s4,↓u22_L2,↓u22_s1,↓u22_s0,hod,ids_len,h_miss,h_skip,n13,id_dec,idz_dec,↓XP,XW0,XW1,reduceSub,reduceAdd,reduceMul,reduceEqDiff,reduceLeDiff,Nat.reduceBEq,reduceCtorEq,TYX]
    simp only [← hod]
    exact go ⟨hv,hn⟩ _ ⟨rfl,rfl,rfl,trivial⟩
theorem vi_3 {o : OpP} {b1 b3 : Nat} {on to name text span : Bool} {low high a b : Int} {F : List D} {H : AH} {R : D → AH → Prop} (n13 : b1 ≠ b3) (hF : Fr 165 [(1,.ptr b1 0),(3,.ptr b3 0)] F) (h : R (.bool (decide (VO5 o))) H) : xcode Tryz.prog x22_s3 F ((b3,AO.cells [.bool on,.bool to,.bool name,.bool text,.bool span,.int .i64 low,.int .i64 high,.int .i64 a,.int .i64 b]) :: (b1,AO.cells o.d) :: H) (retQ Tryz.prog [.tmp 2] H.length R) := by
  have hod : o.d = [.int .i64 o.k,.int .i64 o.on.o,.int .i64 o.on.s,.int .i64 o.on.i,.int .i64 o.to.o,.int .i64 o.to.s,.int .i64 o.to.i,.slc (idsD o.ids),.int .i64 o.n,.str o.name,.str o.text,.int .i64 o.a,.int .i64 o.b] := rfl
  have hk : ∀ c,decide (VO5 o) = c → R (.bool c) H := fun b hb => hb ▸ h
  obtain ⟨z,rfl⟩ : ∃ z : Nat → D,_ = z 0 :: .ptr b1 0 :: z 2 :: .ptr b3 0 :: zz z 4 161 [] := hF.lit
  try dsimp only [zz,reduceAdd] at *
  clear hF
  by_cases h17 : o.k = 17
  · by_cases he : o.on = o.to
    · simp +contextual only [↓u22_s3,hod,h_miss,h_skip,n13,id_dec,eq_true h17,eq_true he,↓XP,XW0,XW1,reduceSub,reduceAdd,reduceMul,reduceEqDiff,reduceLeDiff,Nat.reduceBEq,reduceCtorEq,TYX]
      exact fun _ => hk _ (decide_eq_false fun hh => hh h17 he)
    · simp +contextual only [↓u22_s3,hod,h_miss,h_skip,n13,id_dec,eq_true h17,eq_false he,↓XP,XW0,XW1,reduceSub,reduceAdd,reduceMul,reduceEqDiff,reduceLeDiff,Nat.reduceBEq,reduceCtorEq,TYX]
      exact fun _ => hk _ (decide_eq_true fun _ => he)
  · simp +contextual only [↓u22_s3,hod,h_miss,h_skip,n13,id_dec,eq_false h17,↓XP,XW0,XW1,reduceSub,reduceAdd,reduceMul,reduceEqDiff,reduceLeDiff,Nat.reduceBEq,reduceCtorEq,TYX]
    exact fun _ => hk _ (decide_eq_true fun hh => (h17 hh).elim)
open Classical in
theorem f_valid0 {o : OpP} {H : AH} {R : D → AH → Prop} (h : R (.bool (decide (VI o))) H) : ACall Tryz.prog 22 [.agg o.d] H R := by
  refine b22 fun hf => ?_
  have hbig := big_eq
  have hod : o.d = [.int .i64 o.k,.int .i64 o.on.o,.int .i64 o.on.s,.int .i64 o.on.i,.int .i64 o.to.o,.int .i64 o.to.s,.int .i64 o.to.i,.slc (idsD o.ids),.int .i64 o.n,.str o.name,.str o.text,.int .i64 o.a,.int .i64 o.b] := rfl
  have kF : ¬ VI o → R (.bool false) H := fun hv => by rwa [decide_eq_false hv] at h
  have kk : VI o → R (.bool true) H := fun hv => by rwa [decide_eq_true hv] at h
  clear h
  simp +contextual only [x22.eq_1,↓u22_s9,ids_len,hod,↓XP,XW0,XW1,reduceSub,reduceAdd,reduceMul,reduceEqDiff,reduceLeDiff,Nat.reduceBEq,reduceCtorEq,TYX]
  simp only [← hod]
  refine fun b1 h1 => f_shapeOf ?_
  unfold VI at kF kk
  generalize shp o.k o.ids.length = s at kF kk
  obtain ⟨on,to,name,text,span,low,high,a,b⟩ := s
  have hsd : Shp.d ⟨on,to,name,text,span,low,high,a,b⟩ = [.bool on,.bool to,.bool name,.bool text,.bool span,.int .i64 low,.int .i64 high,.int .i64 a,.int .i64 b] := rfl
  by_cases hkk : 1 ≤ o.k ∧ o.k ≤ 18
  · simp +contextual only [x22.eq_1,↓u22_s9,ids_len,hod,hsd,eq_true hkk,↓XP,XW0,XW1,reduceSub,reduceAdd,reduceMul,reduceEqDiff,reduceLeDiff,Nat.reduceBEq,reduceCtorEq,TYX]
    simp only [← hod]
    intro b3 h3
    refine vi_8 h3.1 ⟨rfl,rfl,rfl,rfl,trivial⟩ (fun c => kF fun hh => c hh.2.1) fun i1 F1 hF1 => vi_7 h3.1 hF1 (fun c => kF fun hh => c hh.2.2.1) fun i2 F2 hF2 => vi_6 h3.1 hF2 (fun c => kF fun hh => c hh.2.2.2.1) fun i3 F3 hF3 => vi_5 h3.1 hF3 (fun c => kF fun hh => c hh.2.2.2.2.1) fun i4 F4 hF4 => vi_4 h3.1 hF4 (fun c => kF fun hh => c hh.2.2.2.2.2.1) fun i5 F5 hF5 => vi_3 h3.1 hF5 ?_
    by_cases h6 : VO5 o
    · rw [decide_eq_true h6]
      exact kk ⟨hkk,i1,i2,i3,i4,i5,h6⟩
    · rw [decide_eq_false h6]
      exact kF fun hh => h6 hh.2.2.2.2.2.2
  · simp +contextual only [x22.eq_1,↓u22_s9,ids_len,hod,↓u22_s8,hsd,eq_false hkk,↓XP,XW0,XW1,reduceSub,reduceAdd,reduceMul,reduceEqDiff,reduceLeDiff,Nat.reduceBEq,reduceCtorEq,TYX]
    exact fun _ _ => kF fun hh => hkk hh.1
end Go.Proofs.YtoeckfegggongaaGreatDoor
end
section
namespace Go.Proofs.YtoeckfegggongaaGreatDoor
open Go Go.Aw
theorem ok_nz {x : Id3} (h : OkId x) : x ≠ id0 := fun e => by
  subst e
  have := h.2.2.1
  simp [id0] at this
theorem sp_nz {a b : Int} (h : OkSpan a b) : ¬ (a = 0 ∧ b = 0) := fun e => by
  have := h.1
  omega
theorem vi_vop {o : OpP} : VI o ↔ VOp o := by
  rcases (show o.k = 1 ∨ o.k = 2 ∨ o.k = 3 ∨ o.k = 4 ∨ o.k = 5 ∨ o.k = 6 ∨ o.k = 7 ∨ o.k = 8 ∨ o.k = 9 ∨ o.k = 10 ∨ o.k = 11 ∨ o.k = 12 ∨ o.k = 13 ∨ o.k = 14 ∨ o.k = 15 ∨ o.k = 16 ∨ o.k = 17 ∨ o.k = 18 ∨ ¬ (1 ≤ o.k ∧ o.k ≤ 18) by omega) with h | h | h | h | h | h | h | h | h | h | h | h | h | h | h | h | h | h | h
  all_goals
    obtain ⟨k,on,to,ids,n,name,text,a,b⟩ := o
    dsimp only at h
    first | subst h | skip
  all_goals
    have q1 := @ok_nz on
    have q2 := @ok_nz to
    have q3 := @sp_nz a b
  all_goals first
    | (have e1 : ¬ VI ⟨k,on,to,ids,n,name,text,a,b⟩ := fun hh => h hh.1
       have e2 : ¬ VOp ⟨k,on,to,ids,n,name,text,a,b⟩ := fun hh => hh.1.1 (by
         show uses k = []
         unfold uses
         repeat rw [if_neg (by omega)])
       exact ⟨fun hh => (e1 hh).elim,fun hh => (e2 hh).elim⟩)
    | skip
  all_goals simp [VI,VOp,I1,I2,I3,I4,I5,VO1,VO2,VO3,VO4,VO5,shp,shpZ,uses,OkNum,numLow,numHigh,OkIds]
  all_goals refine ⟨fun hh => ?_,fun hh => ?_⟩
  all_goals simp_all
  all_goals omega
open Classical in
theorem f_valid {o : OpP} {H : AH} {R : D → AH → Prop} (h : R (.bool (decide (VOp o))) H) : ACall Tryz.prog 22 [.agg o.d] H R := by
  refine f_valid0 ?_
  have : decide (VI o) = decide (VOp o) := decide_eq_decide.2 vi_vop
  rw [this]
  exact h
end Go.Proofs.YtoeckfegggongaaGreatDoor
end
