/- A part of the proof of what the last text says: Gk4, Gk5. Conditions: those in each theorem. -/
import Derived.Test.YtoeckfegggongaaDoorP20
set_option linter.unusedVariables false
set_option linter.unusedSimpArgs false
set_option maxRecDepth 100000
set_option maxHeartbeats 16000000
section
namespace Go.Proofs.YtoeckfegggongaaDoor
open Go Go.Aw
theorem ids_take {l : List Id3} {i : Nat} : (idsD l).take i = idsD (l.take i) := by simp [idsD,List.map_take]
theorem vi_4 {o : OpP} {b1 b3 : Nat} {on to name text span : Bool} {low high a b : Int} {F : List D} {H : AH} {R : D → AH → Prop} (n13 : b1 ≠ b3) (hF : Fr 165 [(1,.ptr b1 0),(3,.ptr b3 0)] F) (kF : ¬ I5 o → R (.bool false) H) (go : I5 o → ∀ F',Fr 165 [(1,.ptr b1 0),(3,.ptr b3 0)] F' → xcode Tryd.prog x35_s3 F' ((b3,AO.cells [.bool on,.bool to,.bool name,.bool text,.bool span,.int .i64 low,.int .i64 high,.int .i64 a,.int .i64 b]) :: (b1,AO.cells o.d) :: H) (retQ Tryd.prog [.tmp 2] H.length R)) : xcode Tryd.prog x35_s4 F ((b3,AO.cells [.bool on,.bool to,.bool name,.bool text,.bool span,.int .i64 low,.int .i64 high,.int .i64 a,.int .i64 b]) :: (b1,AO.cells o.d) :: H) (retQ Tryd.prog [.tmp 2] H.length R) := by
  have hbig := big_eq
  have hod : o.d = [.int .i64 o.k,.int .i64 o.on.o,.int .i64 o.on.s,.int .i64 o.on.i,.int .i64 o.to.o,.int .i64 o.to.s,.int .i64 o.to.i,.slc (idsD o.ids),.int .i64 o.n,.str o.name,.str o.text,.int .i64 o.a,.int .i64 o.b] := rfl
  obtain ⟨z,rfl⟩ : ∃ z : Nat → D,_ = [z 0,.ptr b1 0,z 2,.ptr b3 0,z 4,z 5,z 6,z 7,z 8,z 9,z 10,z 11,z 12,z 13,z 14,z 15,z 16,z 17,z 18,z 19,z 20,z 21,z 22,z 23,z 24,z 25,z 26,z 27,z 28,z 29,z 30,z 31,z 32,z 33,z 34,z 35,z 36,z 37,z 38,z 39,z 40,z 41,z 42,z 43,z 44,z 45,z 46,z 47,z 48,z 49,z 50,z 51,z 52,z 53,z 54,z 55,z 56,z 57,z 58,z 59,z 60,z 61,z 62,z 63,z 64,z 65,z 66,z 67,z 68,z 69,z 70,z 71,z 72,z 73,z 74,z 75,z 76,z 77,z 78,z 79,z 80,z 81,z 82,z 83,z 84,z 85,z 86,z 87,z 88,z 89,z 90,z 91,z 92,z 93,z 94,z 95,z 96,z 97,z 98,z 99,z 100,z 101,z 102,z 103,z 104,z 105,z 106,z 107,z 108,z 109,z 110,z 111,z 112,z 113,z 114,z 115,z 116,z 117,z 118,z 119,z 120,z 121,z 122,z 123,z 124,z 125,z 126,z 127,z 128,z 129,z 130,z 131,z 132,z 133,z 134,z 135,z 136,z 137,z 138,z 139,z 140,z 141,z 142,z 143,z 144,z 145,z 146,z 147,z 148,z 149,z 150,z 151,z 152,z 153,z 154,z 155,z 156,z 157,z 158,z 159,z 160,z 161,z 162,z 163,z 164] := hF.lit
  clear hF
  simp +contextual only [↓u35_s4,↓u35_L2,↓u35_s1,↓u35_s0,hod,ids_len,h_miss,h_skip,n13,id_dec,idz_dec,↓XP,XQ,XM,cellsOf,okc,one1,resOne,resAll,eqCells,cellEq,fits,sameK,ne_eq,ite_true,ite_false,Nat.reduceSub,Nat.reduceAdd,Nat.reduceMul,Nat.reduceEqDiff,Nat.reduceLeDiff,Nat.reduceBEq,reduceCtorEq,TYX]
  simp only [← hod]
  intro hlen
  refine XW.loopK Go.Proofs.YtoeckfegggongaaDoor.hm (fun F H' => ∃ (i : Nat),i ≤ o.ids.length ∧ (∀ x ∈ o.ids.take i,OkId x ∧ (o.k = 16 → x ≠ o.on)) ∧ (o.ids.take i).Nodup ∧ Fr 165 [(1,.ptr b1 0),(3,.ptr b3 0),(125,.slc (idsD o.ids)),(126,.int .i64 o.ids.length),(127,.int .i64 i)] F ∧ ((b3,AO.cells [.bool on,.bool to,.bool name,.bool text,.bool span,.int .i64 low,.int .i64 high,.int .i64 a,.int .i64 b]) :: (b1,AO.cells o.d) :: H) = H') (fun F H => match F.getD 127 .any with | .int _ n' => o.ids.length - n'.toNat | _ => 0) ⟨0,by omega,by simp,by simp,⟨rfl,rfl,rfl,rfl,rfl,rfl,trivial⟩,rfl⟩ ?_
  rintro _ _ ⟨i,hi,hv,hn,hF,rfl⟩ K hN hE hR
  obtain ⟨z,rfl⟩ : ∃ z : Nat → D,_ = [z 0,.ptr b1 0,z 2,.ptr b3 0,z 4,z 5,z 6,z 7,z 8,z 9,z 10,z 11,z 12,z 13,z 14,z 15,z 16,z 17,z 18,z 19,z 20,z 21,z 22,z 23,z 24,z 25,z 26,z 27,z 28,z 29,z 30,z 31,z 32,z 33,z 34,z 35,z 36,z 37,z 38,z 39,z 40,z 41,z 42,z 43,z 44,z 45,z 46,z 47,z 48,z 49,z 50,z 51,z 52,z 53,z 54,z 55,z 56,z 57,z 58,z 59,z 60,z 61,z 62,z 63,z 64,z 65,z 66,z 67,z 68,z 69,z 70,z 71,z 72,z 73,z 74,z 75,z 76,z 77,z 78,z 79,z 80,z 81,z 82,z 83,z 84,z 85,z 86,z 87,z 88,z 89,z 90,z 91,z 92,z 93,z 94,z 95,z 96,z 97,z 98,z 99,z 100,z 101,z 102,z 103,z 104,z 105,z 106,z 107,z 108,z 109,z 110,z 111,z 112,z 113,z 114,z 115,z 116,z 117,z 118,z 119,z 120,z 121,z 122,z 123,z 124,.slc (idsD o.ids),.int .i64 o.ids.length,.int .i64 i,z 128,z 129,z 130,z 131,z 132,z 133,z 134,z 135,z 136,z 137,z 138,z 139,z 140,z 141,z 142,z 143,z 144,z 145,z 146,z 147,z 148,z 149,z 150,z 151,z 152,z 153,z 154,z 155,z 156,z 157,z 158,z 159,z 160,z 161,z 162,z 163,z 164] := hF.lit
  clear hF
  by_cases hlt : i < o.ids.length
  · have nx : (OkId (o.ids.getD i default) ∧ (o.k = 16 → o.ids.getD i default ≠ o.on)) → o.ids.getD i default ∉ o.ids.take i → ∀ F' H',back (((b3,AO.cells [.bool on,.bool to,.bool name,.bool text,.bool span,.int .i64 low,.int .i64 high,.int .i64 a,.int .i64 b]) :: (b1,AO.cells o.d) :: H) : AH).length H' = ((b3,AO.cells [.bool on,.bool to,.bool name,.bool text,.bool span,.int .i64 low,.int .i64 high,.int .i64 a,.int .i64 b]) :: (b1,AO.cells o.d) :: H) → Fr 165 [(1,.ptr b1 0),(3,.ptr b3 0),(125,.slc (idsD o.ids)),(126,.int .i64 o.ids.length),(127,.int .i64 ((i + 1 : Nat) : Int))] F' → K .normal F' H' := fun h1 h2 F' H' hH hF' => hN _ _ ⟨i + 1,hlt,fun x hx => by
        rw [List.take_add_one] at hx
        rcases List.mem_append.1 hx with hx | hx
        · exact hv x hx
        · simp [hlt] at hx
          have : x = o.ids.getD i default := by simp [hlt,hx]
          rw [this]; exact h1,(nodup_take hlt).2 ⟨hn,h2⟩,hF',hH.symm⟩ (by
      rw [List.getD_eq_getElem?_getD,hF'.2.2.2.2.2.1]
      simp only [List.getD_cons_succ,List.getD_cons_zero,Option.getD_some]
      omega)
    clear hN hE
    have q1 := ids_get hlt
    have hm : o.ids.getD i default ∈ o.ids := by rw [getD_lt hlt]; exact List.getElem_mem hlt
    generalize hxe : o.ids.getD i default = x at q1 nx hm
    have hxd : x.d = [.int .i64 x.o,.int .i64 x.s,.int .i64 x.i] := rfl
    have hlt' : ((i : Int) < (o.ids.length : Int)) = True := eq_true (by omega)
    simp +contextual only [↓u35_s4,↓u35_L2,↓u35_s1,↓u35_s0,hod,ids_len,h_miss,h_skip,n13,id_dec,idz_dec,q1,hxd,hlt',↓XP,XQ,XM,cellsOf,okc,one1,resOne,resAll,eqCells,cellEq,fits,sameK,ne_eq,ite_true,ite_false,Nat.reduceSub,Nat.reduceAdd,Nat.reduceMul,Nat.reduceEqDiff,Nat.reduceLeDiff,Nat.reduceBEq,reduceCtorEq,TYX]
    intro b6 h6
    obtain ⟨n36,n16,h6⟩ := h6
    have hgx : x ∈ o.ids.take i → ¬ I5 o := fun hxm h5 => ((nodup_take hlt).1 (h5.2.sublist (List.take_sublist (i + 1) o.ids))).2 (hxe ▸ hxm)
    refine ⟨_,f_names (x := x) ⟨rfl,rfl⟩,?_⟩
    by_cases hok : OkId x
    · simp +contextual only [↓u35_s4,↓u35_L2,↓u35_s1,↓u35_s0,hod,ids_len,h_miss,h_skip,n13,id_dec,idz_dec,q1,hxd,hlt',ids_take,n36,n16,eq_true hok,show (0 ≤ (i : Int)) = True from eq_true (by omega),show ((i : Int) ≤ (o.ids.length : Int)) = True from eq_true (by omega),↓XP,XQ,XM,cellsOf,okc,one1,resOne,resAll,eqCells,cellEq,fits,sameK,ne_eq,ite_true,ite_false,Nat.reduceSub,Nat.reduceAdd,Nat.reduceMul,Nat.reduceEqDiff,Nat.reduceLeDiff,Nat.reduceBEq,reduceCtorEq,TYX]
      refine fun _ => ⟨fun y hy => by obtain ⟨y',_,rfl⟩ := List.mem_map.1 hy; rfl,⟨_,f_contains (l := o.ids.take i) (x := x) ⟨rfl,rfl⟩,?_⟩⟩
      by_cases hmem : x ∈ o.ids.take i
      · simp +contextual only [↓u35_s4,↓u35_L2,↓u35_s1,↓u35_s0,hod,ids_len,h_miss,h_skip,n13,id_dec,idz_dec,q1,hxd,n36,n16,eq_true hmem,↓XP,XQ,XM,cellsOf,okc,one1,resOne,resAll,eqCells,cellEq,fits,sameK,ne_eq,ite_true,ite_false,Nat.reduceSub,Nat.reduceAdd,Nat.reduceMul,Nat.reduceEqDiff,Nat.reduceLeDiff,Nat.reduceBEq,reduceCtorEq,TYX]
        refine hR _ _ ?_
        simp +contextual only [↓u35_s4,↓u35_L2,↓u35_s1,↓u35_s0,hod,ids_len,h_miss,h_skip,n13,id_dec,idz_dec,↓XP,XQ,XM,cellsOf,okc,one1,resOne,resAll,eqCells,cellEq,fits,sameK,ne_eq,ite_true,ite_false,Nat.reduceSub,Nat.reduceAdd,Nat.reduceMul,Nat.reduceEqDiff,Nat.reduceLeDiff,Nat.reduceBEq,reduceCtorEq,TYX]
        exact kF (hgx hmem)
      · have bk : ∀ y : AO,back (((b3,AO.cells [.bool on,.bool to,.bool name,.bool text,.bool span,.int .i64 low,.int .i64 high,.int .i64 a,.int .i64 b]) :: (b1,AO.cells o.d) :: H) : AH).length ((b6,y) :: ((b3,AO.cells [.bool on,.bool to,.bool name,.bool text,.bool span,.int .i64 low,.int .i64 high,.int .i64 a,.int .i64 b]) :: (b1,AO.cells o.d) :: H)) = ((b3,AO.cells [.bool on,.bool to,.bool name,.bool text,.bool span,.int .i64 low,.int .i64 high,.int .i64 a,.int .i64 b]) :: (b1,AO.cells o.d) :: H) := fun y => back_1 rfl
        by_cases hk16 : o.k = 16
        · by_cases hxo : x = o.on
          · simp +contextual only [↓u35_s4,↓u35_L2,↓u35_s1,↓u35_s0,hod,ids_len,h_miss,h_skip,n13,id_dec,idz_dec,q1,hxd,n36,n16,eq_false hmem,eq_true hk16,eq_true hxo,↓XP,XQ,XM,cellsOf,okc,one1,resOne,resAll,eqCells,cellEq,fits,sameK,ne_eq,ite_true,ite_false,Nat.reduceSub,Nat.reduceAdd,Nat.reduceMul,Nat.reduceEqDiff,Nat.reduceLeDiff,Nat.reduceBEq,reduceCtorEq,TYX]
            refine fun _ => hR _ _ ?_
            simp +contextual only [↓u35_s4,↓u35_L2,↓u35_s1,↓u35_s0,hod,ids_len,h_miss,h_skip,n13,id_dec,idz_dec,↓XP,XQ,XM,cellsOf,okc,one1,resOne,resAll,eqCells,cellEq,fits,sameK,ne_eq,ite_true,ite_false,Nat.reduceSub,Nat.reduceAdd,Nat.reduceMul,Nat.reduceEqDiff,Nat.reduceLeDiff,Nat.reduceBEq,reduceCtorEq,TYX]
            exact kF (fun h5 => (h5.1 x hm).2 hk16 hxo)
          · simp +contextual only [↓u35_s4,↓u35_L2,↓u35_s1,↓u35_s0,hod,ids_len,h_miss,h_skip,n13,id_dec,idz_dec,q1,hxd,n36,n16,eq_false hmem,eq_true hk16,eq_false hxo,wrap_succ (show i ≤ big by omega),↓XP,XQ,XM,cellsOf,okc,one1,resOne,resAll,eqCells,cellEq,fits,sameK,ne_eq,ite_true,ite_false,Nat.reduceSub,Nat.reduceAdd,Nat.reduceMul,Nat.reduceEqDiff,Nat.reduceLeDiff,Nat.reduceBEq,reduceCtorEq,TYX]
            simp only [← hod]
            exact fun _ => nx ⟨hok,fun _ => hxo⟩ hmem _ _ (bk _) ⟨rfl,rfl,rfl,rfl,rfl,rfl,trivial⟩
        · simp +contextual only [↓u35_s4,↓u35_L2,↓u35_s1,↓u35_s0,hod,ids_len,h_miss,h_skip,n13,id_dec,idz_dec,q1,hxd,n36,n16,eq_false hmem,eq_false hk16,wrap_succ (show i ≤ big by omega),↓XP,XQ,XM,cellsOf,okc,one1,resOne,resAll,eqCells,cellEq,fits,sameK,ne_eq,ite_true,ite_false,Nat.reduceSub,Nat.reduceAdd,Nat.reduceMul,Nat.reduceEqDiff,Nat.reduceLeDiff,Nat.reduceBEq,reduceCtorEq,TYX]
          simp only [← hod]
          exact fun _ => nx ⟨hok,fun h => (hk16 h).elim⟩ hmem _ _ (bk _) ⟨rfl,rfl,rfl,rfl,rfl,rfl,trivial⟩
    · simp +contextual only [↓u35_s4,↓u35_L2,↓u35_s1,↓u35_s0,hod,ids_len,h_miss,h_skip,n13,id_dec,idz_dec,q1,hxd,hlt',n36,n16,eq_false hok,↓XP,XQ,XM,cellsOf,okc,one1,resOne,resAll,eqCells,cellEq,fits,sameK,ne_eq,ite_true,ite_false,Nat.reduceSub,Nat.reduceAdd,Nat.reduceMul,Nat.reduceEqDiff,Nat.reduceLeDiff,Nat.reduceBEq,reduceCtorEq,TYX]
      refine hR _ _ ?_
      simp +contextual only [↓u35_s4,↓u35_L2,↓u35_s1,↓u35_s0,hod,ids_len,h_miss,h_skip,n13,id_dec,idz_dec,↓XP,XQ,XM,cellsOf,okc,one1,resOne,resAll,eqCells,cellEq,fits,sameK,ne_eq,ite_true,ite_false,Nat.reduceSub,Nat.reduceAdd,Nat.reduceMul,Nat.reduceEqDiff,Nat.reduceLeDiff,Nat.reduceBEq,reduceCtorEq,TYX]
      exact kF (fun h5 => hok (h5.1 x hm).1)
  · have hik : i = o.ids.length := by omega
    subst hik
    clear hN
    rw [List.take_length] at hn hv
    simp +contextual only [↓u35_s4,↓u35_L2,↓u35_s1,↓u35_s0,hod,ids_len,h_miss,h_skip,n13,id_dec,idz_dec,↓XP,XQ,XM,cellsOf,okc,one1,resOne,resAll,eqCells,cellEq,fits,sameK,ne_eq,ite_true,ite_false,Nat.reduceSub,Nat.reduceAdd,Nat.reduceMul,Nat.reduceEqDiff,Nat.reduceLeDiff,Nat.reduceBEq,reduceCtorEq,TYX]
    refine hE _ _ _ ?_
    simp +contextual only [↓u35_s4,↓u35_L2,↓u35_s1,↓u35_s0,hod,ids_len,h_miss,h_skip,n13,id_dec,idz_dec,↓XP,XQ,XM,cellsOf,okc,one1,resOne,resAll,eqCells,cellEq,fits,sameK,ne_eq,ite_true,ite_false,Nat.reduceSub,Nat.reduceAdd,Nat.reduceMul,Nat.reduceEqDiff,Nat.reduceLeDiff,Nat.reduceBEq,reduceCtorEq,TYX]
    simp only [← hod]
    exact go ⟨hv,hn⟩ _ ⟨rfl,rfl,rfl,trivial⟩
theorem vi_3 {o : OpP} {b1 b3 : Nat} {on to name text span : Bool} {low high a b : Int} {F : List D} {H : AH} {R : D → AH → Prop} (n13 : b1 ≠ b3) (hF : Fr 165 [(1,.ptr b1 0),(3,.ptr b3 0)] F) (h : R (.bool (decide (VO5 o))) H) : xcode Tryd.prog x35_s3 F ((b3,AO.cells [.bool on,.bool to,.bool name,.bool text,.bool span,.int .i64 low,.int .i64 high,.int .i64 a,.int .i64 b]) :: (b1,AO.cells o.d) :: H) (retQ Tryd.prog [.tmp 2] H.length R) := by
  have hod : o.d = [.int .i64 o.k,.int .i64 o.on.o,.int .i64 o.on.s,.int .i64 o.on.i,.int .i64 o.to.o,.int .i64 o.to.s,.int .i64 o.to.i,.slc (idsD o.ids),.int .i64 o.n,.str o.name,.str o.text,.int .i64 o.a,.int .i64 o.b] := rfl
  have hk : ∀ c,decide (VO5 o) = c → R (.bool c) H := fun b hb => hb ▸ h
  obtain ⟨z,rfl⟩ : ∃ z : Nat → D,_ = [z 0,.ptr b1 0,z 2,.ptr b3 0,z 4,z 5,z 6,z 7,z 8,z 9,z 10,z 11,z 12,z 13,z 14,z 15,z 16,z 17,z 18,z 19,z 20,z 21,z 22,z 23,z 24,z 25,z 26,z 27,z 28,z 29,z 30,z 31,z 32,z 33,z 34,z 35,z 36,z 37,z 38,z 39,z 40,z 41,z 42,z 43,z 44,z 45,z 46,z 47,z 48,z 49,z 50,z 51,z 52,z 53,z 54,z 55,z 56,z 57,z 58,z 59,z 60,z 61,z 62,z 63,z 64,z 65,z 66,z 67,z 68,z 69,z 70,z 71,z 72,z 73,z 74,z 75,z 76,z 77,z 78,z 79,z 80,z 81,z 82,z 83,z 84,z 85,z 86,z 87,z 88,z 89,z 90,z 91,z 92,z 93,z 94,z 95,z 96,z 97,z 98,z 99,z 100,z 101,z 102,z 103,z 104,z 105,z 106,z 107,z 108,z 109,z 110,z 111,z 112,z 113,z 114,z 115,z 116,z 117,z 118,z 119,z 120,z 121,z 122,z 123,z 124,z 125,z 126,z 127,z 128,z 129,z 130,z 131,z 132,z 133,z 134,z 135,z 136,z 137,z 138,z 139,z 140,z 141,z 142,z 143,z 144,z 145,z 146,z 147,z 148,z 149,z 150,z 151,z 152,z 153,z 154,z 155,z 156,z 157,z 158,z 159,z 160,z 161,z 162,z 163,z 164] := hF.lit
  clear hF
  by_cases h17 : o.k = 17
  · by_cases he : o.on = o.to
    · simp +contextual only [↓u35_s3,hod,h_miss,h_skip,n13,id_dec,eq_true h17,eq_true he,↓XP,XQ,XM,cellsOf,okc,one1,resOne,resAll,eqCells,cellEq,fits,sameK,ne_eq,ite_true,ite_false,Nat.reduceSub,Nat.reduceAdd,Nat.reduceMul,Nat.reduceEqDiff,Nat.reduceLeDiff,Nat.reduceBEq,reduceCtorEq,TYX]
      exact fun _ => hk _ (decide_eq_false fun hh => hh h17 he)
    · simp +contextual only [↓u35_s3,hod,h_miss,h_skip,n13,id_dec,eq_true h17,eq_false he,↓XP,XQ,XM,cellsOf,okc,one1,resOne,resAll,eqCells,cellEq,fits,sameK,ne_eq,ite_true,ite_false,Nat.reduceSub,Nat.reduceAdd,Nat.reduceMul,Nat.reduceEqDiff,Nat.reduceLeDiff,Nat.reduceBEq,reduceCtorEq,TYX]
      exact fun _ => hk _ (decide_eq_true fun _ => he)
  · simp +contextual only [↓u35_s3,hod,h_miss,h_skip,n13,id_dec,eq_false h17,↓XP,XQ,XM,cellsOf,okc,one1,resOne,resAll,eqCells,cellEq,fits,sameK,ne_eq,ite_true,ite_false,Nat.reduceSub,Nat.reduceAdd,Nat.reduceMul,Nat.reduceEqDiff,Nat.reduceLeDiff,Nat.reduceBEq,reduceCtorEq,TYX]
    exact fun _ => hk _ (decide_eq_true fun hh => (h17 hh).elim)
open Classical in
theorem f_valid0 {o : OpP} {H : AH} {R : D → AH → Prop} (h : R (.bool (decide (VI o))) H) : ACall Tryd.prog 35 [.agg o.d] H R := by
  refine b35 fun hf => ?_
  have hbig := big_eq
  have hod : o.d = [.int .i64 o.k,.int .i64 o.on.o,.int .i64 o.on.s,.int .i64 o.on.i,.int .i64 o.to.o,.int .i64 o.to.s,.int .i64 o.to.i,.slc (idsD o.ids),.int .i64 o.n,.str o.name,.str o.text,.int .i64 o.a,.int .i64 o.b] := rfl
  have kF : ¬ VI o → R (.bool false) H := fun hv => by rwa [decide_eq_false hv] at h
  have kk : VI o → R (.bool true) H := fun hv => by rwa [decide_eq_true hv] at h
  clear h
  simp +contextual only [x35.eq_1,↓u35_s9,ids_len,hod,↓XP,XQ,XM,cellsOf,okc,one1,resOne,resAll,eqCells,cellEq,fits,sameK,ne_eq,ite_true,ite_false,Nat.reduceSub,Nat.reduceAdd,Nat.reduceMul,Nat.reduceEqDiff,Nat.reduceLeDiff,Nat.reduceBEq,reduceCtorEq,TYX]
  simp only [← hod]
  refine fun b1 h1 => f_shapeOf ?_
  unfold VI at kF kk
  generalize shp o.k o.ids.length = s at kF kk
  obtain ⟨on,to,name,text,span,low,high,a,b⟩ := s
  have hsd : Shp.d ⟨on,to,name,text,span,low,high,a,b⟩ = [.bool on,.bool to,.bool name,.bool text,.bool span,.int .i64 low,.int .i64 high,.int .i64 a,.int .i64 b] := rfl
  by_cases hkk : 1 ≤ o.k ∧ o.k ≤ 18
  · simp +contextual only [x35.eq_1,↓u35_s9,ids_len,hod,hsd,eq_true hkk,↓XP,XQ,XM,cellsOf,okc,one1,resOne,resAll,eqCells,cellEq,fits,sameK,ne_eq,ite_true,ite_false,Nat.reduceSub,Nat.reduceAdd,Nat.reduceMul,Nat.reduceEqDiff,Nat.reduceLeDiff,Nat.reduceBEq,reduceCtorEq,TYX]
    simp only [← hod]
    intro b3 h3
    refine vi_8 h3.1 ⟨rfl,rfl,rfl,rfl,trivial⟩ (fun c => kF fun hh => c hh.2.1) fun i1 F1 hF1 => vi_7 h3.1 hF1 (fun c => kF fun hh => c hh.2.2.1) fun i2 F2 hF2 => vi_6 h3.1 hF2 (fun c => kF fun hh => c hh.2.2.2.1) fun i3 F3 hF3 => vi_5 h3.1 hF3 (fun c => kF fun hh => c hh.2.2.2.2.1) fun i4 F4 hF4 => vi_4 h3.1 hF4 (fun c => kF fun hh => c hh.2.2.2.2.2.1) fun i5 F5 hF5 => vi_3 h3.1 hF5 ?_
    by_cases h6 : VO5 o
    · rw [decide_eq_true h6]
      exact kk ⟨hkk,i1,i2,i3,i4,i5,h6⟩
    · rw [decide_eq_false h6]
      exact kF fun hh => h6 hh.2.2.2.2.2.2
  · simp +contextual only [x35.eq_1,↓u35_s9,ids_len,hod,↓u35_s8,hsd,eq_false hkk,↓XP,XQ,XM,cellsOf,okc,one1,resOne,resAll,eqCells,cellEq,fits,sameK,ne_eq,ite_true,ite_false,Nat.reduceSub,Nat.reduceAdd,Nat.reduceMul,Nat.reduceEqDiff,Nat.reduceLeDiff,Nat.reduceBEq,reduceCtorEq,TYX]
    exact fun _ _ => kF fun hh => hkk hh.1
end Go.Proofs.YtoeckfegggongaaDoor
end
section
namespace Go.Proofs.YtoeckfegggongaaDoor
open Go Go.Aw
theorem ok_nz {x : Id3} (h : OkId x) : x ≠ id0 := fun e => by
  subst e
  have := h.2.2.1
  simp [id0] at this
theorem sp_nz {a b : Int} (h : OkSpan a b) : ¬ (a = 0 ∧ b = 0) := fun e => by
  have := h.1
  omega
theorem ids_nil {l : List Id3} : ((0 : Int) ≤ (l.length : Int) ∧ (l.length : Int) ≤ 0) ↔ l = [] := by
  rw [← List.length_eq_zero_iff]
  omega
theorem vi_vop {o : OpP} : VI o ↔ VOp o := by
  rcases (show o.k = 1 ∨ o.k = 2 ∨ o.k = 3 ∨ o.k = 4 ∨ o.k = 5 ∨ o.k = 6 ∨ o.k = 7 ∨ o.k = 8 ∨ o.k = 9 ∨ o.k = 10 ∨ o.k = 11 ∨ o.k = 12 ∨ o.k = 13 ∨ o.k = 14 ∨ o.k = 15 ∨ o.k = 16 ∨ o.k = 17 ∨ o.k = 18 ∨ ¬ (1 ≤ o.k ∧ o.k ≤ 18) by omega) with h | h | h | h | h | h | h | h | h | h | h | h | h | h | h | h | h | h | h
  all_goals
    obtain ⟨k,on,to,ids,n,name,text,a,b⟩ := o
    dsimp only at h
    first | subst h | skip
  all_goals
    have q1 := @ok_nz on
    have q2 := @ok_nz to
    have q3 := @sp_nz a b
  all_goals first
    | (have e1 : ¬ VI ⟨k,on,to,ids,n,name,text,a,b⟩ := fun hh => h hh.1
       have e2 : ¬ VOp ⟨k,on,to,ids,n,name,text,a,b⟩ := fun hh => hh.1.1 (by
         show uses k = []
         unfold uses
         repeat rw [if_neg (by omega)])
       exact ⟨fun hh => (e1 hh).elim,fun hh => (e2 hh).elim⟩)
    | skip
  all_goals simp [VI,VOp,I1,I2,I3,I4,I5,VO1,VO2,VO3,VO4,VO5,shp,shpZ,uses,OkNum,numLow,numHigh,OkIds]
  all_goals refine ⟨fun hh => ?_,fun hh => ?_⟩
  all_goals simp_all
  all_goals omega
open Classical in
theorem f_valid {o : OpP} {H : AH} {R : D → AH → Prop} (h : R (.bool (decide (VOp o))) H) : ACall Tryd.prog 35 [.agg o.d] H R := by
  refine f_valid0 ?_
  have : decide (VI o) = decide (VOp o) := decide_eq_decide.2 vi_vop
  rw [this]
  exact h
end Go.Proofs.YtoeckfegggongaaDoor
end
