/- Contract of the reference's Terms. Conditions: those in it. -/
import Derived.Test.YtbfcfmcebdfndaaRh4
namespace Go.Proofs.Ytbfcfmcebdfndaa
open Go Go.Aw
set_option linter.unusedVariables false
set_option linter.unusedSimpArgs false

def sorted5 : List (List UInt8) := [[97, 98, 98, 101, 121], [99, 114, 111, 119, 110], [103, 117, 105, 108, 100], [104, 101, 105, 114, 115], [112, 114, 101, 115, 115]]
def termAt (l : List Int) (i : Nat) : List Tm :=
  if 0 < (atOf l i 65536).tmod 4 then [⟨sorted5.getD i [], ((atOf l i 65536).tdiv 4).tmod 60, ((atOf l i 65536).tdiv 256).tmod 30⟩] else []
def termsTo (l : List Int) : Nat → List Tm
  | 0 => []
  | i + 1 => termsTo l i ++ termAt l i
def termsOf (l : List Int) : List Tm := termsTo l 5
theorem termsTo_len {l : List Int} : ∀ i, (termsTo l i).length ≤ i
  | 0 => by simp [termsTo]
  | i + 1 => by
    have := termsTo_len (l := l) i
    simp only [termsTo, termAt, List.length_append]
    split <;> simp <;> omega
/-- wordbookref25.Terms -/
theorem f_terms {l : List Int} {H : AH} {R : D → AH → Prop} (h : R (.own (tms (termsOf l))) H) : ACall Try.prog 8 [.slc (ints l)] H R := by
  refine b8 fun hf => ?_
  have hbig := big_eq
  simp +contextual only [x8, ↓u8_c0, ↓u8_s1, ↓u8_s2, ↓u8_s3, ↓u8_L4, ↓u8_s5, ↓u8_s6, ↓XA, XB, XL, XM, cellsOf, okc, one1, resOne, resAll, eqCells, cellEq, fits, sameK, List.length_cons, List.length_nil, List.replicate_succ, List.replicate_zero, List.cons_append, List.nil_append, List.append_nil, List.set_cons_succ, List.set_cons_zero, List.getD_cons_succ, List.getD_cons_zero, List.map_cons, List.map_nil, List.getElem?_cons_succ, List.getElem?_cons_zero, List.toList_toArray, Option.map_some, Option.map_none, Option.isSome_some, Option.isSome_none, Nat.reduceSub, Nat.reduceAdd, Nat.reduceMul, Nat.reduceEqDiff, Nat.reduceLeDiff, Nat.reduceBEq, reduceCtorEq, List.drop_succ_cons, List.drop_zero, List.take_succ_cons, List.take_zero, List.drop_nil, List.take_nil, ne_eq, Option.getD_some, List.length_map, List.all_cons, List.all_nil, List.range_zero, List.range_succ, ite_true, ite_false, TYX]
  refine XW.loopK hm (fun F H' => ∃ (i : Nat), i ≤ 5 ∧ Fr 33 [(0, .slc (ints l)), (3, .own (tms (termsTo l i))), (4, .own (strs sorted5)), (5, .int .i64 i)] F ∧ H = H') (fun F H => match F.getD 5 .any with | .int _ n => 5 - n.toNat | _ => 0) ⟨0, by omega, ⟨rfl, rfl, rfl, rfl, rfl, trivial⟩, rfl⟩ ?_
  rintro _ _ ⟨i, hi, hF, rfl⟩ K hN hE hR
  obtain ⟨z, rfl⟩ : ∃ z : Nat → D, _ = [.slc (ints l), z 1, z 2, .own (tms (termsTo l i)), .own (strs sorted5), .int .i64 i, z 6, z 7, z 8, z 9, z 10, z 11, z 12, z 13, z 14, z 15, z 16, z 17, z 18, z 19, z 20, z 21, z 22, z 23, z 24, z 25, z 26, z 27, z 28, z 29, z 30, z 31, z 32] := hF.lit
  clear hF
  by_cases hlt : i < 5
  · have nx : ∀ F', Fr 33 [(0, .slc (ints l)), (3, .own (tms (termsTo l (i + 1)))), (4, .own (strs sorted5)), (5, .int .i64 ((i + 1 : Nat) : Int))] F' → K .normal F' H := fun F' hF' => hN _ _ ⟨i + 1, hlt, hF', (back_0 rfl).symm⟩ (by
      rw [List.getD_eq_getElem?_getD, hF'.2.2.2.2.1]
      simp only [List.getD_cons_succ, List.getD_cons_zero, Option.getD_some]
      omega)
    have hl := termsTo_len (l := l) i
    clear hN hE hR
    have hs : i < sorted5.length := hlt
    have hu : termsTo l (i + 1) = termsTo l i ++ termAt l i := rfl
    simp +contextual only [wrap_succ (show i ≤ big by omega), ↓u8_c0, ↓u8_s1, ↓u8_s2, ↓u8_s3, ↓u8_L4, ↓u8_s5, ↓u8_s6, ↓XA, XB, XL, XM, cellsOf, okc, one1, resOne, resAll, eqCells, cellEq, fits, sameK, List.length_cons, List.length_nil, List.replicate_succ, List.replicate_zero, List.cons_append, List.nil_append, List.append_nil, List.set_cons_succ, List.set_cons_zero, List.getD_cons_succ, List.getD_cons_zero, List.map_cons, List.map_nil, List.getElem?_cons_succ, List.getElem?_cons_zero, List.toList_toArray, Option.map_some, Option.map_none, Option.isSome_some, Option.isSome_none, Nat.reduceSub, Nat.reduceAdd, Nat.reduceMul, Nat.reduceEqDiff, Nat.reduceLeDiff, Nat.reduceBEq, reduceCtorEq, List.drop_succ_cons, List.drop_zero, List.take_succ_cons, List.take_zero, List.drop_nil, List.take_nil, ne_eq, Option.getD_some, List.length_map, List.all_cons, List.all_nil, List.range_zero, List.range_succ, ite_true, ite_false, TYX]
    refine ⟨fun _ => f_at (by omega) ?_, fun hge => absurd (by omega) hge⟩
    have hx := atOf_range (l := l) (i := i) (most := 65536) (by omega)
    have hgd : sorted5.getD i [] = sorted5[i] := by simp [hs]
    have ta : termAt l i = if 0 < (atOf l i 65536).tmod 4 then [⟨sorted5[i], ((atOf l i 65536).tdiv 4).tmod 60, ((atOf l i 65536).tdiv 256).tmod 30⟩] else [] := by rw [← hgd]; rfl
    have ap : ∀ (a : List Tm) (t : Tm), tms a ++ [[.str t.o, .int .i64 t.u, .int .i64 t.c]] = tms (a ++ [t]) := fun a t => by simp [tms, Tm.d]
    have w4 : IntKind.i64.wrap ((atOf l i 65536).tdiv 4) = (atOf l i 65536).tdiv 4 := by
      rw [Int.tdiv_eq_ediv_of_nonneg hx.1]
      exact wrap_id (by omega) (by omega)
    have w256 : IntKind.i64.wrap ((atOf l i 65536).tdiv 256) = (atOf l i 65536).tdiv 256 := by
      rw [Int.tdiv_eq_ediv_of_nonneg hx.1]
      exact wrap_id (by omega) (by omega)
    simp +contextual only [strs_len, strs_get hs, w4, w256, wrap_succ (show i ≤ big by omega), ↓u8_c0, ↓u8_s1, ↓u8_s2, ↓u8_s3, ↓u8_L4, ↓u8_s5, ↓u8_s6, ↓XA, XB, XL, XM, cellsOf, okc, one1, resOne, resAll, eqCells, cellEq, fits, sameK, List.length_cons, List.length_nil, List.replicate_succ, List.replicate_zero, List.cons_append, List.nil_append, List.append_nil, List.set_cons_succ, List.set_cons_zero, List.getD_cons_succ, List.getD_cons_zero, List.map_cons, List.map_nil, List.getElem?_cons_succ, List.getElem?_cons_zero, List.toList_toArray, Option.map_some, Option.map_none, Option.isSome_some, Option.isSome_none, Nat.reduceSub, Nat.reduceAdd, Nat.reduceMul, Nat.reduceEqDiff, Nat.reduceLeDiff, Nat.reduceBEq, reduceCtorEq, List.drop_succ_cons, List.drop_zero, List.take_succ_cons, List.take_zero, List.drop_nil, List.take_nil, ne_eq, Option.getD_some, List.length_map, List.all_cons, List.all_nil, List.range_zero, List.range_succ, ite_true, ite_false, TYX]
    refine fun _ => ⟨by omega, fun hp => ⟨by omega, fun _ => ⟨by omega, by omega, by omega, by omega, tms_3, by rw [tms_len]; omega, ?_⟩⟩, fun hn => ?_⟩
    · rw [ap (termsTo l i) ⟨sorted5[i], ((atOf l i 65536).tdiv 4).tmod 60, ((atOf l i 65536).tdiv 256).tmod 30⟩]
      rw [if_pos hp] at ta
      rw [← ta, ← hu]
      exact nx _ ⟨rfl, rfl, rfl, rfl, rfl, trivial⟩
    · rw [if_neg hn] at ta
      rw [ta, List.append_nil] at hu
      rw [← hu]
      exact nx _ ⟨rfl, rfl, rfl, rfl, rfl, trivial⟩
  · simp +contextual only [↓u8_c0, ↓u8_s1, ↓u8_s2, ↓u8_s3, ↓u8_L4, ↓u8_s5, ↓u8_s6, ↓XA, XB, XL, XM, cellsOf, okc, one1, resOne, resAll, eqCells, cellEq, fits, sameK, List.length_cons, List.length_nil, List.replicate_succ, List.replicate_zero, List.cons_append, List.nil_append, List.append_nil, List.set_cons_succ, List.set_cons_zero, List.getD_cons_succ, List.getD_cons_zero, List.map_cons, List.map_nil, List.getElem?_cons_succ, List.getElem?_cons_zero, List.toList_toArray, Option.map_some, Option.map_none, Option.isSome_some, Option.isSome_none, Nat.reduceSub, Nat.reduceAdd, Nat.reduceMul, Nat.reduceEqDiff, Nat.reduceLeDiff, Nat.reduceBEq, reduceCtorEq, List.drop_succ_cons, List.drop_zero, List.take_succ_cons, List.take_zero, List.drop_nil, List.take_nil, ne_eq, Option.getD_some, List.length_map, List.all_cons, List.all_nil, List.range_zero, List.range_succ, ite_true, ite_false, TYX]
    refine ⟨fun h' => absurd h' (by omega), fun _ => hE _ _ _ ?_⟩
    simp +contextual only [↓u8_c0, ↓u8_s1, ↓u8_s2, ↓u8_s3, ↓u8_L4, ↓u8_s5, ↓u8_s6, ↓XA, XB, XL, XM, cellsOf, okc, one1, resOne, resAll, eqCells, cellEq, fits, sameK, List.length_cons, List.length_nil, List.replicate_succ, List.replicate_zero, List.cons_append, List.nil_append, List.append_nil, List.set_cons_succ, List.set_cons_zero, List.getD_cons_succ, List.getD_cons_zero, List.map_cons, List.map_nil, List.getElem?_cons_succ, List.getElem?_cons_zero, List.toList_toArray, Option.map_some, Option.map_none, Option.isSome_some, Option.isSome_none, Nat.reduceSub, Nat.reduceAdd, Nat.reduceMul, Nat.reduceEqDiff, Nat.reduceLeDiff, Nat.reduceBEq, reduceCtorEq, List.drop_succ_cons, List.drop_zero, List.take_succ_cons, List.take_zero, List.drop_nil, List.take_nil, ne_eq, Option.getD_some, List.length_map, List.all_cons, List.all_nil, List.range_zero, List.range_succ, ite_true, ite_false, TYX]
    have : i = 5 := by omega
    subst this
    exact h
end Go.Proofs.Ytbfcfmcebdfndaa
