/- Contract of the reference's Owners. Conditions: those in it. -/
import Derived.Test.YtbfcfmcebdfndaaRh3
namespace Go.Proofs.Ytbfcfmcebdfndaa
open Go Go.Aw
set_option linter.unusedVariables false
set_option linter.unusedSimpArgs false

def bitOf (n : Int) (i : Nat) : Bool := decide (((around n 32).fdiv (2 ^ i)).tmod 2 = 1)
def ownersTo (n : Int) : Nat → List (List UInt8)
  | 0 => []
  | i + 1 => if bitOf n i then insR (ownerOf i) false (ownersTo n i) else ownersTo n i
def ownersOf (n : Int) : List (List UInt8) := ownersTo n 5
theorem insR_len {s : List UInt8} : ∀ (l : List (List UInt8)) (d : Bool), (insR s d l).length ≤ 2 * l.length + 1
  | [], d => by cases d <;> simp [insR]
  | x :: r, d => by
    have := insR_len (s := s) r (d || !Op.bytesLess x s)
    simp only [insR, List.length_append, List.length_cons]
    split <;> split <;> simp <;> omega
theorem ownersTo_len {n : Int} : ∀ (i : Nat), (ownersTo n i).length + 1 ≤ 2 ^ i
  | 0 => by simp [ownersTo]
  | i + 1 => by
    have h1 := ownersTo_len (n := n) i
    have h2 := insR_len (s := ownerOf i) (ownersTo n i) false
    rw [Nat.pow_succ]
    simp only [ownersTo]
    split <;> omega
/-- wordbookref25.Owners -/
theorem f_owners {n : Int} {H : AH} {R : D → AH → Prop} (h : R (.own (strs (ownersOf n))) H) : ACall Try.prog 24 [.int .i64 n] H R := by
  refine b24 fun hf => ?_
  have hbig := big_eq
  simp +contextual only [x24, ↓u24_c0, ↓u24_s1, ↓u24_L2, ↓u24_s3, ↓XA, XB, XL, XM, cellsOf, okc, one1, resOne, resAll, eqCells, cellEq, fits, sameK, List.length_cons, List.length_nil, List.replicate_succ, List.replicate_zero, List.cons_append, List.nil_append, List.append_nil, List.set_cons_succ, List.set_cons_zero, List.getD_cons_succ, List.getD_cons_zero, List.map_cons, List.map_nil, List.getElem?_cons_succ, List.getElem?_cons_zero, List.toList_toArray, Option.map_some, Option.map_none, Option.isSome_some, Option.isSome_none, Nat.reduceSub, Nat.reduceAdd, Nat.reduceMul, Nat.reduceEqDiff, Nat.reduceLeDiff, Nat.reduceBEq, reduceCtorEq, List.drop_succ_cons, List.drop_zero, List.take_succ_cons, List.take_zero, List.drop_nil, List.take_nil, ne_eq, Option.getD_some, List.length_map, List.all_cons, List.all_nil, List.range_zero, List.range_succ, ite_true, ite_false, TYX]
  refine XW.loopK hm (fun F H' => ∃ (i : Nat), i ≤ 5 ∧ Fr 21 [(0, .int .i64 n), (3, .own (strs (ownersTo n i))), (4, .int .i64 i)] F ∧ H = H') (fun F H => match F.getD 4 .any with | .int _ n => 5 - n.toNat | _ => 0) ⟨0, by omega, ⟨rfl, rfl, rfl, rfl, trivial⟩, rfl⟩ ?_
  rintro _ _ ⟨i, hi, hF, rfl⟩ K hN hE hR
  obtain ⟨z, rfl⟩ : ∃ z : Nat → D, _ = [.int .i64 n, z 1, z 2, .own (strs (ownersTo n i)), .int .i64 i, z 5, z 6, z 7, z 8, z 9, z 10, z 11, z 12, z 13, z 14, z 15, z 16, z 17, z 18, z 19, z 20] := hF.lit
  clear hF
  by_cases hlt : i < 5
  · have nx : ∀ F', Fr 21 [(0, .int .i64 n), (3, .own (strs (ownersTo n (i + 1)))), (4, .int .i64 ((i + 1 : Nat) : Int))] F' → K .normal F' H := fun F' hF' => hN _ _ ⟨i + 1, hlt, hF', (back_0 rfl).symm⟩ (by
      rw [List.getD_eq_getElem?_getD, hF'.2.2.2.1]
      simp only [List.getD_cons_succ, List.getD_cons_zero, Option.getD_some]
      omega)
    have hl : (ownersTo n i).length ≤ 1073741824 := by
      have h1 := ownersTo_len (n := n) i
      have : 2 ^ i ≤ 2 ^ 5 := Nat.pow_le_pow_right (by omega) (by omega)
      omega
    clear hN hE hR
    simp +contextual only [wrap_succ (show i ≤ big by omega), ↓u24_c0, ↓u24_s1, ↓u24_L2, ↓u24_s3, ↓XA, XB, XL, XM, cellsOf, okc, one1, resOne, resAll, eqCells, cellEq, fits, sameK, List.length_cons, List.length_nil, List.replicate_succ, List.replicate_zero, List.cons_append, List.nil_append, List.append_nil, List.set_cons_succ, List.set_cons_zero, List.getD_cons_succ, List.getD_cons_zero, List.map_cons, List.map_nil, List.getElem?_cons_succ, List.getElem?_cons_zero, List.toList_toArray, Option.map_some, Option.map_none, Option.isSome_some, Option.isSome_none, Nat.reduceSub, Nat.reduceAdd, Nat.reduceMul, Nat.reduceEqDiff, Nat.reduceLeDiff, Nat.reduceBEq, reduceCtorEq, List.drop_succ_cons, List.drop_zero, List.take_succ_cons, List.take_zero, List.drop_nil, List.take_nil, ne_eq, Option.getD_some, List.length_map, List.all_cons, List.all_nil, List.range_zero, List.range_succ, ite_true, ite_false, TYX]
    refine ⟨fun _ => f_around (by omega) ?_, fun hge => absurd (by omega) hge⟩
    simp +contextual only [wrap_succ (show i ≤ big by omega), ↓u24_c0, ↓u24_s1, ↓u24_L2, ↓u24_s3, ↓XA, XB, XL, XM, cellsOf, okc, one1, resOne, resAll, eqCells, cellEq, fits, sameK, List.length_cons, List.length_nil, List.replicate_succ, List.replicate_zero, List.cons_append, List.nil_append, List.append_nil, List.set_cons_succ, List.set_cons_zero, List.getD_cons_succ, List.getD_cons_zero, List.map_cons, List.map_nil, List.getElem?_cons_succ, List.getElem?_cons_zero, List.toList_toArray, Option.map_some, Option.map_none, Option.isSome_some, Option.isSome_none, Nat.reduceSub, Nat.reduceAdd, Nat.reduceMul, Nat.reduceEqDiff, Nat.reduceLeDiff, Nat.reduceBEq, reduceCtorEq, List.drop_succ_cons, List.drop_zero, List.take_succ_cons, List.take_zero, List.drop_nil, List.take_nil, ne_eq, Option.getD_some, List.length_map, List.all_cons, List.all_nil, List.range_zero, List.range_succ, ite_true, ite_false, TYX]
    have w : IntKind.u64.wrap (i : Int) = (i : Int) := by
      simp only [IntKind.wrap, IntKind.signed, IntKind.bits, Bool.false_and, Bool.false_eq_true, if_false]
      omega
    have hmin : min i IntKind.i64.bits = i := by simp only [IntKind.bits]; omega
    simp only [w, Int.toNat_natCast, hmin]
    have hu : ownersTo n (i + 1) = if bitOf n i then insR (ownerOf i) false (ownersTo n i) else ownersTo n i := rfl
    refine fun _ => ⟨by omega, by omega, fun h1 => f_owner ?_, fun h1 => ?_⟩
    · simp +contextual only [↓u24_c0, ↓u24_s1, ↓u24_L2, ↓u24_s3, ↓XA, XB, XL, XM, cellsOf, okc, one1, resOne, resAll, eqCells, cellEq, fits, sameK, List.length_cons, List.length_nil, List.replicate_succ, List.replicate_zero, List.cons_append, List.nil_append, List.append_nil, List.set_cons_succ, List.set_cons_zero, List.getD_cons_succ, List.getD_cons_zero, List.map_cons, List.map_nil, List.getElem?_cons_succ, List.getElem?_cons_zero, List.toList_toArray, Option.map_some, Option.map_none, Option.isSome_some, Option.isSome_none, Nat.reduceSub, Nat.reduceAdd, Nat.reduceMul, Nat.reduceEqDiff, Nat.reduceLeDiff, Nat.reduceBEq, reduceCtorEq, List.drop_succ_cons, List.drop_zero, List.take_succ_cons, List.take_zero, List.drop_nil, List.take_nil, ne_eq, Option.getD_some, List.length_map, List.all_cons, List.all_nil, List.range_zero, List.range_succ, ite_true, ite_false, TYX]
      refine fun _ => f_insert hl ?_
      simp +contextual only [wrap_succ (show i ≤ big by omega), ↓u24_c0, ↓u24_s1, ↓u24_L2, ↓u24_s3, ↓XA, XB, XL, XM, cellsOf, okc, one1, resOne, resAll, eqCells, cellEq, fits, sameK, List.length_cons, List.length_nil, List.replicate_succ, List.replicate_zero, List.cons_append, List.nil_append, List.append_nil, List.set_cons_succ, List.set_cons_zero, List.getD_cons_succ, List.getD_cons_zero, List.map_cons, List.map_nil, List.getElem?_cons_succ, List.getElem?_cons_zero, List.toList_toArray, Option.map_some, Option.map_none, Option.isSome_some, Option.isSome_none, Nat.reduceSub, Nat.reduceAdd, Nat.reduceMul, Nat.reduceEqDiff, Nat.reduceLeDiff, Nat.reduceBEq, reduceCtorEq, List.drop_succ_cons, List.drop_zero, List.take_succ_cons, List.take_zero, List.drop_nil, List.take_nil, ne_eq, Option.getD_some, List.length_map, List.all_cons, List.all_nil, List.range_zero, List.range_succ, ite_true, ite_false, TYX]
      rw [if_pos (by simp [bitOf, h1])] at hu
      rw [← hu]
      exact fun _ => nx _ ⟨rfl, rfl, rfl, rfl, trivial⟩
    · rw [if_neg (by simp [bitOf, h1])] at hu
      rw [← hu]
      exact nx _ ⟨rfl, rfl, rfl, rfl, trivial⟩
  · simp +contextual only [↓u24_c0, ↓u24_s1, ↓u24_L2, ↓u24_s3, ↓XA, XB, XL, XM, cellsOf, okc, one1, resOne, resAll, eqCells, cellEq, fits, sameK, List.length_cons, List.length_nil, List.replicate_succ, List.replicate_zero, List.cons_append, List.nil_append, List.append_nil, List.set_cons_succ, List.set_cons_zero, List.getD_cons_succ, List.getD_cons_zero, List.map_cons, List.map_nil, List.getElem?_cons_succ, List.getElem?_cons_zero, List.toList_toArray, Option.map_some, Option.map_none, Option.isSome_some, Option.isSome_none, Nat.reduceSub, Nat.reduceAdd, Nat.reduceMul, Nat.reduceEqDiff, Nat.reduceLeDiff, Nat.reduceBEq, reduceCtorEq, List.drop_succ_cons, List.drop_zero, List.take_succ_cons, List.take_zero, List.drop_nil, List.take_nil, ne_eq, Option.getD_some, List.length_map, List.all_cons, List.all_nil, List.range_zero, List.range_succ, ite_true, ite_false, TYX]
    refine ⟨fun h' => absurd h' (by omega), fun _ => hE _ _ _ ?_⟩
    simp +contextual only [↓u24_c0, ↓u24_s1, ↓u24_L2, ↓u24_s3, ↓XA, XB, XL, XM, cellsOf, okc, one1, resOne, resAll, eqCells, cellEq, fits, sameK, List.length_cons, List.length_nil, List.replicate_succ, List.replicate_zero, List.cons_append, List.nil_append, List.append_nil, List.set_cons_succ, List.set_cons_zero, List.getD_cons_succ, List.getD_cons_zero, List.map_cons, List.map_nil, List.getElem?_cons_succ, List.getElem?_cons_zero, List.toList_toArray, Option.map_some, Option.map_none, Option.isSome_some, Option.isSome_none, Nat.reduceSub, Nat.reduceAdd, Nat.reduceMul, Nat.reduceEqDiff, Nat.reduceLeDiff, Nat.reduceBEq, reduceCtorEq, List.drop_succ_cons, List.drop_zero, List.take_succ_cons, List.take_zero, List.drop_nil, List.take_nil, ne_eq, Option.getD_some, List.length_map, List.all_cons, List.all_nil, List.range_zero, List.range_succ, ite_true, ite_false, TYX]
    have : i = 5 := by omega
    subst this
    exact h
end Go.Proofs.Ytbfcfmcebdfndaa
