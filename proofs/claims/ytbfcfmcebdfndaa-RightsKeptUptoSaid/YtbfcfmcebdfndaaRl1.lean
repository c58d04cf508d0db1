/- Contract of lives, the examples that every one of these laws calls: it returns true. Conditions: none. -/
import Derived.Test.YtbfcfmcebdfndaaRg6
namespace Go.Proofs.Ytbfcfmcebdfndaa
open Go Go.Aw
set_option linter.unusedVariables false
set_option linter.unusedSimpArgs false

def livT : List Tm := [⟨[99, 114, 111, 119, 110], 100, 10⟩, ⟨[112, 114, 101, 115, 115], 0, 5⟩]
def livP : List Pr := [⟨50, 3, [[112, 114, 101, 115, 115]]⟩]
def liv1 : Pr := ⟨49, 0, []⟩
def liv2 : Pr := ⟨60, 3, [[112, 114, 101, 115, 115]]⟩
def liv3 : Pr := ⟨60, 2, [[112, 114, 101, 115, 115]]⟩
theorem liv_v : validT livT = true := by decide +kernel
theorem liv_r1 : recErr livT livP liv1 = 1 := by decide +kernel
theorem liv_r2 : recErr livT livP liv2 = 17 := by decide +kernel
theorem liv_r3 : recErr livT livP liv3 = 0 := by decide +kernel
theorem liv_d1 : recD livT livP liv1 = .tup [.own [], .int .i64 1] := by unfold recD; rw [liv_r1]; rfl
theorem liv_d2 : recD livT livP liv2 = .tup [.own [], .int .i64 17] := by unfold recD; rw [liv_r2]; rfl
theorem liv_d3 : recD livT livP liv3 = .tup [.own (prs (livP ++ [liv3])), .int .i64 0] := by unfold recD; rw [liv_r3]; rfl
theorem liv_l1 : leftOf livT livP [99, 114, 111, 119, 110] = 10 := by decide +kernel
theorem liv_l2 : leftOf livT livP [112, 114, 101, 115, 115] = 2 := by decide +kernel
theorem liv_l3 : leftOf livT livP [104, 101, 105, 114, 115] = -1 := by decide +kernel
theorem liv_l4 : leftOf livT (livP ++ [liv3]) [112, 114, 101, 115, 115] = 0 := by decide +kernel
theorem liv_a1 : allowedOf livT livP [99, 114, 111, 119, 110] 99 1 = 16 := by decide +kernel
theorem liv_a2 : allowedOf livT livP [99, 114, 111, 119, 110] 100 11 = 17 := by decide +kernel
theorem liv_a3 : allowedOf livT livP [99, 114, 111, 119, 110] 100 10 = 0 := by decide +kernel
theorem liv_f1 : freeOf livT livP [112, 114, 101, 115, 115] 2 = 0 := by decide +kernel
theorem liv_f2 : freeOf livT livP [112, 114, 101, 115, 115] 3 = -1 := by decide +kernel
theorem liv_len : (prs (livP ++ [liv3])).length = 2 := rfl
/-- lives -/
theorem r_lives {H : AH} {R : D → AH → Prop} (h : R (.bool true) H) : ACall Try.prog 19 [] H R := by
  refine b19 fun hf => ?_
  have hbig := big_eq
  simp +contextual only [x19, ↓u19_s0, ↓u19_s1, ↓u19_s2, ↓u19_s3, ↓u19_s4, ↓u19_s5, ↓u19_s6, ↓XA, XB, XL, XM, cellsOf, okc, one1, resOne, resAll, eqCells, cellEq, fits, sameK, List.length_cons, List.length_nil, List.replicate_succ, List.replicate_zero, List.cons_append, List.nil_append, List.append_nil, List.set_cons_succ, List.set_cons_zero, List.getD_cons_succ, List.getD_cons_zero, List.map_cons, List.map_nil, List.getElem?_cons_succ, List.getElem?_cons_zero, List.toList_toArray, Option.map_some, Option.map_none, Option.isSome_some, Option.isSome_none, Nat.reduceSub, Nat.reduceAdd, Nat.reduceMul, Nat.reduceEqDiff, Nat.reduceLeDiff, Nat.reduceBEq, reduceCtorEq, List.drop_succ_cons, List.drop_zero, List.take_succ_cons, List.take_zero, List.drop_nil, List.take_nil, ne_eq, Option.getD_some, List.length_map, List.all_cons, List.all_nil, List.range_zero, List.range_succ, ite_true, ite_false, TYX]
  rw [show ([[.str [99, 114, 111, 119, 110], .int .i64 100, .int .i64 10], [.str [112, 114, 101, 115, 115], .int .i64 0, .int .i64 5]] : List (List D)) = tms livT from rfl,
    show ([[.int .i64 50, .int .i64 3, .slc [[.str [112, 114, 101, 115, 115]]]]] : List (List D)) = prs livP from rfl]
  refine r_record (l := livT) (done := livP) (p := liv1) (by decide) ?_
  rw [liv_d1]
  simp +contextual only [↓u19_s0, ↓u19_s1, ↓u19_s2, ↓u19_s3, ↓u19_s4, ↓u19_s5, ↓u19_s6, ↓XA, XB, XL, XM, cellsOf, okc, one1, resOne, resAll, eqCells, cellEq, fits, sameK, List.length_cons, List.length_nil, List.replicate_succ, List.replicate_zero, List.cons_append, List.nil_append, List.append_nil, List.set_cons_succ, List.set_cons_zero, List.getD_cons_succ, List.getD_cons_zero, List.map_cons, List.map_nil, List.getElem?_cons_succ, List.getElem?_cons_zero, List.toList_toArray, Option.map_some, Option.map_none, Option.isSome_some, Option.isSome_none, Nat.reduceSub, Nat.reduceAdd, Nat.reduceMul, Nat.reduceEqDiff, Nat.reduceLeDiff, Nat.reduceBEq, reduceCtorEq, List.drop_succ_cons, List.drop_zero, List.take_succ_cons, List.take_zero, List.drop_nil, List.take_nil, ne_eq, Option.getD_some, List.length_map, List.all_cons, List.all_nil, List.range_zero, List.range_succ, ite_true, ite_false, TYX]
  intros
  refine r_record (l := livT) (done := livP) (p := liv2) (by decide) ?_
  rw [liv_d2]
  simp +contextual only [↓u19_s0, ↓u19_s1, ↓u19_s2, ↓u19_s3, ↓u19_s4, ↓u19_s5, ↓u19_s6, ↓XA, XB, XL, XM, cellsOf, okc, one1, resOne, resAll, eqCells, cellEq, fits, sameK, List.length_cons, List.length_nil, List.replicate_succ, List.replicate_zero, List.cons_append, List.nil_append, List.append_nil, List.set_cons_succ, List.set_cons_zero, List.getD_cons_succ, List.getD_cons_zero, List.map_cons, List.map_nil, List.getElem?_cons_succ, List.getElem?_cons_zero, List.toList_toArray, Option.map_some, Option.map_none, Option.isSome_some, Option.isSome_none, Nat.reduceSub, Nat.reduceAdd, Nat.reduceMul, Nat.reduceEqDiff, Nat.reduceLeDiff, Nat.reduceBEq, reduceCtorEq, List.drop_succ_cons, List.drop_zero, List.take_succ_cons, List.take_zero, List.drop_nil, List.take_nil, ne_eq, Option.getD_some, List.length_map, List.all_cons, List.all_nil, List.range_zero, List.range_succ, ite_true, ite_false, TYX]
  intros
  refine r_record (l := livT) (done := livP) (p := liv3) (by decide) ?_
  rw [liv_d3]
  simp +contextual only [↓u19_s0, ↓u19_s1, ↓u19_s2, ↓u19_s3, ↓u19_s4, ↓u19_s5, ↓u19_s6, ↓XA, XB, XL, XM, cellsOf, okc, one1, resOne, resAll, eqCells, cellEq, fits, sameK, List.length_cons, List.length_nil, List.replicate_succ, List.replicate_zero, List.cons_append, List.nil_append, List.append_nil, List.set_cons_succ, List.set_cons_zero, List.getD_cons_succ, List.getD_cons_zero, List.map_cons, List.map_nil, List.getElem?_cons_succ, List.getElem?_cons_zero, List.toList_toArray, Option.map_some, Option.map_none, Option.isSome_some, Option.isSome_none, Nat.reduceSub, Nat.reduceAdd, Nat.reduceMul, Nat.reduceEqDiff, Nat.reduceLeDiff, Nat.reduceBEq, reduceCtorEq, List.drop_succ_cons, List.drop_zero, List.take_succ_cons, List.take_zero, List.drop_nil, List.take_nil, ne_eq, Option.getD_some, List.length_map, List.all_cons, List.all_nil, List.range_zero, List.range_succ, ite_true, ite_false, TYX]
  intros
  refine r_valid ?_
  simp +contextual only [liv_v, ↓u19_s0, ↓u19_s1, ↓u19_s2, ↓u19_s3, ↓u19_s4, ↓u19_s5, ↓u19_s6, ↓XA, XB, XL, XM, cellsOf, okc, one1, resOne, resAll, eqCells, cellEq, fits, sameK, List.length_cons, List.length_nil, List.replicate_succ, List.replicate_zero, List.cons_append, List.nil_append, List.append_nil, List.set_cons_succ, List.set_cons_zero, List.getD_cons_succ, List.getD_cons_zero, List.map_cons, List.map_nil, List.getElem?_cons_succ, List.getElem?_cons_zero, List.toList_toArray, Option.map_some, Option.map_none, Option.isSome_some, Option.isSome_none, Nat.reduceSub, Nat.reduceAdd, Nat.reduceMul, Nat.reduceEqDiff, Nat.reduceLeDiff, Nat.reduceBEq, reduceCtorEq, List.drop_succ_cons, List.drop_zero, List.take_succ_cons, List.take_zero, List.drop_nil, List.take_nil, ne_eq, Option.getD_some, List.length_map, List.all_cons, List.all_nil, List.range_zero, List.range_succ, ite_true, ite_false, TYX]
  intros
  refine r_left ?_
  simp +contextual only [liv_l1, ↓u19_s0, ↓u19_s1, ↓u19_s2, ↓u19_s3, ↓u19_s4, ↓u19_s5, ↓u19_s6, ↓XA, XB, XL, XM, cellsOf, okc, one1, resOne, resAll, eqCells, cellEq, fits, sameK, List.length_cons, List.length_nil, List.replicate_succ, List.replicate_zero, List.cons_append, List.nil_append, List.append_nil, List.set_cons_succ, List.set_cons_zero, List.getD_cons_succ, List.getD_cons_zero, List.map_cons, List.map_nil, List.getElem?_cons_succ, List.getElem?_cons_zero, List.toList_toArray, Option.map_some, Option.map_none, Option.isSome_some, Option.isSome_none, Nat.reduceSub, Nat.reduceAdd, Nat.reduceMul, Nat.reduceEqDiff, Nat.reduceLeDiff, Nat.reduceBEq, reduceCtorEq, List.drop_succ_cons, List.drop_zero, List.take_succ_cons, List.take_zero, List.drop_nil, List.take_nil, ne_eq, Option.getD_some, List.length_map, List.all_cons, List.all_nil, List.range_zero, List.range_succ, ite_true, ite_false, TYX]
  intros
  refine r_left ?_
  simp +contextual only [liv_l2, ↓u19_s0, ↓u19_s1, ↓u19_s2, ↓u19_s3, ↓u19_s4, ↓u19_s5, ↓u19_s6, ↓XA, XB, XL, XM, cellsOf, okc, one1, resOne, resAll, eqCells, cellEq, fits, sameK, List.length_cons, List.length_nil, List.replicate_succ, List.replicate_zero, List.cons_append, List.nil_append, List.append_nil, List.set_cons_succ, List.set_cons_zero, List.getD_cons_succ, List.getD_cons_zero, List.map_cons, List.map_nil, List.getElem?_cons_succ, List.getElem?_cons_zero, List.toList_toArray, Option.map_some, Option.map_none, Option.isSome_some, Option.isSome_none, Nat.reduceSub, Nat.reduceAdd, Nat.reduceMul, Nat.reduceEqDiff, Nat.reduceLeDiff, Nat.reduceBEq, reduceCtorEq, List.drop_succ_cons, List.drop_zero, List.take_succ_cons, List.take_zero, List.drop_nil, List.take_nil, ne_eq, Option.getD_some, List.length_map, List.all_cons, List.all_nil, List.range_zero, List.range_succ, ite_true, ite_false, TYX]
  intros
  refine r_left ?_
  simp +contextual only [liv_l3, ↓u19_s0, ↓u19_s1, ↓u19_s2, ↓u19_s3, ↓u19_s4, ↓u19_s5, ↓u19_s6, ↓XA, XB, XL, XM, cellsOf, okc, one1, resOne, resAll, eqCells, cellEq, fits, sameK, List.length_cons, List.length_nil, List.replicate_succ, List.replicate_zero, List.cons_append, List.nil_append, List.append_nil, List.set_cons_succ, List.set_cons_zero, List.getD_cons_succ, List.getD_cons_zero, List.map_cons, List.map_nil, List.getElem?_cons_succ, List.getElem?_cons_zero, List.toList_toArray, Option.map_some, Option.map_none, Option.isSome_some, Option.isSome_none, Nat.reduceSub, Nat.reduceAdd, Nat.reduceMul, Nat.reduceEqDiff, Nat.reduceLeDiff, Nat.reduceBEq, reduceCtorEq, List.drop_succ_cons, List.drop_zero, List.take_succ_cons, List.take_zero, List.drop_nil, List.take_nil, ne_eq, Option.getD_some, List.length_map, List.all_cons, List.all_nil, List.range_zero, List.range_succ, ite_true, ite_false, TYX]
  intros
  refine ⟨fun hn => absurd (by rw [liv_len]; rfl) hn, fun _ => ?_⟩
  refine r_allowed ?_
  simp +contextual only [liv_a1, ↓u19_s0, ↓u19_s1, ↓u19_s2, ↓u19_s3, ↓u19_s4, ↓u19_s5, ↓u19_s6, ↓XA, XB, XL, XM, cellsOf, okc, one1, resOne, resAll, eqCells, cellEq, fits, sameK, List.length_cons, List.length_nil, List.replicate_succ, List.replicate_zero, List.cons_append, List.nil_append, List.append_nil, List.set_cons_succ, List.set_cons_zero, List.getD_cons_succ, List.getD_cons_zero, List.map_cons, List.map_nil, List.getElem?_cons_succ, List.getElem?_cons_zero, List.toList_toArray, Option.map_some, Option.map_none, Option.isSome_some, Option.isSome_none, Nat.reduceSub, Nat.reduceAdd, Nat.reduceMul, Nat.reduceEqDiff, Nat.reduceLeDiff, Nat.reduceBEq, reduceCtorEq, List.drop_succ_cons, List.drop_zero, List.take_succ_cons, List.take_zero, List.drop_nil, List.take_nil, ne_eq, Option.getD_some, List.length_map, List.all_cons, List.all_nil, List.range_zero, List.range_succ, ite_true, ite_false, TYX]
  intros
  refine r_allowed ?_
  simp +contextual only [liv_a2, ↓u19_s0, ↓u19_s1, ↓u19_s2, ↓u19_s3, ↓u19_s4, ↓u19_s5, ↓u19_s6, ↓XA, XB, XL, XM, cellsOf, okc, one1, resOne, resAll, eqCells, cellEq, fits, sameK, List.length_cons, List.length_nil, List.replicate_succ, List.replicate_zero, List.cons_append, List.nil_append, List.append_nil, List.set_cons_succ, List.set_cons_zero, List.getD_cons_succ, List.getD_cons_zero, List.map_cons, List.map_nil, List.getElem?_cons_succ, List.getElem?_cons_zero, List.toList_toArray, Option.map_some, Option.map_none, Option.isSome_some, Option.isSome_none, Nat.reduceSub, Nat.reduceAdd, Nat.reduceMul, Nat.reduceEqDiff, Nat.reduceLeDiff, Nat.reduceBEq, reduceCtorEq, List.drop_succ_cons, List.drop_zero, List.take_succ_cons, List.take_zero, List.drop_nil, List.take_nil, ne_eq, Option.getD_some, List.length_map, List.all_cons, List.all_nil, List.range_zero, List.range_succ, ite_true, ite_false, TYX]
  intros
  refine r_allowed ?_
  simp +contextual only [liv_a3, ↓u19_s0, ↓u19_s1, ↓u19_s2, ↓u19_s3, ↓u19_s4, ↓u19_s5, ↓u19_s6, ↓XA, XB, XL, XM, cellsOf, okc, one1, resOne, resAll, eqCells, cellEq, fits, sameK, List.length_cons, List.length_nil, List.replicate_succ, List.replicate_zero, List.cons_append, List.nil_append, List.append_nil, List.set_cons_succ, List.set_cons_zero, List.getD_cons_succ, List.getD_cons_zero, List.map_cons, List.map_nil, List.getElem?_cons_succ, List.getElem?_cons_zero, List.toList_toArray, Option.map_some, Option.map_none, Option.isSome_some, Option.isSome_none, Nat.reduceSub, Nat.reduceAdd, Nat.reduceMul, Nat.reduceEqDiff, Nat.reduceLeDiff, Nat.reduceBEq, reduceCtorEq, List.drop_succ_cons, List.drop_zero, List.take_succ_cons, List.take_zero, List.drop_nil, List.take_nil, ne_eq, Option.getD_some, List.length_map, List.all_cons, List.all_nil, List.range_zero, List.range_succ, ite_true, ite_false, TYX]
  intros
  refine r_free ?_
  simp +contextual only [liv_f1, ↓u19_s0, ↓u19_s1, ↓u19_s2, ↓u19_s3, ↓u19_s4, ↓u19_s5, ↓u19_s6, ↓XA, XB, XL, XM, cellsOf, okc, one1, resOne, resAll, eqCells, cellEq, fits, sameK, List.length_cons, List.length_nil, List.replicate_succ, List.replicate_zero, List.cons_append, List.nil_append, List.append_nil, List.set_cons_succ, List.set_cons_zero, List.getD_cons_succ, List.getD_cons_zero, List.map_cons, List.map_nil, List.getElem?_cons_succ, List.getElem?_cons_zero, List.toList_toArray, Option.map_some, Option.map_none, Option.isSome_some, Option.isSome_none, Nat.reduceSub, Nat.reduceAdd, Nat.reduceMul, Nat.reduceEqDiff, Nat.reduceLeDiff, Nat.reduceBEq, reduceCtorEq, List.drop_succ_cons, List.drop_zero, List.take_succ_cons, List.take_zero, List.drop_nil, List.take_nil, ne_eq, Option.getD_some, List.length_map, List.all_cons, List.all_nil, List.range_zero, List.range_succ, ite_true, ite_false, TYX]
  intros
  refine r_free ?_
  simp +contextual only [liv_f2, ↓u19_s0, ↓u19_s1, ↓u19_s2, ↓u19_s3, ↓u19_s4, ↓u19_s5, ↓u19_s6, ↓XA, XB, XL, XM, cellsOf, okc, one1, resOne, resAll, eqCells, cellEq, fits, sameK, List.length_cons, List.length_nil, List.replicate_succ, List.replicate_zero, List.cons_append, List.nil_append, List.append_nil, List.set_cons_succ, List.set_cons_zero, List.getD_cons_succ, List.getD_cons_zero, List.map_cons, List.map_nil, List.getElem?_cons_succ, List.getElem?_cons_zero, List.toList_toArray, Option.map_some, Option.map_none, Option.isSome_some, Option.isSome_none, Nat.reduceSub, Nat.reduceAdd, Nat.reduceMul, Nat.reduceEqDiff, Nat.reduceLeDiff, Nat.reduceBEq, reduceCtorEq, List.drop_succ_cons, List.drop_zero, List.take_succ_cons, List.take_zero, List.drop_nil, List.take_nil, ne_eq, Option.getD_some, List.length_map, List.all_cons, List.all_nil, List.range_zero, List.range_succ, ite_true, ite_false, TYX]
  intros
  refine r_left ?_
  simp +contextual only [liv_l4, ↓u19_s0, ↓u19_s1, ↓u19_s2, ↓u19_s3, ↓u19_s4, ↓u19_s5, ↓u19_s6, ↓XA, XB, XL, XM, cellsOf, okc, one1, resOne, resAll, eqCells, cellEq, fits, sameK, List.length_cons, List.length_nil, List.replicate_succ, List.replicate_zero, List.cons_append, List.nil_append, List.append_nil, List.set_cons_succ, List.set_cons_zero, List.getD_cons_succ, List.getD_cons_zero, List.map_cons, List.map_nil, List.getElem?_cons_succ, List.getElem?_cons_zero, List.toList_toArray, Option.map_some, Option.map_none, Option.isSome_some, Option.isSome_none, Nat.reduceSub, Nat.reduceAdd, Nat.reduceMul, Nat.reduceEqDiff, Nat.reduceLeDiff, Nat.reduceBEq, reduceCtorEq, List.drop_succ_cons, List.drop_zero, List.take_succ_cons, List.take_zero, List.drop_nil, List.take_nil, ne_eq, Option.getD_some, List.length_map, List.all_cons, List.all_nil, List.range_zero, List.range_succ, ite_true, ite_false, TYX]
  intros
  exact h
end Go.Proofs.Ytbfcfmcebdfndaa
