/- Contracts of rights.Allowed and Free. Conditions: those in each. -/
import Derived.Test.YtbfcfmcebdfndaaRg4
namespace Go.Proofs.Ytbfcfmcebdfndaa
open Go Go.Aw
set_option linter.unusedVariables false
set_option linter.unusedSimpArgs false

/-- The error of Allowed: 1 (argument), 16 (rights), 17 (over) or 0. -/
def allowedOf (l : List Tm) (done : List Pr) (o : List UInt8) (day copies : Int) : Int :=
  if validT l && validPs done && btw day 1048576 && btw copies 1073741824 then (match findT l o with
    | none => 0
    | some t => if day < t.u then 16 else if leftOf l done o < copies then 17 else 0) else 1
def freeOf (l : List Tm) (done : List Pr) (o : List UInt8) (copies : Int) : Int :=
  if validT l && validPs done && btw copies 1073741824 then (match findT l o with
    | none => 0
    | some t => if leftOf l done o < copies then -1 else t.u) else -1
/-- rights.Allowed -/
theorem r_allowed {l : List Tm} {done : List Pr} {o : List UInt8} {day copies : Int} {H : AH} {R : D → AH → Prop} (h : R (.int .i64 (allowedOf l done o day copies)) H) : ACall Try.prog 13 [.slc (tms l), .slc (prs done), .str o, .int .i64 day, .int .i64 copies] H R := by
  refine b13 fun hf => ?_
  simp +contextual only [x13, ↓u13_c0, ↓u13_c1, ↓u13_s2, ↓u13_s3, ↓u13_s4, ↓XA, XB, XL, XM, cellsOf, okc, one1, resOne, resAll, eqCells, cellEq, fits, sameK, List.length_cons, List.length_nil, List.replicate_succ, List.replicate_zero, List.cons_append, List.nil_append, List.append_nil, List.set_cons_succ, List.set_cons_zero, List.getD_cons_succ, List.getD_cons_zero, List.map_cons, List.map_nil, List.getElem?_cons_succ, List.getElem?_cons_zero, List.toList_toArray, Option.map_some, Option.map_none, Option.isSome_some, Option.isSome_none, Nat.reduceSub, Nat.reduceAdd, Nat.reduceMul, Nat.reduceEqDiff, Nat.reduceLeDiff, Nat.reduceBEq, reduceCtorEq, List.drop_succ_cons, List.drop_zero, List.take_succ_cons, List.take_zero, List.drop_nil, List.take_nil, ne_eq, Option.getD_some, List.length_map, List.all_cons, List.all_nil, List.range_zero, List.range_succ, ite_true, ite_false, TYX]
  refine r_valid ?_
  simp +contextual only [↓u13_c0, ↓u13_c1, ↓u13_s2, ↓u13_s3, ↓u13_s4, ↓XA, XB, XL, XM, cellsOf, okc, one1, resOne, resAll, eqCells, cellEq, fits, sameK, List.length_cons, List.length_nil, List.replicate_succ, List.replicate_zero, List.cons_append, List.nil_append, List.append_nil, List.set_cons_succ, List.set_cons_zero, List.getD_cons_succ, List.getD_cons_zero, List.map_cons, List.map_nil, List.getElem?_cons_succ, List.getElem?_cons_zero, List.toList_toArray, Option.map_some, Option.map_none, Option.isSome_some, Option.isSome_none, Nat.reduceSub, Nat.reduceAdd, Nat.reduceMul, Nat.reduceEqDiff, Nat.reduceLeDiff, Nat.reduceBEq, reduceCtorEq, List.drop_succ_cons, List.drop_zero, List.take_succ_cons, List.take_zero, List.drop_nil, List.take_nil, ne_eq, Option.getD_some, List.length_map, List.all_cons, List.all_nil, List.range_zero, List.range_succ, ite_true, ite_false, TYX]
  refine ⟨fun e1 => ?_, fun e1 => ?_⟩
  · simpa [allowedOf, e1] using h
  refine r_prints ?_
  simp +contextual only [↓u13_c0, ↓u13_c1, ↓u13_s2, ↓u13_s3, ↓u13_s4, ↓XA, XB, XL, XM, cellsOf, okc, one1, resOne, resAll, eqCells, cellEq, fits, sameK, List.length_cons, List.length_nil, List.replicate_succ, List.replicate_zero, List.cons_append, List.nil_append, List.append_nil, List.set_cons_succ, List.set_cons_zero, List.getD_cons_succ, List.getD_cons_zero, List.map_cons, List.map_nil, List.getElem?_cons_succ, List.getElem?_cons_zero, List.toList_toArray, Option.map_some, Option.map_none, Option.isSome_some, Option.isSome_none, Nat.reduceSub, Nat.reduceAdd, Nat.reduceMul, Nat.reduceEqDiff, Nat.reduceLeDiff, Nat.reduceBEq, reduceCtorEq, List.drop_succ_cons, List.drop_zero, List.take_succ_cons, List.take_zero, List.drop_nil, List.take_nil, ne_eq, Option.getD_some, List.length_map, List.all_cons, List.all_nil, List.range_zero, List.range_succ, ite_true, ite_false, TYX]
  refine ⟨fun e2 => ?_, fun e2 => ?_⟩
  · simpa [allowedOf, e1, e2] using h
  refine r_between ?_
  simp +contextual only [↓u13_c0, ↓u13_c1, ↓u13_s2, ↓u13_s3, ↓u13_s4, ↓XA, XB, XL, XM, cellsOf, okc, one1, resOne, resAll, eqCells, cellEq, fits, sameK, List.length_cons, List.length_nil, List.replicate_succ, List.replicate_zero, List.cons_append, List.nil_append, List.append_nil, List.set_cons_succ, List.set_cons_zero, List.getD_cons_succ, List.getD_cons_zero, List.map_cons, List.map_nil, List.getElem?_cons_succ, List.getElem?_cons_zero, List.toList_toArray, Option.map_some, Option.map_none, Option.isSome_some, Option.isSome_none, Nat.reduceSub, Nat.reduceAdd, Nat.reduceMul, Nat.reduceEqDiff, Nat.reduceLeDiff, Nat.reduceBEq, reduceCtorEq, List.drop_succ_cons, List.drop_zero, List.take_succ_cons, List.take_zero, List.drop_nil, List.take_nil, ne_eq, Option.getD_some, List.length_map, List.all_cons, List.all_nil, List.range_zero, List.range_succ, ite_true, ite_false, TYX]
  refine ⟨fun e3 => ?_, fun e3 => ?_⟩
  · simpa [allowedOf, e1, e2, e3] using h
  refine r_between ?_
  simp +contextual only [↓u13_c0, ↓u13_c1, ↓u13_s2, ↓u13_s3, ↓u13_s4, ↓XA, XB, XL, XM, cellsOf, okc, one1, resOne, resAll, eqCells, cellEq, fits, sameK, List.length_cons, List.length_nil, List.replicate_succ, List.replicate_zero, List.cons_append, List.nil_append, List.append_nil, List.set_cons_succ, List.set_cons_zero, List.getD_cons_succ, List.getD_cons_zero, List.map_cons, List.map_nil, List.getElem?_cons_succ, List.getElem?_cons_zero, List.toList_toArray, Option.map_some, Option.map_none, Option.isSome_some, Option.isSome_none, Nat.reduceSub, Nat.reduceAdd, Nat.reduceMul, Nat.reduceEqDiff, Nat.reduceLeDiff, Nat.reduceBEq, reduceCtorEq, List.drop_succ_cons, List.drop_zero, List.take_succ_cons, List.take_zero, List.drop_nil, List.take_nil, ne_eq, Option.getD_some, List.length_map, List.all_cons, List.all_nil, List.range_zero, List.range_succ, ite_true, ite_false, TYX]
  refine ⟨fun e4 => ?_, fun e4 => ?_⟩
  · simpa [allowedOf, e1, e2, e3, e4] using h
  refine r_find ?_
  cases hfd : findT l o with
  | none =>
    simp +contextual only [termD, Option.getD_none, Option.isSome_none, show (default : Tm).d = [.str [], .int .i64 0, .int .i64 0] from rfl, ↓u13_c0, ↓u13_c1, ↓u13_s2, ↓u13_s3, ↓u13_s4, ↓XA, XB, XL, XM, cellsOf, okc, one1, resOne, resAll, eqCells, cellEq, fits, sameK, List.length_cons, List.length_nil, List.replicate_succ, List.replicate_zero, List.cons_append, List.nil_append, List.append_nil, List.set_cons_succ, List.set_cons_zero, List.getD_cons_succ, List.getD_cons_zero, List.map_cons, List.map_nil, List.getElem?_cons_succ, List.getElem?_cons_zero, List.toList_toArray, Option.map_some, Option.map_none, Option.isSome_some, Option.isSome_none, Nat.reduceSub, Nat.reduceAdd, Nat.reduceMul, Nat.reduceEqDiff, Nat.reduceLeDiff, Nat.reduceBEq, reduceCtorEq, List.drop_succ_cons, List.drop_zero, List.take_succ_cons, List.take_zero, List.drop_nil, List.take_nil, ne_eq, Option.getD_some, List.length_map, List.all_cons, List.all_nil, List.range_zero, List.range_succ, ite_true, ite_false, TYX]
    intro b1 h1
    simpa [allowedOf, e1, e2, e3, e4, hfd] using h
  | some t =>
    simp +contextual only [termD, Tm.d, ↓u13_c0, ↓u13_c1, ↓u13_s2, ↓u13_s3, ↓u13_s4, ↓XA, XB, XL, XM, cellsOf, okc, one1, resOne, resAll, eqCells, cellEq, fits, sameK, List.length_cons, List.length_nil, List.replicate_succ, List.replicate_zero, List.cons_append, List.nil_append, List.append_nil, List.set_cons_succ, List.set_cons_zero, List.getD_cons_succ, List.getD_cons_zero, List.map_cons, List.map_nil, List.getElem?_cons_succ, List.getElem?_cons_zero, List.toList_toArray, Option.map_some, Option.map_none, Option.isSome_some, Option.isSome_none, Nat.reduceSub, Nat.reduceAdd, Nat.reduceMul, Nat.reduceEqDiff, Nat.reduceLeDiff, Nat.reduceBEq, reduceCtorEq, List.drop_succ_cons, List.drop_zero, List.take_succ_cons, List.take_zero, List.drop_nil, List.take_nil, ne_eq, Option.getD_some, List.length_map, List.all_cons, List.all_nil, List.range_zero, List.range_succ, ite_true, ite_false, TYX]
    intro b1 h1 _
    refine ⟨fun hd => ?_, fun hd => ?_⟩
    · simpa [allowedOf, e1, e2, e3, e4, hfd, hd] using h
    refine r_left ?_
    simp +contextual only [↓u13_c0, ↓u13_c1, ↓u13_s2, ↓u13_s3, ↓u13_s4, ↓XA, XB, XL, XM, cellsOf, okc, one1, resOne, resAll, eqCells, cellEq, fits, sameK, List.length_cons, List.length_nil, List.replicate_succ, List.replicate_zero, List.cons_append, List.nil_append, List.append_nil, List.set_cons_succ, List.set_cons_zero, List.getD_cons_succ, List.getD_cons_zero, List.map_cons, List.map_nil, List.getElem?_cons_succ, List.getElem?_cons_zero, List.toList_toArray, Option.map_some, Option.map_none, Option.isSome_some, Option.isSome_none, Nat.reduceSub, Nat.reduceAdd, Nat.reduceMul, Nat.reduceEqDiff, Nat.reduceLeDiff, Nat.reduceBEq, reduceCtorEq, List.drop_succ_cons, List.drop_zero, List.take_succ_cons, List.take_zero, List.drop_nil, List.take_nil, ne_eq, Option.getD_some, List.length_map, List.all_cons, List.all_nil, List.range_zero, List.range_succ, ite_true, ite_false, TYX]
    refine fun _ => ⟨fun hl => ?_, fun hl => ?_⟩
    · simpa [allowedOf, e1, e2, e3, e4, hfd, hd, hl] using h
    · simpa [allowedOf, e1, e2, e3, e4, hfd, hd, hl] using h
/-- rights.Free -/
theorem r_free {l : List Tm} {done : List Pr} {o : List UInt8} {copies : Int} {H : AH} {R : D → AH → Prop} (h : R (.int .i64 (freeOf l done o copies)) H) : ACall Try.prog 15 [.slc (tms l), .slc (prs done), .str o, .int .i64 copies] H R := by
  refine b15 fun hf => ?_
  simp +contextual only [x15, ↓u15_s0, ↓u15_s1, ↓u15_s2, ↓XA, XB, XL, XM, cellsOf, okc, one1, resOne, resAll, eqCells, cellEq, fits, sameK, List.length_cons, List.length_nil, List.replicate_succ, List.replicate_zero, List.cons_append, List.nil_append, List.append_nil, List.set_cons_succ, List.set_cons_zero, List.getD_cons_succ, List.getD_cons_zero, List.map_cons, List.map_nil, List.getElem?_cons_succ, List.getElem?_cons_zero, List.toList_toArray, Option.map_some, Option.map_none, Option.isSome_some, Option.isSome_none, Nat.reduceSub, Nat.reduceAdd, Nat.reduceMul, Nat.reduceEqDiff, Nat.reduceLeDiff, Nat.reduceBEq, reduceCtorEq, List.drop_succ_cons, List.drop_zero, List.take_succ_cons, List.take_zero, List.drop_nil, List.take_nil, ne_eq, Option.getD_some, List.length_map, List.all_cons, List.all_nil, List.range_zero, List.range_succ, ite_true, ite_false, TYX]
  refine r_valid ?_
  simp +contextual only [↓u15_s0, ↓u15_s1, ↓u15_s2, ↓XA, XB, XL, XM, cellsOf, okc, one1, resOne, resAll, eqCells, cellEq, fits, sameK, List.length_cons, List.length_nil, List.replicate_succ, List.replicate_zero, List.cons_append, List.nil_append, List.append_nil, List.set_cons_succ, List.set_cons_zero, List.getD_cons_succ, List.getD_cons_zero, List.map_cons, List.map_nil, List.getElem?_cons_succ, List.getElem?_cons_zero, List.toList_toArray, Option.map_some, Option.map_none, Option.isSome_some, Option.isSome_none, Nat.reduceSub, Nat.reduceAdd, Nat.reduceMul, Nat.reduceEqDiff, Nat.reduceLeDiff, Nat.reduceBEq, reduceCtorEq, List.drop_succ_cons, List.drop_zero, List.take_succ_cons, List.take_zero, List.drop_nil, List.take_nil, ne_eq, Option.getD_some, List.length_map, List.all_cons, List.all_nil, List.range_zero, List.range_succ, ite_true, ite_false, TYX]
  refine ⟨fun e1 => ?_, fun e1 => ?_⟩
  · simpa [freeOf, e1] using h
  refine r_prints ?_
  simp +contextual only [↓u15_s0, ↓u15_s1, ↓u15_s2, ↓XA, XB, XL, XM, cellsOf, okc, one1, resOne, resAll, eqCells, cellEq, fits, sameK, List.length_cons, List.length_nil, List.replicate_succ, List.replicate_zero, List.cons_append, List.nil_append, List.append_nil, List.set_cons_succ, List.set_cons_zero, List.getD_cons_succ, List.getD_cons_zero, List.map_cons, List.map_nil, List.getElem?_cons_succ, List.getElem?_cons_zero, List.toList_toArray, Option.map_some, Option.map_none, Option.isSome_some, Option.isSome_none, Nat.reduceSub, Nat.reduceAdd, Nat.reduceMul, Nat.reduceEqDiff, Nat.reduceLeDiff, Nat.reduceBEq, reduceCtorEq, List.drop_succ_cons, List.drop_zero, List.take_succ_cons, List.take_zero, List.drop_nil, List.take_nil, ne_eq, Option.getD_some, List.length_map, List.all_cons, List.all_nil, List.range_zero, List.range_succ, ite_true, ite_false, TYX]
  refine ⟨fun e2 => ?_, fun e2 => ?_⟩
  · simpa [freeOf, e1, e2] using h
  refine r_between ?_
  simp +contextual only [↓u15_s0, ↓u15_s1, ↓u15_s2, ↓XA, XB, XL, XM, cellsOf, okc, one1, resOne, resAll, eqCells, cellEq, fits, sameK, List.length_cons, List.length_nil, List.replicate_succ, List.replicate_zero, List.cons_append, List.nil_append, List.append_nil, List.set_cons_succ, List.set_cons_zero, List.getD_cons_succ, List.getD_cons_zero, List.map_cons, List.map_nil, List.getElem?_cons_succ, List.getElem?_cons_zero, List.toList_toArray, Option.map_some, Option.map_none, Option.isSome_some, Option.isSome_none, Nat.reduceSub, Nat.reduceAdd, Nat.reduceMul, Nat.reduceEqDiff, Nat.reduceLeDiff, Nat.reduceBEq, reduceCtorEq, List.drop_succ_cons, List.drop_zero, List.take_succ_cons, List.take_zero, List.drop_nil, List.take_nil, ne_eq, Option.getD_some, List.length_map, List.all_cons, List.all_nil, List.range_zero, List.range_succ, ite_true, ite_false, TYX]
  refine ⟨fun e4 => ?_, fun e4 => ?_⟩
  · simpa [freeOf, e1, e2, e4] using h
  refine r_find ?_
  cases hfd : findT l o with
  | none =>
    simp +contextual only [termD, Option.getD_none, Option.isSome_none, show (default : Tm).d = [.str [], .int .i64 0, .int .i64 0] from rfl, ↓u15_s0, ↓u15_s1, ↓u15_s2, ↓XA, XB, XL, XM, cellsOf, okc, one1, resOne, resAll, eqCells, cellEq, fits, sameK, List.length_cons, List.length_nil, List.replicate_succ, List.replicate_zero, List.cons_append, List.nil_append, List.append_nil, List.set_cons_succ, List.set_cons_zero, List.getD_cons_succ, List.getD_cons_zero, List.map_cons, List.map_nil, List.getElem?_cons_succ, List.getElem?_cons_zero, List.toList_toArray, Option.map_some, Option.map_none, Option.isSome_some, Option.isSome_none, Nat.reduceSub, Nat.reduceAdd, Nat.reduceMul, Nat.reduceEqDiff, Nat.reduceLeDiff, Nat.reduceBEq, reduceCtorEq, List.drop_succ_cons, List.drop_zero, List.take_succ_cons, List.take_zero, List.drop_nil, List.take_nil, ne_eq, Option.getD_some, List.length_map, List.all_cons, List.all_nil, List.range_zero, List.range_succ, ite_true, ite_false, TYX]
    intro b1 h1 _
    simpa [freeOf, e1, e2, e4, hfd] using h
  | some t =>
    simp +contextual only [termD, Tm.d, ↓u15_s0, ↓u15_s1, ↓u15_s2, ↓XA, XB, XL, XM, cellsOf, okc, one1, resOne, resAll, eqCells, cellEq, fits, sameK, List.length_cons, List.length_nil, List.replicate_succ, List.replicate_zero, List.cons_append, List.nil_append, List.append_nil, List.set_cons_succ, List.set_cons_zero, List.getD_cons_succ, List.getD_cons_zero, List.map_cons, List.map_nil, List.getElem?_cons_succ, List.getElem?_cons_zero, List.toList_toArray, Option.map_some, Option.map_none, Option.isSome_some, Option.isSome_none, Nat.reduceSub, Nat.reduceAdd, Nat.reduceMul, Nat.reduceEqDiff, Nat.reduceLeDiff, Nat.reduceBEq, reduceCtorEq, List.drop_succ_cons, List.drop_zero, List.take_succ_cons, List.take_zero, List.drop_nil, List.take_nil, ne_eq, Option.getD_some, List.length_map, List.all_cons, List.all_nil, List.range_zero, List.range_succ, ite_true, ite_false, TYX]
    intro b1 h1
    refine r_left ?_
    simp +contextual only [↓u15_s0, ↓u15_s1, ↓u15_s2, ↓XA, XB, XL, XM, cellsOf, okc, one1, resOne, resAll, eqCells, cellEq, fits, sameK, List.length_cons, List.length_nil, List.replicate_succ, List.replicate_zero, List.cons_append, List.nil_append, List.append_nil, List.set_cons_succ, List.set_cons_zero, List.getD_cons_succ, List.getD_cons_zero, List.map_cons, List.map_nil, List.getElem?_cons_succ, List.getElem?_cons_zero, List.toList_toArray, Option.map_some, Option.map_none, Option.isSome_some, Option.isSome_none, Nat.reduceSub, Nat.reduceAdd, Nat.reduceMul, Nat.reduceEqDiff, Nat.reduceLeDiff, Nat.reduceBEq, reduceCtorEq, List.drop_succ_cons, List.drop_zero, List.take_succ_cons, List.take_zero, List.drop_nil, List.take_nil, ne_eq, Option.getD_some, List.length_map, List.all_cons, List.all_nil, List.range_zero, List.range_succ, ite_true, ite_false, TYX]
    refine fun _ => ⟨fun hl => ?_, fun hl => ?_⟩
    · simpa [freeOf, e1, e2, e4, hfd, hl] using h
    · intro _
      simpa [freeOf, e1, e2, e4, hfd, hl] using h
end Go.Proofs.Ytbfcfmcebdfndaa
