/- Contract of RightsRecords: it returns true. Conditions: those in it. -/
import Derived.Test.YtbfcfmcebdfndaaRl1
import Derived.Test.YtbfcfmcebdfndaaRf7
import Derived.Test.YtbfcfmcebdfndaaXc4
import Derived.Test.YtbfcfmcebdfndaaRh7
namespace Go.Proofs.Ytbfcfmcebdfndaa
open Go Go.Aw
set_option linter.unusedVariables false
set_option linter.unusedSimpArgs false

def recL (l : List Tm) (done : List Pr) (p : Pr) : List Pr := if recErr l done p = 0 then done ++ [p] else []
theorem recD_eq {l : List Tm} {done : List Pr} {p : Pr} : recD l done p = .tup [.own (prs (recL l done p)), .int .i64 (recErr l done p)] := by
  unfold recD recL
  split <;> rfl
def zeroP : Pr := ⟨0, 0, []⟩
def fullP : List Pr := List.replicate 256 zeroP
theorem full_v : validPs fullP = true := by decide +kernel
theorem full_len : (prs fullP).length = 256 := by decide +kernel
theorem full_len' : fullP.length = 256 := by decide +kernel
theorem full_b : before fullP zeroP = false := by decide +kernel
theorem full_lim {l : List Int} : recErr (termsOf l) fullP zeroP = 4 := by
  have h1 : validP zeroP = true := by decide +kernel
  simp only [recErr, termsOf_valid, full_v, h1, full_b, full_len', Bool.and_self, Bool.not_false, Bool.and_true, if_true]
theorem full_arg {l : List Int} {p : Pr} : recErr (termsOf l) (fullP ++ [p]) zeroP = 1 := by
  have h1 : validPs (fullP ++ [p]) = false := by
    simp only [validPs, List.length_append, full_len', List.length_singleton]
    rfl
  simp only [recErr, h1, Bool.and_false, Bool.false_and, Bool.false_eq_true, if_false]
theorem info37 : (Try.prog.info? 37).map (·.bytes) = some 40 := by kernel_rfl
set_option maxHeartbeats 4000000 in
set_option maxRecDepth 100000 in
/-- RightsRecords -/
theorem r_records {terms : List Tm} {prints : List Pr} {l m : List Int} {p : Pr} {H : AH} {R : D → AH → Prop} (hsz : terms.length ≤ 1073741824) (hpo : p.owners.length ≤ 1073741824) (h : R (.bool true) H) :
    ACall Try.prog 4 [.slc (tms terms), .slc (prs prints), .slc (ints l), .slc (ints m), .agg p.d] H R := by
  refine b4 fun hf => ?_
  have hbig := big_eq
  have hta : (termsOf l).length ≤ 1073741824 := Nat.le_trans (termsTo_len 5) (by decide)
  obtain ⟨info, hi1, hi2⟩ : ∃ i, Try.prog.info? 37 = some i ∧ i.bytes = 40 := by
    have := info37
    cases hq : Try.prog.info? 37 with
    | none => rw [hq] at this; cases this
    | some i => rw [hq] at this; exact ⟨i, rfl, by simpa using this⟩
  simp +contextual only [x4, Pr.d, ↓u4_s0, ↓u4_s1, ↓u4_s2, ↓u4_s3, ↓u4_s4, ↓u4_s5, ↓u4_s6, ↓u4_s7, ↓u4_s8, ↓XA, XB, XL, XM, cellsOf, okc, one1, resOne, resAll, eqCells, cellEq, fits, sameK, List.length_cons, List.length_nil, List.replicate_succ, List.replicate_zero, List.cons_append, List.nil_append, List.append_nil, List.set_cons_succ, List.set_cons_zero, List.getD_cons_succ, List.getD_cons_zero, List.map_cons, List.map_nil, List.getElem?_cons_succ, List.getElem?_cons_zero, List.toList_toArray, Option.map_some, Option.map_none, Option.isSome_some, Option.isSome_none, Nat.reduceSub, Nat.reduceAdd, Nat.reduceMul, Nat.reduceEqDiff, Nat.reduceLeDiff, Nat.reduceBEq, reduceCtorEq, List.drop_succ_cons, List.drop_zero, List.take_succ_cons, List.take_zero, List.drop_nil, List.take_nil, ne_eq, Option.getD_some, List.length_map, List.all_cons, List.all_nil, List.range_zero, List.range_succ, ite_true, ite_false, TYX]
  intro b1 h1
  intros
  refine f_terms ?_
  simp +contextual only [↓u4_s0, ↓u4_s1, ↓u4_s2, ↓u4_s3, ↓u4_s4, ↓u4_s5, ↓u4_s6, ↓u4_s7, ↓u4_s8, ↓XA, XB, XL, XM, cellsOf, okc, one1, resOne, resAll, eqCells, cellEq, fits, sameK, List.length_cons, List.length_nil, List.replicate_succ, List.replicate_zero, List.cons_append, List.nil_append, List.append_nil, List.set_cons_succ, List.set_cons_zero, List.getD_cons_succ, List.getD_cons_zero, List.map_cons, List.map_nil, List.getElem?_cons_succ, List.getElem?_cons_zero, List.toList_toArray, Option.map_some, Option.map_none, Option.isSome_some, Option.isSome_none, Nat.reduceSub, Nat.reduceAdd, Nat.reduceMul, Nat.reduceEqDiff, Nat.reduceLeDiff, Nat.reduceBEq, reduceCtorEq, List.drop_succ_cons, List.drop_zero, List.take_succ_cons, List.take_zero, List.drop_nil, List.take_nil, ne_eq, Option.getD_some, List.length_map, List.all_cons, List.all_nil, List.range_zero, List.range_succ, ite_true, ite_false, TYX]
  intros
  refine f_done ?_
  simp +contextual only [↓u4_s0, ↓u4_s1, ↓u4_s2, ↓u4_s3, ↓u4_s4, ↓u4_s5, ↓u4_s6, ↓u4_s7, ↓u4_s8, ↓XA, XB, XL, XM, cellsOf, okc, one1, resOne, resAll, eqCells, cellEq, fits, sameK, List.length_cons, List.length_nil, List.replicate_succ, List.replicate_zero, List.cons_append, List.nil_append, List.append_nil, List.set_cons_succ, List.set_cons_zero, List.getD_cons_succ, List.getD_cons_zero, List.map_cons, List.map_nil, List.getElem?_cons_succ, List.getElem?_cons_zero, List.toList_toArray, Option.map_some, Option.map_none, Option.isSome_some, Option.isSome_none, Nat.reduceSub, Nat.reduceAdd, Nat.reduceMul, Nat.reduceEqDiff, Nat.reduceLeDiff, Nat.reduceBEq, reduceCtorEq, List.drop_succ_cons, List.drop_zero, List.take_succ_cons, List.take_zero, List.drop_nil, List.take_nil, ne_eq, Option.getD_some, List.length_map, List.all_cons, List.all_nil, List.range_zero, List.range_succ, ite_true, ite_false, TYX]
  intros
  refine r_record (p := p) hpo ?_
  rw [recD_eq]
  simp +contextual only [↓u4_s0, ↓u4_s1, ↓u4_s2, ↓u4_s3, ↓u4_s4, ↓u4_s5, ↓u4_s6, ↓u4_s7, ↓u4_s8, ↓XA, XB, XL, XM, cellsOf, okc, one1, resOne, resAll, eqCells, cellEq, fits, sameK, List.length_cons, List.length_nil, List.replicate_succ, List.replicate_zero, List.cons_append, List.nil_append, List.append_nil, List.set_cons_succ, List.set_cons_zero, List.getD_cons_succ, List.getD_cons_zero, List.map_cons, List.map_nil, List.getElem?_cons_succ, List.getElem?_cons_zero, List.toList_toArray, Option.map_some, Option.map_none, Option.isSome_some, Option.isSome_none, Nat.reduceSub, Nat.reduceAdd, Nat.reduceMul, Nat.reduceEqDiff, Nat.reduceLeDiff, Nat.reduceBEq, reduceCtorEq, List.drop_succ_cons, List.drop_zero, List.take_succ_cons, List.take_zero, List.drop_nil, List.take_nil, ne_eq, Option.getD_some, List.length_map, List.all_cons, List.all_nil, List.range_zero, List.range_succ, ite_true, ite_false, TYX]
  intros
  refine f_record (p := p) hsz ?_
  rw [recD_eq]
  simp +contextual only [↓u4_s0, ↓u4_s1, ↓u4_s2, ↓u4_s3, ↓u4_s4, ↓u4_s5, ↓u4_s6, ↓u4_s7, ↓u4_s8, ↓XA, XB, XL, XM, cellsOf, okc, one1, resOne, resAll, eqCells, cellEq, fits, sameK, List.length_cons, List.length_nil, List.replicate_succ, List.replicate_zero, List.cons_append, List.nil_append, List.append_nil, List.set_cons_succ, List.set_cons_zero, List.getD_cons_succ, List.getD_cons_zero, List.map_cons, List.map_nil, List.getElem?_cons_succ, List.getElem?_cons_zero, List.toList_toArray, Option.map_some, Option.map_none, Option.isSome_some, Option.isSome_none, Nat.reduceSub, Nat.reduceAdd, Nat.reduceMul, Nat.reduceEqDiff, Nat.reduceLeDiff, Nat.reduceBEq, reduceCtorEq, List.drop_succ_cons, List.drop_zero, List.take_succ_cons, List.take_zero, List.drop_nil, List.take_nil, ne_eq, Option.getD_some, List.length_map, List.all_cons, List.all_nil, List.range_zero, List.range_succ, ite_true, ite_false, TYX]
  intros
  refine r_record (p := p) hpo ?_
  rw [recD_eq]
  simp +contextual only [↓u4_s0, ↓u4_s1, ↓u4_s2, ↓u4_s3, ↓u4_s4, ↓u4_s5, ↓u4_s6, ↓u4_s7, ↓u4_s8, ↓XA, XB, XL, XM, cellsOf, okc, one1, resOne, resAll, eqCells, cellEq, fits, sameK, List.length_cons, List.length_nil, List.replicate_succ, List.replicate_zero, List.cons_append, List.nil_append, List.append_nil, List.set_cons_succ, List.set_cons_zero, List.getD_cons_succ, List.getD_cons_zero, List.map_cons, List.map_nil, List.getElem?_cons_succ, List.getElem?_cons_zero, List.toList_toArray, Option.map_some, Option.map_none, Option.isSome_some, Option.isSome_none, Nat.reduceSub, Nat.reduceAdd, Nat.reduceMul, Nat.reduceEqDiff, Nat.reduceLeDiff, Nat.reduceBEq, reduceCtorEq, List.drop_succ_cons, List.drop_zero, List.take_succ_cons, List.take_zero, List.drop_nil, List.take_nil, ne_eq, Option.getD_some, List.length_map, List.all_cons, List.all_nil, List.range_zero, List.range_succ, ite_true, ite_false, TYX]
  intros
  refine f_record (p := p) hta ?_
  rw [recD_eq]
  simp +contextual only [hi1, ↓u4_s0, ↓u4_s1, ↓u4_s2, ↓u4_s3, ↓u4_s4, ↓u4_s5, ↓u4_s6, ↓u4_s7, ↓u4_s8, ↓XA, XB, XL, XM, cellsOf, okc, one1, resOne, resAll, eqCells, cellEq, fits, sameK, List.length_cons, List.length_nil, List.replicate_succ, List.replicate_zero, List.cons_append, List.nil_append, List.append_nil, List.set_cons_succ, List.set_cons_zero, List.getD_cons_succ, List.getD_cons_zero, List.map_cons, List.map_nil, List.getElem?_cons_succ, List.getElem?_cons_zero, List.toList_toArray, Option.map_some, Option.map_none, Option.isSome_some, Option.isSome_none, Nat.reduceSub, Nat.reduceAdd, Nat.reduceMul, Nat.reduceEqDiff, Nat.reduceLeDiff, Nat.reduceBEq, reduceCtorEq, List.drop_succ_cons, List.drop_zero, List.take_succ_cons, List.take_zero, List.drop_nil, List.take_nil, ne_eq, Option.getD_some, List.length_map, List.all_cons, List.all_nil, List.range_zero, List.range_succ, ite_true, ite_false, TYX]
  refine fun _ _ => ⟨by omega, ⟨by rw [hi2]; omega, by omega⟩, ?_⟩
  rw [show List.replicate (Int.toNat 256) [D.int .i64 0, D.int .i64 0, D.slc []] = prs fullP from (List.map_replicate).symm]
  refine r_record (l := termsOf l) (done := fullP) (p := zeroP) (by decide) ?_
  rw [recD_eq, full_lim]
  simp +contextual only [prs_len, full_len', ↓u4_s0, ↓u4_s1, ↓u4_s2, ↓u4_s3, ↓u4_s4, ↓u4_s5, ↓u4_s6, ↓u4_s7, ↓u4_s8, ↓XA, XB, XL, XM, cellsOf, okc, one1, resOne, resAll, eqCells, cellEq, fits, sameK, List.length_cons, List.length_nil, List.replicate_succ, List.replicate_zero, List.cons_append, List.nil_append, List.append_nil, List.set_cons_succ, List.set_cons_zero, List.getD_cons_succ, List.getD_cons_zero, List.map_cons, List.map_nil, List.getElem?_cons_succ, List.getElem?_cons_zero, List.toList_toArray, Option.map_some, Option.map_none, Option.isSome_some, Option.isSome_none, Nat.reduceSub, Nat.reduceAdd, Nat.reduceMul, Nat.reduceEqDiff, Nat.reduceLeDiff, Nat.reduceBEq, reduceCtorEq, List.drop_succ_cons, List.drop_zero, List.take_succ_cons, List.take_zero, List.drop_nil, List.take_nil, ne_eq, Option.getD_some, List.length_map, List.all_cons, List.all_nil, List.range_zero, List.range_succ, ite_true, ite_false, TYX]
  intros
  have ap : prs fullP ++ [[.int .i64 p.day, .int .i64 p.copies, .slc (strs p.owners)]] = prs (fullP ++ [p]) := by simp [prs, Pr.d]
  rw [ap]
  refine ⟨prs_3, r_record (l := termsOf l) (done := fullP ++ [p]) (p := zeroP) (by decide) ?_⟩
  rw [recD_eq, full_arg]
  simp +contextual only [↓u4_s0, ↓u4_s1, ↓u4_s2, ↓u4_s3, ↓u4_s4, ↓u4_s5, ↓u4_s6, ↓u4_s7, ↓u4_s8, ↓XA, XB, XL, XM, cellsOf, okc, one1, resOne, resAll, eqCells, cellEq, fits, sameK, List.length_cons, List.length_nil, List.replicate_succ, List.replicate_zero, List.cons_append, List.nil_append, List.append_nil, List.set_cons_succ, List.set_cons_zero, List.getD_cons_succ, List.getD_cons_zero, List.map_cons, List.map_nil, List.getElem?_cons_succ, List.getElem?_cons_zero, List.toList_toArray, Option.map_some, Option.map_none, Option.isSome_some, Option.isSome_none, Nat.reduceSub, Nat.reduceAdd, Nat.reduceMul, Nat.reduceEqDiff, Nat.reduceLeDiff, Nat.reduceBEq, reduceCtorEq, List.drop_succ_cons, List.drop_zero, List.take_succ_cons, List.take_zero, List.drop_nil, List.take_nil, ne_eq, Option.getD_some, List.length_map, List.all_cons, List.all_nil, List.range_zero, List.range_succ, ite_true, ite_false, TYX]
  intros
  refine f_sameprints ?_
  simp +contextual only [↓u4_s0, ↓u4_s1, ↓u4_s2, ↓u4_s3, ↓u4_s4, ↓u4_s5, ↓u4_s6, ↓u4_s7, ↓u4_s8, ↓XA, XB, XL, XM, cellsOf, okc, one1, resOne, resAll, eqCells, cellEq, fits, sameK, List.length_cons, List.length_nil, List.replicate_succ, List.replicate_zero, List.cons_append, List.nil_append, List.append_nil, List.set_cons_succ, List.set_cons_zero, List.getD_cons_succ, List.getD_cons_zero, List.map_cons, List.map_nil, List.getElem?_cons_succ, List.getElem?_cons_zero, List.toList_toArray, Option.map_some, Option.map_none, Option.isSome_some, Option.isSome_none, Nat.reduceSub, Nat.reduceAdd, Nat.reduceMul, Nat.reduceEqDiff, Nat.reduceLeDiff, Nat.reduceBEq, reduceCtorEq, List.drop_succ_cons, List.drop_zero, List.take_succ_cons, List.take_zero, List.drop_nil, List.take_nil, ne_eq, Option.getD_some, List.length_map, List.all_cons, List.all_nil, List.range_zero, List.range_succ, ite_true, ite_false, TYX]
  intros
  refine f_sameprints ?_
  simp +contextual only [↓u4_s0, ↓u4_s1, ↓u4_s2, ↓u4_s3, ↓u4_s4, ↓u4_s5, ↓u4_s6, ↓u4_s7, ↓u4_s8, ↓XA, XB, XL, XM, cellsOf, okc, one1, resOne, resAll, eqCells, cellEq, fits, sameK, List.length_cons, List.length_nil, List.replicate_succ, List.replicate_zero, List.cons_append, List.nil_append, List.append_nil, List.set_cons_succ, List.set_cons_zero, List.getD_cons_succ, List.getD_cons_zero, List.map_cons, List.map_nil, List.getElem?_cons_succ, List.getElem?_cons_zero, List.toList_toArray, Option.map_some, Option.map_none, Option.isSome_some, Option.isSome_none, Nat.reduceSub, Nat.reduceAdd, Nat.reduceMul, Nat.reduceEqDiff, Nat.reduceLeDiff, Nat.reduceBEq, reduceCtorEq, List.drop_succ_cons, List.drop_zero, List.take_succ_cons, List.take_zero, List.drop_nil, List.take_nil, ne_eq, Option.getD_some, List.length_map, List.all_cons, List.all_nil, List.range_zero, List.range_succ, ite_true, ite_false, TYX]
  intros
  refine r_lives ?_
  simp +contextual only [↓u4_s0, ↓u4_s1, ↓u4_s2, ↓u4_s3, ↓u4_s4, ↓u4_s5, ↓u4_s6, ↓u4_s7, ↓u4_s8, ↓XA, XB, XL, XM, cellsOf, okc, one1, resOne, resAll, eqCells, cellEq, fits, sameK, List.length_cons, List.length_nil, List.replicate_succ, List.replicate_zero, List.cons_append, List.nil_append, List.append_nil, List.set_cons_succ, List.set_cons_zero, List.getD_cons_succ, List.getD_cons_zero, List.map_cons, List.map_nil, List.getElem?_cons_succ, List.getElem?_cons_zero, List.toList_toArray, Option.map_some, Option.map_none, Option.isSome_some, Option.isSome_none, Nat.reduceSub, Nat.reduceAdd, Nat.reduceMul, Nat.reduceEqDiff, Nat.reduceLeDiff, Nat.reduceBEq, reduceCtorEq, List.drop_succ_cons, List.drop_zero, List.take_succ_cons, List.take_zero, List.drop_nil, List.take_nil, ne_eq, Option.getD_some, List.length_map, List.all_cons, List.all_nil, List.range_zero, List.range_succ, ite_true, ite_false, TYX]
  exact h
end Go.Proofs.Ytbfcfmcebdfndaa
