/- Contract of the reference's SamePrints. Conditions: those in it. -/
import Derived.Test.YtbfcfmcebdfndaaRf6
namespace Go.Proofs.Ytbfcfmcebdfndaa
open Go Go.Aw
set_option linter.unusedVariables false
set_option linter.unusedSimpArgs false

theorem Pr.ext' {p q : Pr} (h1 : p.day = q.day) (h2 : p.copies = q.copies) (h3 : p.owners = q.owners) : p = q := by
  cases p; cases q; simp_all
/-- wordbookref25.SamePrints, of equal lists. -/
theorem f_sameprints {a : List Pr} {H : AH} {R : D → AH → Prop} (h : R (.bool true) H) : ACall Try.prog 22 [.slc (prs a), .slc (prs a)] H R := by
  refine b22 fun hf => ?_
  have hbig := big_eq
  simp +contextual only [x22, prs_len, ↓u22_s0, ↓u22_s1, ↓u22_L2, ↓u22_s3, ↓u22_s4, ↓XA, XB, XL, XM, cellsOf, okc, one1, resOne, resAll, eqCells, cellEq, fits, sameK, List.length_cons, List.length_nil, List.replicate_succ, List.replicate_zero, List.cons_append, List.nil_append, List.append_nil, List.set_cons_succ, List.set_cons_zero, List.getD_cons_succ, List.getD_cons_zero, List.map_cons, List.map_nil, List.getElem?_cons_succ, List.getElem?_cons_zero, List.toList_toArray, Option.map_some, Option.map_none, Option.isSome_some, Option.isSome_none, Nat.reduceSub, Nat.reduceAdd, Nat.reduceMul, Nat.reduceEqDiff, Nat.reduceLeDiff, Nat.reduceBEq, reduceCtorEq, List.drop_succ_cons, List.drop_zero, List.take_succ_cons, List.take_zero, List.drop_nil, List.take_nil, ne_eq, Option.getD_some, List.length_map, List.all_cons, List.all_nil, List.range_zero, List.range_succ, ite_true, ite_false, TYX]
  intro ha
  refine XW.loopK hm (fun F H' => ∃ i : Nat, i ≤ a.length ∧ Fr 55 [(0, .slc (prs a)), (1, .slc (prs a)), (5, .int .i64 i)] F ∧ H = H') (fun F H => match F.getD 5 .any with | .int _ n => a.length - n.toNat | _ => 0) ⟨0, Nat.zero_le _, ⟨rfl, rfl, rfl, rfl, trivial⟩, rfl⟩ ?_
  rintro _ _ ⟨i, hi, hF, rfl⟩ K hN hE hR
  obtain ⟨z, rfl⟩ : ∃ z : Nat → D, _ = [.slc (prs a), .slc (prs a), z 2, z 3, z 4, .int .i64 i, z 6, z 7, z 8, z 9, z 10, z 11, z 12, z 13, z 14, z 15, z 16, z 17, z 18, z 19, z 20, z 21, z 22, z 23, z 24, z 25, z 26, z 27, z 28, z 29, z 30, z 31, z 32, z 33, z 34, z 35, z 36, z 37, z 38, z 39, z 40, z 41, z 42, z 43, z 44, z 45, z 46, z 47, z 48, z 49, z 50, z 51, z 52, z 53, z 54] := hF.lit
  clear hF
  by_cases hlt : i < a.length
  · have hd : a[i].d = [.int .i64 a[i].day, .int .i64 a[i].copies, .slc (strs a[i].owners)] := rfl
    simp +contextual only [prs_len, prs_get hlt, hd, wrap_succ (show i ≤ big by omega), ↓u22_s0, ↓u22_s1, ↓u22_L2, ↓u22_s3, ↓u22_s4, ↓XA, XB, XL, XM, cellsOf, okc, one1, resOne, resAll, eqCells, cellEq, fits, sameK, List.length_cons, List.length_nil, List.replicate_succ, List.replicate_zero, List.cons_append, List.nil_append, List.append_nil, List.set_cons_succ, List.set_cons_zero, List.getD_cons_succ, List.getD_cons_zero, List.map_cons, List.map_nil, List.getElem?_cons_succ, List.getElem?_cons_zero, List.toList_toArray, Option.map_some, Option.map_none, Option.isSome_some, Option.isSome_none, Nat.reduceSub, Nat.reduceAdd, Nat.reduceMul, Nat.reduceEqDiff, Nat.reduceLeDiff, Nat.reduceBEq, reduceCtorEq, List.drop_succ_cons, List.drop_zero, List.take_succ_cons, List.take_zero, List.drop_nil, List.take_nil, ne_eq, Option.getD_some, List.length_map, List.all_cons, List.all_nil, List.range_zero, List.range_succ, ite_true, ite_false, TYX]
    refine fun _ => ⟨fun _ _ _ _ => ⟨_, f_samenames ⟨rfl, rfl⟩, ?_⟩, fun hge => absurd hge (by omega)⟩
    simp +contextual only [↓u22_s0, ↓u22_s1, ↓u22_L2, ↓u22_s3, ↓u22_s4, ↓XA, XB, XL, XM, cellsOf, okc, one1, resOne, resAll, eqCells, cellEq, fits, sameK, List.length_cons, List.length_nil, List.replicate_succ, List.replicate_zero, List.cons_append, List.nil_append, List.append_nil, List.set_cons_succ, List.set_cons_zero, List.getD_cons_succ, List.getD_cons_zero, List.map_cons, List.map_nil, List.getElem?_cons_succ, List.getElem?_cons_zero, List.toList_toArray, Option.map_some, Option.map_none, Option.isSome_some, Option.isSome_none, Nat.reduceSub, Nat.reduceAdd, Nat.reduceMul, Nat.reduceEqDiff, Nat.reduceLeDiff, Nat.reduceBEq, reduceCtorEq, List.drop_succ_cons, List.drop_zero, List.take_succ_cons, List.take_zero, List.drop_nil, List.take_nil, ne_eq, Option.getD_some, List.length_map, List.all_cons, List.all_nil, List.range_zero, List.range_succ, ite_true, ite_false, TYX]
    rw [wrap_succ (by omega)]
    refine hN _ _ ⟨i + 1, hlt, ⟨rfl, rfl, rfl, rfl, trivial⟩, (back_0 rfl).symm⟩ ?_
    simp only [List.getD_cons_succ, List.getD_cons_zero]; omega
  · simp +contextual only [prs_len, ↓u22_s0, ↓u22_s1, ↓u22_L2, ↓u22_s3, ↓u22_s4, ↓XA, XB, XL, XM, cellsOf, okc, one1, resOne, resAll, eqCells, cellEq, fits, sameK, List.length_cons, List.length_nil, List.replicate_succ, List.replicate_zero, List.cons_append, List.nil_append, List.append_nil, List.set_cons_succ, List.set_cons_zero, List.getD_cons_succ, List.getD_cons_zero, List.map_cons, List.map_nil, List.getElem?_cons_succ, List.getElem?_cons_zero, List.toList_toArray, Option.map_some, Option.map_none, Option.isSome_some, Option.isSome_none, Nat.reduceSub, Nat.reduceAdd, Nat.reduceMul, Nat.reduceEqDiff, Nat.reduceLeDiff, Nat.reduceBEq, reduceCtorEq, List.drop_succ_cons, List.drop_zero, List.take_succ_cons, List.take_zero, List.drop_nil, List.take_nil, ne_eq, Option.getD_some, List.length_map, List.all_cons, List.all_nil, List.range_zero, List.range_succ, ite_true, ite_false, TYX]
    refine fun _ => ⟨fun h' => absurd h' (by omega), fun _ => hE _ _ _ ?_⟩
    simp +contextual only [↓u22_s0, ↓u22_s1, ↓u22_L2, ↓u22_s3, ↓u22_s4, ↓XA, XB, XL, XM, cellsOf, okc, one1, resOne, resAll, eqCells, cellEq, fits, sameK, List.length_cons, List.length_nil, List.replicate_succ, List.replicate_zero, List.cons_append, List.nil_append, List.append_nil, List.set_cons_succ, List.set_cons_zero, List.getD_cons_succ, List.getD_cons_zero, List.map_cons, List.map_nil, List.getElem?_cons_succ, List.getElem?_cons_zero, List.toList_toArray, Option.map_some, Option.map_none, Option.isSome_some, Option.isSome_none, Nat.reduceSub, Nat.reduceAdd, Nat.reduceMul, Nat.reduceEqDiff, Nat.reduceLeDiff, Nat.reduceBEq, reduceCtorEq, List.drop_succ_cons, List.drop_zero, List.take_succ_cons, List.take_zero, List.drop_nil, List.take_nil, ne_eq, Option.getD_some, List.length_map, List.all_cons, List.all_nil, List.range_zero, List.range_succ, ite_true, ite_false, TYX]
    exact h
end Go.Proofs.Ytbfcfmcebdfndaa
