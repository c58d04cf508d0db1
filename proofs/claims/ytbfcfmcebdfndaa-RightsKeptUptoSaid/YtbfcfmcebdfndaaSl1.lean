/- Contracts of functions of package slices and cmp, as this seat's program has them. Conditions: those in each. -/
import Derived.Test.YtbfcfmcebdfndaaAw18
import Derived.Test.YtbfcfmcebdfndaaXc
namespace Go.Proofs.Ytbfcfmcebdfndaa
open Go Go.Aw
set_option linter.unusedVariables false
set_option linter.unusedSimpArgs false
/-- slices.IndexFunc over structs, with a function that may change variables. -/
theorem term_idx {xs : List (List D)} {g : FuncId} {caps : List D} {Hs : Nat → AH} {p : Nat → Bool} {R : D → AH → Prop} (hl : ∀ x ∈ xs, x.length = 3) (hh : ∀ i, (Hs i).length = (Hs 0).length)
    (hstep : ∀ i x, xs[i]? = some x → (∀ j, j < i → p j = false) → ∀ (R' : D → AH → Prop), R' (.bool (p i)) (Hs (i + 1)) → ACall Try.prog g (.agg x :: caps) (Hs i) R')
    (hyes : ∀ i, i < xs.length → (∀ j, j < i → p j = false) → p i = true → R (.int .i64 i) (Hs (i + 1))) (hno : (∀ j, j < xs.length → p j = false) → R (.int .i64 (-1)) (Hs xs.length)) : ACall Try.prog 48 [.slc xs, .fn g caps] (Hs 0) R := by
  refine b48 fun hf => ?_
  simp +contextual only [x48, ↓u48_s0, ↓u48_s1, ↓u48_L2, ↓u48_s3, ↓XA, XB, XL, XM, cellsOf, okc, one1, resOne, resAll, eqCells, cellEq, fits, sameK, List.length_cons, List.length_nil, List.replicate_succ, List.replicate_zero, List.cons_append, List.nil_append, List.append_nil, List.set_cons_succ, List.set_cons_zero, List.getD_cons_succ, List.getD_cons_zero, List.map_cons, List.map_nil, List.getElem?_cons_succ, List.getElem?_cons_zero, List.toList_toArray, Option.map_some, Option.map_none, Option.isSome_some, Option.isSome_none, Nat.reduceSub, Nat.reduceAdd, Nat.reduceMul, Nat.reduceEqDiff, Nat.reduceLeDiff, Nat.reduceBEq, reduceCtorEq, List.drop_succ_cons, List.drop_zero, List.take_succ_cons, List.take_zero, List.drop_nil, List.take_nil, ne_eq, Option.getD_some, List.length_map, List.all_cons, List.all_nil, List.range_zero, List.range_succ, ite_true, ite_false, TYX]
  intro hb
  refine XW.loop hm (fun F H => ∃ i z2 z3 z4 z5 z6 z9 z10 z11 z12 z13 z14 z15 z16 z17 z18, i ≤ xs.length ∧ (∀ j, j < i → p j = false) ∧ F = [.slc xs, .fn g caps, z2, z3, z4, z5, z6, .int .i64 xs.length, .int .i64 i, z9, z10, z11, z12, z13, z14, z15, z16, z17, z18] ∧ H = Hs i) (fun F H => match F.getD 8 .any with | .int _ n => xs.length - n.toNat | _ => 0) ⟨0, _, _, _, _, _, _, _, _, _, _, _, _, _, _, _, Nat.zero_le _, fun j hj => absurd hj (Nat.not_lt_zero j), rfl, rfl⟩ ?_
  rintro _ _ ⟨i, z2, z3, z4, z5, z6, z9, z10, z11, z12, z13, z14, z15, z16, z17, z18, hi, hp, rfl, rfl⟩
  simp +contextual only [↓u48_s0, ↓u48_s1, ↓u48_L2, ↓u48_s3, ↓XA, XB, XL, XM, cellsOf, okc, one1, resOne, resAll, eqCells, cellEq, fits, sameK, List.length_cons, List.length_nil, List.replicate_succ, List.replicate_zero, List.cons_append, List.nil_append, List.append_nil, List.set_cons_succ, List.set_cons_zero, List.getD_cons_succ, List.getD_cons_zero, List.map_cons, List.map_nil, List.getElem?_cons_succ, List.getElem?_cons_zero, List.toList_toArray, Option.map_some, Option.map_none, Option.isSome_some, Option.isSome_none, Nat.reduceSub, Nat.reduceAdd, Nat.reduceMul, Nat.reduceEqDiff, Nat.reduceLeDiff, Nat.reduceBEq, reduceCtorEq, List.drop_succ_cons, List.drop_zero, List.take_succ_cons, List.take_zero, List.drop_nil, List.take_nil, ne_eq, Option.getD_some, List.length_map, List.all_cons, List.all_nil, List.range_zero, List.range_succ, ite_true, ite_false, TYX]
  refine ⟨fun hlt => ?_, fun hge => ?_⟩
  · have hlt' : i < xs.length := by omega
    have hg : xs.getD i [] = xs[i] := by simp [hlt']
    have h3 := hl _ (List.getElem_mem hlt')
    rw [hg, List.take_of_length_le (by omega)]
    refine ⟨h3, by omega, hstep i _ (List.getElem?_eq_getElem hlt') hp _ ?_⟩
    cases hpi : p i
    · simp +contextual only [↓u48_s0, ↓u48_s1, ↓u48_L2, ↓u48_s3, ↓XA, XB, XL, XM, cellsOf, okc, one1, resOne, resAll, eqCells, cellEq, fits, sameK, List.length_cons, List.length_nil, List.replicate_succ, List.replicate_zero, List.cons_append, List.nil_append, List.append_nil, List.set_cons_succ, List.set_cons_zero, List.getD_cons_succ, List.getD_cons_zero, List.map_cons, List.map_nil, List.getElem?_cons_succ, List.getElem?_cons_zero, List.toList_toArray, Option.map_some, Option.map_none, Option.isSome_some, Option.isSome_none, Nat.reduceSub, Nat.reduceAdd, Nat.reduceMul, Nat.reduceEqDiff, Nat.reduceLeDiff, Nat.reduceBEq, reduceCtorEq, List.drop_succ_cons, List.drop_zero, List.take_succ_cons, List.take_zero, List.drop_nil, List.take_nil, ne_eq, Option.getD_some, List.length_map, List.all_cons, List.all_nil, List.range_zero, List.range_succ, ite_true, ite_false, TYX]
      rw [back_0 (by rw [hh, hh i]), wrap_succ (by omega)]
      refine ⟨⟨i + 1, _, _, _, _, _, _, _, _, _, _, _, _, _, _, _, hlt', fun j hj => ?_, rfl, rfl⟩, ?_⟩
      · rcases Nat.lt_succ_iff_lt_or_eq.1 hj with h | rfl
        · exact hp j h
        · exact hpi
      · omega
    · simp +contextual only [↓u48_s0, ↓u48_s1, ↓u48_L2, ↓u48_s3, ↓XA, XB, XL, XM, cellsOf, okc, one1, resOne, resAll, eqCells, cellEq, fits, sameK, List.length_cons, List.length_nil, List.replicate_succ, List.replicate_zero, List.cons_append, List.nil_append, List.append_nil, List.set_cons_succ, List.set_cons_zero, List.getD_cons_succ, List.getD_cons_zero, List.map_cons, List.map_nil, List.getElem?_cons_succ, List.getElem?_cons_zero, List.toList_toArray, Option.map_some, Option.map_none, Option.isSome_some, Option.isSome_none, Nat.reduceSub, Nat.reduceAdd, Nat.reduceMul, Nat.reduceEqDiff, Nat.reduceLeDiff, Nat.reduceBEq, reduceCtorEq, List.drop_succ_cons, List.drop_zero, List.take_succ_cons, List.take_zero, List.drop_nil, List.take_nil, ne_eq, Option.getD_some, List.length_map, List.all_cons, List.all_nil, List.range_zero, List.range_succ, ite_true, ite_false, TYX]
      rw [back_0 (by rw [hh])]
      exact hyes i hlt' hp hpi
  · rw [back_0 (hh i)]
    have : i = xs.length := by omega
    subst this
    exact hno hp
/-- slices.ContainsFunc over structs. -/
theorem term_con {xs : List (List D)} {g : FuncId} {caps : List D} {Hs : Nat → AH} {p : Nat → Bool} {R : D → AH → Prop} (hl : ∀ x ∈ xs, x.length = 3) (hh : ∀ i, (Hs i).length = (Hs 0).length)
    (hstep : ∀ i x, xs[i]? = some x → (∀ j, j < i → p j = false) → ∀ (R' : D → AH → Prop), R' (.bool (p i)) (Hs (i + 1)) → ACall Try.prog g (.agg x :: caps) (Hs i) R')
    (hyes : ∀ i, i < xs.length → (∀ j, j < i → p j = false) → p i = true → R (.bool true) (Hs (i + 1))) (hno : (∀ j, j < xs.length → p j = false) → R (.bool false) (Hs xs.length)) : ACall Try.prog 35 [.slc xs, .fn g caps] (Hs 0) R := by
  refine b35 fun hf => ?_
  simp +contextual only [x35, ↓u35_s0, ↓XA, XB, XL, XM, cellsOf, okc, one1, resOne, resAll, eqCells, cellEq, fits, sameK, List.length_cons, List.length_nil, List.replicate_succ, List.replicate_zero, List.cons_append, List.nil_append, List.append_nil, List.set_cons_succ, List.set_cons_zero, List.getD_cons_succ, List.getD_cons_zero, List.map_cons, List.map_nil, List.getElem?_cons_succ, List.getElem?_cons_zero, List.toList_toArray, Option.map_some, Option.map_none, Option.isSome_some, Option.isSome_none, Nat.reduceSub, Nat.reduceAdd, Nat.reduceMul, Nat.reduceEqDiff, Nat.reduceLeDiff, Nat.reduceBEq, reduceCtorEq, List.drop_succ_cons, List.drop_zero, List.take_succ_cons, List.take_zero, List.drop_nil, List.take_nil, ne_eq, Option.getD_some, List.length_map, List.all_cons, List.all_nil, List.range_zero, List.range_succ, ite_true, ite_false, TYX]
  refine term_idx hl hh hstep (fun i hi hp hpi => ?_) (fun hp => ?_)
  · simp +contextual only [↓u35_s0, ↓XA, XB, XL, XM, cellsOf, okc, one1, resOne, resAll, eqCells, cellEq, fits, sameK, List.length_cons, List.length_nil, List.replicate_succ, List.replicate_zero, List.cons_append, List.nil_append, List.append_nil, List.set_cons_succ, List.set_cons_zero, List.getD_cons_succ, List.getD_cons_zero, List.map_cons, List.map_nil, List.getElem?_cons_succ, List.getElem?_cons_zero, List.toList_toArray, Option.map_some, Option.map_none, Option.isSome_some, Option.isSome_none, Nat.reduceSub, Nat.reduceAdd, Nat.reduceMul, Nat.reduceEqDiff, Nat.reduceLeDiff, Nat.reduceBEq, reduceCtorEq, List.drop_succ_cons, List.drop_zero, List.take_succ_cons, List.take_zero, List.drop_nil, List.take_nil, ne_eq, Option.getD_some, List.length_map, List.all_cons, List.all_nil, List.range_zero, List.range_succ, ite_true, ite_false, TYX]
    rw [back_0 (by rw [hh])]
    exact fun _ => hyes i hi hp hpi
  · simp +contextual only [↓u35_s0, ↓XA, XB, XL, XM, cellsOf, okc, one1, resOne, resAll, eqCells, cellEq, fits, sameK, List.length_cons, List.length_nil, List.replicate_succ, List.replicate_zero, List.cons_append, List.nil_append, List.append_nil, List.set_cons_succ, List.set_cons_zero, List.getD_cons_succ, List.getD_cons_zero, List.map_cons, List.map_nil, List.getElem?_cons_succ, List.getElem?_cons_zero, List.toList_toArray, Option.map_some, Option.map_none, Option.isSome_some, Option.isSome_none, Nat.reduceSub, Nat.reduceAdd, Nat.reduceMul, Nat.reduceEqDiff, Nat.reduceLeDiff, Nat.reduceBEq, reduceCtorEq, List.drop_succ_cons, List.drop_zero, List.take_succ_cons, List.take_zero, List.drop_nil, List.take_nil, ne_eq, Option.getD_some, List.length_map, List.all_cons, List.all_nil, List.range_zero, List.range_succ, ite_true, ite_false, TYX]
    rw [back_0 (by rw [hh])]
    exact fun _ => hno hp

/-- slices.IndexFunc over structs, with a function that may change variables. -/
theorem print_idx {xs : List (List D)} {g : FuncId} {caps : List D} {Hs : Nat → AH} {p : Nat → Bool} {R : D → AH → Prop} (hl : ∀ x ∈ xs, x.length = 3) (hh : ∀ i, (Hs i).length = (Hs 0).length)
    (hstep : ∀ i x, xs[i]? = some x → (∀ j, j < i → p j = false) → ∀ (R' : D → AH → Prop), R' (.bool (p i)) (Hs (i + 1)) → ACall Try.prog g (.agg x :: caps) (Hs i) R')
    (hyes : ∀ i, i < xs.length → (∀ j, j < i → p j = false) → p i = true → R (.int .i64 i) (Hs (i + 1))) (hno : (∀ j, j < xs.length → p j = false) → R (.int .i64 (-1)) (Hs xs.length)) : ACall Try.prog 54 [.slc xs, .fn g caps] (Hs 0) R := by
  refine b54 fun hf => ?_
  simp +contextual only [x54, ↓u54_s0, ↓u54_s1, ↓u54_L2, ↓u54_s3, ↓XA, XB, XL, XM, cellsOf, okc, one1, resOne, resAll, eqCells, cellEq, fits, sameK, List.length_cons, List.length_nil, List.replicate_succ, List.replicate_zero, List.cons_append, List.nil_append, List.append_nil, List.set_cons_succ, List.set_cons_zero, List.getD_cons_succ, List.getD_cons_zero, List.map_cons, List.map_nil, List.getElem?_cons_succ, List.getElem?_cons_zero, List.toList_toArray, Option.map_some, Option.map_none, Option.isSome_some, Option.isSome_none, Nat.reduceSub, Nat.reduceAdd, Nat.reduceMul, Nat.reduceEqDiff, Nat.reduceLeDiff, Nat.reduceBEq, reduceCtorEq, List.drop_succ_cons, List.drop_zero, List.take_succ_cons, List.take_zero, List.drop_nil, List.take_nil, ne_eq, Option.getD_some, List.length_map, List.all_cons, List.all_nil, List.range_zero, List.range_succ, ite_true, ite_false, TYX]
  intro hb
  refine XW.loop hm (fun F H => ∃ i z2 z3 z4 z5 z6 z9 z10 z11 z12 z13 z14 z15 z16 z17 z18, i ≤ xs.length ∧ (∀ j, j < i → p j = false) ∧ F = [.slc xs, .fn g caps, z2, z3, z4, z5, z6, .int .i64 xs.length, .int .i64 i, z9, z10, z11, z12, z13, z14, z15, z16, z17, z18] ∧ H = Hs i) (fun F H => match F.getD 8 .any with | .int _ n => xs.length - n.toNat | _ => 0) ⟨0, _, _, _, _, _, _, _, _, _, _, _, _, _, _, _, Nat.zero_le _, fun j hj => absurd hj (Nat.not_lt_zero j), rfl, rfl⟩ ?_
  rintro _ _ ⟨i, z2, z3, z4, z5, z6, z9, z10, z11, z12, z13, z14, z15, z16, z17, z18, hi, hp, rfl, rfl⟩
  simp +contextual only [↓u54_s0, ↓u54_s1, ↓u54_L2, ↓u54_s3, ↓XA, XB, XL, XM, cellsOf, okc, one1, resOne, resAll, eqCells, cellEq, fits, sameK, List.length_cons, List.length_nil, List.replicate_succ, List.replicate_zero, List.cons_append, List.nil_append, List.append_nil, List.set_cons_succ, List.set_cons_zero, List.getD_cons_succ, List.getD_cons_zero, List.map_cons, List.map_nil, List.getElem?_cons_succ, List.getElem?_cons_zero, List.toList_toArray, Option.map_some, Option.map_none, Option.isSome_some, Option.isSome_none, Nat.reduceSub, Nat.reduceAdd, Nat.reduceMul, Nat.reduceEqDiff, Nat.reduceLeDiff, Nat.reduceBEq, reduceCtorEq, List.drop_succ_cons, List.drop_zero, List.take_succ_cons, List.take_zero, List.drop_nil, List.take_nil, ne_eq, Option.getD_some, List.length_map, List.all_cons, List.all_nil, List.range_zero, List.range_succ, ite_true, ite_false, TYX]
  refine ⟨fun hlt => ?_, fun hge => ?_⟩
  · have hlt' : i < xs.length := by omega
    have hg : xs.getD i [] = xs[i] := by simp [hlt']
    have h3 := hl _ (List.getElem_mem hlt')
    rw [hg, List.take_of_length_le (by omega)]
    refine ⟨h3, by omega, hstep i _ (List.getElem?_eq_getElem hlt') hp _ ?_⟩
    cases hpi : p i
    · simp +contextual only [↓u54_s0, ↓u54_s1, ↓u54_L2, ↓u54_s3, ↓XA, XB, XL, XM, cellsOf, okc, one1, resOne, resAll, eqCells, cellEq, fits, sameK, List.length_cons, List.length_nil, List.replicate_succ, List.replicate_zero, List.cons_append, List.nil_append, List.append_nil, List.set_cons_succ, List.set_cons_zero, List.getD_cons_succ, List.getD_cons_zero, List.map_cons, List.map_nil, List.getElem?_cons_succ, List.getElem?_cons_zero, List.toList_toArray, Option.map_some, Option.map_none, Option.isSome_some, Option.isSome_none, Nat.reduceSub, Nat.reduceAdd, Nat.reduceMul, Nat.reduceEqDiff, Nat.reduceLeDiff, Nat.reduceBEq, reduceCtorEq, List.drop_succ_cons, List.drop_zero, List.take_succ_cons, List.take_zero, List.drop_nil, List.take_nil, ne_eq, Option.getD_some, List.length_map, List.all_cons, List.all_nil, List.range_zero, List.range_succ, ite_true, ite_false, TYX]
      rw [back_0 (by rw [hh, hh i]), wrap_succ (by omega)]
      refine ⟨⟨i + 1, _, _, _, _, _, _, _, _, _, _, _, _, _, _, _, hlt', fun j hj => ?_, rfl, rfl⟩, ?_⟩
      · rcases Nat.lt_succ_iff_lt_or_eq.1 hj with h | rfl
        · exact hp j h
        · exact hpi
      · omega
    · simp +contextual only [↓u54_s0, ↓u54_s1, ↓u54_L2, ↓u54_s3, ↓XA, XB, XL, XM, cellsOf, okc, one1, resOne, resAll, eqCells, cellEq, fits, sameK, List.length_cons, List.length_nil, List.replicate_succ, List.replicate_zero, List.cons_append, List.nil_append, List.append_nil, List.set_cons_succ, List.set_cons_zero, List.getD_cons_succ, List.getD_cons_zero, List.map_cons, List.map_nil, List.getElem?_cons_succ, List.getElem?_cons_zero, List.toList_toArray, Option.map_some, Option.map_none, Option.isSome_some, Option.isSome_none, Nat.reduceSub, Nat.reduceAdd, Nat.reduceMul, Nat.reduceEqDiff, Nat.reduceLeDiff, Nat.reduceBEq, reduceCtorEq, List.drop_succ_cons, List.drop_zero, List.take_succ_cons, List.take_zero, List.drop_nil, List.take_nil, ne_eq, Option.getD_some, List.length_map, List.all_cons, List.all_nil, List.range_zero, List.range_succ, ite_true, ite_false, TYX]
      rw [back_0 (by rw [hh])]
      exact hyes i hlt' hp hpi
  · rw [back_0 (hh i)]
    have : i = xs.length := by omega
    subst this
    exact hno hp
/-- slices.ContainsFunc over structs. -/
theorem print_con {xs : List (List D)} {g : FuncId} {caps : List D} {Hs : Nat → AH} {p : Nat → Bool} {R : D → AH → Prop} (hl : ∀ x ∈ xs, x.length = 3) (hh : ∀ i, (Hs i).length = (Hs 0).length)
    (hstep : ∀ i x, xs[i]? = some x → (∀ j, j < i → p j = false) → ∀ (R' : D → AH → Prop), R' (.bool (p i)) (Hs (i + 1)) → ACall Try.prog g (.agg x :: caps) (Hs i) R')
    (hyes : ∀ i, i < xs.length → (∀ j, j < i → p j = false) → p i = true → R (.bool true) (Hs (i + 1))) (hno : (∀ j, j < xs.length → p j = false) → R (.bool false) (Hs xs.length)) : ACall Try.prog 43 [.slc xs, .fn g caps] (Hs 0) R := by
  refine b43 fun hf => ?_
  simp +contextual only [x43, ↓u43_s0, ↓XA, XB, XL, XM, cellsOf, okc, one1, resOne, resAll, eqCells, cellEq, fits, sameK, List.length_cons, List.length_nil, List.replicate_succ, List.replicate_zero, List.cons_append, List.nil_append, List.append_nil, List.set_cons_succ, List.set_cons_zero, List.getD_cons_succ, List.getD_cons_zero, List.map_cons, List.map_nil, List.getElem?_cons_succ, List.getElem?_cons_zero, List.toList_toArray, Option.map_some, Option.map_none, Option.isSome_some, Option.isSome_none, Nat.reduceSub, Nat.reduceAdd, Nat.reduceMul, Nat.reduceEqDiff, Nat.reduceLeDiff, Nat.reduceBEq, reduceCtorEq, List.drop_succ_cons, List.drop_zero, List.take_succ_cons, List.take_zero, List.drop_nil, List.take_nil, ne_eq, Option.getD_some, List.length_map, List.all_cons, List.all_nil, List.range_zero, List.range_succ, ite_true, ite_false, TYX]
  refine print_idx hl hh hstep (fun i hi hp hpi => ?_) (fun hp => ?_)
  · simp +contextual only [↓u43_s0, ↓XA, XB, XL, XM, cellsOf, okc, one1, resOne, resAll, eqCells, cellEq, fits, sameK, List.length_cons, List.length_nil, List.replicate_succ, List.replicate_zero, List.cons_append, List.nil_append, List.append_nil, List.set_cons_succ, List.set_cons_zero, List.getD_cons_succ, List.getD_cons_zero, List.map_cons, List.map_nil, List.getElem?_cons_succ, List.getElem?_cons_zero, List.toList_toArray, Option.map_some, Option.map_none, Option.isSome_some, Option.isSome_none, Nat.reduceSub, Nat.reduceAdd, Nat.reduceMul, Nat.reduceEqDiff, Nat.reduceLeDiff, Nat.reduceBEq, reduceCtorEq, List.drop_succ_cons, List.drop_zero, List.take_succ_cons, List.take_zero, List.drop_nil, List.take_nil, ne_eq, Option.getD_some, List.length_map, List.all_cons, List.all_nil, List.range_zero, List.range_succ, ite_true, ite_false, TYX]
    rw [back_0 (by rw [hh])]
    exact fun _ => hyes i hi hp hpi
  · simp +contextual only [↓u43_s0, ↓XA, XB, XL, XM, cellsOf, okc, one1, resOne, resAll, eqCells, cellEq, fits, sameK, List.length_cons, List.length_nil, List.replicate_succ, List.replicate_zero, List.cons_append, List.nil_append, List.append_nil, List.set_cons_succ, List.set_cons_zero, List.getD_cons_succ, List.getD_cons_zero, List.map_cons, List.map_nil, List.getElem?_cons_succ, List.getElem?_cons_zero, List.toList_toArray, Option.map_some, Option.map_none, Option.isSome_some, Option.isSome_none, Nat.reduceSub, Nat.reduceAdd, Nat.reduceMul, Nat.reduceEqDiff, Nat.reduceLeDiff, Nat.reduceBEq, reduceCtorEq, List.drop_succ_cons, List.drop_zero, List.take_succ_cons, List.take_zero, List.drop_nil, List.take_nil, ne_eq, Option.getD_some, List.length_map, List.all_cons, List.all_nil, List.range_zero, List.range_succ, ite_true, ite_false, TYX]
    rw [back_0 (by rw [hh])]
    exact fun _ => hno hp

/-- slices.IndexFunc over values of one cell, with a function that may change variables. -/
theorem str_idx {ds : List D} {g : FuncId} {caps : List D} {Hs : Nat → AH} {p : Nat → Bool} {R : D → AH → Prop} (hv : ∀ d ∈ ds, d.view = d) (hh : ∀ i, (Hs i).length = (Hs 0).length)
    (hstep : ∀ i d, ds[i]? = some d → (∀ j, j < i → p j = false) → ∀ (R' : D → AH → Prop), R' (.bool (p i)) (Hs (i + 1)) → ACall Try.prog g (d :: caps) (Hs i) R')
    (hyes : ∀ i, i < ds.length → (∀ j, j < i → p j = false) → p i = true → R (.int .i64 i) (Hs (i + 1))) (hno : (∀ j, j < ds.length → p j = false) → R (.int .i64 (-1)) (Hs ds.length)) : ACall Try.prog 56 [.slc (ds.map fun d => [d]), .fn g caps] (Hs 0) R := by
  refine b56 fun hf => ?_
  simp +contextual only [x56, ↓u56_s0, ↓u56_s1, ↓u56_L2, ↓u56_s3, ↓XA, XB, XL, XM, cellsOf, okc, one1, resOne, resAll, eqCells, cellEq, fits, sameK, List.length_cons, List.length_nil, List.replicate_succ, List.replicate_zero, List.cons_append, List.nil_append, List.append_nil, List.set_cons_succ, List.set_cons_zero, List.getD_cons_succ, List.getD_cons_zero, List.map_cons, List.map_nil, List.getElem?_cons_succ, List.getElem?_cons_zero, List.toList_toArray, Option.map_some, Option.map_none, Option.isSome_some, Option.isSome_none, Nat.reduceSub, Nat.reduceAdd, Nat.reduceMul, Nat.reduceEqDiff, Nat.reduceLeDiff, Nat.reduceBEq, reduceCtorEq, List.drop_succ_cons, List.drop_zero, List.take_succ_cons, List.take_zero, List.drop_nil, List.take_nil, ne_eq, Option.getD_some, List.length_map, List.all_cons, List.all_nil, List.range_zero, List.range_succ, ite_true, ite_false, TYX]
  intro hb
  refine XW.loop hm (fun F H => ∃ i z2 z3 z4 z5 z6 z9 z10 z11 z12 z13 z14 z15 z16 z17 z18, i ≤ ds.length ∧ (∀ j, j < i → p j = false) ∧ F = [.slc (ds.map fun d => [d]), .fn g caps, z2, z3, z4, z5, z6, .int .i64 ds.length, .int .i64 i, z9, z10, z11, z12, z13, z14, z15, z16, z17, z18] ∧ H = Hs i) (fun F H => match F.getD 8 .any with | .int _ n => ds.length - n.toNat | _ => 0) ⟨0, _, _, _, _, _, _, _, _, _, _, _, _, _, _, _, Nat.zero_le _, fun j hj => absurd hj (Nat.not_lt_zero j), rfl, rfl⟩ ?_
  rintro _ _ ⟨i, z2, z3, z4, z5, z6, z9, z10, z11, z12, z13, z14, z15, z16, z17, z18, hi, hp, rfl, rfl⟩
  simp +contextual only [↓u56_s0, ↓u56_s1, ↓u56_L2, ↓u56_s3, ↓XA, XB, XL, XM, cellsOf, okc, one1, resOne, resAll, eqCells, cellEq, fits, sameK, List.length_cons, List.length_nil, List.replicate_succ, List.replicate_zero, List.cons_append, List.nil_append, List.append_nil, List.set_cons_succ, List.set_cons_zero, List.getD_cons_succ, List.getD_cons_zero, List.map_cons, List.map_nil, List.getElem?_cons_succ, List.getElem?_cons_zero, List.toList_toArray, Option.map_some, Option.map_none, Option.isSome_some, Option.isSome_none, Nat.reduceSub, Nat.reduceAdd, Nat.reduceMul, Nat.reduceEqDiff, Nat.reduceLeDiff, Nat.reduceBEq, reduceCtorEq, List.drop_succ_cons, List.drop_zero, List.take_succ_cons, List.take_zero, List.drop_nil, List.take_nil, ne_eq, Option.getD_some, List.length_map, List.all_cons, List.all_nil, List.range_zero, List.range_succ, ite_true, ite_false, TYX]
  refine ⟨fun hlt => ?_, fun hge => ?_⟩
  · have hlt' : i < ds.length := by omega
    have hg : (ds.map fun d => [d]).getD i [] = [ds[i]] := by simp [hlt']
    have h3 := hv _ (List.getElem_mem hlt')
    simp only [hg, List.length_cons, List.length_nil, Nat.zero_add, true_and]
    intro _
    simp +contextual only [h3, ↓u56_s0, ↓u56_s1, ↓u56_L2, ↓u56_s3, ↓XA, XB, XL, XM, cellsOf, okc, one1, resOne, resAll, eqCells, cellEq, fits, sameK, List.length_cons, List.length_nil, List.replicate_succ, List.replicate_zero, List.cons_append, List.nil_append, List.append_nil, List.set_cons_succ, List.set_cons_zero, List.getD_cons_succ, List.getD_cons_zero, List.map_cons, List.map_nil, List.getElem?_cons_succ, List.getElem?_cons_zero, List.toList_toArray, Option.map_some, Option.map_none, Option.isSome_some, Option.isSome_none, Nat.reduceSub, Nat.reduceAdd, Nat.reduceMul, Nat.reduceEqDiff, Nat.reduceLeDiff, Nat.reduceBEq, reduceCtorEq, List.drop_succ_cons, List.drop_zero, List.take_succ_cons, List.take_zero, List.drop_nil, List.take_nil, ne_eq, Option.getD_some, List.length_map, List.all_cons, List.all_nil, List.range_zero, List.range_succ, ite_true, ite_false, TYX]
    refine hstep i _ (List.getElem?_eq_getElem hlt') hp _ ?_
    cases hpi : p i
    · simp +contextual only [↓u56_s0, ↓u56_s1, ↓u56_L2, ↓u56_s3, ↓XA, XB, XL, XM, cellsOf, okc, one1, resOne, resAll, eqCells, cellEq, fits, sameK, List.length_cons, List.length_nil, List.replicate_succ, List.replicate_zero, List.cons_append, List.nil_append, List.append_nil, List.set_cons_succ, List.set_cons_zero, List.getD_cons_succ, List.getD_cons_zero, List.map_cons, List.map_nil, List.getElem?_cons_succ, List.getElem?_cons_zero, List.toList_toArray, Option.map_some, Option.map_none, Option.isSome_some, Option.isSome_none, Nat.reduceSub, Nat.reduceAdd, Nat.reduceMul, Nat.reduceEqDiff, Nat.reduceLeDiff, Nat.reduceBEq, reduceCtorEq, List.drop_succ_cons, List.drop_zero, List.take_succ_cons, List.take_zero, List.drop_nil, List.take_nil, ne_eq, Option.getD_some, List.length_map, List.all_cons, List.all_nil, List.range_zero, List.range_succ, ite_true, ite_false, TYX]
      rw [back_0 (by rw [hh, hh i]), wrap_succ (by omega)]
      refine ⟨⟨i + 1, _, _, _, _, _, _, _, _, _, _, _, _, _, _, _, hlt', fun j hj => ?_, rfl, rfl⟩, ?_⟩
      · rcases Nat.lt_succ_iff_lt_or_eq.1 hj with h | rfl
        · exact hp j h
        · exact hpi
      · omega
    · simp +contextual only [↓u56_s0, ↓u56_s1, ↓u56_L2, ↓u56_s3, ↓XA, XB, XL, XM, cellsOf, okc, one1, resOne, resAll, eqCells, cellEq, fits, sameK, List.length_cons, List.length_nil, List.replicate_succ, List.replicate_zero, List.cons_append, List.nil_append, List.append_nil, List.set_cons_succ, List.set_cons_zero, List.getD_cons_succ, List.getD_cons_zero, List.map_cons, List.map_nil, List.getElem?_cons_succ, List.getElem?_cons_zero, List.toList_toArray, Option.map_some, Option.map_none, Option.isSome_some, Option.isSome_none, Nat.reduceSub, Nat.reduceAdd, Nat.reduceMul, Nat.reduceEqDiff, Nat.reduceLeDiff, Nat.reduceBEq, reduceCtorEq, List.drop_succ_cons, List.drop_zero, List.take_succ_cons, List.take_zero, List.drop_nil, List.take_nil, ne_eq, Option.getD_some, List.length_map, List.all_cons, List.all_nil, List.range_zero, List.range_succ, ite_true, ite_false, TYX]
      rw [back_0 (by rw [hh])]
      exact hyes i hlt' hp hpi
  · rw [back_0 (hh i)]
    have : i = ds.length := by omega
    subst this
    exact hno hp
/-- slices.ContainsFunc over values of one cell. -/
theorem str_con {ds : List D} {g : FuncId} {caps : List D} {Hs : Nat → AH} {p : Nat → Bool} {R : D → AH → Prop} (hv : ∀ d ∈ ds, d.view = d) (hh : ∀ i, (Hs i).length = (Hs 0).length)
    (hstep : ∀ i d, ds[i]? = some d → (∀ j, j < i → p j = false) → ∀ (R' : D → AH → Prop), R' (.bool (p i)) (Hs (i + 1)) → ACall Try.prog g (d :: caps) (Hs i) R')
    (hyes : ∀ i, i < ds.length → (∀ j, j < i → p j = false) → p i = true → R (.bool true) (Hs (i + 1))) (hno : (∀ j, j < ds.length → p j = false) → R (.bool false) (Hs ds.length)) : ACall Try.prog 53 [.slc (ds.map fun d => [d]), .fn g caps] (Hs 0) R := by
  refine b53 fun hf => ?_
  simp +contextual only [x53, ↓u53_s0, ↓XA, XB, XL, XM, cellsOf, okc, one1, resOne, resAll, eqCells, cellEq, fits, sameK, List.length_cons, List.length_nil, List.replicate_succ, List.replicate_zero, List.cons_append, List.nil_append, List.append_nil, List.set_cons_succ, List.set_cons_zero, List.getD_cons_succ, List.getD_cons_zero, List.map_cons, List.map_nil, List.getElem?_cons_succ, List.getElem?_cons_zero, List.toList_toArray, Option.map_some, Option.map_none, Option.isSome_some, Option.isSome_none, Nat.reduceSub, Nat.reduceAdd, Nat.reduceMul, Nat.reduceEqDiff, Nat.reduceLeDiff, Nat.reduceBEq, reduceCtorEq, List.drop_succ_cons, List.drop_zero, List.take_succ_cons, List.take_zero, List.drop_nil, List.take_nil, ne_eq, Option.getD_some, List.length_map, List.all_cons, List.all_nil, List.range_zero, List.range_succ, ite_true, ite_false, TYX]
  refine str_idx hv hh hstep (fun i hi hp hpi => ?_) (fun hp => ?_)
  · simp +contextual only [↓u53_s0, ↓XA, XB, XL, XM, cellsOf, okc, one1, resOne, resAll, eqCells, cellEq, fits, sameK, List.length_cons, List.length_nil, List.replicate_succ, List.replicate_zero, List.cons_append, List.nil_append, List.append_nil, List.set_cons_succ, List.set_cons_zero, List.getD_cons_succ, List.getD_cons_zero, List.map_cons, List.map_nil, List.getElem?_cons_succ, List.getElem?_cons_zero, List.toList_toArray, Option.map_some, Option.map_none, Option.isSome_some, Option.isSome_none, Nat.reduceSub, Nat.reduceAdd, Nat.reduceMul, Nat.reduceEqDiff, Nat.reduceLeDiff, Nat.reduceBEq, reduceCtorEq, List.drop_succ_cons, List.drop_zero, List.take_succ_cons, List.take_zero, List.drop_nil, List.take_nil, ne_eq, Option.getD_some, List.length_map, List.all_cons, List.all_nil, List.range_zero, List.range_succ, ite_true, ite_false, TYX]
    rw [back_0 (by rw [hh])]
    exact fun _ => hyes i hi hp hpi
  · simp +contextual only [↓u53_s0, ↓XA, XB, XL, XM, cellsOf, okc, one1, resOne, resAll, eqCells, cellEq, fits, sameK, List.length_cons, List.length_nil, List.replicate_succ, List.replicate_zero, List.cons_append, List.nil_append, List.append_nil, List.set_cons_succ, List.set_cons_zero, List.getD_cons_succ, List.getD_cons_zero, List.map_cons, List.map_nil, List.getElem?_cons_succ, List.getElem?_cons_zero, List.toList_toArray, Option.map_some, Option.map_none, Option.isSome_some, Option.isSome_none, Nat.reduceSub, Nat.reduceAdd, Nat.reduceMul, Nat.reduceEqDiff, Nat.reduceLeDiff, Nat.reduceBEq, reduceCtorEq, List.drop_succ_cons, List.drop_zero, List.take_succ_cons, List.take_zero, List.drop_nil, List.take_nil, ne_eq, Option.getD_some, List.length_map, List.all_cons, List.all_nil, List.range_zero, List.range_succ, ite_true, ite_false, TYX]
    rw [back_0 (by rw [hh])]
    exact fun _ => hno hp

end Go.Proofs.Ytbfcfmcebdfndaa
