/- Contracts of further functions of package slices and cmp, as this seat's program has them. Conditions: those in each. -/
import Derived.Test.YtbfcfmcebdfndaaAw18
import Derived.Test.YtbfcfmcebdfndaaXc
namespace Go.Proofs.Ytbfcfmcebdfndaa
open Go Go.Aw
set_option linter.unusedVariables false
set_option linter.unusedSimpArgs false
def strs (l : List (List UInt8)) : List (List D) := l.map fun s => [.str s]
theorem strs_get {l : List (List UInt8)} {i : Nat} (h : i < l.length) : (strs l).getD i [] = [.str l[i]] := by simp [strs, h]
theorem strs_len {l : List (List UInt8)} : (strs l).length = l.length := by simp [strs]

/-- slices.Index of a string. -/
theorem str_index {l : List (List UInt8)} {s : List UInt8} {H : AH} {R : D → AH → Prop} (hyes : ∀ i, i < l.length → s ∈ l → R (.int .i64 i) H) (hno : s ∉ l → R (.int .i64 (-1)) H) : ACall Try.prog 50 [.slc (strs l), .str s] H R := by
  refine b50 fun hf => ?_
  simp +contextual only [x50, strs_len, ↓u50_s0, ↓u50_s1, ↓u50_L2, ↓u50_s3, ↓XA, XB, XL, XM, cellsOf, okc, one1, resOne, resAll, eqCells, cellEq, fits, sameK, List.length_cons, List.length_nil, List.replicate_succ, List.replicate_zero, List.cons_append, List.nil_append, List.append_nil, List.set_cons_succ, List.set_cons_zero, List.getD_cons_succ, List.getD_cons_zero, List.map_cons, List.map_nil, List.getElem?_cons_succ, List.getElem?_cons_zero, List.toList_toArray, Option.map_some, Option.map_none, Option.isSome_some, Option.isSome_none, Nat.reduceSub, Nat.reduceAdd, Nat.reduceMul, Nat.reduceEqDiff, Nat.reduceLeDiff, Nat.reduceBEq, reduceCtorEq, List.drop_succ_cons, List.drop_zero, List.take_succ_cons, List.take_zero, List.drop_nil, List.take_nil, ne_eq, Option.getD_some, List.length_map, List.all_cons, List.all_nil, List.range_zero, List.range_succ, ite_true, ite_false, TYX]
  intro hb
  refine XW.loop hm (fun F H' => ∃ i z2 z3 z4 z5 z6 z9 z10 z11 z12 z13 z14 z15 z16 z17 z18, i ≤ l.length ∧ (∀ j (h : j < l.length), j < i → l[j] ≠ s) ∧ F = [.slc (strs l), .str s, z2, z3, z4, z5, z6, .int .i64 l.length, .int .i64 i, z9, z10, z11, z12, z13, z14, z15, z16, z17, z18] ∧ H' = H) (fun F H => match F.getD 8 .any with | .int _ n => l.length - n.toNat | _ => 0) ⟨0, _, _, _, _, _, _, _, _, _, _, _, _, _, _, _, Nat.zero_le _, fun j _ hj => absurd hj (Nat.not_lt_zero j), rfl, rfl⟩ ?_
  rintro _ _ ⟨i, z2, z3, z4, z5, z6, z9, z10, z11, z12, z13, z14, z15, z16, z17, z18, hi, hp, rfl, rfl⟩
  simp +contextual only [strs_len, ↓u50_s0, ↓u50_s1, ↓u50_L2, ↓u50_s3, ↓XA, XB, XL, XM, cellsOf, okc, one1, resOne, resAll, eqCells, cellEq, fits, sameK, List.length_cons, List.length_nil, List.replicate_succ, List.replicate_zero, List.cons_append, List.nil_append, List.append_nil, List.set_cons_succ, List.set_cons_zero, List.getD_cons_succ, List.getD_cons_zero, List.map_cons, List.map_nil, List.getElem?_cons_succ, List.getElem?_cons_zero, List.toList_toArray, Option.map_some, Option.map_none, Option.isSome_some, Option.isSome_none, Nat.reduceSub, Nat.reduceAdd, Nat.reduceMul, Nat.reduceEqDiff, Nat.reduceLeDiff, Nat.reduceBEq, reduceCtorEq, List.drop_succ_cons, List.drop_zero, List.take_succ_cons, List.take_zero, List.drop_nil, List.take_nil, ne_eq, Option.getD_some, List.length_map, List.all_cons, List.all_nil, List.range_zero, List.range_succ, ite_true, ite_false, TYX]
  refine ⟨fun hlt => ?_, fun hge => ?_⟩
  · have hlt' : i < l.length := by omega
    simp +contextual only [strs_get hlt', ↓u50_s0, ↓u50_s1, ↓u50_L2, ↓u50_s3, ↓XA, XB, XL, XM, cellsOf, okc, one1, resOne, resAll, eqCells, cellEq, fits, sameK, List.length_cons, List.length_nil, List.replicate_succ, List.replicate_zero, List.cons_append, List.nil_append, List.append_nil, List.set_cons_succ, List.set_cons_zero, List.getD_cons_succ, List.getD_cons_zero, List.map_cons, List.map_nil, List.getElem?_cons_succ, List.getElem?_cons_zero, List.toList_toArray, Option.map_some, Option.map_none, Option.isSome_some, Option.isSome_none, Nat.reduceSub, Nat.reduceAdd, Nat.reduceMul, Nat.reduceEqDiff, Nat.reduceLeDiff, Nat.reduceBEq, reduceCtorEq, List.drop_succ_cons, List.drop_zero, List.take_succ_cons, List.take_zero, List.drop_nil, List.take_nil, ne_eq, Option.getD_some, List.length_map, List.all_cons, List.all_nil, List.range_zero, List.range_succ, ite_true, ite_false, TYX]
    intro _
    refine ⟨fun e => hyes i hlt' (e ▸ List.getElem_mem hlt'), fun hne => ?_⟩
    rw [wrap_succ (by omega)]
    refine ⟨⟨i + 1, _, _, _, _, _, _, _, _, _, _, _, _, _, _, _, hlt', fun j hj hji => ?_, rfl⟩, ?_⟩
    · rcases Nat.lt_succ_iff_lt_or_eq.1 hji with h | rfl
      · exact hp j hj h
      · exact fun e => hne e.symm
    · omega
  · refine hno fun hm => ?_
    obtain ⟨j, hj, e⟩ := List.getElem_of_mem hm
    exact hp j hj (by omega) e
/-- slices.Contains of a string. -/
theorem str_contains {l : List (List UInt8)} {s : List UInt8} {H : AH} {R : D → AH → Prop} (h : R (.bool (decide (s ∈ l))) H) : ACall Try.prog 28 [.slc (strs l), .str s] H R := by
  refine b28 fun hf => ?_
  simp +contextual only [x28, ↓u28_s0, ↓XA, XB, XL, XM, cellsOf, okc, one1, resOne, resAll, eqCells, cellEq, fits, sameK, List.length_cons, List.length_nil, List.replicate_succ, List.replicate_zero, List.cons_append, List.nil_append, List.append_nil, List.set_cons_succ, List.set_cons_zero, List.getD_cons_succ, List.getD_cons_zero, List.map_cons, List.map_nil, List.getElem?_cons_succ, List.getElem?_cons_zero, List.toList_toArray, Option.map_some, Option.map_none, Option.isSome_some, Option.isSome_none, Nat.reduceSub, Nat.reduceAdd, Nat.reduceMul, Nat.reduceEqDiff, Nat.reduceLeDiff, Nat.reduceBEq, reduceCtorEq, List.drop_succ_cons, List.drop_zero, List.take_succ_cons, List.take_zero, List.drop_nil, List.take_nil, ne_eq, Option.getD_some, List.length_map, List.all_cons, List.all_nil, List.range_zero, List.range_succ, ite_true, ite_false, TYX]
  refine str_index (fun i hi hm => ?_) (fun hm => ?_)
  · simp +contextual only [↓u28_s0, ↓XA, XB, XL, XM, cellsOf, okc, one1, resOne, resAll, eqCells, cellEq, fits, sameK, List.length_cons, List.length_nil, List.replicate_succ, List.replicate_zero, List.cons_append, List.nil_append, List.append_nil, List.set_cons_succ, List.set_cons_zero, List.getD_cons_succ, List.getD_cons_zero, List.map_cons, List.map_nil, List.getElem?_cons_succ, List.getElem?_cons_zero, List.toList_toArray, Option.map_some, Option.map_none, Option.isSome_some, Option.isSome_none, Nat.reduceSub, Nat.reduceAdd, Nat.reduceMul, Nat.reduceEqDiff, Nat.reduceLeDiff, Nat.reduceBEq, reduceCtorEq, List.drop_succ_cons, List.drop_zero, List.take_succ_cons, List.take_zero, List.drop_nil, List.take_nil, ne_eq, Option.getD_some, List.length_map, List.all_cons, List.all_nil, List.range_zero, List.range_succ, ite_true, ite_false, TYX]
    intro _
    simpa [hm] using h
  · simp +contextual only [↓u28_s0, ↓XA, XB, XL, XM, cellsOf, okc, one1, resOne, resAll, eqCells, cellEq, fits, sameK, List.length_cons, List.length_nil, List.replicate_succ, List.replicate_zero, List.cons_append, List.nil_append, List.append_nil, List.set_cons_succ, List.set_cons_zero, List.getD_cons_succ, List.getD_cons_zero, List.map_cons, List.map_nil, List.getElem?_cons_succ, List.getElem?_cons_zero, List.toList_toArray, Option.map_some, Option.map_none, Option.isSome_some, Option.isSome_none, Nat.reduceSub, Nat.reduceAdd, Nat.reduceMul, Nat.reduceEqDiff, Nat.reduceLeDiff, Nat.reduceBEq, reduceCtorEq, List.drop_succ_cons, List.drop_zero, List.take_succ_cons, List.take_zero, List.drop_nil, List.take_nil, ne_eq, Option.getD_some, List.length_map, List.all_cons, List.all_nil, List.range_zero, List.range_succ, ite_true, ite_false, TYX]
    intro _
    simpa [hm] using h
theorem cmp_nan {a : Int} {H : AH} {R : D → AH → Prop} (h : R (.bool false) H) : ACall Try.prog 55 [.int .i64 a] H R := by
  refine b55 fun hf => ?_
  simp +contextual only [x55, ↓u55_s0, ↓XA, XB, XL, XM, cellsOf, okc, one1, resOne, resAll, eqCells, cellEq, fits, sameK, List.length_cons, List.length_nil, List.replicate_succ, List.replicate_zero, List.cons_append, List.nil_append, List.append_nil, List.set_cons_succ, List.set_cons_zero, List.getD_cons_succ, List.getD_cons_zero, List.map_cons, List.map_nil, List.getElem?_cons_succ, List.getElem?_cons_zero, List.toList_toArray, Option.map_some, Option.map_none, Option.isSome_some, Option.isSome_none, Nat.reduceSub, Nat.reduceAdd, Nat.reduceMul, Nat.reduceEqDiff, Nat.reduceLeDiff, Nat.reduceBEq, reduceCtorEq, List.drop_succ_cons, List.drop_zero, List.take_succ_cons, List.take_zero, List.drop_nil, List.take_nil, ne_eq, Option.getD_some, List.length_map, List.all_cons, List.all_nil, List.range_zero, List.range_succ, ite_true, ite_false, TYX]
  exact h
/-- cmp.Compare of ints. -/
theorem cmp_int {a b : Int} {H : AH} {R : D → AH → Prop} (h : R (.int .i64 (if a < b then -1 else if b < a then 1 else 0)) H) : ACall Try.prog 47 [.int .i64 a, .int .i64 b] H R := by
  refine b47 fun hf => ?_
  simp +contextual only [x47, ↓u47_s0, ↓u47_s1, ↓u47_s2, ↓u47_s3, ↓u47_s4, ↓u47_s5, ↓XA, XB, XL, XM, cellsOf, okc, one1, resOne, resAll, eqCells, cellEq, fits, sameK, List.length_cons, List.length_nil, List.replicate_succ, List.replicate_zero, List.cons_append, List.nil_append, List.append_nil, List.set_cons_succ, List.set_cons_zero, List.getD_cons_succ, List.getD_cons_zero, List.map_cons, List.map_nil, List.getElem?_cons_succ, List.getElem?_cons_zero, List.toList_toArray, Option.map_some, Option.map_none, Option.isSome_some, Option.isSome_none, Nat.reduceSub, Nat.reduceAdd, Nat.reduceMul, Nat.reduceEqDiff, Nat.reduceLeDiff, Nat.reduceBEq, reduceCtorEq, List.drop_succ_cons, List.drop_zero, List.take_succ_cons, List.take_zero, List.drop_nil, List.take_nil, ne_eq, Option.getD_some, List.length_map, List.all_cons, List.all_nil, List.range_zero, List.range_succ, ite_true, ite_false, TYX]
  refine cmp_nan ?_
  simp +contextual only [↓u47_s0, ↓u47_s1, ↓u47_s2, ↓u47_s3, ↓u47_s4, ↓u47_s5, ↓XA, XB, XL, XM, cellsOf, okc, one1, resOne, resAll, eqCells, cellEq, fits, sameK, List.length_cons, List.length_nil, List.replicate_succ, List.replicate_zero, List.cons_append, List.nil_append, List.append_nil, List.set_cons_succ, List.set_cons_zero, List.getD_cons_succ, List.getD_cons_zero, List.map_cons, List.map_nil, List.getElem?_cons_succ, List.getElem?_cons_zero, List.toList_toArray, Option.map_some, Option.map_none, Option.isSome_some, Option.isSome_none, Nat.reduceSub, Nat.reduceAdd, Nat.reduceMul, Nat.reduceEqDiff, Nat.reduceLeDiff, Nat.reduceBEq, reduceCtorEq, List.drop_succ_cons, List.drop_zero, List.take_succ_cons, List.take_zero, List.drop_nil, List.take_nil, ne_eq, Option.getD_some, List.length_map, List.all_cons, List.all_nil, List.range_zero, List.range_succ, ite_true, ite_false, TYX]
  refine cmp_nan ?_
  simp +contextual only [↓u47_s0, ↓u47_s1, ↓u47_s2, ↓u47_s3, ↓u47_s4, ↓u47_s5, ↓XA, XB, XL, XM, cellsOf, okc, one1, resOne, resAll, eqCells, cellEq, fits, sameK, List.length_cons, List.length_nil, List.replicate_succ, List.replicate_zero, List.cons_append, List.nil_append, List.append_nil, List.set_cons_succ, List.set_cons_zero, List.getD_cons_succ, List.getD_cons_zero, List.map_cons, List.map_nil, List.getElem?_cons_succ, List.getElem?_cons_zero, List.toList_toArray, Option.map_some, Option.map_none, Option.isSome_some, Option.isSome_none, Nat.reduceSub, Nat.reduceAdd, Nat.reduceMul, Nat.reduceEqDiff, Nat.reduceLeDiff, Nat.reduceBEq, reduceCtorEq, List.drop_succ_cons, List.drop_zero, List.take_succ_cons, List.take_zero, List.drop_nil, List.take_nil, ne_eq, Option.getD_some, List.length_map, List.all_cons, List.all_nil, List.range_zero, List.range_succ, ite_true, ite_false, TYX]
  refine ⟨fun h1 => by simpa [h1] using h, fun h1 => ⟨fun h2 => ?_, fun h2 => ?_⟩⟩
  · simpa [h1, h2] using h
  · simpa [h1, h2] using h
/-- slices.Clone. -/
theorem str_clone {xs : List (List D)} {H : AH} {R : D → AH → Prop} (hl : ∀ x ∈ xs, x.length = 1) (hb : xs.length ≤ 1073741824) (h : R (.own xs) H) : ACall Try.prog 38 [.slc xs] H R := by
  refine b38 fun hf => ?_
  simp +contextual only [x38, ↓u38_s0, ↓u38_s1, ↓XA, XB, XL, XM, cellsOf, okc, one1, resOne, resAll, eqCells, cellEq, fits, sameK, List.length_cons, List.length_nil, List.replicate_succ, List.replicate_zero, List.cons_append, List.nil_append, List.append_nil, List.set_cons_succ, List.set_cons_zero, List.getD_cons_succ, List.getD_cons_zero, List.map_cons, List.map_nil, List.getElem?_cons_succ, List.getElem?_cons_zero, List.toList_toArray, Option.map_some, Option.map_none, Option.isSome_some, Option.isSome_none, Nat.reduceSub, Nat.reduceAdd, Nat.reduceMul, Nat.reduceEqDiff, Nat.reduceLeDiff, Nat.reduceBEq, reduceCtorEq, List.drop_succ_cons, List.drop_zero, List.take_succ_cons, List.take_zero, List.drop_nil, List.take_nil, ne_eq, Option.getD_some, List.length_map, List.all_cons, List.all_nil, List.range_zero, List.range_succ, ite_true, ite_false, TYX]
  refine ⟨fun e => ?_, hl, ?_, ?_⟩
  · subst e; exact h
  · omega
  · exact h

/-- slices.Clone. -/
theorem print_clone {xs : List (List D)} {H : AH} {R : D → AH → Prop} (hl : ∀ x ∈ xs, x.length = 3) (hb : xs.length ≤ 1073741824) (h : R (.own xs) H) : ACall Try.prog 39 [.slc xs] H R := by
  refine b39 fun hf => ?_
  simp +contextual only [x39, ↓u39_s0, ↓u39_s1, ↓XA, XB, XL, XM, cellsOf, okc, one1, resOne, resAll, eqCells, cellEq, fits, sameK, List.length_cons, List.length_nil, List.replicate_succ, List.replicate_zero, List.cons_append, List.nil_append, List.append_nil, List.set_cons_succ, List.set_cons_zero, List.getD_cons_succ, List.getD_cons_zero, List.map_cons, List.map_nil, List.getElem?_cons_succ, List.getElem?_cons_zero, List.toList_toArray, Option.map_some, Option.map_none, Option.isSome_some, Option.isSome_none, Nat.reduceSub, Nat.reduceAdd, Nat.reduceMul, Nat.reduceEqDiff, Nat.reduceLeDiff, Nat.reduceBEq, reduceCtorEq, List.drop_succ_cons, List.drop_zero, List.take_succ_cons, List.take_zero, List.drop_nil, List.take_nil, ne_eq, Option.getD_some, List.length_map, List.all_cons, List.all_nil, List.range_zero, List.range_succ, ite_true, ite_false, TYX]
  refine ⟨fun e => ?_, hl, ?_, ?_⟩
  · subst e; exact h
  · omega
  · exact h

/-- slices.IsSortedFunc, with a function that changes nothing. -/
theorem print_sorted {xs : List (List D)} {g : FuncId} {caps : List D} {H : AH} {c : Nat → Int} {R : D → AH → Prop} (hl : ∀ x ∈ xs, x.length = 3)
    (hstep : ∀ i x y, xs[i + 1]? = some x → xs[i]? = some y → ∀ (R' : D → AH → Prop), R' (.int .i64 (c i)) H → ACall Try.prog g (.agg x :: .agg y :: caps) H R')
    (hyes : (∀ i, i + 1 < xs.length → 0 ≤ c i) → R (.bool true) H) (hno : ∀ i, i + 1 < xs.length → c i < 0 → R (.bool false) H) : ACall Try.prog 45 [.slc xs, .fn g caps] H R := by
  refine b45 fun hf => ?_
  simp +contextual only [x45, ↓u45_s0, ↓u45_s1, ↓u45_L2, ↓u45_s3, ↓XA, XB, XL, XM, cellsOf, okc, one1, resOne, resAll, eqCells, cellEq, fits, sameK, List.length_cons, List.length_nil, List.replicate_succ, List.replicate_zero, List.cons_append, List.nil_append, List.append_nil, List.set_cons_succ, List.set_cons_zero, List.getD_cons_succ, List.getD_cons_zero, List.map_cons, List.map_nil, List.getElem?_cons_succ, List.getElem?_cons_zero, List.toList_toArray, Option.map_some, Option.map_none, Option.isSome_some, Option.isSome_none, Nat.reduceSub, Nat.reduceAdd, Nat.reduceMul, Nat.reduceEqDiff, Nat.reduceLeDiff, Nat.reduceBEq, reduceCtorEq, List.drop_succ_cons, List.drop_zero, List.take_succ_cons, List.take_zero, List.drop_nil, List.take_nil, ne_eq, Option.getD_some, List.length_map, List.all_cons, List.all_nil, List.range_zero, List.range_succ, ite_true, ite_false, TYX]
  intro hb
  have := big_eq
  rw [wrap_id (by omega) (by omega)]
  refine XW.loop hm (fun F H' => ∃ v : Int, ∃ z2 z3 z4 z6 z7 z8 z9 z10 z11 z12 z13 z14 z15 z16 z17 z18 z19 z20 z21 z22 z23 z24, v < xs.length ∧ -1 ≤ v ∧ (∀ j : Nat, v ≤ j → j + 1 < xs.length → 0 ≤ c j) ∧ F = [.slc xs, .fn g caps, z2, z3, z4, .int .i64 v, z6, z7, z8, z9, z10, z11, z12, z13, z14, z15, z16, z17, z18, z19, z20, z21, z22, z23, z24] ∧ H' = H) (fun F H => match F.getD 5 .any with | .int _ n => n.toNat | _ => 0) ⟨(xs.length : Int) - 1, _, _, _, _, _, _, _, _, _, _, _, _, _, _, _, _, _, _, _, _, _, _, by omega, by omega, fun j _ _ => by omega, rfl, rfl⟩ ?_
  rintro _ _ ⟨v, z2, z3, z4, z6, z7, z8, z9, z10, z11, z12, z13, z14, z15, z16, z17, z18, z19, z20, z21, z22, z23, z24, hv, hv1, hp, rfl, rfl⟩
  simp +contextual only [↓u45_s0, ↓u45_s1, ↓u45_L2, ↓u45_s3, ↓XA, XB, XL, XM, cellsOf, okc, one1, resOne, resAll, eqCells, cellEq, fits, sameK, List.length_cons, List.length_nil, List.replicate_succ, List.replicate_zero, List.cons_append, List.nil_append, List.append_nil, List.set_cons_succ, List.set_cons_zero, List.getD_cons_succ, List.getD_cons_zero, List.map_cons, List.map_nil, List.getElem?_cons_succ, List.getElem?_cons_zero, List.toList_toArray, Option.map_some, Option.map_none, Option.isSome_some, Option.isSome_none, Nat.reduceSub, Nat.reduceAdd, Nat.reduceMul, Nat.reduceEqDiff, Nat.reduceLeDiff, Nat.reduceBEq, reduceCtorEq, List.drop_succ_cons, List.drop_zero, List.take_succ_cons, List.take_zero, List.drop_nil, List.take_nil, ne_eq, Option.getD_some, List.length_map, List.all_cons, List.all_nil, List.range_zero, List.range_succ, ite_true, ite_false, TYX]
  refine ⟨fun hlt => ?_, fun hge => ?_⟩
  · obtain ⟨i, rfl⟩ : ∃ i : Nat, v = ((i + 1 : Nat) : Int) := ⟨(v - 1).toNat, by omega⟩
    have hi : i + 1 < xs.length := by omega
    rw [wrap_id (by omega) (by omega), show ((i + 1 : Nat) : Int) - 1 = (i : Int) by omega]
    have g1 : xs.getD (i + 1) [] = xs[i + 1] := by simp [hi]
    have g2 : xs.getD i [] = xs[i] := by simp [show i < xs.length by omega]
    have l1 := hl _ (List.getElem_mem hi)
    have l2 := hl _ (List.getElem_mem (show i < xs.length by omega))
    have e1 : ((i + 1 : Nat) : Int).toNat = i + 1 := by omega
    have e2 : ((i : Nat) : Int).toNat = i := by omega
    simp only [e1, e2, g1, g2, l1, l2, List.take_of_length_le (show xs[i + 1].length ≤ 3 by omega), List.take_of_length_le (show xs[i].length ≤ 3 by omega)]
    refine ⟨by omega, by omega, trivial, Nat.le_refl _, by omega, by omega, trivial, Nat.le_refl _, _, hstep i _ _ (List.getElem?_eq_getElem hi) (List.getElem?_eq_getElem (by omega)) _ ⟨rfl, rfl⟩, ?_⟩
    simp +contextual only [↓u45_s0, ↓u45_s1, ↓u45_L2, ↓u45_s3, ↓XA, XB, XL, XM, cellsOf, okc, one1, resOne, resAll, eqCells, cellEq, fits, sameK, List.length_cons, List.length_nil, List.replicate_succ, List.replicate_zero, List.cons_append, List.nil_append, List.append_nil, List.set_cons_succ, List.set_cons_zero, List.getD_cons_succ, List.getD_cons_zero, List.map_cons, List.map_nil, List.getElem?_cons_succ, List.getElem?_cons_zero, List.toList_toArray, Option.map_some, Option.map_none, Option.isSome_some, Option.isSome_none, Nat.reduceSub, Nat.reduceAdd, Nat.reduceMul, Nat.reduceEqDiff, Nat.reduceLeDiff, Nat.reduceBEq, reduceCtorEq, List.drop_succ_cons, List.drop_zero, List.take_succ_cons, List.take_zero, List.drop_nil, List.take_nil, ne_eq, Option.getD_some, List.length_map, List.all_cons, List.all_nil, List.range_zero, List.range_succ, ite_true, ite_false, TYX]
    intro _
    refine ⟨fun h => hno i hi h, fun h => ?_⟩
    rw [wrap_id (by omega) (by omega), show ((i + 1 : Nat) : Int) - 1 = (i : Int) by omega]
    refine ⟨⟨(i : Int), _, _, _, _, _, _, _, _, _, _, _, _, _, _, _, _, _, _, _, _, _, _, by omega, by omega, fun j hj hj2 => ?_, rfl⟩, by omega⟩
    by_cases e : j = i
    · subst e; omega
    · exact hp j (by omega) hj2
  · exact hyes fun i hi => hp i (by omega) hi
end Go.Proofs.Ytbfcfmcebdfndaa
