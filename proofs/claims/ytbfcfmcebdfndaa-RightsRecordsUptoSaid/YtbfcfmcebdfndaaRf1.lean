/- Contracts of the reference's functions on names, terms and prints. Conditions: those in each. -/
import Derived.Test.YtbfcfmcebdfndaaRg5
namespace Go.Proofs.Ytbfcfmcebdfndaa
open Go Go.Aw
set_option linter.unusedVariables false
set_option linter.unusedSimpArgs false

theorem okN_nil {s : List UInt8} : okN [] s = nameOk s := by
  unfold okN
  cases s with
  | nil => simp [Op.bytesLess, nameOk]
  | cons x r => simp [Op.bytesLess]
/-- wordbookref25.rising -/
theorem f_rising {l : List (List UInt8)} {H : AH} {R : D → AH → Prop} (h : R (.bool (rise l)) H) : ACall Try.prog 36 [.slc (strs l)] H R := by
  refine b36 fun hf => ?_
  simp +contextual only [x36, ↓u36_s0, ↓u36_L1, ↓u36_s2, ↓XA, XB, XL, XM, cellsOf, okc, one1, resOne, resAll, eqCells, cellEq, fits, sameK, List.length_cons, List.length_nil, List.replicate_succ, List.replicate_zero, List.cons_append, List.nil_append, List.append_nil, List.set_cons_succ, List.set_cons_zero, List.getD_cons_succ, List.getD_cons_zero, List.map_cons, List.map_nil, List.getElem?_cons_succ, List.getElem?_cons_zero, List.toList_toArray, Option.map_some, Option.map_none, Option.isSome_some, Option.isSome_none, Nat.reduceSub, Nat.reduceAdd, Nat.reduceMul, Nat.reduceEqDiff, Nat.reduceLeDiff, Nat.reduceBEq, reduceCtorEq, List.drop_succ_cons, List.drop_zero, List.take_succ_cons, List.take_zero, List.drop_nil, List.take_nil, ne_eq, Option.getD_some, List.length_map, List.all_cons, List.all_nil, List.range_zero, List.range_succ, ite_true, ite_false, TYX]
  refine XW.loopK hm (fun F H' => ∃ i : Nat, i ≤ l.length ∧ (∀ j, j < i → okN (prevO (sO l) j) (sO l j) = true) ∧ Fr 40 [(0, .slc (strs l)), (3, .int .i64 i)] F ∧ H = H') (fun F H => match F.getD 3 .any with | .int _ n => l.length - n.toNat | _ => 0) ⟨0, Nat.zero_le _, fun j hj => absurd hj (Nat.not_lt_zero j), ⟨rfl, rfl, rfl, trivial⟩, rfl⟩ ?_
  rintro _ _ ⟨i, hi, hp, hF, rfl⟩ K hN hE hR
  obtain ⟨z, rfl⟩ : ∃ z : Nat → D, _ = [.slc (strs l), z 1, z 2, .int .i64 i, z 4, z 5, z 6, z 7, z 8, z 9, z 10, z 11, z 12, z 13, z 14, z 15, z 16, z 17, z 18, z 19, z 20, z 21, z 22, z 23, z 24, z 25, z 26, z 27, z 28, z 29, z 30, z 31, z 32, z 33, z 34, z 35, z 36, z 37, z 38, z 39] := hF.lit
  clear hF
  have hbig := big_eq
  have hlb : l.length ≤ big := by
    have := hf.1
    rwa [f_slc, strs_len] at this
  have hs : ∀ (j : Nat) (hj : j < l.length), sO l j = l[j] := fun j hj => by simp [sO, hj]
  have le0 : ∀ (a : List UInt8) (b : List UInt8), (!Op.bytesLess a b) = true ↔ Op.bytesLess a b = false := fun a b => by simp
  by_cases hlt : i < l.length
  · have no : okN (prevO (sO l) i) (sO l i) = false → R (.bool false) H := fun hh => by
      have : rise l = false := range_not hlt hh
      rw [this] at h
      exact h
    have yes : okN (prevO (sO l) i) (sO l i) = true → ∀ F', Fr 40 [(0, .slc (strs l)), (3, .int .i64 ((i + 1 : Nat) : Int))] F' → K .normal F' H := fun hh F' hF' => hN _ _ ⟨i + 1, hlt, fun j hj => by
      rcases Nat.lt_succ_iff_lt_or_eq.1 hj with h' | rfl
      · exact hp j h'
      · exact hh, hF', (back_0 rfl).symm⟩ (by
        rw [List.getD_eq_getElem?_getD, hF'.2.2.1]
        simp only [List.getD_cons_succ, List.getD_cons_zero, Option.getD_some]
        omega)
    clear hN
    have hR0 : ∀ F', Fr 40 [(2, .bool false)] F' → okN (prevO (sO l) i) (sO l i) = false → K .ret F' H := fun F' hF' hh => hR _ _ (by
      obtain ⟨z, rfl⟩ := hF'.lit
      simp +contextual only [frm, ↓u36_s0, ↓u36_L1, ↓u36_s2, ↓XA, XB, XL, XM, cellsOf, okc, one1, resOne, resAll, eqCells, cellEq, fits, sameK, List.length_cons, List.length_nil, List.replicate_succ, List.replicate_zero, List.cons_append, List.nil_append, List.append_nil, List.set_cons_succ, List.set_cons_zero, List.getD_cons_succ, List.getD_cons_zero, List.map_cons, List.map_nil, List.getElem?_cons_succ, List.getElem?_cons_zero, List.toList_toArray, Option.map_some, Option.map_none, Option.isSome_some, Option.isSome_none, Nat.reduceSub, Nat.reduceAdd, Nat.reduceMul, Nat.reduceEqDiff, Nat.reduceLeDiff, Nat.reduceBEq, reduceCtorEq, List.drop_succ_cons, List.drop_zero, List.take_succ_cons, List.take_zero, List.drop_nil, List.take_nil, ne_eq, Option.getD_some, List.length_map, List.all_cons, List.all_nil, List.range_zero, List.range_succ, ite_true, ite_false, TYX]
      exact no hh)
    have hnm : ∀ (hi : i < l.length), okN (prevO (sO l) i) l[i] = true → nameOk l[i] = true := fun hi h' => by
      unfold okN at h'
      simp only [Bool.and_eq_true] at h'
      exact h'.2
    cases i with
    | zero =>
      have e0 : okN (prevO (sO l) 0) (sO l 0) = nameOk l[0] := by rw [hs 0 hlt]; exact okN_nil
      simp +contextual only [strs_len, strs_get hlt, show ((0 : Nat) : Int) = 0 from rfl, ↓u36_s0, ↓u36_L1, ↓u36_s2, ↓XA, XB, XL, XM, cellsOf, okc, one1, resOne, resAll, eqCells, cellEq, fits, sameK, List.length_cons, List.length_nil, List.replicate_succ, List.replicate_zero, List.cons_append, List.nil_append, List.append_nil, List.set_cons_succ, List.set_cons_zero, List.getD_cons_succ, List.getD_cons_zero, List.map_cons, List.map_nil, List.getElem?_cons_succ, List.getElem?_cons_zero, List.toList_toArray, Option.map_some, Option.map_none, Option.isSome_some, Option.isSome_none, Nat.reduceSub, Nat.reduceAdd, Nat.reduceMul, Nat.reduceEqDiff, Nat.reduceLeDiff, Nat.reduceBEq, reduceCtorEq, List.drop_succ_cons, List.drop_zero, List.take_succ_cons, List.take_zero, List.drop_nil, List.take_nil, ne_eq, Option.getD_some, List.length_map, List.all_cons, List.all_nil, List.range_zero, List.range_succ, ite_true, ite_false, TYX]
      refine fun _ => ⟨fun _ _ => ⟨fun h1 => hR0 _ ⟨rfl, rfl, trivial⟩ ?_, fun h1 => ⟨fun h2 => hR0 _ ⟨rfl, rfl, trivial⟩ ?_, fun h2 => ?_⟩⟩, fun hge => absurd hge (by omega)⟩
      · rw [e0]
        simp only [nameOk, Bool.and_eq_false_iff, decide_eq_false_iff_not]
        omega
      · rw [e0]
        simp only [nameOk, Bool.and_eq_false_iff, decide_eq_false_iff_not]
        omega
      · rw [wrap_id (by omega) (by omega)]
        refine yes ?_ _ ⟨rfl, rfl, rfl, trivial⟩
        rw [e0]
        simp only [nameOk, Bool.and_eq_true, decide_eq_true_eq]
        omega
    | succ k =>
      have e0 : okN (prevO (sO l) (k + 1)) (sO l (k + 1)) = (Op.bytesLess l[k] l[k + 1] && nameOk l[k + 1]) := by
        rw [hs _ hlt]
        show okN (sO l k) _ = _
        rw [hs k (by omega)]
        rfl
      have w1 : IntKind.i64.wrap (((k + 1 : Nat) : Int) - 1) = (k : Int) := by rw [wrap_id (by omega) (by omega)]; omega
      have w2 : IntKind.i64.wrap (((k + 1 : Nat) : Int) + 1) = ((k + 1 + 1 : Nat) : Int) := wrap_succ (by omega)
      have n1 : nameOk l[k + 1] = false → okN (prevO (sO l) (k + 1)) (sO l (k + 1)) = false := fun h' => by rw [e0, h', Bool.and_false]
      simp +contextual only [strs_len, strs_get hlt, strs_get (show k < l.length by omega), w1, w2, ↓u36_s0, ↓u36_L1, ↓u36_s2, ↓XA, XB, XL, XM, cellsOf, okc, one1, resOne, resAll, eqCells, cellEq, fits, sameK, List.length_cons, List.length_nil, List.replicate_succ, List.replicate_zero, List.cons_append, List.nil_append, List.append_nil, List.set_cons_succ, List.set_cons_zero, List.getD_cons_succ, List.getD_cons_zero, List.map_cons, List.map_nil, List.getElem?_cons_succ, List.getElem?_cons_zero, List.toList_toArray, Option.map_some, Option.map_none, Option.isSome_some, Option.isSome_none, Nat.reduceSub, Nat.reduceAdd, Nat.reduceMul, Nat.reduceEqDiff, Nat.reduceLeDiff, Nat.reduceBEq, reduceCtorEq, List.drop_succ_cons, List.drop_zero, List.take_succ_cons, List.take_zero, List.drop_nil, List.take_nil, ne_eq, Option.getD_some, List.length_map, List.all_cons, List.all_nil, List.range_zero, List.range_succ, ite_true, ite_false, TYX]
      refine fun _ => ⟨fun _ _ => ⟨fun h1 => hR0 _ ⟨rfl, rfl, trivial⟩ (n1 ?_), fun h1 => ⟨fun h2 => hR0 _ ⟨rfl, rfl, trivial⟩ (n1 ?_), fun h2 => ?_⟩⟩, fun hge => absurd hge (by omega)⟩
      · simp only [nameOk, Bool.and_eq_false_iff, decide_eq_false_iff_not]
        omega
      · simp only [nameOk, Bool.and_eq_false_iff, decide_eq_false_iff_not]
        omega
      · have nk : nameOk l[k + 1] = true := by
          simp only [nameOk, Bool.and_eq_true, decide_eq_true_eq]
          omega
        refine ⟨fun _ => ⟨by omega, fun _ => ⟨fun h3 => hR0 _ ⟨rfl, rfl, trivial⟩ (by rw [e0, h3, Bool.false_and]), fun h3 => yes (by rw [e0, h3, nk]; rfl) _ ⟨rfl, rfl, rfl, trivial⟩⟩⟩, fun hno => absurd (by omega) hno⟩
  · simp +contextual only [strs_len, ↓u36_s0, ↓u36_L1, ↓u36_s2, ↓XA, XB, XL, XM, cellsOf, okc, one1, resOne, resAll, eqCells, cellEq, fits, sameK, List.length_cons, List.length_nil, List.replicate_succ, List.replicate_zero, List.cons_append, List.nil_append, List.append_nil, List.set_cons_succ, List.set_cons_zero, List.getD_cons_succ, List.getD_cons_zero, List.map_cons, List.map_nil, List.getElem?_cons_succ, List.getElem?_cons_zero, List.toList_toArray, Option.map_some, Option.map_none, Option.isSome_some, Option.isSome_none, Nat.reduceSub, Nat.reduceAdd, Nat.reduceMul, Nat.reduceEqDiff, Nat.reduceLeDiff, Nat.reduceBEq, reduceCtorEq, List.drop_succ_cons, List.drop_zero, List.take_succ_cons, List.take_zero, List.drop_nil, List.take_nil, ne_eq, Option.getD_some, List.length_map, List.all_cons, List.all_nil, List.range_zero, List.range_succ, ite_true, ite_false, TYX]
    refine fun hb => ⟨fun h' => absurd h' (by omega), fun hge => ?_⟩
    refine hE _ _ _ ?_
    simp +contextual only [↓u36_s0, ↓u36_L1, ↓u36_s2, ↓XA, XB, XL, XM, cellsOf, okc, one1, resOne, resAll, eqCells, cellEq, fits, sameK, List.length_cons, List.length_nil, List.replicate_succ, List.replicate_zero, List.cons_append, List.nil_append, List.append_nil, List.set_cons_succ, List.set_cons_zero, List.getD_cons_succ, List.getD_cons_zero, List.map_cons, List.map_nil, List.getElem?_cons_succ, List.getElem?_cons_zero, List.toList_toArray, Option.map_some, Option.map_none, Option.isSome_some, Option.isSome_none, Nat.reduceSub, Nat.reduceAdd, Nat.reduceMul, Nat.reduceEqDiff, Nat.reduceLeDiff, Nat.reduceBEq, reduceCtorEq, List.drop_succ_cons, List.drop_zero, List.take_succ_cons, List.take_zero, List.drop_nil, List.take_nil, ne_eq, Option.getD_some, List.length_map, List.all_cons, List.all_nil, List.range_zero, List.range_succ, ite_true, ite_false, TYX]
    have : rise l = true := range_all.2 fun j hj => hp j (by omega)
    rw [this] at h
    exact h
end Go.Proofs.Ytbfcfmcebdfndaa
