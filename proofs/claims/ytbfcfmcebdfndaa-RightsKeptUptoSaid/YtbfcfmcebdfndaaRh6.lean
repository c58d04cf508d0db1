/- Contract of the reference's Done. Conditions: those in it. -/
import Derived.Test.YtbfcfmcebdfndaaRh5
namespace Go.Proofs.Ytbfcfmcebdfndaa
open Go Go.Aw
set_option linter.unusedVariables false
set_option linter.unusedSimpArgs false

def at0 (m : List Int) (i : Nat) : Int := m.getD i 0
def donePr (m : List Int) (k : Nat) (day : Int) : Pr := ⟨day, around (at0 m (3 * k + 1)) 9, ownersOf (at0 m (3 * k + 2))⟩
/-- The day and the prints after k rounds. -/
def doneTo (m : List Int) : Nat → Int × List Pr
  | 0 => (0, [])
  | k + 1 => if 3 * k + 2 < m.length then ((doneTo m k).1 + around (at0 m (3 * k)) 30, (doneTo m k).2 ++ [donePr m k ((doneTo m k).1 + around (at0 m (3 * k)) 30)]) else doneTo m k
def doneOf (m : List Int) : List Pr := (doneTo m 5).2
theorem doneTo_stop {m : List Int} {k : Nat} (h : ¬ 3 * k + 2 < m.length) : ∀ j, doneTo m (k + j) = doneTo m k
  | 0 => rfl
  | j + 1 => by
    show doneTo m (k + j + 1) = _
    rw [doneTo, if_neg (by omega), doneTo_stop h j]
theorem doneTo_day {m : List Int} : ∀ k, 0 ≤ (doneTo m k).1 ∧ (doneTo m k).1 ≤ 29 * k
  | 0 => by simp [doneTo]
  | k + 1 => by
    have h1 := doneTo_day (m := m) k
    have h2 := around_range (n := at0 m (3 * k)) (most := 30) (by omega)
    rw [doneTo]
    split
    · simp only
      omega
    · omega
theorem doneTo_len {m : List Int} : ∀ k, (doneTo m k).2.length ≤ k
  | 0 => by simp [doneTo]
  | k + 1 => by
    have h1 := doneTo_len (m := m) k
    rw [doneTo]
    split
    · simp only [List.length_append, List.length_singleton]
      omega
    · omega
theorem ints_at0 {m : List Int} {i : Nat} (h : i < m.length) : (ints m).getD i [] = [.int .i64 (at0 m i)] := by
  rw [ints_get h]
  simp [at0, h]
/-- wordbookref25.Done -/
theorem f_done {m : List Int} {H : AH} {R : D → AH → Prop} (h : R (.own (prs (doneOf m))) H) : ACall Try.prog 9 [.slc (ints m)] H R := by
  refine b9 fun hf => ?_
  have hbig := big_eq
  simp +contextual only [x9, ↓u9_s0, ↓u9_s1, ↓u9_s2, ↓u9_L3, ↓u9_s4, ↓XA, XB, XL, XM, cellsOf, okc, one1, resOne, resAll, eqCells, cellEq, fits, sameK, List.length_cons, List.length_nil, List.replicate_succ, List.replicate_zero, List.cons_append, List.nil_append, List.append_nil, List.set_cons_succ, List.set_cons_zero, List.getD_cons_succ, List.getD_cons_zero, List.map_cons, List.map_nil, List.getElem?_cons_succ, List.getElem?_cons_zero, List.toList_toArray, Option.map_some, Option.map_none, Option.isSome_some, Option.isSome_none, Nat.reduceSub, Nat.reduceAdd, Nat.reduceMul, Nat.reduceEqDiff, Nat.reduceLeDiff, Nat.reduceBEq, reduceCtorEq, List.drop_succ_cons, List.drop_zero, List.take_succ_cons, List.take_zero, List.drop_nil, List.take_nil, ne_eq, Option.getD_some, List.length_map, List.all_cons, List.all_nil, List.range_zero, List.range_succ, ite_true, ite_false, TYX]
  refine XW.loopK hm (fun F H' => ∃ (k : Nat), k ≤ 5 ∧ (doneTo m k).2.length = k ∧ Fr 43 [(0, .slc (ints m)), (3, .own (prs (doneTo m k).2)), (4, .int .i64 (doneTo m k).1), (5, .int .i64 ((3 * k : Nat) : Int))] F ∧ H = H') (fun F H => match F.getD 5 .any with | .int _ n => 15 - n.toNat | _ => 0) ⟨0, by omega, rfl, ⟨rfl, rfl, rfl, rfl, rfl, trivial⟩, rfl⟩ ?_
  rintro _ _ ⟨k, hk, hlen, hF, rfl⟩ K hN hE hR
  obtain ⟨z, rfl⟩ : ∃ z : Nat → D, _ = [.slc (ints m), z 1, z 2, .own (prs (doneTo m k).2), .int .i64 (doneTo m k).1, .int .i64 ((3 * k : Nat) : Int), z 6, z 7, z 8, z 9, z 10, z 11, z 12, z 13, z 14, z 15, z 16, z 17, z 18, z 19, z 20, z 21, z 22, z 23, z 24, z 25, z 26, z 27, z 28, z 29, z 30, z 31, z 32, z 33, z 34, z 35, z 36, z 37, z 38, z 39, z 40, z 41, z 42] := hF.lit
  clear hF
  have w2 : IntKind.i64.wrap (((3 * k : Nat) : Int) + 2) = ((3 * k + 2 : Nat) : Int) := by rw [wrap_id (by omega) (by omega)]; omega
  have w1 : IntKind.i64.wrap (((3 * k : Nat) : Int) + 1) = ((3 * k + 1 : Nat) : Int) := by rw [wrap_id (by omega) (by omega)]; omega
  have w3 : IntKind.i64.wrap (((3 * k : Nat) : Int) + 3) = ((3 * (k + 1) : Nat) : Int) := by rw [wrap_id (by omega) (by omega)]; omega
  by_cases hlt : 3 * k + 2 < m.length
  · by_cases hk5 : k < 5
    · have nx : ∀ F', Fr 43 [(0, .slc (ints m)), (3, .own (prs (doneTo m (k + 1)).2)), (4, .int .i64 (doneTo m (k + 1)).1), (5, .int .i64 ((3 * (k + 1) : Nat) : Int))] F' → K .normal F' H := fun F' hF' => hN _ _ ⟨k + 1, hk5, by rw [doneTo, if_pos hlt]; simp [hlen], hF', (back_0 rfl).symm⟩ (by
        rw [List.getD_eq_getElem?_getD, hF'.2.2.2.2.1]
        simp only [List.getD_cons_succ, List.getD_cons_zero, Option.getD_some]
        omega)
      clear hN hE hR
      have hd := doneTo_day (m := m) k
      have ha := around_range (n := at0 m (3 * k)) (most := 30) (by omega)
      have wd : IntKind.i64.wrap ((doneTo m k).1 + around (at0 m (3 * k)) 30) = (doneTo m k).1 + around (at0 m (3 * k)) 30 := wrap_id (by omega) (by omega)
      simp +contextual only [w2, w1, w3, prs_len, ints_len, hlen, ints_at0 (show 3 * k < m.length by omega), ints_at0 (show 3 * k + 1 < m.length by omega), ints_at0 hlt, ↓u9_s0, ↓u9_s1, ↓u9_s2, ↓u9_L3, ↓u9_s4, ↓XA, XB, XL, XM, cellsOf, okc, one1, resOne, resAll, eqCells, cellEq, fits, sameK, List.length_cons, List.length_nil, List.replicate_succ, List.replicate_zero, List.cons_append, List.nil_append, List.append_nil, List.set_cons_succ, List.set_cons_zero, List.getD_cons_succ, List.getD_cons_zero, List.map_cons, List.map_nil, List.getElem?_cons_succ, List.getElem?_cons_zero, List.toList_toArray, Option.map_some, Option.map_none, Option.isSome_some, Option.isSome_none, Nat.reduceSub, Nat.reduceAdd, Nat.reduceMul, Nat.reduceEqDiff, Nat.reduceLeDiff, Nat.reduceBEq, reduceCtorEq, List.drop_succ_cons, List.drop_zero, List.take_succ_cons, List.take_zero, List.drop_nil, List.take_nil, ne_eq, Option.getD_some, List.length_map, List.all_cons, List.all_nil, List.range_zero, List.range_succ, ite_true, ite_false, TYX]
      refine fun _ => ⟨fun _ _ => ⟨fun _ => ⟨by omega, fun _ => f_around (by omega) ?_⟩, fun hge => absurd (by omega) hge⟩, fun hge => absurd (by omega) hge⟩
      simp +contextual only [w2, w1, w3, wd, prs_len, ints_len, hlen, ints_at0 (show 3 * k < m.length by omega), ints_at0 (show 3 * k + 1 < m.length by omega), ints_at0 hlt, ↓u9_s0, ↓u9_s1, ↓u9_s2, ↓u9_L3, ↓u9_s4, ↓XA, XB, XL, XM, cellsOf, okc, one1, resOne, resAll, eqCells, cellEq, fits, sameK, List.length_cons, List.length_nil, List.replicate_succ, List.replicate_zero, List.cons_append, List.nil_append, List.append_nil, List.set_cons_succ, List.set_cons_zero, List.getD_cons_succ, List.getD_cons_zero, List.map_cons, List.map_nil, List.getElem?_cons_succ, List.getElem?_cons_zero, List.toList_toArray, Option.map_some, Option.map_none, Option.isSome_some, Option.isSome_none, Nat.reduceSub, Nat.reduceAdd, Nat.reduceMul, Nat.reduceEqDiff, Nat.reduceLeDiff, Nat.reduceBEq, reduceCtorEq, List.drop_succ_cons, List.drop_zero, List.take_succ_cons, List.take_zero, List.drop_nil, List.take_nil, ne_eq, Option.getD_some, List.length_map, List.all_cons, List.all_nil, List.range_zero, List.range_succ, ite_true, ite_false, TYX]
      refine fun _ => ⟨by omega, fun _ => ⟨_, f_around (by omega) ⟨rfl, rfl⟩, ?_⟩⟩
      simp +contextual only [w2, w1, w3, wd, prs_len, ints_len, hlen, ints_at0 (show 3 * k < m.length by omega), ints_at0 (show 3 * k + 1 < m.length by omega), ints_at0 hlt, ↓u9_s0, ↓u9_s1, ↓u9_s2, ↓u9_L3, ↓u9_s4, ↓XA, XB, XL, XM, cellsOf, okc, one1, resOne, resAll, eqCells, cellEq, fits, sameK, List.length_cons, List.length_nil, List.replicate_succ, List.replicate_zero, List.cons_append, List.nil_append, List.append_nil, List.set_cons_succ, List.set_cons_zero, List.getD_cons_succ, List.getD_cons_zero, List.map_cons, List.map_nil, List.getElem?_cons_succ, List.getElem?_cons_zero, List.toList_toArray, Option.map_some, Option.map_none, Option.isSome_some, Option.isSome_none, Nat.reduceSub, Nat.reduceAdd, Nat.reduceMul, Nat.reduceEqDiff, Nat.reduceLeDiff, Nat.reduceBEq, reduceCtorEq, List.drop_succ_cons, List.drop_zero, List.take_succ_cons, List.take_zero, List.drop_nil, List.take_nil, ne_eq, Option.getD_some, List.length_map, List.all_cons, List.all_nil, List.range_zero, List.range_succ, ite_true, ite_false, TYX]
      refine fun _ => ⟨by omega, fun _ => ⟨_, f_owners ⟨rfl, rfl⟩, ?_⟩⟩
      have ap : ∀ (a : List Pr) (t : Pr), prs a ++ [[.int .i64 t.day, .int .i64 t.copies, .slc (strs t.owners)]] = prs (a ++ [t]) := fun a t => by simp [prs, Pr.d]
      have hu : doneTo m (k + 1) = ((doneTo m k).1 + around (at0 m (3 * k)) 30, (doneTo m k).2 ++ [donePr m k ((doneTo m k).1 + around (at0 m (3 * k)) 30)]) := by rw [doneTo, if_pos hlt]
      simp +contextual only [w2, w1, w3, wd, prs_len, ints_len, hlen, ↓u9_s0, ↓u9_s1, ↓u9_s2, ↓u9_L3, ↓u9_s4, ↓XA, XB, XL, XM, cellsOf, okc, one1, resOne, resAll, eqCells, cellEq, fits, sameK, List.length_cons, List.length_nil, List.replicate_succ, List.replicate_zero, List.cons_append, List.nil_append, List.append_nil, List.set_cons_succ, List.set_cons_zero, List.getD_cons_succ, List.getD_cons_zero, List.map_cons, List.map_nil, List.getElem?_cons_succ, List.getElem?_cons_zero, List.toList_toArray, Option.map_some, Option.map_none, Option.isSome_some, Option.isSome_none, Nat.reduceSub, Nat.reduceAdd, Nat.reduceMul, Nat.reduceEqDiff, Nat.reduceLeDiff, Nat.reduceBEq, reduceCtorEq, List.drop_succ_cons, List.drop_zero, List.take_succ_cons, List.take_zero, List.drop_nil, List.take_nil, ne_eq, Option.getD_some, List.length_map, List.all_cons, List.all_nil, List.range_zero, List.range_succ, ite_true, ite_false, TYX]
      have e : prs (doneTo m k).2 ++ [[.int .i64 ((doneTo m k).1 + around (at0 m (3 * k)) 30), .int .i64 (around (at0 m (3 * k + 1)) 9), .slc (strs (ownersOf (at0 m (3 * k + 2))))]] = prs (doneTo m (k + 1)).2 := by
        rw [hu]
        exact ap _ (donePr m k _)
      have e1 : (doneTo m (k + 1)).1 = (doneTo m k).1 + around (at0 m (3 * k)) 30 := by rw [hu]
      refine fun _ => ⟨prs_3, by omega, ?_⟩
      rw [e]
      refine nx _ ?_
      rw [e1]
      exact ⟨rfl, rfl, rfl, rfl, rfl, trivial⟩
    · have h5 : k = 5 := by omega
      subst h5
      simp +contextual only [w2, w1, w3, prs_len, ints_len, hlen, ↓u9_s0, ↓u9_s1, ↓u9_s2, ↓u9_L3, ↓u9_s4, ↓XA, XB, XL, XM, cellsOf, okc, one1, resOne, resAll, eqCells, cellEq, fits, sameK, List.length_cons, List.length_nil, List.replicate_succ, List.replicate_zero, List.cons_append, List.nil_append, List.append_nil, List.set_cons_succ, List.set_cons_zero, List.getD_cons_succ, List.getD_cons_zero, List.map_cons, List.map_nil, List.getElem?_cons_succ, List.getElem?_cons_zero, List.toList_toArray, Option.map_some, Option.map_none, Option.isSome_some, Option.isSome_none, Nat.reduceSub, Nat.reduceAdd, Nat.reduceMul, Nat.reduceEqDiff, Nat.reduceLeDiff, Nat.reduceBEq, reduceCtorEq, List.drop_succ_cons, List.drop_zero, List.take_succ_cons, List.take_zero, List.drop_nil, List.take_nil, ne_eq, Option.getD_some, List.length_map, List.all_cons, List.all_nil, List.range_zero, List.range_succ, ite_true, ite_false, TYX]
      refine fun _ => ⟨fun _ _ => ⟨fun hh => absurd hh (by omega), fun _ => hE _ _ _ ?_⟩, fun hge => absurd (by omega) hge⟩
      simp +contextual only [↓u9_s0, ↓u9_s1, ↓u9_s2, ↓u9_L3, ↓u9_s4, ↓XA, XB, XL, XM, cellsOf, okc, one1, resOne, resAll, eqCells, cellEq, fits, sameK, List.length_cons, List.length_nil, List.replicate_succ, List.replicate_zero, List.cons_append, List.nil_append, List.append_nil, List.set_cons_succ, List.set_cons_zero, List.getD_cons_succ, List.getD_cons_zero, List.map_cons, List.map_nil, List.getElem?_cons_succ, List.getElem?_cons_zero, List.toList_toArray, Option.map_some, Option.map_none, Option.isSome_some, Option.isSome_none, Nat.reduceSub, Nat.reduceAdd, Nat.reduceMul, Nat.reduceEqDiff, Nat.reduceLeDiff, Nat.reduceBEq, reduceCtorEq, List.drop_succ_cons, List.drop_zero, List.take_succ_cons, List.take_zero, List.drop_nil, List.take_nil, ne_eq, Option.getD_some, List.length_map, List.all_cons, List.all_nil, List.range_zero, List.range_succ, ite_true, ite_false, TYX]
      exact h
  · simp +contextual only [w2, w1, w3, prs_len, ints_len, hlen, ↓u9_s0, ↓u9_s1, ↓u9_s2, ↓u9_L3, ↓u9_s4, ↓XA, XB, XL, XM, cellsOf, okc, one1, resOne, resAll, eqCells, cellEq, fits, sameK, List.length_cons, List.length_nil, List.replicate_succ, List.replicate_zero, List.cons_append, List.nil_append, List.append_nil, List.set_cons_succ, List.set_cons_zero, List.getD_cons_succ, List.getD_cons_zero, List.map_cons, List.map_nil, List.getElem?_cons_succ, List.getElem?_cons_zero, List.toList_toArray, Option.map_some, Option.map_none, Option.isSome_some, Option.isSome_none, Nat.reduceSub, Nat.reduceAdd, Nat.reduceMul, Nat.reduceEqDiff, Nat.reduceLeDiff, Nat.reduceBEq, reduceCtorEq, List.drop_succ_cons, List.drop_zero, List.take_succ_cons, List.take_zero, List.drop_nil, List.take_nil, ne_eq, Option.getD_some, List.length_map, List.all_cons, List.all_nil, List.range_zero, List.range_succ, ite_true, ite_false, TYX]
    refine fun _ => ⟨fun hh => absurd hh (by omega), fun _ => hE _ _ _ ?_⟩
    simp +contextual only [↓u9_s0, ↓u9_s1, ↓u9_s2, ↓u9_L3, ↓u9_s4, ↓XA, XB, XL, XM, cellsOf, okc, one1, resOne, resAll, eqCells, cellEq, fits, sameK, List.length_cons, List.length_nil, List.replicate_succ, List.replicate_zero, List.cons_append, List.nil_append, List.append_nil, List.set_cons_succ, List.set_cons_zero, List.getD_cons_succ, List.getD_cons_zero, List.map_cons, List.map_nil, List.getElem?_cons_succ, List.getElem?_cons_zero, List.toList_toArray, Option.map_some, Option.map_none, Option.isSome_some, Option.isSome_none, Nat.reduceSub, Nat.reduceAdd, Nat.reduceMul, Nat.reduceEqDiff, Nat.reduceLeDiff, Nat.reduceBEq, reduceCtorEq, List.drop_succ_cons, List.drop_zero, List.take_succ_cons, List.take_zero, List.drop_nil, List.take_nil, ne_eq, Option.getD_some, List.length_map, List.all_cons, List.all_nil, List.range_zero, List.range_succ, ite_true, ite_false, TYX]
    have hs := doneTo_stop hlt (5 - k)
    rw [show k + (5 - k) = 5 by omega] at hs
    rw [← hs]
    exact h
end Go.Proofs.Ytbfcfmcebdfndaa
