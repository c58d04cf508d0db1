/- Contracts of the reference's Prints and Valid. Conditions: those in each. -/
import Derived.Test.YtbfcfmcebdfndaaRf2
namespace Go.Proofs.Ytbfcfmcebdfndaa
open Go Go.Aw
set_option linter.unusedVariables false
set_option linter.unusedSimpArgs false

theorem validPs_no {l : List Pr} {i : Nat} (hi : i < l.length) (h : validP l[i] = false) : validPs l = false := by
  unfold validPs
  have : l.all validP = false := by
    rw [← Bool.not_eq_true, List.all_eq_true]
    intro hh
    have := hh _ (List.getElem_mem hi)
    rw [h] at this
    cases this
  simp [this]
theorem validPs_unsorted {l : List Pr} {k : Nat} (hi : k + 1 < l.length) (h : l[k + 1].day < l[k].day) : validPs l = false := by
  unfold validPs
  have : sortedP l = false := range_not (i := k) (by omega) (by
    simp only [decide_eq_false_iff_not]
    simp [hi, show k < l.length by omega]
    omega)
  simp [this]
/-- wordbookref25.Prints -/
theorem f_prints {done : List Pr} {H : AH} {R : D → AH → Prop} (h : R (.bool (validPs done)) H) : ACall Try.prog 29 [.slc (prs done)] H R := by
  refine b29 fun hf => ?_
  have hbig := big_eq
  have hlb : done.length ≤ big := by
    have := hf.1
    rwa [f_slc, prs_len] at this
  simp +contextual only [x29, ↓u29_s0, ↓u29_L1, ↓u29_s2, ↓XA, XB, XL, XM, cellsOf, okc, one1, resOne, resAll, eqCells, cellEq, fits, sameK, List.length_cons, List.length_nil, List.replicate_succ, List.replicate_zero, List.cons_append, List.nil_append, List.append_nil, List.set_cons_succ, List.set_cons_zero, List.getD_cons_succ, List.getD_cons_zero, List.map_cons, List.map_nil, List.getElem?_cons_succ, List.getElem?_cons_zero, List.toList_toArray, Option.map_some, Option.map_none, Option.isSome_some, Option.isSome_none, Nat.reduceSub, Nat.reduceAdd, Nat.reduceMul, Nat.reduceEqDiff, Nat.reduceLeDiff, Nat.reduceBEq, reduceCtorEq, List.drop_succ_cons, List.drop_zero, List.take_succ_cons, List.take_zero, List.drop_nil, List.take_nil, ne_eq, Option.getD_some, List.length_map, List.all_cons, List.all_nil, List.range_zero, List.range_succ, ite_true, ite_false, TYX]
  refine XW.loopK hm (fun F H' => ∃ i : Nat, i ≤ done.length ∧ (∀ j (hj : j < done.length), j < i → validP done[j] = true) ∧ (∀ j (hj : j + 1 < done.length), j + 1 < i → done[j].day ≤ done[j + 1].day) ∧ Fr 37 [(0, .slc (prs done)), (3, .int .i64 i)] F ∧ H = H') (fun F H => match F.getD 3 .any with | .int _ n => done.length - n.toNat | _ => 0) ⟨0, Nat.zero_le _, fun j _ hj => absurd hj (Nat.not_lt_zero j), fun j _ hj => absurd hj (Nat.not_lt_zero _), ⟨rfl, rfl, rfl, trivial⟩, rfl⟩ ?_
  rintro _ _ ⟨i, hi, hp, hq, hF, rfl⟩ K hN hE hR
  obtain ⟨z, rfl⟩ : ∃ z : Nat → D, _ = [.slc (prs done), z 1, z 2, .int .i64 i, z 4, z 5, z 6, z 7, z 8, z 9, z 10, z 11, z 12, z 13, z 14, z 15, z 16, z 17, z 18, z 19, z 20, z 21, z 22, z 23, z 24, z 25, z 26, z 27, z 28, z 29, z 30, z 31, z 32, z 33, z 34, z 35, z 36] := hF.lit
  clear hF
  by_cases hlt : i < done.length
  · have hd : done[i].d = [.int .i64 done[i].day, .int .i64 done[i].copies, .slc (strs done[i].owners)] := rfl
    have yes : validP done[i] = true → (∀ k (hk : k + 1 = i), done[k].day ≤ done[i].day) → ∀ F', Fr 37 [(0, .slc (prs done)), (3, .int .i64 ((i + 1 : Nat) : Int))] F' → K .normal F' H := fun hh hh2 F' hF' => hN _ _ ⟨i + 1, hlt, fun j hj hji => by
      rcases Nat.lt_succ_iff_lt_or_eq.1 hji with h' | rfl
      · exact hp j hj h'
      · exact hh, fun j hj hji => by
      rcases Nat.lt_succ_iff_lt_or_eq.1 hji with h' | rfl
      · exact hq j hj h'
      · exact hh2 j rfl, hF', (back_0 rfl).symm⟩ (by
        rw [List.getD_eq_getElem?_getD, hF'.2.2.1]
        simp only [List.getD_cons_succ, List.getD_cons_zero, Option.getD_some]
        omega)
    have hR0 : ∀ F', Fr 37 [(2, .bool false)] F' → validPs done = false → K .ret F' H := fun F' hF' hh => hR _ _ (by
      obtain ⟨z, rfl⟩ := hF'.lit
      simp +contextual only [frm, ↓u29_s0, ↓u29_L1, ↓u29_s2, ↓XA, XB, XL, XM, cellsOf, okc, one1, resOne, resAll, eqCells, cellEq, fits, sameK, List.length_cons, List.length_nil, List.replicate_succ, List.replicate_zero, List.cons_append, List.nil_append, List.append_nil, List.set_cons_succ, List.set_cons_zero, List.getD_cons_succ, List.getD_cons_zero, List.map_cons, List.map_nil, List.getElem?_cons_succ, List.getElem?_cons_zero, List.toList_toArray, Option.map_some, Option.map_none, Option.isSome_some, Option.isSome_none, Nat.reduceSub, Nat.reduceAdd, Nat.reduceMul, Nat.reduceEqDiff, Nat.reduceLeDiff, Nat.reduceBEq, reduceCtorEq, List.drop_succ_cons, List.drop_zero, List.take_succ_cons, List.take_zero, List.drop_nil, List.take_nil, ne_eq, Option.getD_some, List.length_map, List.all_cons, List.all_nil, List.range_zero, List.range_succ, ite_true, ite_false, TYX]
      rw [hh] at h
      exact h)
    clear hN hR
    cases i with
    | zero =>
      simp +contextual only [prs_len, prs_get hlt, hd, show ((0 : Nat) : Int) = 0 from rfl, wrap_id (show -9223372036854775808 ≤ (0 : Int) + 1 by omega) (show (0 : Int) + 1 ≤ 9223372036854775807 by omega), ↓u29_s0, ↓u29_L1, ↓u29_s2, ↓XA, XB, XL, XM, cellsOf, okc, one1, resOne, resAll, eqCells, cellEq, fits, sameK, List.length_cons, List.length_nil, List.replicate_succ, List.replicate_zero, List.cons_append, List.nil_append, List.append_nil, List.set_cons_succ, List.set_cons_zero, List.getD_cons_succ, List.getD_cons_zero, List.map_cons, List.map_nil, List.getElem?_cons_succ, List.getElem?_cons_zero, List.toList_toArray, Option.map_some, Option.map_none, Option.isSome_some, Option.isSome_none, Nat.reduceSub, Nat.reduceAdd, Nat.reduceMul, Nat.reduceEqDiff, Nat.reduceLeDiff, Nat.reduceBEq, reduceCtorEq, List.drop_succ_cons, List.drop_zero, List.take_succ_cons, List.take_zero, List.drop_nil, List.take_nil, ne_eq, Option.getD_some, List.length_map, List.all_cons, List.all_nil, List.range_zero, List.range_succ, ite_true, ite_false, TYX]
      refine fun _ => ⟨fun _ => ⟨_, f_one (p := done[0]) ⟨rfl, rfl⟩, ?_⟩, fun hge => absurd hge (by omega)⟩
      simp +contextual only [prs_len, prs_get hlt, hd, show ((0 : Nat) : Int) = 0 from rfl, wrap_id (show -9223372036854775808 ≤ (0 : Int) + 1 by omega) (show (0 : Int) + 1 ≤ 9223372036854775807 by omega), ↓u29_s0, ↓u29_L1, ↓u29_s2, ↓XA, XB, XL, XM, cellsOf, okc, one1, resOne, resAll, eqCells, cellEq, fits, sameK, List.length_cons, List.length_nil, List.replicate_succ, List.replicate_zero, List.cons_append, List.nil_append, List.append_nil, List.set_cons_succ, List.set_cons_zero, List.getD_cons_succ, List.getD_cons_zero, List.map_cons, List.map_nil, List.getElem?_cons_succ, List.getElem?_cons_zero, List.toList_toArray, Option.map_some, Option.map_none, Option.isSome_some, Option.isSome_none, Nat.reduceSub, Nat.reduceAdd, Nat.reduceMul, Nat.reduceEqDiff, Nat.reduceLeDiff, Nat.reduceBEq, reduceCtorEq, List.drop_succ_cons, List.drop_zero, List.take_succ_cons, List.take_zero, List.drop_nil, List.take_nil, ne_eq, Option.getD_some, List.length_map, List.all_cons, List.all_nil, List.range_zero, List.range_succ, ite_true, ite_false, TYX]
      exact ⟨fun h1 => hR0 _ ⟨rfl, rfl, trivial⟩ (validPs_no hlt h1), fun h1 => yes h1 (fun k hk => absurd hk (by omega)) _ ⟨rfl, rfl, rfl, trivial⟩⟩
    | succ k =>
      have hk : k < done.length := by omega
      have hd2 : done[k].d = [.int .i64 done[k].day, .int .i64 done[k].copies, .slc (strs done[k].owners)] := rfl
      have w1 : IntKind.i64.wrap (((k + 1 : Nat) : Int) - 1) = (k : Int) := by rw [wrap_id (by omega) (by omega)]; omega
      have w2 : IntKind.i64.wrap (((k + 1 : Nat) : Int) + 1) = ((k + 1 + 1 : Nat) : Int) := wrap_succ (by omega)
      simp +contextual only [prs_len, prs_get hlt, prs_get hk, hd, hd2, w1, w2, ↓u29_s0, ↓u29_L1, ↓u29_s2, ↓XA, XB, XL, XM, cellsOf, okc, one1, resOne, resAll, eqCells, cellEq, fits, sameK, List.length_cons, List.length_nil, List.replicate_succ, List.replicate_zero, List.cons_append, List.nil_append, List.append_nil, List.set_cons_succ, List.set_cons_zero, List.getD_cons_succ, List.getD_cons_zero, List.map_cons, List.map_nil, List.getElem?_cons_succ, List.getElem?_cons_zero, List.toList_toArray, Option.map_some, Option.map_none, Option.isSome_some, Option.isSome_none, Nat.reduceSub, Nat.reduceAdd, Nat.reduceMul, Nat.reduceEqDiff, Nat.reduceLeDiff, Nat.reduceBEq, reduceCtorEq, List.drop_succ_cons, List.drop_zero, List.take_succ_cons, List.take_zero, List.drop_nil, List.take_nil, ne_eq, Option.getD_some, List.length_map, List.all_cons, List.all_nil, List.range_zero, List.range_succ, ite_true, ite_false, TYX]
      refine fun _ => ⟨fun _ => ⟨_, f_one (p := done[k + 1]) ⟨rfl, rfl⟩, ?_⟩, fun hge => absurd hge (by omega)⟩
      simp +contextual only [prs_len, prs_get hlt, prs_get hk, hd, hd2, w1, w2, ↓u29_s0, ↓u29_L1, ↓u29_s2, ↓XA, XB, XL, XM, cellsOf, okc, one1, resOne, resAll, eqCells, cellEq, fits, sameK, List.length_cons, List.length_nil, List.replicate_succ, List.replicate_zero, List.cons_append, List.nil_append, List.append_nil, List.set_cons_succ, List.set_cons_zero, List.getD_cons_succ, List.getD_cons_zero, List.map_cons, List.map_nil, List.getElem?_cons_succ, List.getElem?_cons_zero, List.toList_toArray, Option.map_some, Option.map_none, Option.isSome_some, Option.isSome_none, Nat.reduceSub, Nat.reduceAdd, Nat.reduceMul, Nat.reduceEqDiff, Nat.reduceLeDiff, Nat.reduceBEq, reduceCtorEq, List.drop_succ_cons, List.drop_zero, List.take_succ_cons, List.take_zero, List.drop_nil, List.take_nil, ne_eq, Option.getD_some, List.length_map, List.all_cons, List.all_nil, List.range_zero, List.range_succ, ite_true, ite_false, TYX]
      refine ⟨fun h1 => hR0 _ ⟨rfl, rfl, trivial⟩ (validPs_no hlt h1), fun h1 => ?_⟩
      exact ⟨fun _ => ⟨by omega, fun _ => ⟨by omega, fun _ => ⟨fun h2 => hR0 _ ⟨rfl, rfl, trivial⟩ (validPs_unsorted hlt h2), fun h2 => yes h1 (fun j hj => by
        obtain rfl : j = k := by omega
        omega) _ ⟨rfl, rfl, rfl, trivial⟩⟩⟩⟩, fun hno => absurd (by omega) hno⟩
  · simp +contextual only [prs_len, ↓u29_s0, ↓u29_L1, ↓u29_s2, ↓XA, XB, XL, XM, cellsOf, okc, one1, resOne, resAll, eqCells, cellEq, fits, sameK, List.length_cons, List.length_nil, List.replicate_succ, List.replicate_zero, List.cons_append, List.nil_append, List.append_nil, List.set_cons_succ, List.set_cons_zero, List.getD_cons_succ, List.getD_cons_zero, List.map_cons, List.map_nil, List.getElem?_cons_succ, List.getElem?_cons_zero, List.toList_toArray, Option.map_some, Option.map_none, Option.isSome_some, Option.isSome_none, Nat.reduceSub, Nat.reduceAdd, Nat.reduceMul, Nat.reduceEqDiff, Nat.reduceLeDiff, Nat.reduceBEq, reduceCtorEq, List.drop_succ_cons, List.drop_zero, List.take_succ_cons, List.take_zero, List.drop_nil, List.take_nil, ne_eq, Option.getD_some, List.length_map, List.all_cons, List.all_nil, List.range_zero, List.range_succ, ite_true, ite_false, TYX]
    refine fun _ => ⟨fun h' => absurd h' (by omega), fun _ => hE _ _ _ ?_⟩
    simp +contextual only [prs_len, ↓u29_s0, ↓u29_L1, ↓u29_s2, ↓XA, XB, XL, XM, cellsOf, okc, one1, resOne, resAll, eqCells, cellEq, fits, sameK, List.length_cons, List.length_nil, List.replicate_succ, List.replicate_zero, List.cons_append, List.nil_append, List.append_nil, List.set_cons_succ, List.set_cons_zero, List.getD_cons_succ, List.getD_cons_zero, List.map_cons, List.map_nil, List.getElem?_cons_succ, List.getElem?_cons_zero, List.toList_toArray, Option.map_some, Option.map_none, Option.isSome_some, Option.isSome_none, Nat.reduceSub, Nat.reduceAdd, Nat.reduceMul, Nat.reduceEqDiff, Nat.reduceLeDiff, Nat.reduceBEq, reduceCtorEq, List.drop_succ_cons, List.drop_zero, List.take_succ_cons, List.take_zero, List.drop_nil, List.take_nil, ne_eq, Option.getD_some, List.length_map, List.all_cons, List.all_nil, List.range_zero, List.range_succ, ite_true, ite_false, TYX]
    intro _
    have h1 : done.all validP = true := List.all_eq_true.2 fun x hx => by
      obtain ⟨j, hj, rfl⟩ := List.getElem_of_mem hx
      exact hp j hj (by omega)
    have h2 : sortedP done = true := range_all.2 fun j hj => by
      have := hq j (by omega) (by omega)
      simp only [decide_eq_true_eq]
      simpa [show j < done.length by omega, show j + 1 < done.length by omega] using this
    have : validPs done = decide ((done.length : Int) ≤ 256) := by
      unfold validPs
      rw [h1, h2, Bool.and_true, Bool.and_true]
      congr 1
      simp only [eq_iff_iff]
      omega
    rw [this] at h
    exact h
/-- wordbookref25.Valid -/
theorem f_valid {l : List Tm} {H : AH} {R : D → AH → Prop} (hsz : l.length ≤ 1073741824) (h : R (.bool (validT l)) H) : ACall Try.prog 18 [.slc (tms l)] H R := by
  refine b18 fun hf => ?_
  have hbig := big_eq
  simp +contextual only [x18, ↓u18_s0, ↓u18_s1, ↓u18_L2, ↓u18_s3, ↓u18_s4, ↓XA, XB, XL, XM, cellsOf, okc, one1, resOne, resAll, eqCells, cellEq, fits, sameK, List.length_cons, List.length_nil, List.replicate_succ, List.replicate_zero, List.cons_append, List.nil_append, List.append_nil, List.set_cons_succ, List.set_cons_zero, List.getD_cons_succ, List.getD_cons_zero, List.map_cons, List.map_nil, List.getElem?_cons_succ, List.getElem?_cons_zero, List.toList_toArray, Option.map_some, Option.map_none, Option.isSome_some, Option.isSome_none, Nat.reduceSub, Nat.reduceAdd, Nat.reduceMul, Nat.reduceEqDiff, Nat.reduceLeDiff, Nat.reduceBEq, reduceCtorEq, List.drop_succ_cons, List.drop_zero, List.take_succ_cons, List.take_zero, List.drop_nil, List.take_nil, ne_eq, Option.getD_some, List.length_map, List.all_cons, List.all_nil, List.range_zero, List.range_succ, ite_true, ite_false, TYX]
  refine XW.loopK hm (fun F H' => ∃ i : Nat, i ≤ l.length ∧ (∀ j (hj : j < l.length), j < i → btw l[j].u 1048576 = true ∧ btw l[j].c 1073741824 = true) ∧ Fr 56 [(0, .slc (tms l)), (3, .own (strs ((l.take i).map Tm.o))), (4, .int .i64 i)] F ∧ H = H') (fun F H => match F.getD 4 .any with | .int _ n => l.length - n.toNat | _ => 0) ⟨0, Nat.zero_le _, fun j _ hj => absurd hj (Nat.not_lt_zero j), ⟨rfl, rfl, rfl, rfl, trivial⟩, rfl⟩ ?_
  rintro _ _ ⟨i, hi, hp, hF, rfl⟩ K hN hE hR
  obtain ⟨z, rfl⟩ : ∃ z : Nat → D, _ = [.slc (tms l), z 1, z 2, .own (strs ((l.take i).map Tm.o)), .int .i64 i, z 5, z 6, z 7, z 8, z 9, z 10, z 11, z 12, z 13, z 14, z 15, z 16, z 17, z 18, z 19, z 20, z 21, z 22, z 23, z 24, z 25, z 26, z 27, z 28, z 29, z 30, z 31, z 32, z 33, z 34, z 35, z 36, z 37, z 38, z 39, z 40, z 41, z 42, z 43, z 44, z 45, z 46, z 47, z 48, z 49, z 50, z 51, z 52, z 53, z 54, z 55] := hF.lit
  clear hF
  by_cases hlt : i < l.length
  · have hd : l[i].d = [.str l[i].o, .int .i64 l[i].u, .int .i64 l[i].c] := rfl
    have no : btw l[i].u 1048576 = false ∨ btw l[i].c 1073741824 = false → validT l = false := fun hh => by
      unfold validT
      rw [range_not hlt (by
        unfold okT
        rw [List.getD_eq_getElem?_getD, List.getElem?_eq_getElem hlt]
        simp only [Option.getD_some]
        rcases hh with hh | hh <;> simp [hh]), Bool.and_false]
    have hstr : strs ((l.take i).map Tm.o) ++ [[.str l[i].o]] = strs ((l.take (i + 1)).map Tm.o) := by
      unfold strs
      rw [List.take_succ_eq_append_getElem hlt, List.map_append, List.map_append]
      rfl
    have yes : btw l[i].u 1048576 = true → btw l[i].c 1073741824 = true → ∀ F', Fr 56 [(0, .slc (tms l)), (3, .own (strs ((l.take (i + 1)).map Tm.o))), (4, .int .i64 ((i + 1 : Nat) : Int))] F' → K .normal F' H := fun hh hh2 F' hF' => hN _ _ ⟨i + 1, hlt, fun j hj hji => by
      rcases Nat.lt_succ_iff_lt_or_eq.1 hji with h' | rfl
      · exact hp j hj h'
      · exact ⟨hh, hh2⟩, hF', (back_0 rfl).symm⟩ (by
        rw [List.getD_eq_getElem?_getD, hF'.2.2.2.1]
        simp only [List.getD_cons_succ, List.getD_cons_zero, Option.getD_some]
        omega)
    have hR0 : ∀ F', Fr 56 [(2, .bool false)] F' → validT l = false → K .ret F' H := fun F' hF' hh => hR _ _ (by
      obtain ⟨z, rfl⟩ := hF'.lit
      simp +contextual only [frm, ↓u18_s0, ↓u18_s1, ↓u18_L2, ↓u18_s3, ↓u18_s4, ↓XA, XB, XL, XM, cellsOf, okc, one1, resOne, resAll, eqCells, cellEq, fits, sameK, List.length_cons, List.length_nil, List.replicate_succ, List.replicate_zero, List.cons_append, List.nil_append, List.append_nil, List.set_cons_succ, List.set_cons_zero, List.getD_cons_succ, List.getD_cons_zero, List.map_cons, List.map_nil, List.getElem?_cons_succ, List.getElem?_cons_zero, List.toList_toArray, Option.map_some, Option.map_none, Option.isSome_some, Option.isSome_none, Nat.reduceSub, Nat.reduceAdd, Nat.reduceMul, Nat.reduceEqDiff, Nat.reduceLeDiff, Nat.reduceBEq, reduceCtorEq, List.drop_succ_cons, List.drop_zero, List.take_succ_cons, List.take_zero, List.drop_nil, List.take_nil, ne_eq, Option.getD_some, List.length_map, List.all_cons, List.all_nil, List.range_zero, List.range_succ, ite_true, ite_false, TYX]
      rw [hh] at h
      exact h)
    clear hN hR
    have hlen : (strs ((l.take i).map Tm.o)).length = i := by rw [strs_len]; simp; omega
    simp +contextual only [tms_len, tms_get hlt, hd, hstr, hlen, wrap_succ (show i ≤ big by omega), ↓u18_s0, ↓u18_s1, ↓u18_L2, ↓u18_s3, ↓u18_s4, ↓XA, XB, XL, XM, cellsOf, okc, one1, resOne, resAll, eqCells, cellEq, fits, sameK, List.length_cons, List.length_nil, List.replicate_succ, List.replicate_zero, List.cons_append, List.nil_append, List.append_nil, List.set_cons_succ, List.set_cons_zero, List.getD_cons_succ, List.getD_cons_zero, List.map_cons, List.map_nil, List.getElem?_cons_succ, List.getElem?_cons_zero, List.toList_toArray, Option.map_some, Option.map_none, Option.isSome_some, Option.isSome_none, Nat.reduceSub, Nat.reduceAdd, Nat.reduceMul, Nat.reduceEqDiff, Nat.reduceLeDiff, Nat.reduceBEq, reduceCtorEq, List.drop_succ_cons, List.drop_zero, List.take_succ_cons, List.take_zero, List.drop_nil, List.take_nil, ne_eq, Option.getD_some, List.length_map, List.all_cons, List.all_nil, List.range_zero, List.range_succ, ite_true, ite_false, TYX]
    have bu : l[i].u < 0 ∨ 1048576 < l[i].u → btw l[i].u 1048576 = false := fun hh => by
      simp only [btw, Bool.and_eq_false_iff, decide_eq_false_iff_not]
      omega
    have bc : l[i].c < 0 ∨ 1073741824 < l[i].c → btw l[i].c 1073741824 = false := fun hh => by
      simp only [btw, Bool.and_eq_false_iff, decide_eq_false_iff_not]
      omega
    refine fun _ => ⟨fun _ _ => ⟨strs_1, by omega, fun _ => ⟨fun h1 => hR0 _ ⟨rfl, rfl, trivial⟩ (no (.inl (bu (.inl h1)))), fun h1 => ⟨fun h2 => hR0 _ ⟨rfl, rfl, trivial⟩ (no (.inl (bu (.inr h2)))), fun h2 _ => ⟨fun h3 => hR0 _ ⟨rfl, rfl, trivial⟩ (no (.inr (bc (.inl h3)))), fun h3 => ⟨fun h4 => hR0 _ ⟨rfl, rfl, trivial⟩ (no (.inr (bc (.inr h4)))), fun h4 => yes ?_ ?_ _ ⟨rfl, rfl, rfl, rfl, trivial⟩⟩⟩⟩⟩⟩, fun hge => absurd hge (by omega)⟩
    · simp only [btw, Bool.and_eq_true, decide_eq_true_eq]; omega
    · simp only [btw, Bool.and_eq_true, decide_eq_true_eq]; omega
  · simp +contextual only [tms_len, ↓u18_s0, ↓u18_s1, ↓u18_L2, ↓u18_s3, ↓u18_s4, ↓XA, XB, XL, XM, cellsOf, okc, one1, resOne, resAll, eqCells, cellEq, fits, sameK, List.length_cons, List.length_nil, List.replicate_succ, List.replicate_zero, List.cons_append, List.nil_append, List.append_nil, List.set_cons_succ, List.set_cons_zero, List.getD_cons_succ, List.getD_cons_zero, List.map_cons, List.map_nil, List.getElem?_cons_succ, List.getElem?_cons_zero, List.toList_toArray, Option.map_some, Option.map_none, Option.isSome_some, Option.isSome_none, Nat.reduceSub, Nat.reduceAdd, Nat.reduceMul, Nat.reduceEqDiff, Nat.reduceLeDiff, Nat.reduceBEq, reduceCtorEq, List.drop_succ_cons, List.drop_zero, List.take_succ_cons, List.take_zero, List.drop_nil, List.take_nil, ne_eq, Option.getD_some, List.length_map, List.all_cons, List.all_nil, List.range_zero, List.range_succ, ite_true, ite_false, TYX]
    refine fun _ => ⟨fun h' => absurd h' (by omega), fun _ => hE _ _ _ ?_⟩
    simp +contextual only [tms_len, ↓u18_s0, ↓u18_s1, ↓u18_L2, ↓u18_s3, ↓u18_s4, ↓XA, XB, XL, XM, cellsOf, okc, one1, resOne, resAll, eqCells, cellEq, fits, sameK, List.length_cons, List.length_nil, List.replicate_succ, List.replicate_zero, List.cons_append, List.nil_append, List.append_nil, List.set_cons_succ, List.set_cons_zero, List.getD_cons_succ, List.getD_cons_zero, List.map_cons, List.map_nil, List.getElem?_cons_succ, List.getElem?_cons_zero, List.toList_toArray, Option.map_some, Option.map_none, Option.isSome_some, Option.isSome_none, Nat.reduceSub, Nat.reduceAdd, Nat.reduceMul, Nat.reduceEqDiff, Nat.reduceLeDiff, Nat.reduceBEq, reduceCtorEq, List.drop_succ_cons, List.drop_zero, List.take_succ_cons, List.take_zero, List.drop_nil, List.take_nil, ne_eq, Option.getD_some, List.length_map, List.all_cons, List.all_nil, List.range_zero, List.range_succ, ite_true, ite_false, TYX]
    have hii : i = l.length := by omega
    subst hii
    rw [List.take_length]
    refine fun _ => ⟨fun h64 => f_rising ?_, fun h64 => ?_⟩
    · simp +contextual only [↓u18_s0, ↓u18_s1, ↓u18_L2, ↓u18_s3, ↓u18_s4, ↓XA, XB, XL, XM, cellsOf, okc, one1, resOne, resAll, eqCells, cellEq, fits, sameK, List.length_cons, List.length_nil, List.replicate_succ, List.replicate_zero, List.cons_append, List.nil_append, List.append_nil, List.set_cons_succ, List.set_cons_zero, List.getD_cons_succ, List.getD_cons_zero, List.map_cons, List.map_nil, List.getElem?_cons_succ, List.getElem?_cons_zero, List.toList_toArray, Option.map_some, Option.map_none, Option.isSome_some, Option.isSome_none, Nat.reduceSub, Nat.reduceAdd, Nat.reduceMul, Nat.reduceEqDiff, Nat.reduceLeDiff, Nat.reduceBEq, reduceCtorEq, List.drop_succ_cons, List.drop_zero, List.take_succ_cons, List.take_zero, List.drop_nil, List.take_nil, ne_eq, Option.getD_some, List.length_map, List.all_cons, List.all_nil, List.range_zero, List.range_succ, ite_true, ite_false, TYX]
      have : validT l = rise (l.map Tm.o) := by
        rw [Bool.eq_iff_iff]
        unfold validT rise
        simp only [Bool.and_eq_true, decide_eq_true_eq, range_all, List.length_map]
        have key : ∀ j (hj : j < l.length), prevO (sO (l.map Tm.o)) j = prevO (tO l) j ∧ sO (l.map Tm.o) j = l[j].o := fun j hj => by
          refine ⟨?_, by simp [sO, hj]⟩
          cases j with
          | zero => rfl
          | succ k => simp [prevO, sO, tO, show k < l.length by omega]
        refine ⟨fun hh j hj => ?_, fun hh => ⟨by omega, fun j hj => ?_⟩⟩
        · have := hh.2 j hj
          unfold okT at this
          rw [List.getD_eq_getElem?_getD, List.getElem?_eq_getElem hj] at this
          simp only [Bool.and_eq_true, Option.getD_some] at this
          rw [(key j hj).1, (key j hj).2]
          exact this.1.1
        · have := hh j hj
          rw [(key j hj).1, (key j hj).2] at this
          unfold okT
          rw [List.getD_eq_getElem?_getD, List.getElem?_eq_getElem hj]
          simp only [Bool.and_eq_true, Option.getD_some]
          exact ⟨⟨this, (hp j hj hj).1⟩, (hp j hj hj).2⟩
      rw [this] at h
      exact h
    · have : validT l = false := by
        unfold validT
        rw [decide_eq_false (by omega), Bool.false_and]
      rw [this] at h
      exact h
end Go.Proofs.Ytbfcfmcebdfndaa
