/- Contract of the reference's Record. Conditions: those in it. -/
import Derived.Test.YtbfcfmcebdfndaaRf5
namespace Go.Proofs.Ytbfcfmcebdfndaa
open Go Go.Aw
set_option linter.unusedVariables false
set_option linter.unusedSimpArgs false

/-- wordbookref25.Record -/
theorem f_record {l : List Tm} {done : List Pr} {p : Pr} {H : AH} {R : D → AH → Prop} (hsz : l.length ≤ 1073741824) (h : R (recD l done p) H) : ACall Try.prog 21 [.slc (tms l), .slc (prs done), .agg p.d] H R := by
  refine b21 fun hf => ?_
  have hbig := big_eq
  simp +contextual only [x21, Pr.d, ↓u21_s0, ↓u21_s1, ↓u21_s2, ↓u21_L3, ↓u21_s4, ↓u21_s5, ↓u21_s6, ↓u21_s7, ↓u21_s8, ↓XA, XB, XL, XM, cellsOf, okc, one1, resOne, resAll, eqCells, cellEq, fits, sameK, List.length_cons, List.length_nil, List.replicate_succ, List.replicate_zero, List.cons_append, List.nil_append, List.append_nil, List.set_cons_succ, List.set_cons_zero, List.getD_cons_succ, List.getD_cons_zero, List.map_cons, List.map_nil, List.getElem?_cons_succ, List.getElem?_cons_zero, List.toList_toArray, Option.map_some, Option.map_none, Option.isSome_some, Option.isSome_none, Nat.reduceSub, Nat.reduceAdd, Nat.reduceMul, Nat.reduceEqDiff, Nat.reduceLeDiff, Nat.reduceBEq, reduceCtorEq, List.drop_succ_cons, List.drop_zero, List.take_succ_cons, List.take_zero, List.drop_nil, List.take_nil, ne_eq, Option.getD_some, List.length_map, List.all_cons, List.all_nil, List.range_zero, List.range_succ, ite_true, ite_false, TYX]
  intro b1 h1
  refine f_valid hsz ?_
  simp +contextual only [h1, ↓u21_s0, ↓u21_s1, ↓u21_s2, ↓u21_L3, ↓u21_s4, ↓u21_s5, ↓u21_s6, ↓u21_s7, ↓u21_s8, ↓XA, XB, XL, XM, cellsOf, okc, one1, resOne, resAll, eqCells, cellEq, fits, sameK, List.length_cons, List.length_nil, List.replicate_succ, List.replicate_zero, List.cons_append, List.nil_append, List.append_nil, List.set_cons_succ, List.set_cons_zero, List.getD_cons_succ, List.getD_cons_zero, List.map_cons, List.map_nil, List.getElem?_cons_succ, List.getElem?_cons_zero, List.toList_toArray, Option.map_some, Option.map_none, Option.isSome_some, Option.isSome_none, Nat.reduceSub, Nat.reduceAdd, Nat.reduceMul, Nat.reduceEqDiff, Nat.reduceLeDiff, Nat.reduceBEq, reduceCtorEq, List.drop_succ_cons, List.drop_zero, List.take_succ_cons, List.take_zero, List.drop_nil, List.take_nil, ne_eq, Option.getD_some, List.length_map, List.all_cons, List.all_nil, List.range_zero, List.range_succ, ite_true, ite_false, TYX]
  refine ⟨fun e1 => ?_, fun e1 => ?_⟩
  · simpa [recD, recErr, e1] using h
  refine f_prints ?_
  simp +contextual only [h1, ↓u21_s0, ↓u21_s1, ↓u21_s2, ↓u21_L3, ↓u21_s4, ↓u21_s5, ↓u21_s6, ↓u21_s7, ↓u21_s8, ↓XA, XB, XL, XM, cellsOf, okc, one1, resOne, resAll, eqCells, cellEq, fits, sameK, List.length_cons, List.length_nil, List.replicate_succ, List.replicate_zero, List.cons_append, List.nil_append, List.append_nil, List.set_cons_succ, List.set_cons_zero, List.getD_cons_succ, List.getD_cons_zero, List.map_cons, List.map_nil, List.getElem?_cons_succ, List.getElem?_cons_zero, List.toList_toArray, Option.map_some, Option.map_none, Option.isSome_some, Option.isSome_none, Nat.reduceSub, Nat.reduceAdd, Nat.reduceMul, Nat.reduceEqDiff, Nat.reduceLeDiff, Nat.reduceBEq, reduceCtorEq, List.drop_succ_cons, List.drop_zero, List.take_succ_cons, List.take_zero, List.drop_nil, List.take_nil, ne_eq, Option.getD_some, List.length_map, List.all_cons, List.all_nil, List.range_zero, List.range_succ, ite_true, ite_false, TYX]
  refine ⟨fun e2 => ?_, fun e2 => ?_⟩
  · simpa [recD, recErr, e1, e2] using h
  refine f_one (p := p) ?_
  simp +contextual only [h1, ↓u21_s0, ↓u21_s1, ↓u21_s2, ↓u21_L3, ↓u21_s4, ↓u21_s5, ↓u21_s6, ↓u21_s7, ↓u21_s8, ↓XA, XB, XL, XM, cellsOf, okc, one1, resOne, resAll, eqCells, cellEq, fits, sameK, List.length_cons, List.length_nil, List.replicate_succ, List.replicate_zero, List.cons_append, List.nil_append, List.append_nil, List.set_cons_succ, List.set_cons_zero, List.getD_cons_succ, List.getD_cons_zero, List.map_cons, List.map_nil, List.getElem?_cons_succ, List.getElem?_cons_zero, List.toList_toArray, Option.map_some, Option.map_none, Option.isSome_some, Option.isSome_none, Nat.reduceSub, Nat.reduceAdd, Nat.reduceMul, Nat.reduceEqDiff, Nat.reduceLeDiff, Nat.reduceBEq, reduceCtorEq, List.drop_succ_cons, List.drop_zero, List.take_succ_cons, List.take_zero, List.drop_nil, List.take_nil, ne_eq, Option.getD_some, List.length_map, List.all_cons, List.all_nil, List.range_zero, List.range_succ, ite_true, ite_false, TYX]
  refine ⟨fun e3 => ?_, fun e3 => ?_⟩
  · simpa [recD, recErr, e1, e2, e3] using h
  obtain ⟨hn, hall⟩ := validPs_all e2
  have hwr : 0 < done.length → IntKind.i64.wrap ((done.length : Int) - 1) = ((done.length - 1 : Nat) : Int) := fun h0 => by
    rw [wrap_id (by omega) (by omega)]
    omega
  have tail : before done p = false → ¬ (256 : Int) ≤ done.length → ∀ {F : List D} {Q : AQ}, Fr 70 [(0, .slc (tms l)), (1, .slc (prs done)), (5, .ptr b1 0), (8, .int .i64 0)] F → (recErr l done p = 0 → ∀ F', Fr 70 [(0, .slc (tms l)), (1, .slc (prs done)), (5, .ptr b1 0), (8, .int .i64 p.owners.length)] F' → Q (.exit 0) F' ((b1, .cells [.int .i64 p.day, .int .i64 p.copies, .slc (strs p.owners)]) :: H)) →
      (recErr l done p ≠ 0 → ∀ F', Fr 70 [(6, .own []), (7, .int .i64 (recErr l done p))] F' → Q .ret F' ((b1, .cells [.int .i64 p.day, .int .i64 p.copies, .slc (strs p.owners)]) :: H)) → XW Try.prog x21_L3 F ((b1, .cells [.int .i64 p.day, .int .i64 p.copies, .slc (strs p.owners)]) :: H) Q := by
    intro hbf hn256 F Q hF hQE hQR
    have hr : recErr l done p = firstErr (fun o => allowedOf l done o p.day p.copies) p.owners := by
      have : ¬ done.length = 256 := by omega
      simp [recErr, e1, e2, e3, hbf, this]
    refine XW.loopK hm (fun F H' => ∃ (i : Nat), i ≤ p.owners.length ∧ (∀ j (hj : j < p.owners.length), j < i → allowedOf l done p.owners[j] p.day p.copies = 0) ∧ Fr 70 [(0, .slc (tms l)), (1, .slc (prs done)), (5, .ptr b1 0), (8, .int .i64 i)] F ∧ H' = (b1, .cells [.int .i64 p.day, .int .i64 p.copies, .slc (strs p.owners)]) :: H) (fun F H => match F.getD 8 .any with | .int _ n => p.owners.length - n.toNat | _ => 0) ⟨0, Nat.zero_le _, fun j _ hj => absurd hj (Nat.not_lt_zero j), hF, rfl⟩ ?_
    rintro _ _ ⟨i, hi, hz, hF, rfl⟩ K hN hE hR
    obtain ⟨z, rfl⟩ : ∃ z : Nat → D, _ = [.slc (tms l), .slc (prs done), z 2, z 3, z 4, .ptr b1 0, z 6, z 7, .int .i64 i, z 9, z 10, z 11, z 12, z 13, z 14, z 15, z 16, z 17, z 18, z 19, z 20, z 21, z 22, z 23, z 24, z 25, z 26, z 27, z 28, z 29, z 30, z 31, z 32, z 33, z 34, z 35, z 36, z 37, z 38, z 39, z 40, z 41, z 42, z 43, z 44, z 45, z 46, z 47, z 48, z 49, z 50, z 51, z 52, z 53, z 54, z 55, z 56, z 57, z 58, z 59, z 60, z 61, z 62, z 63, z 64, z 65, z 66, z 67, z 68, z 69] := hF.lit
    clear hF
    by_cases hlt : i < p.owners.length
    · simp +contextual only [strs_len, strs_get hlt, ↓u21_s0, ↓u21_s1, ↓u21_s2, ↓u21_L3, ↓u21_s4, ↓u21_s5, ↓u21_s6, ↓u21_s7, ↓u21_s8, ↓XA, XB, XL, XM, cellsOf, okc, one1, resOne, resAll, eqCells, cellEq, fits, sameK, List.length_cons, List.length_nil, List.replicate_succ, List.replicate_zero, List.cons_append, List.nil_append, List.append_nil, List.set_cons_succ, List.set_cons_zero, List.getD_cons_succ, List.getD_cons_zero, List.map_cons, List.map_nil, List.getElem?_cons_succ, List.getElem?_cons_zero, List.toList_toArray, Option.map_some, Option.map_none, Option.isSome_some, Option.isSome_none, Nat.reduceSub, Nat.reduceAdd, Nat.reduceMul, Nat.reduceEqDiff, Nat.reduceLeDiff, Nat.reduceBEq, reduceCtorEq, List.drop_succ_cons, List.drop_zero, List.take_succ_cons, List.take_zero, List.drop_nil, List.take_nil, ne_eq, Option.getD_some, List.length_map, List.all_cons, List.all_nil, List.range_zero, List.range_succ, ite_true, ite_false, TYX]
      refine fun hlo => ⟨fun _ _ _ _ => ⟨_, f_allowed hsz ⟨rfl, rfl⟩, ?_⟩, fun hge => absurd hge (by omega)⟩
      simp +contextual only [↓u21_s0, ↓u21_s1, ↓u21_s2, ↓u21_L3, ↓u21_s4, ↓u21_s5, ↓u21_s6, ↓u21_s7, ↓u21_s8, ↓XA, XB, XL, XM, cellsOf, okc, one1, resOne, resAll, eqCells, cellEq, fits, sameK, List.length_cons, List.length_nil, List.replicate_succ, List.replicate_zero, List.cons_append, List.nil_append, List.append_nil, List.set_cons_succ, List.set_cons_zero, List.getD_cons_succ, List.getD_cons_zero, List.map_cons, List.map_nil, List.getElem?_cons_succ, List.getElem?_cons_zero, List.toList_toArray, Option.map_some, Option.map_none, Option.isSome_some, Option.isSome_none, Nat.reduceSub, Nat.reduceAdd, Nat.reduceMul, Nat.reduceEqDiff, Nat.reduceLeDiff, Nat.reduceBEq, reduceCtorEq, List.drop_succ_cons, List.drop_zero, List.take_succ_cons, List.take_zero, List.drop_nil, List.take_nil, ne_eq, Option.getD_some, List.length_map, List.all_cons, List.all_nil, List.range_zero, List.range_succ, ite_true, ite_false, TYX]
      refine fun _ => ⟨fun hz2 => ?_, fun hz2 => ?_⟩
      · have he : recErr l done p = allowedOf l done p.owners[i] p.day p.copies := by
          rw [hr]
          exact firstErr_some (f := fun o => allowedOf l done o p.day p.copies) hlt hz2 fun j hj => hz j (by omega) hj
        rw [← he]
        exact hR _ _ (hQR (by rw [he]; exact hz2) _ ⟨rfl, rfl, rfl, trivial⟩)
      · rw [wrap_succ (by omega)]
        refine hN _ _ ⟨i + 1, hlt, fun j hj hji => ?_, ⟨rfl, rfl, rfl, rfl, rfl, trivial⟩, back_0 rfl⟩ ?_
        · rcases Nat.lt_succ_iff_lt_or_eq.1 hji with h' | rfl
          · exact hz j hj h'
          · exact hz2
        · simp only [List.getD_cons_succ, List.getD_cons_zero]; omega
    · simp +contextual only [strs_len, ↓u21_s0, ↓u21_s1, ↓u21_s2, ↓u21_L3, ↓u21_s4, ↓u21_s5, ↓u21_s6, ↓u21_s7, ↓u21_s8, ↓XA, XB, XL, XM, cellsOf, okc, one1, resOne, resAll, eqCells, cellEq, fits, sameK, List.length_cons, List.length_nil, List.replicate_succ, List.replicate_zero, List.cons_append, List.nil_append, List.append_nil, List.set_cons_succ, List.set_cons_zero, List.getD_cons_succ, List.getD_cons_zero, List.map_cons, List.map_nil, List.getElem?_cons_succ, List.getElem?_cons_zero, List.toList_toArray, Option.map_some, Option.map_none, Option.isSome_some, Option.isSome_none, Nat.reduceSub, Nat.reduceAdd, Nat.reduceMul, Nat.reduceEqDiff, Nat.reduceLeDiff, Nat.reduceBEq, reduceCtorEq, List.drop_succ_cons, List.drop_zero, List.take_succ_cons, List.take_zero, List.drop_nil, List.take_nil, ne_eq, Option.getD_some, List.length_map, List.all_cons, List.all_nil, List.range_zero, List.range_succ, ite_true, ite_false, TYX]
      have hii : i = p.owners.length := by omega
      subst hii
      have hr0 : recErr l done p = 0 := by
        rw [hr]
        exact firstErr_none fun j hj => hz j hj hj
      exact fun _ => ⟨fun h' => absurd h' (by omega), fun _ => hE _ _ _ (hQE hr0 _ ⟨rfl, rfl, rfl, rfl, rfl, trivial⟩)⟩
  simp +contextual only [h1, prs_len, strs_len, ↓u21_s0, ↓u21_s1, ↓u21_s2, ↓u21_L3, ↓u21_s4, ↓u21_s5, ↓u21_s6, ↓u21_s7, ↓u21_s8, ↓XA, XB, XL, XM, cellsOf, okc, one1, resOne, resAll, eqCells, cellEq, fits, sameK, List.length_cons, List.length_nil, List.replicate_succ, List.replicate_zero, List.cons_append, List.nil_append, List.append_nil, List.set_cons_succ, List.set_cons_zero, List.getD_cons_succ, List.getD_cons_zero, List.map_cons, List.map_nil, List.getElem?_cons_succ, List.getElem?_cons_zero, List.toList_toArray, Option.map_some, Option.map_none, Option.isSome_some, Option.isSome_none, Nat.reduceSub, Nat.reduceAdd, Nat.reduceMul, Nat.reduceEqDiff, Nat.reduceLeDiff, Nat.reduceBEq, reduceCtorEq, List.drop_succ_cons, List.drop_zero, List.take_succ_cons, List.take_zero, List.drop_nil, List.take_nil, ne_eq, Option.getD_some, List.length_map, List.all_cons, List.all_nil, List.range_zero, List.range_succ, ite_true, ite_false, TYX]
  refine fun _ => ⟨fun hpos _ => ?_, fun hneg => ?_⟩
  · have h0 : 0 < done.length := by omega
    have hi : done.length - 1 < done.length := by omega
    simp only [hwr h0, Int.toNat_natCast, prs_get hi, show done[done.length - 1].d = [.int .i64 done[done.length - 1].day, .int .i64 done[done.length - 1].copies, .slc (strs done[done.length - 1].owners)] from rfl]
    have hb : before done p = decide (p.day < done[done.length - 1].day) := by simp [before, h0, hi]
    simp +contextual only [h1, prs_len, strs_len, ↓u21_s0, ↓u21_s1, ↓u21_s2, ↓u21_L3, ↓u21_s4, ↓u21_s5, ↓u21_s6, ↓u21_s7, ↓u21_s8, ↓XA, XB, XL, XM, cellsOf, okc, one1, resOne, resAll, eqCells, cellEq, fits, sameK, List.length_cons, List.length_nil, List.replicate_succ, List.replicate_zero, List.cons_append, List.nil_append, List.append_nil, List.set_cons_succ, List.set_cons_zero, List.getD_cons_succ, List.getD_cons_zero, List.map_cons, List.map_nil, List.getElem?_cons_succ, List.getElem?_cons_zero, List.toList_toArray, Option.map_some, Option.map_none, Option.isSome_some, Option.isSome_none, Nat.reduceSub, Nat.reduceAdd, Nat.reduceMul, Nat.reduceEqDiff, Nat.reduceLeDiff, Nat.reduceBEq, reduceCtorEq, List.drop_succ_cons, List.drop_zero, List.take_succ_cons, List.take_zero, List.drop_nil, List.take_nil, ne_eq, Option.getD_some, List.length_map, List.all_cons, List.all_nil, List.range_zero, List.range_succ, ite_true, ite_false, TYX]
    refine ⟨by omega, fun _ => ⟨fun hlt => ?_, fun hnlt _ => ⟨fun h256 => ?_, fun hn256 => ?_⟩⟩⟩
    · have : before done p = true := by rw [hb]; simpa using hlt
      simpa [recD, recErr, e1, e2, e3, this] using h
    · have hbf : before done p = false := by rw [hb]; simpa using hnlt
      have h256' : done.length = 256 := by omega
      simpa [recD, recErr, e1, e2, e3, hbf, h256'] using h
    have hbf : before done p = false := by rw [hb]; simpa using hnlt
    refine tail hbf hn256 ⟨rfl, rfl, rfl, rfl, rfl, trivial⟩ (fun h0 F' hF' => ?_) (fun hne F' hF' => ?_)
    · obtain ⟨z, rfl⟩ : ∃ z : Nat → D, _ = [.slc (tms l), .slc (prs done), z 2, z 3, z 4, .ptr b1 0, z 6, z 7, .int .i64 p.owners.length, z 9, z 10, z 11, z 12, z 13, z 14, z 15, z 16, z 17, z 18, z 19, z 20, z 21, z 22, z 23, z 24, z 25, z 26, z 27, z 28, z 29, z 30, z 31, z 32, z 33, z 34, z 35, z 36, z 37, z 38, z 39, z 40, z 41, z 42, z 43, z 44, z 45, z 46, z 47, z 48, z 49, z 50, z 51, z 52, z 53, z 54, z 55, z 56, z 57, z 58, z 59, z 60, z 61, z 62, z 63, z 64, z 65, z 66, z 67, z 68, z 69] := hF'.lit
      simp +contextual only [h1, prs_len, strs_len, ↓u21_s0, ↓u21_s1, ↓u21_s2, ↓u21_L3, ↓u21_s4, ↓u21_s5, ↓u21_s6, ↓u21_s7, ↓u21_s8, ↓XA, XB, XL, XM, cellsOf, okc, one1, resOne, resAll, eqCells, cellEq, fits, sameK, List.length_cons, List.length_nil, List.replicate_succ, List.replicate_zero, List.cons_append, List.nil_append, List.append_nil, List.set_cons_succ, List.set_cons_zero, List.getD_cons_succ, List.getD_cons_zero, List.map_cons, List.map_nil, List.getElem?_cons_succ, List.getElem?_cons_zero, List.toList_toArray, Option.map_some, Option.map_none, Option.isSome_some, Option.isSome_none, Nat.reduceSub, Nat.reduceAdd, Nat.reduceMul, Nat.reduceEqDiff, Nat.reduceLeDiff, Nat.reduceBEq, reduceCtorEq, List.drop_succ_cons, List.drop_zero, List.take_succ_cons, List.take_zero, List.drop_nil, List.take_nil, ne_eq, Option.getD_some, List.length_map, List.all_cons, List.all_nil, List.range_zero, List.range_succ, ite_true, ite_false, TYX]
      refine ⟨prs_3, by omega, prs_3, by omega, ?_⟩
      have : recD l done p = .tup [.own (prs done ++ [[.int .i64 p.day, .int .i64 p.copies, .slc (strs p.owners)]]), .int .i64 0] := by
        simp [recD, h0, prs, Pr.d]
      rw [← this]
      exact h
    · obtain ⟨z, rfl⟩ := hF'.lit
      simp +contextual only [frm, ↓u21_s0, ↓u21_s1, ↓u21_s2, ↓u21_L3, ↓u21_s4, ↓u21_s5, ↓u21_s6, ↓u21_s7, ↓u21_s8, ↓XA, XB, XL, XM, cellsOf, okc, one1, resOne, resAll, eqCells, cellEq, fits, sameK, List.length_cons, List.length_nil, List.replicate_succ, List.replicate_zero, List.cons_append, List.nil_append, List.append_nil, List.set_cons_succ, List.set_cons_zero, List.getD_cons_succ, List.getD_cons_zero, List.map_cons, List.map_nil, List.getElem?_cons_succ, List.getElem?_cons_zero, List.toList_toArray, Option.map_some, Option.map_none, Option.isSome_some, Option.isSome_none, Nat.reduceSub, Nat.reduceAdd, Nat.reduceMul, Nat.reduceEqDiff, Nat.reduceLeDiff, Nat.reduceBEq, reduceCtorEq, List.drop_succ_cons, List.drop_zero, List.take_succ_cons, List.take_zero, List.drop_nil, List.take_nil, ne_eq, Option.getD_some, List.length_map, List.all_cons, List.all_nil, List.range_zero, List.range_succ, ite_true, ite_false, TYX]
      simpa [recD, hne] using h
  · refine ⟨fun h256 => ?_, fun hn256 => ?_⟩
    · omega
    have hbf : before done p = false := by simp [before]; omega
    refine tail hbf hn256 ⟨rfl, rfl, rfl, rfl, rfl, trivial⟩ (fun h0 F' hF' => ?_) (fun hne F' hF' => ?_)
    · obtain ⟨z, rfl⟩ : ∃ z : Nat → D, _ = [.slc (tms l), .slc (prs done), z 2, z 3, z 4, .ptr b1 0, z 6, z 7, .int .i64 p.owners.length, z 9, z 10, z 11, z 12, z 13, z 14, z 15, z 16, z 17, z 18, z 19, z 20, z 21, z 22, z 23, z 24, z 25, z 26, z 27, z 28, z 29, z 30, z 31, z 32, z 33, z 34, z 35, z 36, z 37, z 38, z 39, z 40, z 41, z 42, z 43, z 44, z 45, z 46, z 47, z 48, z 49, z 50, z 51, z 52, z 53, z 54, z 55, z 56, z 57, z 58, z 59, z 60, z 61, z 62, z 63, z 64, z 65, z 66, z 67, z 68, z 69] := hF'.lit
      simp +contextual only [h1, prs_len, strs_len, ↓u21_s0, ↓u21_s1, ↓u21_s2, ↓u21_L3, ↓u21_s4, ↓u21_s5, ↓u21_s6, ↓u21_s7, ↓u21_s8, ↓XA, XB, XL, XM, cellsOf, okc, one1, resOne, resAll, eqCells, cellEq, fits, sameK, List.length_cons, List.length_nil, List.replicate_succ, List.replicate_zero, List.cons_append, List.nil_append, List.append_nil, List.set_cons_succ, List.set_cons_zero, List.getD_cons_succ, List.getD_cons_zero, List.map_cons, List.map_nil, List.getElem?_cons_succ, List.getElem?_cons_zero, List.toList_toArray, Option.map_some, Option.map_none, Option.isSome_some, Option.isSome_none, Nat.reduceSub, Nat.reduceAdd, Nat.reduceMul, Nat.reduceEqDiff, Nat.reduceLeDiff, Nat.reduceBEq, reduceCtorEq, List.drop_succ_cons, List.drop_zero, List.take_succ_cons, List.take_zero, List.drop_nil, List.take_nil, ne_eq, Option.getD_some, List.length_map, List.all_cons, List.all_nil, List.range_zero, List.range_succ, ite_true, ite_false, TYX]
      refine ⟨prs_3, by omega, prs_3, by omega, ?_⟩
      have : recD l done p = .tup [.own (prs done ++ [[.int .i64 p.day, .int .i64 p.copies, .slc (strs p.owners)]]), .int .i64 0] := by
        simp [recD, h0, prs, Pr.d]
      rw [← this]
      exact h
    · obtain ⟨z, rfl⟩ := hF'.lit
      simp +contextual only [frm, ↓u21_s0, ↓u21_s1, ↓u21_s2, ↓u21_L3, ↓u21_s4, ↓u21_s5, ↓u21_s6, ↓u21_s7, ↓u21_s8, ↓XA, XB, XL, XM, cellsOf, okc, one1, resOne, resAll, eqCells, cellEq, fits, sameK, List.length_cons, List.length_nil, List.replicate_succ, List.replicate_zero, List.cons_append, List.nil_append, List.append_nil, List.set_cons_succ, List.set_cons_zero, List.getD_cons_succ, List.getD_cons_zero, List.map_cons, List.map_nil, List.getElem?_cons_succ, List.getElem?_cons_zero, List.toList_toArray, Option.map_some, Option.map_none, Option.isSome_some, Option.isSome_none, Nat.reduceSub, Nat.reduceAdd, Nat.reduceMul, Nat.reduceEqDiff, Nat.reduceLeDiff, Nat.reduceBEq, reduceCtorEq, List.drop_succ_cons, List.drop_zero, List.take_succ_cons, List.take_zero, List.drop_nil, List.take_nil, ne_eq, Option.getD_some, List.length_map, List.all_cons, List.all_nil, List.range_zero, List.range_succ, ite_true, ite_false, TYX]
      simpa [recD, hne] using h
end Go.Proofs.Ytbfcfmcebdfndaa
