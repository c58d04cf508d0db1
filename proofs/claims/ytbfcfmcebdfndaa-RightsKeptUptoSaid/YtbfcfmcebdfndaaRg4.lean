/- Contracts of rights.Left, Allowed, Free. Conditions: those in each. -/
import Derived.Test.YtbfcfmcebdfndaaRg3
namespace Go.Proofs.Ytbfcfmcebdfndaa
open Go Go.Aw
set_option linter.unusedVariables false
set_option linter.unusedSimpArgs false

/-- rights.Left -/
theorem r_left {l : List Tm} {done : List Pr} {o : List UInt8} {H : AH} {R : D → AH → Prop} (h : R (.int .i64 (leftOf l done o)) H) : ACall Try.prog 11 [.slc (tms l), .slc (prs done), .str o] H R := by
  refine b11 fun hf => ?_
  simp +contextual only [x11, ↓u11_c0, ↓u11_s1, ↓u11_s2, ↓u11_L3, ↓u11_s4, ↓u11_s5, ↓u11_s6, ↓u11_s7, ↓u11_s8, ↓XA, XB, XL, XM, cellsOf, okc, one1, resOne, resAll, eqCells, cellEq, fits, sameK, List.length_cons, List.length_nil, List.replicate_succ, List.replicate_zero, List.cons_append, List.nil_append, List.append_nil, List.set_cons_succ, List.set_cons_zero, List.getD_cons_succ, List.getD_cons_zero, List.map_cons, List.map_nil, List.getElem?_cons_succ, List.getElem?_cons_zero, List.toList_toArray, Option.map_some, Option.map_none, Option.isSome_some, Option.isSome_none, Nat.reduceSub, Nat.reduceAdd, Nat.reduceMul, Nat.reduceEqDiff, Nat.reduceLeDiff, Nat.reduceBEq, reduceCtorEq, List.drop_succ_cons, List.drop_zero, List.take_succ_cons, List.take_zero, List.drop_nil, List.take_nil, ne_eq, Option.getD_some, List.length_map, List.all_cons, List.all_nil, List.range_zero, List.range_succ, ite_true, ite_false, TYX]
  refine r_valid ?_
  simp +contextual only [↓u11_c0, ↓u11_s1, ↓u11_s2, ↓u11_L3, ↓u11_s4, ↓u11_s5, ↓u11_s6, ↓u11_s7, ↓u11_s8, ↓XA, XB, XL, XM, cellsOf, okc, one1, resOne, resAll, eqCells, cellEq, fits, sameK, List.length_cons, List.length_nil, List.replicate_succ, List.replicate_zero, List.cons_append, List.nil_append, List.append_nil, List.set_cons_succ, List.set_cons_zero, List.getD_cons_succ, List.getD_cons_zero, List.map_cons, List.map_nil, List.getElem?_cons_succ, List.getElem?_cons_zero, List.toList_toArray, Option.map_some, Option.map_none, Option.isSome_some, Option.isSome_none, Nat.reduceSub, Nat.reduceAdd, Nat.reduceMul, Nat.reduceEqDiff, Nat.reduceLeDiff, Nat.reduceBEq, reduceCtorEq, List.drop_succ_cons, List.drop_zero, List.take_succ_cons, List.take_zero, List.drop_nil, List.take_nil, ne_eq, Option.getD_some, List.length_map, List.all_cons, List.all_nil, List.range_zero, List.range_succ, ite_true, ite_false, TYX]
  refine ⟨fun e1 => ?_, fun e1 => ?_⟩
  · simpa [leftOf, e1] using h
  refine r_prints ?_
  simp +contextual only [↓u11_c0, ↓u11_s1, ↓u11_s2, ↓u11_L3, ↓u11_s4, ↓u11_s5, ↓u11_s6, ↓u11_s7, ↓u11_s8, ↓XA, XB, XL, XM, cellsOf, okc, one1, resOne, resAll, eqCells, cellEq, fits, sameK, List.length_cons, List.length_nil, List.replicate_succ, List.replicate_zero, List.cons_append, List.nil_append, List.append_nil, List.set_cons_succ, List.set_cons_zero, List.getD_cons_succ, List.getD_cons_zero, List.map_cons, List.map_nil, List.getElem?_cons_succ, List.getElem?_cons_zero, List.toList_toArray, Option.map_some, Option.map_none, Option.isSome_some, Option.isSome_none, Nat.reduceSub, Nat.reduceAdd, Nat.reduceMul, Nat.reduceEqDiff, Nat.reduceLeDiff, Nat.reduceBEq, reduceCtorEq, List.drop_succ_cons, List.drop_zero, List.take_succ_cons, List.take_zero, List.drop_nil, List.take_nil, ne_eq, Option.getD_some, List.length_map, List.all_cons, List.all_nil, List.range_zero, List.range_succ, ite_true, ite_false, TYX]
  refine ⟨fun e2 => ?_, fun e2 => ?_⟩
  · simpa [leftOf, e1, e2] using h
  refine r_find ?_
  cases hfd : findT l o with
  | none =>
    simp +contextual only [termD, Option.getD_none, Option.isSome_none, show (default : Tm).d = [.str [], .int .i64 0, .int .i64 0] from rfl, ↓u11_c0, ↓u11_s1, ↓u11_s2, ↓u11_L3, ↓u11_s4, ↓u11_s5, ↓u11_s6, ↓u11_s7, ↓u11_s8, ↓XA, XB, XL, XM, cellsOf, okc, one1, resOne, resAll, eqCells, cellEq, fits, sameK, List.length_cons, List.length_nil, List.replicate_succ, List.replicate_zero, List.cons_append, List.nil_append, List.append_nil, List.set_cons_succ, List.set_cons_zero, List.getD_cons_succ, List.getD_cons_zero, List.map_cons, List.map_nil, List.getElem?_cons_succ, List.getElem?_cons_zero, List.toList_toArray, Option.map_some, Option.map_none, Option.isSome_some, Option.isSome_none, Nat.reduceSub, Nat.reduceAdd, Nat.reduceMul, Nat.reduceEqDiff, Nat.reduceLeDiff, Nat.reduceBEq, reduceCtorEq, List.drop_succ_cons, List.drop_zero, List.take_succ_cons, List.take_zero, List.drop_nil, List.take_nil, ne_eq, Option.getD_some, List.length_map, List.all_cons, List.all_nil, List.range_zero, List.range_succ, ite_true, ite_false, TYX]
    intro b1 h1
    simpa [leftOf, e1, e2, hfd] using h
  | some t =>
    obtain ⟨hu, hc⟩ := findT_valid e1 hfd
    obtain ⟨hn, hall⟩ := validPs_all e2
    have hb := used_bound (o := o) done hall
    simp +contextual only [termD, Tm.d, prs_len, ↓u11_c0, ↓u11_s1, ↓u11_s2, ↓u11_L3, ↓u11_s4, ↓u11_s5, ↓u11_s6, ↓u11_s7, ↓u11_s8, ↓XA, XB, XL, XM, cellsOf, okc, one1, resOne, resAll, eqCells, cellEq, fits, sameK, List.length_cons, List.length_nil, List.replicate_succ, List.replicate_zero, List.cons_append, List.nil_append, List.append_nil, List.set_cons_succ, List.set_cons_zero, List.getD_cons_succ, List.getD_cons_zero, List.map_cons, List.map_nil, List.getElem?_cons_succ, List.getElem?_cons_zero, List.toList_toArray, Option.map_some, Option.map_none, Option.isSome_some, Option.isSome_none, Nat.reduceSub, Nat.reduceAdd, Nat.reduceMul, Nat.reduceEqDiff, Nat.reduceLeDiff, Nat.reduceBEq, reduceCtorEq, List.drop_succ_cons, List.drop_zero, List.take_succ_cons, List.take_zero, List.drop_nil, List.take_nil, ne_eq, Option.getD_some, List.length_map, List.all_cons, List.all_nil, List.range_zero, List.range_succ, ite_true, ite_false, TYX]
    intro b1 h1 _ hlen
    refine XW.loopK hm (fun F H' => ∃ (i : Nat) (n : Int), i ≤ done.length ∧ n = t.c - used (done.take i) o ∧ Fr 47 [(0, .slc (tms l)), (1, .slc (prs done)), (2, .str o), (7, .ptr b1 0), (9, .int .i64 n), (30, .slc (prs done)), (31, .int .i64 done.length), (32, .int .i64 i)] F ∧ H' = (b1, .cells [.str t.o, .int .i64 t.u, .int .i64 t.c]) :: H) (fun F H => match F.getD 32 .any with | .int _ n => done.length - n.toNat | _ => 0) ⟨0, t.c, Nat.zero_le _, by simp [used], ⟨rfl, rfl, rfl, rfl, rfl, rfl, rfl, rfl, rfl, trivial⟩, rfl⟩ ?_
    rintro _ _ ⟨i, n, hi, hn', hF, rfl⟩ K hN hE hR
    obtain ⟨z, rfl⟩ : ∃ z : Nat → D, _ = [.slc (tms l), .slc (prs done), .str o, z 3, z 4, z 5, z 6, .ptr b1 0, z 8, .int .i64 n, z 10, z 11, z 12, z 13, z 14, z 15, z 16, z 17, z 18, z 19, z 20, z 21, z 22, z 23, z 24, z 25, z 26, z 27, z 28, z 29, .slc (prs done), .int .i64 done.length, .int .i64 i, z 33, z 34, z 35, z 36, z 37, z 38, z 39, z 40, z 41, z 42, z 43, z 44, z 45, z 46] := hF.lit
    simp +contextual only [prs_len, ↓u11_c0, ↓u11_s1, ↓u11_s2, ↓u11_L3, ↓u11_s4, ↓u11_s5, ↓u11_s6, ↓u11_s7, ↓u11_s8, ↓XA, XB, XL, XM, cellsOf, okc, one1, resOne, resAll, eqCells, cellEq, fits, sameK, List.length_cons, List.length_nil, List.replicate_succ, List.replicate_zero, List.cons_append, List.nil_append, List.append_nil, List.set_cons_succ, List.set_cons_zero, List.getD_cons_succ, List.getD_cons_zero, List.map_cons, List.map_nil, List.getElem?_cons_succ, List.getElem?_cons_zero, List.toList_toArray, Option.map_some, Option.map_none, Option.isSome_some, Option.isSome_none, Nat.reduceSub, Nat.reduceAdd, Nat.reduceMul, Nat.reduceEqDiff, Nat.reduceLeDiff, Nat.reduceBEq, reduceCtorEq, List.drop_succ_cons, List.drop_zero, List.take_succ_cons, List.take_zero, List.drop_nil, List.take_nil, ne_eq, Option.getD_some, List.length_map, List.all_cons, List.all_nil, List.range_zero, List.range_succ, ite_true, ite_false, TYX]
    refine ⟨fun hlt => ?_, fun hge => ?_⟩
    · have hi' : i < done.length := by omega
      have hbi := used_bound (o := o) (done.take i) fun p hp => hall p (List.mem_of_mem_take hp)
      have hli : (done.take i).length = i := by simp; omega
      rw [hli] at hbi
      have hp := validP_copies (hall _ (List.getElem_mem hi'))
      simp only [prs_get hi', show done[i].d = [.int .i64 done[i].day, .int .i64 done[i].copies, .slc (strs done[i].owners)] from rfl]
      simp +contextual only [↓u11_c0, ↓u11_s1, ↓u11_s2, ↓u11_L3, ↓u11_s4, ↓u11_s5, ↓u11_s6, ↓u11_s7, ↓u11_s8, ↓XA, XB, XL, XM, cellsOf, okc, one1, resOne, resAll, eqCells, cellEq, fits, sameK, List.length_cons, List.length_nil, List.replicate_succ, List.replicate_zero, List.cons_append, List.nil_append, List.append_nil, List.set_cons_succ, List.set_cons_zero, List.getD_cons_succ, List.getD_cons_zero, List.map_cons, List.map_nil, List.getElem?_cons_succ, List.getElem?_cons_zero, List.toList_toArray, Option.map_some, Option.map_none, Option.isSome_some, Option.isSome_none, Nat.reduceSub, Nat.reduceAdd, Nat.reduceMul, Nat.reduceEqDiff, Nat.reduceLeDiff, Nat.reduceBEq, reduceCtorEq, List.drop_succ_cons, List.drop_zero, List.take_succ_cons, List.take_zero, List.drop_nil, List.take_nil, ne_eq, Option.getD_some, List.length_map, List.all_cons, List.all_nil, List.range_zero, List.range_succ, ite_true, ite_false, TYX]
      rintro b ⟨h2, h3⟩ _
      refine str_contains ?_
      simp +contextual only [↓u11_c0, ↓u11_s1, ↓u11_s2, ↓u11_L3, ↓u11_s4, ↓u11_s5, ↓u11_s6, ↓u11_s7, ↓u11_s8, ↓XA, XB, XL, XM, cellsOf, okc, one1, resOne, resAll, eqCells, cellEq, fits, sameK, List.length_cons, List.length_nil, List.replicate_succ, List.replicate_zero, List.cons_append, List.nil_append, List.append_nil, List.set_cons_succ, List.set_cons_zero, List.getD_cons_succ, List.getD_cons_zero, List.map_cons, List.map_nil, List.getElem?_cons_succ, List.getElem?_cons_zero, List.toList_toArray, Option.map_some, Option.map_none, Option.isSome_some, Option.isSome_none, Nat.reduceSub, Nat.reduceAdd, Nat.reduceMul, Nat.reduceEqDiff, Nat.reduceLeDiff, Nat.reduceBEq, reduceCtorEq, List.drop_succ_cons, List.drop_zero, List.take_succ_cons, List.take_zero, List.drop_nil, List.take_nil, ne_eq, Option.getD_some, List.length_map, List.all_cons, List.all_nil, List.range_zero, List.range_succ, ite_true, ite_false, TYX]
      refine ⟨fun hin _ => ?_, fun hin => ?_⟩
      · rw [wrap_succ (by omega), wrap_id (by omega) (by omega)]
        refine hN _ _ ⟨i + 1, n - done[i].copies, hi', ?_, ⟨rfl, rfl, rfl, rfl, rfl, rfl, rfl, rfl, rfl, trivial⟩, back_1 rfl⟩ ?_
        · rw [used_take hi', hn', usedOf, if_pos hin]; omega
        · simp only [List.getD_cons_succ, List.getD_cons_zero]; omega
      · rw [wrap_succ (by omega)]
        refine hN _ _ ⟨i + 1, n, hi', ?_, ⟨rfl, rfl, rfl, rfl, rfl, rfl, rfl, rfl, rfl, trivial⟩, back_1 rfl⟩ ?_
        · rw [used_take hi', hn', usedOf, if_neg hin]; omega
        · simp only [List.getD_cons_succ, List.getD_cons_zero]; omega
    · refine hE _ _ _ ?_
      simp +contextual only [↓u11_c0, ↓u11_s1, ↓u11_s2, ↓u11_L3, ↓u11_s4, ↓u11_s5, ↓u11_s6, ↓u11_s7, ↓u11_s8, ↓XA, XB, XL, XM, cellsOf, okc, one1, resOne, resAll, eqCells, cellEq, fits, sameK, List.length_cons, List.length_nil, List.replicate_succ, List.replicate_zero, List.cons_append, List.nil_append, List.append_nil, List.set_cons_succ, List.set_cons_zero, List.getD_cons_succ, List.getD_cons_zero, List.map_cons, List.map_nil, List.getElem?_cons_succ, List.getElem?_cons_zero, List.toList_toArray, Option.map_some, Option.map_none, Option.isSome_some, Option.isSome_none, Nat.reduceSub, Nat.reduceAdd, Nat.reduceMul, Nat.reduceEqDiff, Nat.reduceLeDiff, Nat.reduceBEq, reduceCtorEq, List.drop_succ_cons, List.drop_zero, List.take_succ_cons, List.take_zero, List.drop_nil, List.take_nil, ne_eq, Option.getD_some, List.length_map, List.all_cons, List.all_nil, List.range_zero, List.range_succ, ite_true, ite_false, TYX]
      have : i = done.length := by omega
      subst this
      rw [List.take_length] at hn'
      have : leftOf l done o = if n > 0 then n else 0 := by
        simp only [leftOf, e1, e2, hfd, Bool.and_self, if_true]
        rw [hn']
        split <;> omega
      rw [this] at h
      exact h
end Go.Proofs.Ytbfcfmcebdfndaa
