/- Contracts of further functions of the reference: has, Term, Used, One. Conditions: those in each. -/
import Derived.Test.YtbfcfmcebdfndaaRf1
namespace Go.Proofs.Ytbfcfmcebdfndaa
open Go Go.Aw
set_option linter.unusedVariables false
set_option linter.unusedSimpArgs false

/-- wordbookref25.has -/
theorem f_has {l : List (List UInt8)} {s : List UInt8} {H : AH} {R : D → AH → Prop} (h : R (.bool (decide (s ∈ l))) H) : ACall Try.prog 51 [.slc (strs l), .str s] H R := by
  refine b51 fun hf => ?_
  have hbig := big_eq
  have hlb : l.length ≤ big := by
    have := hf.1
    rwa [f_slc, strs_len] at this
  simp +contextual only [x51, ↓u51_s0, ↓u51_s1, ↓u51_L2, ↓u51_s3, ↓XA, XB, XL, XM, cellsOf, okc, one1, resOne, resAll, eqCells, cellEq, fits, sameK, List.length_cons, List.length_nil, List.replicate_succ, List.replicate_zero, List.cons_append, List.nil_append, List.append_nil, List.set_cons_succ, List.set_cons_zero, List.getD_cons_succ, List.getD_cons_zero, List.map_cons, List.map_nil, List.getElem?_cons_succ, List.getElem?_cons_zero, List.toList_toArray, Option.map_some, Option.map_none, Option.isSome_some, Option.isSome_none, Nat.reduceSub, Nat.reduceAdd, Nat.reduceMul, Nat.reduceEqDiff, Nat.reduceLeDiff, Nat.reduceBEq, reduceCtorEq, List.drop_succ_cons, List.drop_zero, List.take_succ_cons, List.take_zero, List.drop_nil, List.take_nil, ne_eq, Option.getD_some, List.length_map, List.all_cons, List.all_nil, List.range_zero, List.range_succ, ite_true, ite_false, TYX]
  refine XW.loopK hm (fun F H' => ∃ i : Nat, i ≤ l.length ∧ (∀ j (hj : j < l.length), j < i → l[j] ≠ s) ∧ Fr 18 [(0, .slc (strs l)), (1, .str s), (5, .int .i64 i)] F ∧ H = H') (fun F H => match F.getD 5 .any with | .int _ n => l.length - n.toNat | _ => 0) ⟨0, Nat.zero_le _, fun j _ hj => absurd hj (Nat.not_lt_zero j), ⟨rfl, rfl, rfl, rfl, trivial⟩, rfl⟩ ?_
  rintro _ _ ⟨i, hi, hp, hF, rfl⟩ K hN hE hR
  obtain ⟨z, rfl⟩ : ∃ z : Nat → D, _ = [.slc (strs l), .str s, z 2, z 3, z 4, .int .i64 i, z 6, z 7, z 8, z 9, z 10, z 11, z 12, z 13, z 14, z 15, z 16, z 17] := hF.lit
  clear hF
  by_cases hlt : i < l.length
  · simp +contextual only [strs_len, strs_get hlt, wrap_succ (show i ≤ big by omega), ↓u51_s0, ↓u51_s1, ↓u51_L2, ↓u51_s3, ↓XA, XB, XL, XM, cellsOf, okc, one1, resOne, resAll, eqCells, cellEq, fits, sameK, List.length_cons, List.length_nil, List.replicate_succ, List.replicate_zero, List.cons_append, List.nil_append, List.append_nil, List.set_cons_succ, List.set_cons_zero, List.getD_cons_succ, List.getD_cons_zero, List.map_cons, List.map_nil, List.getElem?_cons_succ, List.getElem?_cons_zero, List.toList_toArray, Option.map_some, Option.map_none, Option.isSome_some, Option.isSome_none, Nat.reduceSub, Nat.reduceAdd, Nat.reduceMul, Nat.reduceEqDiff, Nat.reduceLeDiff, Nat.reduceBEq, reduceCtorEq, List.drop_succ_cons, List.drop_zero, List.take_succ_cons, List.take_zero, List.drop_nil, List.take_nil, ne_eq, Option.getD_some, List.length_map, List.all_cons, List.all_nil, List.range_zero, List.range_succ, ite_true, ite_false, TYX]
    refine fun _ => ⟨fun _ _ => ⟨fun he => ?_, fun hne => ?_⟩, fun hge => absurd hge (by omega)⟩
    · refine hR _ _ ?_
      simp +contextual only [↓u51_s0, ↓u51_s1, ↓u51_L2, ↓u51_s3, ↓XA, XB, XL, XM, cellsOf, okc, one1, resOne, resAll, eqCells, cellEq, fits, sameK, List.length_cons, List.length_nil, List.replicate_succ, List.replicate_zero, List.cons_append, List.nil_append, List.append_nil, List.set_cons_succ, List.set_cons_zero, List.getD_cons_succ, List.getD_cons_zero, List.map_cons, List.map_nil, List.getElem?_cons_succ, List.getElem?_cons_zero, List.toList_toArray, Option.map_some, Option.map_none, Option.isSome_some, Option.isSome_none, Nat.reduceSub, Nat.reduceAdd, Nat.reduceMul, Nat.reduceEqDiff, Nat.reduceLeDiff, Nat.reduceBEq, reduceCtorEq, List.drop_succ_cons, List.drop_zero, List.take_succ_cons, List.take_zero, List.drop_nil, List.take_nil, ne_eq, Option.getD_some, List.length_map, List.all_cons, List.all_nil, List.range_zero, List.range_succ, ite_true, ite_false, TYX]
      rw [decide_eq_true (he ▸ List.getElem_mem hlt)] at h
      exact h
    · refine hN _ _ ⟨i + 1, hlt, fun j hj hji => ?_, ⟨rfl, rfl, rfl, rfl, trivial⟩, (back_0 rfl).symm⟩ ?_
      · rcases Nat.lt_succ_iff_lt_or_eq.1 hji with h' | rfl
        · exact hp j hj h'
        · exact hne
      · simp only [List.getD_cons_succ, List.getD_cons_zero]; omega
  · simp +contextual only [strs_len, ↓u51_s0, ↓u51_s1, ↓u51_L2, ↓u51_s3, ↓XA, XB, XL, XM, cellsOf, okc, one1, resOne, resAll, eqCells, cellEq, fits, sameK, List.length_cons, List.length_nil, List.replicate_succ, List.replicate_zero, List.cons_append, List.nil_append, List.append_nil, List.set_cons_succ, List.set_cons_zero, List.getD_cons_succ, List.getD_cons_zero, List.map_cons, List.map_nil, List.getElem?_cons_succ, List.getElem?_cons_zero, List.toList_toArray, Option.map_some, Option.map_none, Option.isSome_some, Option.isSome_none, Nat.reduceSub, Nat.reduceAdd, Nat.reduceMul, Nat.reduceEqDiff, Nat.reduceLeDiff, Nat.reduceBEq, reduceCtorEq, List.drop_succ_cons, List.drop_zero, List.take_succ_cons, List.take_zero, List.drop_nil, List.take_nil, ne_eq, Option.getD_some, List.length_map, List.all_cons, List.all_nil, List.range_zero, List.range_succ, ite_true, ite_false, TYX]
    refine fun _ => ⟨fun h' => absurd h' (by omega), fun _ => hE _ _ _ ?_⟩
    simp +contextual only [↓u51_s0, ↓u51_s1, ↓u51_L2, ↓u51_s3, ↓XA, XB, XL, XM, cellsOf, okc, one1, resOne, resAll, eqCells, cellEq, fits, sameK, List.length_cons, List.length_nil, List.replicate_succ, List.replicate_zero, List.cons_append, List.nil_append, List.append_nil, List.set_cons_succ, List.set_cons_zero, List.getD_cons_succ, List.getD_cons_zero, List.map_cons, List.map_nil, List.getElem?_cons_succ, List.getElem?_cons_zero, List.toList_toArray, Option.map_some, Option.map_none, Option.isSome_some, Option.isSome_none, Nat.reduceSub, Nat.reduceAdd, Nat.reduceMul, Nat.reduceEqDiff, Nat.reduceLeDiff, Nat.reduceBEq, reduceCtorEq, List.drop_succ_cons, List.drop_zero, List.take_succ_cons, List.take_zero, List.drop_nil, List.take_nil, ne_eq, Option.getD_some, List.length_map, List.all_cons, List.all_nil, List.range_zero, List.range_succ, ite_true, ite_false, TYX]
    have : s ∉ l := fun hm => by
      obtain ⟨j, hj, e⟩ := List.getElem_of_mem hm
      exact hp j hj (by omega) e
    rw [decide_eq_false this] at h
    exact h
/-- wordbookref25.Term -/
theorem f_term {l : List Tm} {o : List UInt8} {H : AH} {R : D → AH → Prop} (h : R (termD (findT l o)) H) : ACall Try.prog 30 [.slc (tms l), .str o] H R := by
  refine b30 fun hf => ?_
  have hbig := big_eq
  have hlb : l.length ≤ big := by
    have := hf.1
    rwa [f_slc, tms_len] at this
  simp +contextual only [x30, ↓u30_c0, ↓u30_s1, ↓u30_s2, ↓u30_L3, ↓u30_s4, ↓XA, XB, XL, XM, cellsOf, okc, one1, resOne, resAll, eqCells, cellEq, fits, sameK, List.length_cons, List.length_nil, List.replicate_succ, List.replicate_zero, List.cons_append, List.nil_append, List.append_nil, List.set_cons_succ, List.set_cons_zero, List.getD_cons_succ, List.getD_cons_zero, List.map_cons, List.map_nil, List.getElem?_cons_succ, List.getElem?_cons_zero, List.toList_toArray, Option.map_some, Option.map_none, Option.isSome_some, Option.isSome_none, Nat.reduceSub, Nat.reduceAdd, Nat.reduceMul, Nat.reduceEqDiff, Nat.reduceLeDiff, Nat.reduceBEq, reduceCtorEq, List.drop_succ_cons, List.drop_zero, List.take_succ_cons, List.take_zero, List.drop_nil, List.take_nil, ne_eq, Option.getD_some, List.length_map, List.all_cons, List.all_nil, List.range_zero, List.range_succ, ite_true, ite_false, TYX]
  intro b1 h1
  refine XW.loopK hm (fun F H' => ∃ i : Nat, i ≤ l.length ∧ (∀ j (hj : j < l.length), j < i → l[j].o ≠ o) ∧ Fr 25 [(0, .slc (tms l)), (1, .str o), (4, .ptr b1 0), (6, .int .i64 i)] F ∧ H' = (b1, .cells [.str [], .int .i64 0, .int .i64 0]) :: H) (fun F H => match F.getD 6 .any with | .int _ n => l.length - n.toNat | _ => 0) ⟨0, Nat.zero_le _, fun j _ hj => absurd hj (Nat.not_lt_zero j), ⟨rfl, rfl, rfl, rfl, rfl, trivial⟩, rfl⟩ ?_
  rintro _ _ ⟨i, hi, hp, hF, rfl⟩ K hN hE hR
  obtain ⟨z, rfl⟩ : ∃ z : Nat → D, _ = [.slc (tms l), .str o, z 2, z 3, .ptr b1 0, z 5, .int .i64 i, z 7, z 8, z 9, z 10, z 11, z 12, z 13, z 14, z 15, z 16, z 17, z 18, z 19, z 20, z 21, z 22, z 23, z 24] := hF.lit
  clear hF
  by_cases hlt : i < l.length
  · have hd : l[i].d = [.str l[i].o, .int .i64 l[i].u, .int .i64 l[i].c] := rfl
    simp +contextual only [tms_len, tms_get hlt, hd, h1, wrap_succ (show i ≤ big by omega), ↓u30_c0, ↓u30_s1, ↓u30_s2, ↓u30_L3, ↓u30_s4, ↓XA, XB, XL, XM, cellsOf, okc, one1, resOne, resAll, eqCells, cellEq, fits, sameK, List.length_cons, List.length_nil, List.replicate_succ, List.replicate_zero, List.cons_append, List.nil_append, List.append_nil, List.set_cons_succ, List.set_cons_zero, List.getD_cons_succ, List.getD_cons_zero, List.map_cons, List.map_nil, List.getElem?_cons_succ, List.getElem?_cons_zero, List.toList_toArray, Option.map_some, Option.map_none, Option.isSome_some, Option.isSome_none, Nat.reduceSub, Nat.reduceAdd, Nat.reduceMul, Nat.reduceEqDiff, Nat.reduceLeDiff, Nat.reduceBEq, reduceCtorEq, List.drop_succ_cons, List.drop_zero, List.take_succ_cons, List.take_zero, List.drop_nil, List.take_nil, ne_eq, Option.getD_some, List.length_map, List.all_cons, List.all_nil, List.range_zero, List.range_succ, ite_true, ite_false, TYX]
    refine fun _ => ⟨fun _ _ => ⟨fun he => ?_, fun hne => ?_⟩, fun hge => absurd hge (by omega)⟩
    · refine hR _ _ ?_
      simp +contextual only [↓u30_c0, ↓u30_s1, ↓u30_s2, ↓u30_L3, ↓u30_s4, ↓XA, XB, XL, XM, cellsOf, okc, one1, resOne, resAll, eqCells, cellEq, fits, sameK, List.length_cons, List.length_nil, List.replicate_succ, List.replicate_zero, List.cons_append, List.nil_append, List.append_nil, List.set_cons_succ, List.set_cons_zero, List.getD_cons_succ, List.getD_cons_zero, List.map_cons, List.map_nil, List.getElem?_cons_succ, List.getElem?_cons_zero, List.toList_toArray, Option.map_some, Option.map_none, Option.isSome_some, Option.isSome_none, Nat.reduceSub, Nat.reduceAdd, Nat.reduceMul, Nat.reduceEqDiff, Nat.reduceLeDiff, Nat.reduceBEq, reduceCtorEq, List.drop_succ_cons, List.drop_zero, List.take_succ_cons, List.take_zero, List.drop_nil, List.take_nil, ne_eq, Option.getD_some, List.length_map, List.all_cons, List.all_nil, List.range_zero, List.range_succ, ite_true, ite_false, TYX]
      rw [findT_some hlt he fun j hj => hp j (by omega) hj] at h
      simp only [termD, Option.getD_some, Option.isSome_some, hd, he] at h
      exact h
    · refine hN _ _ ⟨i + 1, hlt, fun j hj hji => ?_, ⟨rfl, rfl, rfl, rfl, rfl, trivial⟩, back_0 rfl⟩ ?_
      · rcases Nat.lt_succ_iff_lt_or_eq.1 hji with h' | rfl
        · exact hp j hj h'
        · exact hne
      · simp only [List.getD_cons_succ, List.getD_cons_zero]; omega
  · simp +contextual only [tms_len, ↓u30_c0, ↓u30_s1, ↓u30_s2, ↓u30_L3, ↓u30_s4, ↓XA, XB, XL, XM, cellsOf, okc, one1, resOne, resAll, eqCells, cellEq, fits, sameK, List.length_cons, List.length_nil, List.replicate_succ, List.replicate_zero, List.cons_append, List.nil_append, List.append_nil, List.set_cons_succ, List.set_cons_zero, List.getD_cons_succ, List.getD_cons_zero, List.map_cons, List.map_nil, List.getElem?_cons_succ, List.getElem?_cons_zero, List.toList_toArray, Option.map_some, Option.map_none, Option.isSome_some, Option.isSome_none, Nat.reduceSub, Nat.reduceAdd, Nat.reduceMul, Nat.reduceEqDiff, Nat.reduceLeDiff, Nat.reduceBEq, reduceCtorEq, List.drop_succ_cons, List.drop_zero, List.take_succ_cons, List.take_zero, List.drop_nil, List.take_nil, ne_eq, Option.getD_some, List.length_map, List.all_cons, List.all_nil, List.range_zero, List.range_succ, ite_true, ite_false, TYX]
    refine fun _ => ⟨fun h' => absurd h' (by omega), fun _ => hE _ _ _ ?_⟩
    simp +contextual only [↓u30_c0, ↓u30_s1, ↓u30_s2, ↓u30_L3, ↓u30_s4, ↓XA, XB, XL, XM, cellsOf, okc, one1, resOne, resAll, eqCells, cellEq, fits, sameK, List.length_cons, List.length_nil, List.replicate_succ, List.replicate_zero, List.cons_append, List.nil_append, List.append_nil, List.set_cons_succ, List.set_cons_zero, List.getD_cons_succ, List.getD_cons_zero, List.map_cons, List.map_nil, List.getElem?_cons_succ, List.getElem?_cons_zero, List.toList_toArray, Option.map_some, Option.map_none, Option.isSome_some, Option.isSome_none, Nat.reduceSub, Nat.reduceAdd, Nat.reduceMul, Nat.reduceEqDiff, Nat.reduceLeDiff, Nat.reduceBEq, reduceCtorEq, List.drop_succ_cons, List.drop_zero, List.take_succ_cons, List.take_zero, List.drop_nil, List.take_nil, ne_eq, Option.getD_some, List.length_map, List.all_cons, List.all_nil, List.range_zero, List.range_succ, ite_true, ite_false, TYX]
    rw [findT_none fun j hj => hp j hj (by omega)] at h
    exact h
instance {l : List (List UInt8)} : NL (rise l) := ⟨trivial⟩
/-- wordbookref25.One -/
theorem f_one {p : Pr} {H : AH} {R : D → AH → Prop} (h : R (.bool (validP p)) H) : ACall Try.prog 40 [.agg p.d] H R := by
  refine b40 fun hf => ?_
  simp +contextual only [x40, Pr.d, ↓u40_s0, ↓XA, XB, XL, XM, cellsOf, okc, one1, resOne, resAll, eqCells, cellEq, fits, sameK, List.length_cons, List.length_nil, List.replicate_succ, List.replicate_zero, List.cons_append, List.nil_append, List.append_nil, List.set_cons_succ, List.set_cons_zero, List.getD_cons_succ, List.getD_cons_zero, List.map_cons, List.map_nil, List.getElem?_cons_succ, List.getElem?_cons_zero, List.toList_toArray, Option.map_some, Option.map_none, Option.isSome_some, Option.isSome_none, Nat.reduceSub, Nat.reduceAdd, Nat.reduceMul, Nat.reduceEqDiff, Nat.reduceLeDiff, Nat.reduceBEq, reduceCtorEq, List.drop_succ_cons, List.drop_zero, List.take_succ_cons, List.take_zero, List.drop_nil, List.take_nil, ne_eq, Option.getD_some, List.length_map, List.all_cons, List.all_nil, List.range_zero, List.range_succ, ite_true, ite_false, TYX]
  intro b1 h1 _
  refine ⟨fun e1 => ⟨fun e2 _ => ⟨fun e3 => ⟨fun e4 _ => f_rising ?_, fun e4 => ?_⟩, fun e3 => ?_⟩, fun e2 => ?_⟩, fun e1 => ?_⟩
  · simp +contextual only [↓u40_s0, ↓XA, XB, XL, XM, cellsOf, okc, one1, resOne, resAll, eqCells, cellEq, fits, sameK, List.length_cons, List.length_nil, List.replicate_succ, List.replicate_zero, List.cons_append, List.nil_append, List.append_nil, List.set_cons_succ, List.set_cons_zero, List.getD_cons_succ, List.getD_cons_zero, List.map_cons, List.map_nil, List.getElem?_cons_succ, List.getElem?_cons_zero, List.toList_toArray, Option.map_some, Option.map_none, Option.isSome_some, Option.isSome_none, Nat.reduceSub, Nat.reduceAdd, Nat.reduceMul, Nat.reduceEqDiff, Nat.reduceLeDiff, Nat.reduceBEq, reduceCtorEq, List.drop_succ_cons, List.drop_zero, List.take_succ_cons, List.take_zero, List.drop_nil, List.take_nil, ne_eq, Option.getD_some, List.length_map, List.all_cons, List.all_nil, List.range_zero, List.range_succ, ite_true, ite_false, TYX]
    simpa [validP, btw, e1, e2, e3, e4] using h
  all_goals (have e' := e1; simpa [validP, btw, *] using h)
/-- wordbookref25.Used -/
theorem f_used {done : List Pr} {o : List UInt8} {H : AH} {R : D → AH → Prop} (hv : validPs done = true) (h : R (.int .i64 (used done o)) H) : ACall Try.prog 31 [.slc (prs done), .str o] H R := by
  refine b31 fun hf => ?_
  obtain ⟨hn, hall⟩ := validPs_all hv
  have hbig := big_eq
  simp +contextual only [x31, ↓u31_c0, ↓u31_s1, ↓u31_s2, ↓u31_L3, ↓u31_s4, ↓XA, XB, XL, XM, cellsOf, okc, one1, resOne, resAll, eqCells, cellEq, fits, sameK, List.length_cons, List.length_nil, List.replicate_succ, List.replicate_zero, List.cons_append, List.nil_append, List.append_nil, List.set_cons_succ, List.set_cons_zero, List.getD_cons_succ, List.getD_cons_zero, List.map_cons, List.map_nil, List.getElem?_cons_succ, List.getElem?_cons_zero, List.toList_toArray, Option.map_some, Option.map_none, Option.isSome_some, Option.isSome_none, Nat.reduceSub, Nat.reduceAdd, Nat.reduceMul, Nat.reduceEqDiff, Nat.reduceLeDiff, Nat.reduceBEq, reduceCtorEq, List.drop_succ_cons, List.drop_zero, List.take_succ_cons, List.take_zero, List.drop_nil, List.take_nil, ne_eq, Option.getD_some, List.length_map, List.all_cons, List.all_nil, List.range_zero, List.range_succ, ite_true, ite_false, TYX]
  refine XW.loopK hm (fun F H' => ∃ (i : Nat) (n : Int), i ≤ done.length ∧ n = used (done.take i) o ∧ Fr 28 [(0, .slc (prs done)), (1, .str o), (5, .int .i64 n), (6, .int .i64 i)] F ∧ H = H') (fun F H => match F.getD 6 .any with | .int _ n => done.length - n.toNat | _ => 0) ⟨0, 0, Nat.zero_le _, by simp [used], ⟨rfl, rfl, rfl, rfl, rfl, trivial⟩, rfl⟩ ?_
  rintro _ _ ⟨i, n, hi, hn', hF, rfl⟩ K hN hE hR
  obtain ⟨z, rfl⟩ : ∃ z : Nat → D, _ = [.slc (prs done), .str o, z 2, z 3, z 4, .int .i64 n, .int .i64 i, z 7, z 8, z 9, z 10, z 11, z 12, z 13, z 14, z 15, z 16, z 17, z 18, z 19, z 20, z 21, z 22, z 23, z 24, z 25, z 26, z 27] := hF.lit
  clear hF
  by_cases hlt : i < done.length
  · have hbi := used_bound (o := o) (done.take i) fun p hp => hall p (List.mem_of_mem_take hp)
    have hli : (done.take i).length = i := by simp; omega
    rw [hli] at hbi
    have hp := validP_copies (hall _ (List.getElem_mem hlt))
    have hd : done[i].d = [.int .i64 done[i].day, .int .i64 done[i].copies, .slc (strs done[i].owners)] := rfl
    simp +contextual only [prs_len, prs_get hlt, hd, ↓u31_c0, ↓u31_s1, ↓u31_s2, ↓u31_L3, ↓u31_s4, ↓XA, XB, XL, XM, cellsOf, okc, one1, resOne, resAll, eqCells, cellEq, fits, sameK, List.length_cons, List.length_nil, List.replicate_succ, List.replicate_zero, List.cons_append, List.nil_append, List.append_nil, List.set_cons_succ, List.set_cons_zero, List.getD_cons_succ, List.getD_cons_zero, List.map_cons, List.map_nil, List.getElem?_cons_succ, List.getElem?_cons_zero, List.toList_toArray, Option.map_some, Option.map_none, Option.isSome_some, Option.isSome_none, Nat.reduceSub, Nat.reduceAdd, Nat.reduceMul, Nat.reduceEqDiff, Nat.reduceLeDiff, Nat.reduceBEq, reduceCtorEq, List.drop_succ_cons, List.drop_zero, List.take_succ_cons, List.take_zero, List.drop_nil, List.take_nil, ne_eq, Option.getD_some, List.length_map, List.all_cons, List.all_nil, List.range_zero, List.range_succ, ite_true, ite_false, TYX]
    refine fun _ => ⟨fun _ _ => f_has ?_, fun hge => absurd hge (by omega)⟩
    simp +contextual only [prs_len, prs_get hlt, hd, ↓u31_c0, ↓u31_s1, ↓u31_s2, ↓u31_L3, ↓u31_s4, ↓XA, XB, XL, XM, cellsOf, okc, one1, resOne, resAll, eqCells, cellEq, fits, sameK, List.length_cons, List.length_nil, List.replicate_succ, List.replicate_zero, List.cons_append, List.nil_append, List.append_nil, List.set_cons_succ, List.set_cons_zero, List.getD_cons_succ, List.getD_cons_zero, List.map_cons, List.map_nil, List.getElem?_cons_succ, List.getElem?_cons_zero, List.toList_toArray, Option.map_some, Option.map_none, Option.isSome_some, Option.isSome_none, Nat.reduceSub, Nat.reduceAdd, Nat.reduceMul, Nat.reduceEqDiff, Nat.reduceLeDiff, Nat.reduceBEq, reduceCtorEq, List.drop_succ_cons, List.drop_zero, List.take_succ_cons, List.take_zero, List.drop_nil, List.take_nil, ne_eq, Option.getD_some, List.length_map, List.all_cons, List.all_nil, List.range_zero, List.range_succ, ite_true, ite_false, TYX]
    refine ⟨fun hin => ?_, fun hin => ?_⟩
    · rw [wrap_succ (by omega), wrap_id (by omega) (by omega)]
      refine ⟨by omega, fun _ => hN _ _ ⟨i + 1, n + done[i].copies, hlt, ?_, ⟨rfl, rfl, rfl, rfl, rfl, trivial⟩, (back_0 rfl).symm⟩ ?_⟩
      · rw [used_take hlt, hn', usedOf, if_pos hin]
      · simp only [List.getD_cons_succ, List.getD_cons_zero]; omega
    · rw [wrap_succ (by omega)]
      refine hN _ _ ⟨i + 1, n, hlt, ?_, ⟨rfl, rfl, rfl, rfl, rfl, trivial⟩, (back_0 rfl).symm⟩ ?_
      · rw [used_take hlt, hn', usedOf, if_neg hin]; omega
      · simp only [List.getD_cons_succ, List.getD_cons_zero]; omega
  · simp +contextual only [prs_len, ↓u31_c0, ↓u31_s1, ↓u31_s2, ↓u31_L3, ↓u31_s4, ↓XA, XB, XL, XM, cellsOf, okc, one1, resOne, resAll, eqCells, cellEq, fits, sameK, List.length_cons, List.length_nil, List.replicate_succ, List.replicate_zero, List.cons_append, List.nil_append, List.append_nil, List.set_cons_succ, List.set_cons_zero, List.getD_cons_succ, List.getD_cons_zero, List.map_cons, List.map_nil, List.getElem?_cons_succ, List.getElem?_cons_zero, List.toList_toArray, Option.map_some, Option.map_none, Option.isSome_some, Option.isSome_none, Nat.reduceSub, Nat.reduceAdd, Nat.reduceMul, Nat.reduceEqDiff, Nat.reduceLeDiff, Nat.reduceBEq, reduceCtorEq, List.drop_succ_cons, List.drop_zero, List.take_succ_cons, List.take_zero, List.drop_nil, List.take_nil, ne_eq, Option.getD_some, List.length_map, List.all_cons, List.all_nil, List.range_zero, List.range_succ, ite_true, ite_false, TYX]
    refine fun _ => ⟨fun h' => absurd h' (by omega), fun _ => hE _ _ _ ?_⟩
    simp +contextual only [↓u31_c0, ↓u31_s1, ↓u31_s2, ↓u31_L3, ↓u31_s4, ↓XA, XB, XL, XM, cellsOf, okc, one1, resOne, resAll, eqCells, cellEq, fits, sameK, List.length_cons, List.length_nil, List.replicate_succ, List.replicate_zero, List.cons_append, List.nil_append, List.append_nil, List.set_cons_succ, List.set_cons_zero, List.getD_cons_succ, List.getD_cons_zero, List.map_cons, List.map_nil, List.getElem?_cons_succ, List.getElem?_cons_zero, List.toList_toArray, Option.map_some, Option.map_none, Option.isSome_some, Option.isSome_none, Nat.reduceSub, Nat.reduceAdd, Nat.reduceMul, Nat.reduceEqDiff, Nat.reduceLeDiff, Nat.reduceBEq, reduceCtorEq, List.drop_succ_cons, List.drop_zero, List.take_succ_cons, List.take_zero, List.drop_nil, List.take_nil, ne_eq, Option.getD_some, List.length_map, List.all_cons, List.all_nil, List.range_zero, List.range_succ, ite_true, ite_false, TYX]
    have : i = done.length := by omega
    subst this
    rw [List.take_length] at hn'
    rw [← hn'] at h
    exact h
end Go.Proofs.Ytbfcfmcebdfndaa
