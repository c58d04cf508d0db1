/- Contracts of the reference's Free, Record, SameNames, SamePrints. Conditions: those in each. -/
import Derived.Test.YtbfcfmcebdfndaaRf4
import Derived.Test.YtbfcfmcebdfndaaRg6
namespace Go.Proofs.Ytbfcfmcebdfndaa
open Go Go.Aw
set_option linter.unusedVariables false
set_option linter.unusedSimpArgs false

theorem free_allowed {l : List Tm} {done : List Pr} {o : List UInt8} {copies day : Int} {t : Tm} (ht : t = (findT l o).getD default) (hd : day = max 0 (min 1048576 t.u)) :
    freeOf l done o copies = if allowedOf l done o day copies = 0 then t.u else -1 := by
  unfold freeOf allowedOf
  have hb : btw day 1048576 = true := by simp only [btw, Bool.and_eq_true, decide_eq_true_eq]; omega
  cases e1 : validT l
  · simp
  cases e2 : validPs done
  · simp
  cases e3 : btw copies 1073741824
  · simp
  cases hf : findT l o with
  | none =>
    rw [hf] at ht
    simp only [Option.getD_none] at ht
    subst ht
    simp [hb]
    rfl
  | some u =>
    rw [hf] at ht
    simp only [Option.getD_some] at ht
    subst ht
    obtain ⟨hu, _⟩ := findT_valid e1 hf
    have : ¬ day < t.u := by omega
    simp only [hb, Bool.and_self, if_true, if_neg this]
    by_cases h : leftOf l done o < copies <;> simp [h]
/-- wordbookref25.Free -/
theorem f_free {l : List Tm} {done : List Pr} {o : List UInt8} {copies : Int} {H : AH} {R : D → AH → Prop} (hsz : l.length ≤ 1073741824) (h : R (.int .i64 (freeOf l done o copies)) H) : ACall Try.prog 16 [.slc (tms l), .slc (prs done), .str o, .int .i64 copies] H R := by
  refine b16 fun hf => ?_
  simp +contextual only [x16, ↓u16_s0, ↓u16_s1, ↓XA, XB, XL, XM, cellsOf, okc, one1, resOne, resAll, eqCells, cellEq, fits, sameK, List.length_cons, List.length_nil, List.replicate_succ, List.replicate_zero, List.cons_append, List.nil_append, List.append_nil, List.set_cons_succ, List.set_cons_zero, List.getD_cons_succ, List.getD_cons_zero, List.map_cons, List.map_nil, List.getElem?_cons_succ, List.getElem?_cons_zero, List.toList_toArray, Option.map_some, Option.map_none, Option.isSome_some, Option.isSome_none, Nat.reduceSub, Nat.reduceAdd, Nat.reduceMul, Nat.reduceEqDiff, Nat.reduceLeDiff, Nat.reduceBEq, reduceCtorEq, List.drop_succ_cons, List.drop_zero, List.take_succ_cons, List.take_zero, List.drop_nil, List.take_nil, ne_eq, Option.getD_some, List.length_map, List.all_cons, List.all_nil, List.range_zero, List.range_succ, ite_true, ite_false, TYX]
  refine f_term ?_
  have key : ∀ day, day = max 0 (min 1048576 ((findT l o).getD default).u) → freeOf l done o copies = if allowedOf l done o day copies = 0 then ((findT l o).getD default).u else -1 := fun day hd => free_allowed rfl hd
  have hd : ∀ t : Tm, t.d = [.str t.o, .int .i64 t.u, .int .i64 t.c] := fun t => rfl
  simp +contextual only [termD, hd, ↓u16_s0, ↓u16_s1, ↓XA, XB, XL, XM, cellsOf, okc, one1, resOne, resAll, eqCells, cellEq, fits, sameK, List.length_cons, List.length_nil, List.replicate_succ, List.replicate_zero, List.cons_append, List.nil_append, List.append_nil, List.set_cons_succ, List.set_cons_zero, List.getD_cons_succ, List.getD_cons_zero, List.map_cons, List.map_nil, List.getElem?_cons_succ, List.getElem?_cons_zero, List.toList_toArray, Option.map_some, Option.map_none, Option.isSome_some, Option.isSome_none, Nat.reduceSub, Nat.reduceAdd, Nat.reduceMul, Nat.reduceEqDiff, Nat.reduceLeDiff, Nat.reduceBEq, reduceCtorEq, List.drop_succ_cons, List.drop_zero, List.take_succ_cons, List.take_zero, List.drop_nil, List.take_nil, ne_eq, Option.getD_some, List.length_map, List.all_cons, List.all_nil, List.range_zero, List.range_succ, ite_true, ite_false, TYX]
  generalize (findT l o).getD default = t at key
  intro b1 hb1 _
  refine f_allowed hsz ?_
  rw [key _ (show (if (if t.u < 1048576 then t.u else 1048576) > 0 then (if t.u < 1048576 then t.u else 1048576) else 0) = max 0 (min 1048576 t.u) by omega)] at h
  simp +contextual only [↓u16_s0, ↓u16_s1, ↓XA, XB, XL, XM, cellsOf, okc, one1, resOne, resAll, eqCells, cellEq, fits, sameK, List.length_cons, List.length_nil, List.replicate_succ, List.replicate_zero, List.cons_append, List.nil_append, List.append_nil, List.set_cons_succ, List.set_cons_zero, List.getD_cons_succ, List.getD_cons_zero, List.map_cons, List.map_nil, List.getElem?_cons_succ, List.getElem?_cons_zero, List.toList_toArray, Option.map_some, Option.map_none, Option.isSome_some, Option.isSome_none, Nat.reduceSub, Nat.reduceAdd, Nat.reduceMul, Nat.reduceEqDiff, Nat.reduceLeDiff, Nat.reduceBEq, reduceCtorEq, List.drop_succ_cons, List.drop_zero, List.take_succ_cons, List.take_zero, List.drop_nil, List.take_nil, ne_eq, Option.getD_some, List.length_map, List.all_cons, List.all_nil, List.range_zero, List.range_succ, ite_true, ite_false, TYX]
  refine fun _ => ⟨fun hne => ?_, fun he => ?_⟩
  · rw [if_neg hne] at h
    exact h
  · rw [if_pos he] at h
    exact fun _ => h
/-- wordbookref25.SameNames -/
theorem f_samenames {a b : List (List UInt8)} {H : AH} {R : D → AH → Prop} (h : R (.bool (decide (a = b))) H) : ACall Try.prog 41 [.slc (strs a), .slc (strs b)] H R := by
  refine b41 fun hf => ?_
  have hbig := big_eq
  simp +contextual only [x41, strs_len, ↓u41_s0, ↓u41_s1, ↓u41_L2, ↓u41_s3, ↓u41_s4, ↓XA, XB, XL, XM, cellsOf, okc, one1, resOne, resAll, eqCells, cellEq, fits, sameK, List.length_cons, List.length_nil, List.replicate_succ, List.replicate_zero, List.cons_append, List.nil_append, List.append_nil, List.set_cons_succ, List.set_cons_zero, List.getD_cons_succ, List.getD_cons_zero, List.map_cons, List.map_nil, List.getElem?_cons_succ, List.getElem?_cons_zero, List.toList_toArray, Option.map_some, Option.map_none, Option.isSome_some, Option.isSome_none, Nat.reduceSub, Nat.reduceAdd, Nat.reduceMul, Nat.reduceEqDiff, Nat.reduceLeDiff, Nat.reduceBEq, reduceCtorEq, List.drop_succ_cons, List.drop_zero, List.take_succ_cons, List.take_zero, List.drop_nil, List.take_nil, ne_eq, Option.getD_some, List.length_map, List.all_cons, List.all_nil, List.range_zero, List.range_succ, ite_true, ite_false, TYX]
  refine fun ha hb => ⟨fun hne => ?_, fun he => ?_⟩
  · have : a ≠ b := fun e => hne (by rw [e])
    rw [decide_eq_false this] at h
    exact h
  refine XW.loopK hm (fun F H' => ∃ i : Nat, i ≤ a.length ∧ (∀ j (hj : j < a.length), j < i → a[j] = b[j]'(by omega)) ∧ Fr 26 [(0, .slc (strs a)), (1, .slc (strs b)), (5, .int .i64 i)] F ∧ H = H') (fun F H => match F.getD 5 .any with | .int _ n => a.length - n.toNat | _ => 0) ⟨0, Nat.zero_le _, fun j _ hj => absurd hj (Nat.not_lt_zero j), ⟨rfl, rfl, rfl, rfl, trivial⟩, rfl⟩ ?_
  rintro _ _ ⟨i, hi, hp, hF, rfl⟩ K hN hE hR
  obtain ⟨z, rfl⟩ : ∃ z : Nat → D, _ = [.slc (strs a), .slc (strs b), z 2, z 3, z 4, .int .i64 i, z 6, z 7, z 8, z 9, z 10, z 11, z 12, z 13, z 14, z 15, z 16, z 17, z 18, z 19, z 20, z 21, z 22, z 23, z 24, z 25] := hF.lit
  clear hF
  by_cases hlt : i < a.length
  · have hlt2 : i < b.length := by omega
    simp +contextual only [strs_len, strs_get hlt, strs_get hlt2, wrap_succ (show i ≤ big by omega), ↓u41_s0, ↓u41_s1, ↓u41_L2, ↓u41_s3, ↓u41_s4, ↓XA, XB, XL, XM, cellsOf, okc, one1, resOne, resAll, eqCells, cellEq, fits, sameK, List.length_cons, List.length_nil, List.replicate_succ, List.replicate_zero, List.cons_append, List.nil_append, List.append_nil, List.set_cons_succ, List.set_cons_zero, List.getD_cons_succ, List.getD_cons_zero, List.map_cons, List.map_nil, List.getElem?_cons_succ, List.getElem?_cons_zero, List.toList_toArray, Option.map_some, Option.map_none, Option.isSome_some, Option.isSome_none, Nat.reduceSub, Nat.reduceAdd, Nat.reduceMul, Nat.reduceEqDiff, Nat.reduceLeDiff, Nat.reduceBEq, reduceCtorEq, List.drop_succ_cons, List.drop_zero, List.take_succ_cons, List.take_zero, List.drop_nil, List.take_nil, ne_eq, Option.getD_some, List.length_map, List.all_cons, List.all_nil, List.range_zero, List.range_succ, ite_true, ite_false, TYX]
    refine fun _ => ⟨fun _ _ => ⟨by omega, fun _ => ⟨fun hne => ?_, fun heq => ?_⟩⟩, fun hge => absurd hge (by omega)⟩
    · refine hR _ _ ?_
      simp +contextual only [↓u41_s0, ↓u41_s1, ↓u41_L2, ↓u41_s3, ↓u41_s4, ↓XA, XB, XL, XM, cellsOf, okc, one1, resOne, resAll, eqCells, cellEq, fits, sameK, List.length_cons, List.length_nil, List.replicate_succ, List.replicate_zero, List.cons_append, List.nil_append, List.append_nil, List.set_cons_succ, List.set_cons_zero, List.getD_cons_succ, List.getD_cons_zero, List.map_cons, List.map_nil, List.getElem?_cons_succ, List.getElem?_cons_zero, List.toList_toArray, Option.map_some, Option.map_none, Option.isSome_some, Option.isSome_none, Nat.reduceSub, Nat.reduceAdd, Nat.reduceMul, Nat.reduceEqDiff, Nat.reduceLeDiff, Nat.reduceBEq, reduceCtorEq, List.drop_succ_cons, List.drop_zero, List.take_succ_cons, List.take_zero, List.drop_nil, List.take_nil, ne_eq, Option.getD_some, List.length_map, List.all_cons, List.all_nil, List.range_zero, List.range_succ, ite_true, ite_false, TYX]
      have : a ≠ b := fun e => hne (by subst e; rfl)
      rw [decide_eq_false this] at h
      exact h
    · refine hN _ _ ⟨i + 1, hlt, fun j hj hji => ?_, ⟨rfl, rfl, rfl, rfl, trivial⟩, (back_0 rfl).symm⟩ ?_
      · rcases Nat.lt_succ_iff_lt_or_eq.1 hji with h' | rfl
        · exact hp j hj h'
        · exact heq
      · simp only [List.getD_cons_succ, List.getD_cons_zero]; omega
  · simp +contextual only [strs_len, ↓u41_s0, ↓u41_s1, ↓u41_L2, ↓u41_s3, ↓u41_s4, ↓XA, XB, XL, XM, cellsOf, okc, one1, resOne, resAll, eqCells, cellEq, fits, sameK, List.length_cons, List.length_nil, List.replicate_succ, List.replicate_zero, List.cons_append, List.nil_append, List.append_nil, List.set_cons_succ, List.set_cons_zero, List.getD_cons_succ, List.getD_cons_zero, List.map_cons, List.map_nil, List.getElem?_cons_succ, List.getElem?_cons_zero, List.toList_toArray, Option.map_some, Option.map_none, Option.isSome_some, Option.isSome_none, Nat.reduceSub, Nat.reduceAdd, Nat.reduceMul, Nat.reduceEqDiff, Nat.reduceLeDiff, Nat.reduceBEq, reduceCtorEq, List.drop_succ_cons, List.drop_zero, List.take_succ_cons, List.take_zero, List.drop_nil, List.take_nil, ne_eq, Option.getD_some, List.length_map, List.all_cons, List.all_nil, List.range_zero, List.range_succ, ite_true, ite_false, TYX]
    refine fun _ => ⟨fun h' => absurd h' (by omega), fun _ => hE _ _ _ ?_⟩
    simp +contextual only [↓u41_s0, ↓u41_s1, ↓u41_L2, ↓u41_s3, ↓u41_s4, ↓XA, XB, XL, XM, cellsOf, okc, one1, resOne, resAll, eqCells, cellEq, fits, sameK, List.length_cons, List.length_nil, List.replicate_succ, List.replicate_zero, List.cons_append, List.nil_append, List.append_nil, List.set_cons_succ, List.set_cons_zero, List.getD_cons_succ, List.getD_cons_zero, List.map_cons, List.map_nil, List.getElem?_cons_succ, List.getElem?_cons_zero, List.toList_toArray, Option.map_some, Option.map_none, Option.isSome_some, Option.isSome_none, Nat.reduceSub, Nat.reduceAdd, Nat.reduceMul, Nat.reduceEqDiff, Nat.reduceLeDiff, Nat.reduceBEq, reduceCtorEq, List.drop_succ_cons, List.drop_zero, List.take_succ_cons, List.take_zero, List.drop_nil, List.take_nil, ne_eq, Option.getD_some, List.length_map, List.all_cons, List.all_nil, List.range_zero, List.range_succ, ite_true, ite_false, TYX]
    have : a = b := List.ext_getElem (by omega) fun j h1 h2 => hp j h1 (by omega)
    rw [decide_eq_true this] at h
    exact h
end Go.Proofs.Ytbfcfmcebdfndaa
