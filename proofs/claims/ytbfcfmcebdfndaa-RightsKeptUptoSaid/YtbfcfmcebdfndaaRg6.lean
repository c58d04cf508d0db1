/- Contract of rights.Record. Conditions: those in it. -/
import Derived.Test.YtbfcfmcebdfndaaRg5
namespace Go.Proofs.Ytbfcfmcebdfndaa
open Go Go.Aw
set_option linter.unusedVariables false
set_option linter.unusedSimpArgs false

def firstErr (f : List UInt8 → Int) (l : List (List UInt8)) : Int := match l.find? fun o => decide (f o ≠ 0) with
  | some o => f o
  | none => 0
theorem firstErr_none {f : List UInt8 → Int} {l : List (List UInt8)} (h : ∀ i (hi : i < l.length), f l[i] = 0) : firstErr f l = 0 := by
  unfold firstErr
  have : l.find? (fun o => decide (f o ≠ 0)) = none := by
    rw [List.find?_eq_none]
    intro t ht
    obtain ⟨i, hi, rfl⟩ := List.getElem_of_mem ht
    simpa using h i hi
  rw [this]
theorem firstErr_some {f : List UInt8 → Int} {l : List (List UInt8)} {i : Nat} (hi : i < l.length) (he : f l[i] ≠ 0) (h : ∀ j (hj : j < i), f (l[j]) = 0) : firstErr f l = f l[i] := by
  unfold firstErr
  have : l.find? (fun o => decide (f o ≠ 0)) = some l[i] := by
    rw [List.find?_eq_some_iff_getElem]
    refine ⟨by simpa using he, i, hi, rfl, fun j hj => ?_⟩
    simpa using h j hj
  rw [this]
def before (done : List Pr) (p : Pr) : Bool := decide (0 < done.length) && decide (p.day < (done.getD (done.length - 1) default).day)
def recErr (l : List Tm) (done : List Pr) (p : Pr) : Int :=
  if validT l && validPs done && validP p && !before done p then (if done.length = 256 then 4 else firstErr (fun o => allowedOf l done o p.day p.copies) p.owners) else 1
def recD (l : List Tm) (done : List Pr) (p : Pr) : D := .tup [.own (if recErr l done p = 0 then prs (done ++ [p]) else []), .int .i64 (recErr l done p)]
/-- rights.Record -/
theorem r_record {l : List Tm} {done : List Pr} {p : Pr} {H : AH} {R : D → AH → Prop} (hpo : p.owners.length ≤ 1073741824) (h : R (recD l done p) H) : ACall Try.prog 20 [.slc (tms l), .slc (prs done), .agg p.d] H R := by
  refine b20 fun hf => ?_
  simp +contextual only [x20, Pr.d, ↓u20_s0, ↓u20_s1, ↓u20_s2, ↓u20_L3, ↓u20_s4, ↓u20_s5, ↓u20_s6, ↓u20_s7, ↓u20_s8, ↓XA, XB, XL, XM, cellsOf, okc, one1, resOne, resAll, eqCells, cellEq, fits, sameK, List.length_cons, List.length_nil, List.replicate_succ, List.replicate_zero, List.cons_append, List.nil_append, List.append_nil, List.set_cons_succ, List.set_cons_zero, List.getD_cons_succ, List.getD_cons_zero, List.map_cons, List.map_nil, List.getElem?_cons_succ, List.getElem?_cons_zero, List.toList_toArray, Option.map_some, Option.map_none, Option.isSome_some, Option.isSome_none, Nat.reduceSub, Nat.reduceAdd, Nat.reduceMul, Nat.reduceEqDiff, Nat.reduceLeDiff, Nat.reduceBEq, reduceCtorEq, List.drop_succ_cons, List.drop_zero, List.take_succ_cons, List.take_zero, List.drop_nil, List.take_nil, ne_eq, Option.getD_some, List.length_map, List.all_cons, List.all_nil, List.range_zero, List.range_succ, ite_true, ite_false, TYX]
  intro b1 h1
  refine ⟨_, r_valid ⟨rfl, rfl⟩, ?_⟩
  simp +contextual only [h1, ↓u20_s0, ↓u20_s1, ↓u20_s2, ↓u20_L3, ↓u20_s4, ↓u20_s5, ↓u20_s6, ↓u20_s7, ↓u20_s8, ↓XA, XB, XL, XM, cellsOf, okc, one1, resOne, resAll, eqCells, cellEq, fits, sameK, List.length_cons, List.length_nil, List.replicate_succ, List.replicate_zero, List.cons_append, List.nil_append, List.append_nil, List.set_cons_succ, List.set_cons_zero, List.getD_cons_succ, List.getD_cons_zero, List.map_cons, List.map_nil, List.getElem?_cons_succ, List.getElem?_cons_zero, List.toList_toArray, Option.map_some, Option.map_none, Option.isSome_some, Option.isSome_none, Nat.reduceSub, Nat.reduceAdd, Nat.reduceMul, Nat.reduceEqDiff, Nat.reduceLeDiff, Nat.reduceBEq, reduceCtorEq, List.drop_succ_cons, List.drop_zero, List.take_succ_cons, List.take_zero, List.drop_nil, List.take_nil, ne_eq, Option.getD_some, List.length_map, List.all_cons, List.all_nil, List.range_zero, List.range_succ, ite_true, ite_false, TYX]
  refine ⟨fun e1 => ?_, fun e1 => ?_⟩
  · simpa [recD, recErr, e1] using h
  refine ⟨_, r_prints ⟨rfl, rfl⟩, ?_⟩
  simp +contextual only [h1, ↓u20_s0, ↓u20_s1, ↓u20_s2, ↓u20_L3, ↓u20_s4, ↓u20_s5, ↓u20_s6, ↓u20_s7, ↓u20_s8, ↓XA, XB, XL, XM, cellsOf, okc, one1, resOne, resAll, eqCells, cellEq, fits, sameK, List.length_cons, List.length_nil, List.replicate_succ, List.replicate_zero, List.cons_append, List.nil_append, List.append_nil, List.set_cons_succ, List.set_cons_zero, List.getD_cons_succ, List.getD_cons_zero, List.map_cons, List.map_nil, List.getElem?_cons_succ, List.getElem?_cons_zero, List.toList_toArray, Option.map_some, Option.map_none, Option.isSome_some, Option.isSome_none, Nat.reduceSub, Nat.reduceAdd, Nat.reduceMul, Nat.reduceEqDiff, Nat.reduceLeDiff, Nat.reduceBEq, reduceCtorEq, List.drop_succ_cons, List.drop_zero, List.take_succ_cons, List.take_zero, List.drop_nil, List.take_nil, ne_eq, Option.getD_some, List.length_map, List.all_cons, List.all_nil, List.range_zero, List.range_succ, ite_true, ite_false, TYX]
  refine ⟨fun e2 => ?_, fun e2 => ?_⟩
  · simpa [recD, recErr, e1, e2] using h
  refine ⟨_, r_one (p := p) ⟨rfl, rfl⟩, ?_⟩
  simp +contextual only [h1, ↓u20_s0, ↓u20_s1, ↓u20_s2, ↓u20_L3, ↓u20_s4, ↓u20_s5, ↓u20_s6, ↓u20_s7, ↓u20_s8, ↓XA, XB, XL, XM, cellsOf, okc, one1, resOne, resAll, eqCells, cellEq, fits, sameK, List.length_cons, List.length_nil, List.replicate_succ, List.replicate_zero, List.cons_append, List.nil_append, List.append_nil, List.set_cons_succ, List.set_cons_zero, List.getD_cons_succ, List.getD_cons_zero, List.map_cons, List.map_nil, List.getElem?_cons_succ, List.getElem?_cons_zero, List.toList_toArray, Option.map_some, Option.map_none, Option.isSome_some, Option.isSome_none, Nat.reduceSub, Nat.reduceAdd, Nat.reduceMul, Nat.reduceEqDiff, Nat.reduceLeDiff, Nat.reduceBEq, reduceCtorEq, List.drop_succ_cons, List.drop_zero, List.take_succ_cons, List.take_zero, List.drop_nil, List.take_nil, ne_eq, Option.getD_some, List.length_map, List.all_cons, List.all_nil, List.range_zero, List.range_succ, ite_true, ite_false, TYX]
  refine ⟨fun e3 => ?_, fun e3 => ?_⟩
  · simpa [recD, recErr, e1, e2, e3] using h
  obtain ⟨hn, hall⟩ := validPs_all e2
  have hbig := big_eq
  simp +contextual only [h1, prs_len, strs_len, ↓u20_s0, ↓u20_s1, ↓u20_s2, ↓u20_L3, ↓u20_s4, ↓u20_s5, ↓u20_s6, ↓u20_s7, ↓u20_s8, ↓XA, XB, XL, XM, cellsOf, okc, one1, resOne, resAll, eqCells, cellEq, fits, sameK, List.length_cons, List.length_nil, List.replicate_succ, List.replicate_zero, List.cons_append, List.nil_append, List.append_nil, List.set_cons_succ, List.set_cons_zero, List.getD_cons_succ, List.getD_cons_zero, List.map_cons, List.map_nil, List.getElem?_cons_succ, List.getElem?_cons_zero, List.toList_toArray, Option.map_some, Option.map_none, Option.isSome_some, Option.isSome_none, Nat.reduceSub, Nat.reduceAdd, Nat.reduceMul, Nat.reduceEqDiff, Nat.reduceLeDiff, Nat.reduceBEq, reduceCtorEq, List.drop_succ_cons, List.drop_zero, List.take_succ_cons, List.take_zero, List.drop_nil, List.take_nil, ne_eq, Option.getD_some, List.length_map, List.all_cons, List.all_nil, List.range_zero, List.range_succ, ite_true, ite_false, TYX]
  intro hlen
  have hwr : 0 < done.length → IntKind.i64.wrap ((done.length : Int) - 1) = ((done.length - 1 : Nat) : Int) := fun h0 => by
    rw [wrap_id (by omega) (by omega)]
    omega
  have tail : before done p = false → ¬ (done.length : Int) = 256 → ∀ {F : List D}, Fr 72 [(0, .slc (tms l)), (1, .slc (prs done)), (5, .ptr b1 0), (45, .slc (strs p.owners)), (46, .int .i64 p.owners.length), (47, .int .i64 0)] F → XW Try.prog x20_L3 F ((b1, .cells [.int .i64 p.day, .int .i64 p.copies, .slc (strs p.owners)]) :: H) (blockQ 0 (seqQ Try.prog x20_s5 (retQ Try.prog [.tmp 6, .tmp 7] H.length R))) := by
    intro hbf hn256 F hF
    have hr : recErr l done p = firstErr (fun o => allowedOf l done o p.day p.copies) p.owners := by
      have : ¬ done.length = 256 := by omega
      simp [recErr, e1, e2, e3, hbf, this]
    refine XW.loopK hm (fun F H' => ∃ (i : Nat), i ≤ p.owners.length ∧ (∀ j (hj : j < p.owners.length), j < i → allowedOf l done p.owners[j] p.day p.copies = 0) ∧ Fr 72 [(0, .slc (tms l)), (1, .slc (prs done)), (5, .ptr b1 0), (45, .slc (strs p.owners)), (46, .int .i64 p.owners.length), (47, .int .i64 i)] F ∧ H' = (b1, .cells [.int .i64 p.day, .int .i64 p.copies, .slc (strs p.owners)]) :: H) (fun F H => match F.getD 47 .any with | .int _ n => p.owners.length - n.toNat | _ => 0) ⟨0, Nat.zero_le _, fun j _ hj => absurd hj (Nat.not_lt_zero j), hF, rfl⟩ ?_
    rintro _ _ ⟨i, hi, hz, hF, rfl⟩ K hN hE hR
    obtain ⟨z, rfl⟩ : ∃ z : Nat → D, _ = [.slc (tms l), .slc (prs done), z 2, z 3, z 4, .ptr b1 0, z 6, z 7, z 8, z 9, z 10, z 11, z 12, z 13, z 14, z 15, z 16, z 17, z 18, z 19, z 20, z 21, z 22, z 23, z 24, z 25, z 26, z 27, z 28, z 29, z 30, z 31, z 32, z 33, z 34, z 35, z 36, z 37, z 38, z 39, z 40, z 41, z 42, z 43, z 44, .slc (strs p.owners), .int .i64 p.owners.length, .int .i64 i, z 48, z 49, z 50, z 51, z 52, z 53, z 54, z 55, z 56, z 57, z 58, z 59, z 60, z 61, z 62, z 63, z 64, z 65, z 66, z 67, z 68, z 69, z 70, z 71] := hF.lit
    simp +contextual only [x20_L3, strs_len, ↓u20_s0, ↓u20_s1, ↓u20_s2, ↓u20_L3, ↓u20_s4, ↓u20_s5, ↓u20_s6, ↓u20_s7, ↓u20_s8, ↓XA, XB, XL, XM, cellsOf, okc, one1, resOne, resAll, eqCells, cellEq, fits, sameK, List.length_cons, List.length_nil, List.replicate_succ, List.replicate_zero, List.cons_append, List.nil_append, List.append_nil, List.set_cons_succ, List.set_cons_zero, List.getD_cons_succ, List.getD_cons_zero, List.map_cons, List.map_nil, List.getElem?_cons_succ, List.getElem?_cons_zero, List.toList_toArray, Option.map_some, Option.map_none, Option.isSome_some, Option.isSome_none, Nat.reduceSub, Nat.reduceAdd, Nat.reduceMul, Nat.reduceEqDiff, Nat.reduceLeDiff, Nat.reduceBEq, reduceCtorEq, List.drop_succ_cons, List.drop_zero, List.take_succ_cons, List.take_zero, List.drop_nil, List.take_nil, ne_eq, Option.getD_some, List.length_map, List.all_cons, List.all_nil, List.range_zero, List.range_succ, ite_true, ite_false, TYX]
    refine ⟨fun hlt => ?_, fun hge => ?_⟩
    · have hi' : i < p.owners.length := by omega
      simp only [strs_get hi']
      simp +contextual only [↓u20_s0, ↓u20_s1, ↓u20_s2, ↓u20_L3, ↓u20_s4, ↓u20_s5, ↓u20_s6, ↓u20_s7, ↓u20_s8, ↓XA, XB, XL, XM, cellsOf, okc, one1, resOne, resAll, eqCells, cellEq, fits, sameK, List.length_cons, List.length_nil, List.replicate_succ, List.replicate_zero, List.cons_append, List.nil_append, List.append_nil, List.set_cons_succ, List.set_cons_zero, List.getD_cons_succ, List.getD_cons_zero, List.map_cons, List.map_nil, List.getElem?_cons_succ, List.getElem?_cons_zero, List.toList_toArray, Option.map_some, Option.map_none, Option.isSome_some, Option.isSome_none, Nat.reduceSub, Nat.reduceAdd, Nat.reduceMul, Nat.reduceEqDiff, Nat.reduceLeDiff, Nat.reduceBEq, reduceCtorEq, List.drop_succ_cons, List.drop_zero, List.take_succ_cons, List.take_zero, List.drop_nil, List.take_nil, ne_eq, Option.getD_some, List.length_map, List.all_cons, List.all_nil, List.range_zero, List.range_succ, ite_true, ite_false, TYX]
      refine fun _ _ _ => r_allowed ?_
      simp +contextual only [↓u20_s0, ↓u20_s1, ↓u20_s2, ↓u20_L3, ↓u20_s4, ↓u20_s5, ↓u20_s6, ↓u20_s7, ↓u20_s8, ↓XA, XB, XL, XM, cellsOf, okc, one1, resOne, resAll, eqCells, cellEq, fits, sameK, List.length_cons, List.length_nil, List.replicate_succ, List.replicate_zero, List.cons_append, List.nil_append, List.append_nil, List.set_cons_succ, List.set_cons_zero, List.getD_cons_succ, List.getD_cons_zero, List.map_cons, List.map_nil, List.getElem?_cons_succ, List.getElem?_cons_zero, List.toList_toArray, Option.map_some, Option.map_none, Option.isSome_some, Option.isSome_none, Nat.reduceSub, Nat.reduceAdd, Nat.reduceMul, Nat.reduceEqDiff, Nat.reduceLeDiff, Nat.reduceBEq, reduceCtorEq, List.drop_succ_cons, List.drop_zero, List.take_succ_cons, List.take_zero, List.drop_nil, List.take_nil, ne_eq, Option.getD_some, List.length_map, List.all_cons, List.all_nil, List.range_zero, List.range_succ, ite_true, ite_false, TYX]
      refine fun _ => ⟨fun hz2 => ?_, fun hz2 => ?_⟩
      · refine hR _ _ ?_
        simp +contextual only [↓u20_s0, ↓u20_s1, ↓u20_s2, ↓u20_L3, ↓u20_s4, ↓u20_s5, ↓u20_s6, ↓u20_s7, ↓u20_s8, ↓XA, XB, XL, XM, cellsOf, okc, one1, resOne, resAll, eqCells, cellEq, fits, sameK, List.length_cons, List.length_nil, List.replicate_succ, List.replicate_zero, List.cons_append, List.nil_append, List.append_nil, List.set_cons_succ, List.set_cons_zero, List.getD_cons_succ, List.getD_cons_zero, List.map_cons, List.map_nil, List.getElem?_cons_succ, List.getElem?_cons_zero, List.toList_toArray, Option.map_some, Option.map_none, Option.isSome_some, Option.isSome_none, Nat.reduceSub, Nat.reduceAdd, Nat.reduceMul, Nat.reduceEqDiff, Nat.reduceLeDiff, Nat.reduceBEq, reduceCtorEq, List.drop_succ_cons, List.drop_zero, List.take_succ_cons, List.take_zero, List.drop_nil, List.take_nil, ne_eq, Option.getD_some, List.length_map, List.all_cons, List.all_nil, List.range_zero, List.range_succ, ite_true, ite_false, TYX]
        have he : recErr l done p = allowedOf l done p.owners[i] p.day p.copies := by
          rw [hr]
          exact firstErr_some (f := fun o => allowedOf l done o p.day p.copies) hi' hz2 fun j hj => hz j (by omega) hj
        have hne : recErr l done p ≠ 0 := by rw [he]; exact hz2
        simpa [recD, hne, ← he] using h
      · rw [wrap_succ (by omega)]
        refine hN _ _ ⟨i + 1, hi', fun j hj hji => ?_, ⟨rfl, rfl, rfl, rfl, rfl, rfl, rfl, trivial⟩, back_0 rfl⟩ ?_
        · rcases Nat.lt_succ_iff_lt_or_eq.1 hji with h' | rfl
          · exact hz j hj h'
          · exact hz2
        · simp only [List.getD_cons_succ, List.getD_cons_zero]; omega
    · refine hE _ _ _ ?_
      clear hE hN hR hF
      have hii : i = p.owners.length := by omega
      have hr0 : recErr l done p = 0 := by
        rw [hr]
        exact firstErr_none fun j hj => hz j hj (by omega)
      simp +contextual only [↓u20_s0, ↓u20_s1, ↓u20_s2, ↓u20_L3, ↓u20_s4, ↓u20_s5, ↓u20_s6, ↓u20_s7, ↓u20_s8, ↓XA, XB, XL, XM, cellsOf, okc, one1, resOne, resAll, eqCells, cellEq, fits, sameK, List.length_cons, List.length_nil, List.replicate_succ, List.replicate_zero, List.cons_append, List.nil_append, List.append_nil, List.set_cons_succ, List.set_cons_zero, List.getD_cons_succ, List.getD_cons_zero, List.map_cons, List.map_nil, List.getElem?_cons_succ, List.getElem?_cons_zero, List.toList_toArray, Option.map_some, Option.map_none, Option.isSome_some, Option.isSome_none, Nat.reduceSub, Nat.reduceAdd, Nat.reduceMul, Nat.reduceEqDiff, Nat.reduceLeDiff, Nat.reduceBEq, reduceCtorEq, List.drop_succ_cons, List.drop_zero, List.take_succ_cons, List.take_zero, List.drop_nil, List.take_nil, ne_eq, Option.getD_some, List.length_map, List.all_cons, List.all_nil, List.range_zero, List.range_succ, ite_true, ite_false, TYX]
      intro _
      refine str_clone strs_1 (by rw [strs_len]; exact hpo) ?_
      simp +contextual only [↓u20_s0, ↓u20_s1, ↓u20_s2, ↓u20_L3, ↓u20_s4, ↓u20_s5, ↓u20_s6, ↓u20_s7, ↓u20_s8, ↓XA, XB, XL, XM, cellsOf, okc, one1, resOne, resAll, eqCells, cellEq, fits, sameK, List.length_cons, List.length_nil, List.replicate_succ, List.replicate_zero, List.cons_append, List.nil_append, List.append_nil, List.set_cons_succ, List.set_cons_zero, List.getD_cons_succ, List.getD_cons_zero, List.map_cons, List.map_nil, List.getElem?_cons_succ, List.getElem?_cons_zero, List.toList_toArray, Option.map_some, Option.map_none, Option.isSome_some, Option.isSome_none, Nat.reduceSub, Nat.reduceAdd, Nat.reduceMul, Nat.reduceEqDiff, Nat.reduceLeDiff, Nat.reduceBEq, reduceCtorEq, List.drop_succ_cons, List.drop_zero, List.take_succ_cons, List.take_zero, List.drop_nil, List.take_nil, ne_eq, Option.getD_some, List.length_map, List.all_cons, List.all_nil, List.range_zero, List.range_succ, ite_true, ite_false, TYX]
      refine fun _ => ⟨_, print_clone prs_3 (by rw [prs_len]; omega) ⟨rfl, rfl⟩, ?_⟩
      simp +contextual only [↓u20_s0, ↓u20_s1, ↓u20_s2, ↓u20_L3, ↓u20_s4, ↓u20_s5, ↓u20_s6, ↓u20_s7, ↓u20_s8, ↓XA, XB, XL, XM, cellsOf, okc, one1, resOne, resAll, eqCells, cellEq, fits, sameK, List.length_cons, List.length_nil, List.replicate_succ, List.replicate_zero, List.cons_append, List.nil_append, List.append_nil, List.set_cons_succ, List.set_cons_zero, List.getD_cons_succ, List.getD_cons_zero, List.map_cons, List.map_nil, List.getElem?_cons_succ, List.getElem?_cons_zero, List.toList_toArray, Option.map_some, Option.map_none, Option.isSome_some, Option.isSome_none, Nat.reduceSub, Nat.reduceAdd, Nat.reduceMul, Nat.reduceEqDiff, Nat.reduceLeDiff, Nat.reduceBEq, reduceCtorEq, List.drop_succ_cons, List.drop_zero, List.take_succ_cons, List.take_zero, List.drop_nil, List.take_nil, ne_eq, Option.getD_some, List.length_map, List.all_cons, List.all_nil, List.range_zero, List.range_succ, ite_true, ite_false, TYX]
      refine fun _ => ⟨prs_3, by rw [prs_len]; omega, ?_⟩
      have : recD l done p = .tup [.own (prs done ++ [[.int .i64 p.day, .int .i64 p.copies, .slc (strs p.owners)]]), .int .i64 0] := by
        simp [recD, hr0, prs, Pr.d]
      rw [← this]
      exact h
  refine ⟨fun hpos _ => ?_, fun hneg => ?_⟩
  · have h0 : 0 < done.length := by omega
    have hi : done.length - 1 < done.length := by omega
    simp only [hwr h0, Int.toNat_natCast, prs_get hi, show done[done.length - 1].d = [.int .i64 done[done.length - 1].day, .int .i64 done[done.length - 1].copies, .slc (strs done[done.length - 1].owners)] from rfl]
    have hb : before done p = decide (p.day < done[done.length - 1].day) := by simp [before, h0, hi]
    simp +contextual only [h1, prs_len, strs_len, ↓u20_s0, ↓u20_s1, ↓u20_s2, ↓u20_L3, ↓u20_s4, ↓u20_s5, ↓u20_s6, ↓u20_s7, ↓u20_s8, ↓XA, XB, XL, XM, cellsOf, okc, one1, resOne, resAll, eqCells, cellEq, fits, sameK, List.length_cons, List.length_nil, List.replicate_succ, List.replicate_zero, List.cons_append, List.nil_append, List.append_nil, List.set_cons_succ, List.set_cons_zero, List.getD_cons_succ, List.getD_cons_zero, List.map_cons, List.map_nil, List.getElem?_cons_succ, List.getElem?_cons_zero, List.toList_toArray, Option.map_some, Option.map_none, Option.isSome_some, Option.isSome_none, Nat.reduceSub, Nat.reduceAdd, Nat.reduceMul, Nat.reduceEqDiff, Nat.reduceLeDiff, Nat.reduceBEq, reduceCtorEq, List.drop_succ_cons, List.drop_zero, List.take_succ_cons, List.take_zero, List.drop_nil, List.take_nil, ne_eq, Option.getD_some, List.length_map, List.all_cons, List.all_nil, List.range_zero, List.range_succ, ite_true, ite_false, TYX]
    refine ⟨by omega, fun _ => ⟨fun hlt => ?_, fun hnlt _ => ⟨fun h256 => ?_, fun hn256 _ => ?_⟩⟩⟩
    · have : before done p = true := by rw [hb]; simpa using hlt
      simpa [recD, recErr, e1, e2, e3, this] using h
    · have : before done p = false := by rw [hb]; simpa using hnlt
      have h256' : done.length = 256 := by omega
      simpa [recD, recErr, e1, e2, e3, this, h256'] using h
    · have hbf : before done p = false := by rw [hb]; simpa using hnlt
      exact tail hbf hn256 ⟨rfl, rfl, rfl, rfl, rfl, rfl, rfl, trivial⟩
  · refine ⟨fun h256 => ?_, fun hn256 _ => ?_⟩
    · omega
    · have hbf : before done p = false := by simp [before]; omega
      exact tail hbf hn256 ⟨rfl, rfl, rfl, rfl, rfl, rfl, rfl, trivial⟩
end Go.Proofs.Ytbfcfmcebdfndaa
