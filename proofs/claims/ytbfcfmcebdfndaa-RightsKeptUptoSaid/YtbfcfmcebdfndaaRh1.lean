/- Contracts of wordbookref01.Around and At. Conditions: those in each. -/
import Derived.Test.YtbfcfmcebdfndaaAw18
import Derived.Test.YtbfcfmcebdfndaaXc
namespace Go.Proofs.Ytbfcfmcebdfndaa
open Go Go.Aw
set_option linter.unusedVariables false
set_option linter.unusedSimpArgs false

def around (n most : Int) : Int := (if n < 0 then -(n + 1) else n).tmod most
theorem around_range {n most : Int} (h : 0 < most) : 0 ≤ around n most ∧ around n most < most := by
  unfold around
  have h0 : 0 ≤ (if n < 0 then -(n + 1) else n) := by split <;> omega
  rw [Int.tmod_eq_emod_of_nonneg h0]
  exact ⟨Int.emod_nonneg _ (by omega), Int.emod_lt_of_pos _ h⟩
/-- wordbookref01.Around -/
theorem f_around {n most : Int} {H : AH} {R : D → AH → Prop} (hm : 0 < most) (h : R (.int .i64 (around n most)) H) : ACall Try.prog 23 [.int .i64 n, .int .i64 most] H R := by
  refine b23 fun hf => ?_
  have hn := hf.1
  rw [f_int, inR_i64] at hn
  simp +contextual only [x23, ↓u23_s0, ↓u23_s1, ↓XA, XB, XL, XM, cellsOf, okc, one1, resOne, resAll, eqCells, cellEq, fits, sameK, List.length_cons, List.length_nil, List.replicate_succ, List.replicate_zero, List.cons_append, List.nil_append, List.append_nil, List.set_cons_succ, List.set_cons_zero, List.getD_cons_succ, List.getD_cons_zero, List.map_cons, List.map_nil, List.getElem?_cons_succ, List.getElem?_cons_zero, List.toList_toArray, Option.map_some, Option.map_none, Option.isSome_some, Option.isSome_none, Nat.reduceSub, Nat.reduceAdd, Nat.reduceMul, Nat.reduceEqDiff, Nat.reduceLeDiff, Nat.reduceBEq, reduceCtorEq, List.drop_succ_cons, List.drop_zero, List.take_succ_cons, List.take_zero, List.drop_nil, List.take_nil, ne_eq, Option.getD_some, List.length_map, List.all_cons, List.all_nil, List.range_zero, List.range_succ, ite_true, ite_false, TYX]
  unfold around at h
  refine ⟨fun h0 => ?_, fun h0 => ?_⟩
  · rw [wrap_id (n := n + 1) (by omega) (by omega), wrap_id (n := 0 - (n + 1)) (by omega) (by omega)]
    rw [if_pos h0] at h
    refine ⟨by omega, ?_⟩
    rw [show 0 - (n + 1) = -(n + 1) by omega]
    exact h
  · rw [if_neg h0] at h
    exact ⟨by omega, h⟩
def ints (l : List Int) : List (List D) := l.map fun n => [.int .i64 n]
theorem ints_len {l : List Int} : (ints l).length = l.length := by simp [ints]
theorem ints_get {l : List Int} {i : Nat} (h : i < l.length) : (ints l).getD i [] = [.int .i64 l[i]] := by simp [ints, h]
def atOf (l : List Int) (i : Nat) (most : Int) : Int := match l[i]? with
  | some n => around n most
  | none => 0
theorem atOf_range {l : List Int} {i : Nat} {most : Int} (h : 0 < most) : 0 ≤ atOf l i most ∧ atOf l i most < most := by
  unfold atOf
  split
  · exact around_range h
  · omega
/-- wordbookref01.At, at an index that is not negative. -/
theorem f_at {l : List Int} {i : Nat} {most : Int} {H : AH} {R : D → AH → Prop} (hm : 0 < most) (h : R (.int .i64 (atOf l i most)) H) : ACall Try.prog 25 [.slc (ints l), .int .i64 i, .int .i64 most] H R := by
  refine b25 fun hf => ?_
  by_cases hi : i < l.length
  · simp +contextual only [x25, ints_len, ints_get hi, ↓u25_s0, ↓u25_s1, ↓XA, XB, XL, XM, cellsOf, okc, one1, resOne, resAll, eqCells, cellEq, fits, sameK, List.length_cons, List.length_nil, List.replicate_succ, List.replicate_zero, List.cons_append, List.nil_append, List.append_nil, List.set_cons_succ, List.set_cons_zero, List.getD_cons_succ, List.getD_cons_zero, List.map_cons, List.map_nil, List.getElem?_cons_succ, List.getElem?_cons_zero, List.toList_toArray, Option.map_some, Option.map_none, Option.isSome_some, Option.isSome_none, Nat.reduceSub, Nat.reduceAdd, Nat.reduceMul, Nat.reduceEqDiff, Nat.reduceLeDiff, Nat.reduceBEq, reduceCtorEq, List.drop_succ_cons, List.drop_zero, List.take_succ_cons, List.take_zero, List.drop_nil, List.take_nil, ne_eq, Option.getD_some, List.length_map, List.all_cons, List.all_nil, List.range_zero, List.range_succ, ite_true, ite_false, TYX]
    refine ⟨fun hneg => absurd hneg (by omega), fun _ _ => ⟨fun hge => absurd hge (by omega), fun _ => ?_⟩⟩
    refine ⟨by omega, fun _ => f_around hm ?_⟩
    simp +contextual only [↓u25_s0, ↓u25_s1, ↓XA, XB, XL, XM, cellsOf, okc, one1, resOne, resAll, eqCells, cellEq, fits, sameK, List.length_cons, List.length_nil, List.replicate_succ, List.replicate_zero, List.cons_append, List.nil_append, List.append_nil, List.set_cons_succ, List.set_cons_zero, List.getD_cons_succ, List.getD_cons_zero, List.map_cons, List.map_nil, List.getElem?_cons_succ, List.getElem?_cons_zero, List.toList_toArray, Option.map_some, Option.map_none, Option.isSome_some, Option.isSome_none, Nat.reduceSub, Nat.reduceAdd, Nat.reduceMul, Nat.reduceEqDiff, Nat.reduceLeDiff, Nat.reduceBEq, reduceCtorEq, List.drop_succ_cons, List.drop_zero, List.take_succ_cons, List.take_zero, List.drop_nil, List.take_nil, ne_eq, Option.getD_some, List.length_map, List.all_cons, List.all_nil, List.range_zero, List.range_succ, ite_true, ite_false, TYX]
    intro _
    unfold atOf at h
    rw [List.getElem?_eq_getElem hi] at h
    exact h
  · simp +contextual only [x25, ints_len, ↓u25_s0, ↓u25_s1, ↓XA, XB, XL, XM, cellsOf, okc, one1, resOne, resAll, eqCells, cellEq, fits, sameK, List.length_cons, List.length_nil, List.replicate_succ, List.replicate_zero, List.cons_append, List.nil_append, List.append_nil, List.set_cons_succ, List.set_cons_zero, List.getD_cons_succ, List.getD_cons_zero, List.map_cons, List.map_nil, List.getElem?_cons_succ, List.getElem?_cons_zero, List.toList_toArray, Option.map_some, Option.map_none, Option.isSome_some, Option.isSome_none, Nat.reduceSub, Nat.reduceAdd, Nat.reduceMul, Nat.reduceEqDiff, Nat.reduceLeDiff, Nat.reduceBEq, reduceCtorEq, List.drop_succ_cons, List.drop_zero, List.take_succ_cons, List.take_zero, List.drop_nil, List.take_nil, ne_eq, Option.getD_some, List.length_map, List.all_cons, List.all_nil, List.range_zero, List.range_succ, ite_true, ite_false, TYX]
    refine ⟨fun hneg => absurd hneg (by omega), fun _ _ => ⟨fun hge => ?_, fun hlt => absurd (by omega) hlt⟩⟩
    unfold atOf at h
    rw [List.getElem?_eq_none (by omega)] at h
    exact h
end Go.Proofs.Ytbfcfmcebdfndaa
