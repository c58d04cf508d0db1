/- Contracts of the exported functions of package rights. Conditions: those in each. -/
import Derived.Test.YtbfcfmcebdfndaaRg2
namespace Go.Proofs.Ytbfcfmcebdfndaa
open Go Go.Aw
set_option linter.unusedVariables false
set_option linter.unusedSimpArgs false

def findT (l : List Tm) (o : List UInt8) : Option Tm := l.find? fun t => decide (t.o = o)
theorem findT_none {l : List Tm} {o : List UInt8} (h : ∀ i (hi : i < l.length), l[i].o ≠ o) : findT l o = none := by
  unfold findT
  rw [List.find?_eq_none]
  intro t ht
  obtain ⟨i, hi, rfl⟩ := List.getElem_of_mem ht
  simpa using h i hi
theorem findT_some {l : List Tm} {o : List UInt8} {i : Nat} (hi : i < l.length) (he : l[i].o = o) (h : ∀ j (hj : j < i), l[j].o ≠ o) : findT l o = some l[i] := by
  unfold findT
  rw [List.find?_eq_some_iff_getElem]
  refine ⟨by simpa using he, i, hi, rfl, fun j hj => ?_⟩
  simpa using h j hj
def termD (o : Option Tm) : D := .tup [.agg (o.getD default).d, .bool o.isSome]

theorem r_find1 {t : Tm} {o : List UInt8} {b : Nat} {H : AH} {R : D → AH → Prop} (hb : getH H b = some (.cells [.str o])) (h : R (.bool (decide (t.o = o))) H) : ACall Try.prog 49 [.agg t.d, .ptr b 0] H R := by
  refine b49 fun hf => ?_
  simp +contextual only [x49, Tm.d, hb, ↓u49_s0, ↓XA, XB, XL, XM, cellsOf, okc, one1, resOne, resAll, eqCells, cellEq, fits, sameK, List.length_cons, List.length_nil, List.replicate_succ, List.replicate_zero, List.cons_append, List.nil_append, List.append_nil, List.set_cons_succ, List.set_cons_zero, List.getD_cons_succ, List.getD_cons_zero, List.map_cons, List.map_nil, List.getElem?_cons_succ, List.getElem?_cons_zero, List.toList_toArray, Option.map_some, Option.map_none, Option.isSome_some, Option.isSome_none, Nat.reduceSub, Nat.reduceAdd, Nat.reduceMul, Nat.reduceEqDiff, Nat.reduceLeDiff, Nat.reduceBEq, reduceCtorEq, List.drop_succ_cons, List.drop_zero, List.take_succ_cons, List.take_zero, List.drop_nil, List.take_nil, ne_eq, Option.getD_some, List.length_map, List.all_cons, List.all_nil, List.range_zero, List.range_succ, ite_true, ite_false, TYX]
  intro _ _ _ _
  exact h
/-- rights.find -/
theorem r_find {l : List Tm} {o : List UInt8} {H : AH} {R : D → AH → Prop} (h : R (termD (findT l o)) H) : ACall Try.prog 27 [.slc (tms l), .str o] H R := by
  refine b27 fun hf => ?_
  simp +contextual only [x27, ↓u27_s0, ↓u27_s1, ↓u27_s2, ↓XA, XB, XL, XM, cellsOf, okc, one1, resOne, resAll, eqCells, cellEq, fits, sameK, List.length_cons, List.length_nil, List.replicate_succ, List.replicate_zero, List.cons_append, List.nil_append, List.append_nil, List.set_cons_succ, List.set_cons_zero, List.getD_cons_succ, List.getD_cons_zero, List.map_cons, List.map_nil, List.getElem?_cons_succ, List.getElem?_cons_zero, List.toList_toArray, Option.map_some, Option.map_none, Option.isSome_some, Option.isSome_none, Nat.reduceSub, Nat.reduceAdd, Nat.reduceMul, Nat.reduceEqDiff, Nat.reduceLeDiff, Nat.reduceBEq, reduceCtorEq, List.drop_succ_cons, List.drop_zero, List.take_succ_cons, List.take_zero, List.drop_nil, List.take_nil, ne_eq, Option.getD_some, List.length_map, List.all_cons, List.all_nil, List.range_zero, List.range_succ, ite_true, ite_false, TYX]
  rintro b1 h1 b2 ⟨h2, h3⟩
  refine term_idx (Hs := fun i => (b2, .cells [.str [], .int .i64 0, .int .i64 0]) :: (b1, .cells [.str o]) :: H) (p := fun i => decide ((l.getD i default).o = o)) tms_3 (fun i => rfl) (fun i x hx hp R' hR' => ?_) (fun i hi hp hpi => ?_) (fun hp => ?_)
  · obtain ⟨hi, rfl⟩ := List.getElem?_eq_some_iff.1 hx
    rw [tms_len] at hi
    have e : (tms l)[i] = (l.getD i default).d := by simp [tms, hi]
    rw [e]
    refine r_find1 (o := o) ?_ hR'
    simp [getH, h2]
  · simp +contextual only [↓u27_s0, ↓u27_s1, ↓u27_s2, ↓XA, XB, XL, XM, cellsOf, okc, one1, resOne, resAll, eqCells, cellEq, fits, sameK, List.length_cons, List.length_nil, List.replicate_succ, List.replicate_zero, List.cons_append, List.nil_append, List.append_nil, List.set_cons_succ, List.set_cons_zero, List.getD_cons_succ, List.getD_cons_zero, List.map_cons, List.map_nil, List.getElem?_cons_succ, List.getElem?_cons_zero, List.toList_toArray, Option.map_some, Option.map_none, Option.isSome_some, Option.isSome_none, Nat.reduceSub, Nat.reduceAdd, Nat.reduceMul, Nat.reduceEqDiff, Nat.reduceLeDiff, Nat.reduceBEq, reduceCtorEq, List.drop_succ_cons, List.drop_zero, List.take_succ_cons, List.take_zero, List.drop_nil, List.take_nil, ne_eq, Option.getD_some, List.length_map, List.all_cons, List.all_nil, List.range_zero, List.range_succ, ite_true, ite_false, TYX]
    rw [tms_len] at hi
    have hg : (tms l).getD i [] = l[i].d := tms_get hi
    simp only [hg, show l[i].d = [.str l[i].o, .int .i64 l[i].u, .int .i64 l[i].c] from rfl]
    simp +contextual only [h1, h2, h3, tms_len, ↓u27_s0, ↓u27_s1, ↓u27_s2, ↓XA, XB, XL, XM, cellsOf, okc, one1, resOne, resAll, eqCells, cellEq, fits, sameK, List.length_cons, List.length_nil, List.replicate_succ, List.replicate_zero, List.cons_append, List.nil_append, List.append_nil, List.set_cons_succ, List.set_cons_zero, List.getD_cons_succ, List.getD_cons_zero, List.map_cons, List.map_nil, List.getElem?_cons_succ, List.getElem?_cons_zero, List.toList_toArray, Option.map_some, Option.map_none, Option.isSome_some, Option.isSome_none, Nat.reduceSub, Nat.reduceAdd, Nat.reduceMul, Nat.reduceEqDiff, Nat.reduceLeDiff, Nat.reduceBEq, reduceCtorEq, List.drop_succ_cons, List.drop_zero, List.take_succ_cons, List.take_zero, List.drop_nil, List.take_nil, ne_eq, Option.getD_some, List.length_map, List.all_cons, List.all_nil, List.range_zero, List.range_succ, ite_true, ite_false, TYX]
    have hf : findT l o = some l[i] := findT_some hi (by simpa [hi] using hpi) fun j hj => by
      have := hp j hj
      simpa [show j < l.length by omega] using this
    rw [hf] at h
    exact fun _ => ⟨fun hneg => absurd hneg (by omega), fun _ => ⟨by omega, h⟩⟩
  · simp +contextual only [h1, h2, h3, ↓u27_s0, ↓u27_s1, ↓u27_s2, ↓XA, XB, XL, XM, cellsOf, okc, one1, resOne, resAll, eqCells, cellEq, fits, sameK, List.length_cons, List.length_nil, List.replicate_succ, List.replicate_zero, List.cons_append, List.nil_append, List.append_nil, List.set_cons_succ, List.set_cons_zero, List.getD_cons_succ, List.getD_cons_zero, List.map_cons, List.map_nil, List.getElem?_cons_succ, List.getElem?_cons_zero, List.toList_toArray, Option.map_some, Option.map_none, Option.isSome_some, Option.isSome_none, Nat.reduceSub, Nat.reduceAdd, Nat.reduceMul, Nat.reduceEqDiff, Nat.reduceLeDiff, Nat.reduceBEq, reduceCtorEq, List.drop_succ_cons, List.drop_zero, List.take_succ_cons, List.take_zero, List.drop_nil, List.take_nil, ne_eq, Option.getD_some, List.length_map, List.all_cons, List.all_nil, List.range_zero, List.range_succ, ite_true, ite_false, TYX]
    have hf : findT l o = none := findT_none fun i hi => by
      have := hp i (by rw [tms_len]; exact hi)
      simpa [hi] using this
    rw [hf] at h
    exact fun _ => ⟨fun _ => h, fun hneg => absurd (by decide) hneg⟩

/-- The copies of prints with an owner. -/
def usedOf (p : Pr) (o : List UInt8) : Int := if o ∈ p.owners then p.copies else 0
def used (l : List Pr) (o : List UInt8) : Int := (l.map fun p => usedOf p o).foldl (· + ·) 0
def leftOf (l : List Tm) (done : List Pr) (o : List UInt8) : Int :=
  if validT l && validPs done then (match findT l o with
    | none => -1
    | some t => max 0 (t.c - used done o)) else 0
theorem foldl_add : ∀ (l : List Int) (a : Int), l.foldl (· + ·) a = a + l.foldl (· + ·) 0
  | [], a => by simp
  | x :: r, a => by
    simp only [List.foldl_cons]
    rw [foldl_add r (a + x), foldl_add r (0 + x)]
    omega
theorem used_cons {p : Pr} {l : List Pr} {o : List UInt8} : used (p :: l) o = usedOf p o + used l o := by
  simp only [used, List.map_cons, List.foldl_cons]
  rw [foldl_add]
  omega
theorem used_append {a b : List Pr} {o : List UInt8} : used (a ++ b) o = used a o + used b o := by
  induction a with
  | nil => simp [used]
  | cons x r ih => rw [List.cons_append, used_cons, used_cons, ih]; omega
theorem used_take {l : List Pr} {o : List UInt8} {i : Nat} (h : i < l.length) : used (l.take (i + 1)) o = used (l.take i) o + usedOf l[i] o := by
  rw [List.take_succ_eq_append_getElem h, used_append]
  simp [used]
theorem btw_iff {a b : Int} : btw a b = true ↔ 0 ≤ a ∧ a ≤ b := by simp [btw]
theorem validP_copies {p : Pr} (h : validP p = true) : 0 ≤ p.copies ∧ p.copies ≤ 1073741824 := by
  unfold validP at h
  simp only [Bool.and_eq_true, btw_iff] at h
  exact h.1.2
theorem validP_day {p : Pr} (h : validP p = true) : 0 ≤ p.day ∧ p.day ≤ 1048576 := by
  unfold validP at h
  simp only [Bool.and_eq_true, btw_iff] at h
  exact h.1.1
theorem validPs_all {l : List Pr} (h : validPs l = true) : l.length ≤ 256 ∧ ∀ p ∈ l, validP p = true := by
  unfold validPs at h
  simp only [Bool.and_eq_true, decide_eq_true_eq, List.all_eq_true] at h
  exact h.1
theorem used_bound {o : List UInt8} : ∀ (l : List Pr), (∀ p ∈ l, validP p = true) → 0 ≤ used l o ∧ used l o ≤ 1073741824 * (l.length : Int)
  | [], _ => by simp [used]
  | p :: r, h => by
    have h1 := used_bound (o := o) r fun q hq => h q (.tail _ hq)
    have h2 := validP_copies (h p (.head _))
    rw [used_cons]
    simp only [List.length_cons]
    unfold usedOf
    split <;> omega
theorem validT_get {l : List Tm} (h : validT l = true) {i : Nat} (hi : i < l.length) : btw l[i].u 1048576 = true ∧ btw l[i].c 1073741824 = true := by
  unfold validT at h
  simp only [Bool.and_eq_true, range_all] at h
  have := h.2 i hi
  unfold okT at this
  simp only [Bool.and_eq_true] at this
  rw [List.getD_eq_getElem?_getD, List.getElem?_eq_getElem hi] at this
  exact ⟨this.1.2, this.2⟩
theorem findT_valid {l : List Tm} (h : validT l = true) {o : List UInt8} {t : Tm} (hf : findT l o = some t) : (0 ≤ t.u ∧ t.u ≤ 1048576) ∧ 0 ≤ t.c ∧ t.c ≤ 1073741824 := by
  have hm := List.mem_of_find?_eq_some hf
  obtain ⟨i, hi, rfl⟩ := List.getElem_of_mem hm
  have := validT_get h hi
  exact ⟨btw_iff.1 this.1, btw_iff.1 this.2⟩
instance {l : List Tm} : NL (validT l) := ⟨trivial⟩
instance {l : List Pr} : NL (validPs l) := ⟨trivial⟩
end Go.Proofs.Ytbfcfmcebdfndaa
