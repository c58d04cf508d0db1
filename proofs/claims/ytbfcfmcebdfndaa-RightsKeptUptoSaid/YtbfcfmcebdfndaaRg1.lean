/- What package rights computes on terms and prints, in plain words, and contracts of its first functions. Conditions: those in each. -/
import Derived.Test.YtbfcfmcebdfndaaSl1
import Derived.Test.YtbfcfmcebdfndaaSl2
namespace Go.Proofs.Ytbfcfmcebdfndaa
open Go Go.Aw
set_option linter.unusedVariables false
set_option linter.unusedSimpArgs false

structure Tm where
  o : List UInt8
  u : Int
  c : Int
structure Pr where
  day : Int
  copies : Int
  owners : List (List UInt8)
instance : Inhabited Tm := ⟨⟨[], 0, 0⟩⟩
instance : Inhabited Pr := ⟨⟨0, 0, []⟩⟩
def Tm.d (t : Tm) : List D := [.str t.o, .int .i64 t.u, .int .i64 t.c]
def Pr.d (p : Pr) : List D := [.int .i64 p.day, .int .i64 p.copies, .slc (strs p.owners)]
def tms (l : List Tm) : List (List D) := l.map Tm.d
def prs (l : List Pr) : List (List D) := l.map Pr.d
theorem tms_len {l : List Tm} : (tms l).length = l.length := by simp [tms]
theorem prs_len {l : List Pr} : (prs l).length = l.length := by simp [prs]
theorem tms_get {l : List Tm} {i : Nat} (h : i < l.length) : (tms l).getD i [] = l[i].d := by simp [tms, h]
theorem prs_get {l : List Pr} {i : Nat} (h : i < l.length) : (prs l).getD i [] = l[i].d := by simp [prs, h]
theorem tms_3 {l : List Tm} : ∀ x ∈ tms l, x.length = 3 := by
  intro x hx
  obtain ⟨t, _, rfl⟩ := List.mem_map.1 hx
  rfl
theorem prs_3 {l : List Pr} : ∀ x ∈ prs l, x.length = 3 := by
  intro x hx
  obtain ⟨t, _, rfl⟩ := List.mem_map.1 hx
  rfl
theorem strs_1 {l : List (List UInt8)} : ∀ x ∈ strs l, x.length = 1 := by
  intro x hx
  obtain ⟨t, _, rfl⟩ := List.mem_map.1 hx
  rfl

def nameOk (s : List UInt8) : Bool := decide ((1 : Int) ≤ s.length) && decide ((s.length : Int) ≤ 16)
def btw (n m : Int) : Bool := decide (0 ≤ n) && decide (n ≤ m)
instance {s : List UInt8} : NL (nameOk s) := ⟨trivial⟩
instance {a b : Int} : NL (btw a b) := ⟨trivial⟩
def prevO (f : Nat → List UInt8) : Nat → List UInt8
  | 0 => []
  | i + 1 => f i
/-- A name is greater than the one before it. -/
def okN (last s : List UInt8) : Bool := Op.bytesLess last s && nameOk s
def okT (last : List UInt8) (t : Tm) : Bool := okN last t.o && btw t.u 1048576 && btw t.c 1073741824
def tO (l : List Tm) (i : Nat) : List UInt8 := (l.getD i default).o
def sO (l : List (List UInt8)) (i : Nat) : List UInt8 := l.getD i []
def rise (l : List (List UInt8)) : Bool := (List.range l.length).all fun i => okN (prevO (sO l) i) (sO l i)
def validT (l : List Tm) : Bool := decide (l.length ≤ 64) && (List.range l.length).all fun i => okT (prevO (tO l) i) (l.getD i default)
def validP (p : Pr) : Bool := btw p.day 1048576 && btw p.copies 1073741824 && rise p.owners
def sortedP (l : List Pr) : Bool := (List.range (l.length - 1)).all fun i => decide ((l.getD i default).day ≤ (l.getD (i + 1) default).day)
def validPs (l : List Pr) : Bool := decide (l.length ≤ 256) && l.all validP && sortedP l

theorem range_all {n : Nat} {p : Nat → Bool} : (List.range n).all p = true ↔ ∀ i, i < n → p i = true := by simp [List.all_eq_true]
theorem range_not {n i : Nat} {p : Nat → Bool} (h : i < n) (hp : p i = false) : (List.range n).all p = false := by
  rw [← Bool.not_eq_true, range_all]
  intro hh
  rw [hh i h] at hp
  cases hp

/-- rights.name -/
theorem r_name {s : List UInt8} {H : AH} {R : D → AH → Prop} (h : R (.bool (nameOk s)) H) : ACall Try.prog 34 [.str s] H R := by
  refine b34 fun hf => ?_
  simp +contextual only [x34, ↓u34_s0, ↓XA, XB, XL, XM, cellsOf, okc, one1, resOne, resAll, eqCells, cellEq, fits, sameK, List.length_cons, List.length_nil, List.replicate_succ, List.replicate_zero, List.cons_append, List.nil_append, List.append_nil, List.set_cons_succ, List.set_cons_zero, List.getD_cons_succ, List.getD_cons_zero, List.map_cons, List.map_nil, List.getElem?_cons_succ, List.getElem?_cons_zero, List.toList_toArray, Option.map_some, Option.map_none, Option.isSome_some, Option.isSome_none, Nat.reduceSub, Nat.reduceAdd, Nat.reduceMul, Nat.reduceEqDiff, Nat.reduceLeDiff, Nat.reduceBEq, reduceCtorEq, List.drop_succ_cons, List.drop_zero, List.take_succ_cons, List.take_zero, List.drop_nil, List.take_nil, ne_eq, Option.getD_some, List.length_map, List.all_cons, List.all_nil, List.range_zero, List.range_succ, ite_true, ite_false, TYX]
  intro _
  unfold nameOk at h
  refine ⟨fun h1 => ?_, fun h1 => ?_⟩ <;> simpa [h1] using h
/-- rights.between -/
theorem r_between {a b : Int} {H : AH} {R : D → AH → Prop} (h : R (.bool (btw a b)) H) : ACall Try.prog 32 [.int .i64 a, .int .i64 b] H R := by
  refine b32 fun hf => ?_
  simp +contextual only [x32, ↓u32_s0, ↓XA, XB, XL, XM, cellsOf, okc, one1, resOne, resAll, eqCells, cellEq, fits, sameK, List.length_cons, List.length_nil, List.replicate_succ, List.replicate_zero, List.cons_append, List.nil_append, List.append_nil, List.set_cons_succ, List.set_cons_zero, List.getD_cons_succ, List.getD_cons_zero, List.map_cons, List.map_nil, List.getElem?_cons_succ, List.getElem?_cons_zero, List.toList_toArray, Option.map_some, Option.map_none, Option.isSome_some, Option.isSome_none, Nat.reduceSub, Nat.reduceAdd, Nat.reduceMul, Nat.reduceEqDiff, Nat.reduceLeDiff, Nat.reduceBEq, reduceCtorEq, List.drop_succ_cons, List.drop_zero, List.take_succ_cons, List.take_zero, List.drop_nil, List.take_nil, ne_eq, Option.getD_some, List.length_map, List.all_cons, List.all_nil, List.range_zero, List.range_succ, ite_true, ite_false, TYX]
  unfold btw at h
  refine ⟨fun h1 => ?_, fun h1 => ?_⟩ <;> simpa [h1] using h
/-- The function within rights.Valid. -/
theorem r_valid1 {t : Tm} {last : List UInt8} {b : Nat} {H : AH} {R : D → AH → Prop} (hb : getH H b = some (.cells [.str last])) (h : R (.bool (!okT last t)) (setH H b (.cells [.str t.o]))) : ACall Try.prog 33 [.agg t.d, .ptr b 0] H R := by
  refine b33 fun hf => ?_
  simp +contextual only [x33, Tm.d, hb, ↓u33_s0, ↓u33_s1, ↓XA, XB, XL, XM, cellsOf, okc, one1, resOne, resAll, eqCells, cellEq, fits, sameK, List.length_cons, List.length_nil, List.replicate_succ, List.replicate_zero, List.cons_append, List.nil_append, List.append_nil, List.set_cons_succ, List.set_cons_zero, List.getD_cons_succ, List.getD_cons_zero, List.map_cons, List.map_nil, List.getElem?_cons_succ, List.getElem?_cons_zero, List.toList_toArray, Option.map_some, Option.map_none, Option.isSome_some, Option.isSome_none, Nat.reduceSub, Nat.reduceAdd, Nat.reduceMul, Nat.reduceEqDiff, Nat.reduceLeDiff, Nat.reduceBEq, reduceCtorEq, List.drop_succ_cons, List.drop_zero, List.take_succ_cons, List.take_zero, List.drop_nil, List.take_nil, ne_eq, Option.getD_some, List.length_map, List.all_cons, List.all_nil, List.range_zero, List.range_succ, ite_true, ite_false, TYX]
  intro b1 h1 _ _
  refine ⟨fun e => by simpa [okT, okN, e] using h, fun e => r_name ?_⟩
  simp +contextual only [Tm.d, hb, h1, ↓u33_s0, ↓u33_s1, ↓XA, XB, XL, XM, cellsOf, okc, one1, resOne, resAll, eqCells, cellEq, fits, sameK, List.length_cons, List.length_nil, List.replicate_succ, List.replicate_zero, List.cons_append, List.nil_append, List.append_nil, List.set_cons_succ, List.set_cons_zero, List.getD_cons_succ, List.getD_cons_zero, List.map_cons, List.map_nil, List.getElem?_cons_succ, List.getElem?_cons_zero, List.toList_toArray, Option.map_some, Option.map_none, Option.isSome_some, Option.isSome_none, Nat.reduceSub, Nat.reduceAdd, Nat.reduceMul, Nat.reduceEqDiff, Nat.reduceLeDiff, Nat.reduceBEq, reduceCtorEq, List.drop_succ_cons, List.drop_zero, List.take_succ_cons, List.take_zero, List.drop_nil, List.take_nil, ne_eq, Option.getD_some, List.length_map, List.all_cons, List.all_nil, List.range_zero, List.range_succ, ite_true, ite_false, TYX]
  refine ⟨fun e2 => by simpa [okT, okN, e, e2] using h, fun e2 _ => r_between ?_⟩
  simp +contextual only [Tm.d, hb, h1, ↓u33_s0, ↓u33_s1, ↓XA, XB, XL, XM, cellsOf, okc, one1, resOne, resAll, eqCells, cellEq, fits, sameK, List.length_cons, List.length_nil, List.replicate_succ, List.replicate_zero, List.cons_append, List.nil_append, List.append_nil, List.set_cons_succ, List.set_cons_zero, List.getD_cons_succ, List.getD_cons_zero, List.map_cons, List.map_nil, List.getElem?_cons_succ, List.getElem?_cons_zero, List.toList_toArray, Option.map_some, Option.map_none, Option.isSome_some, Option.isSome_none, Nat.reduceSub, Nat.reduceAdd, Nat.reduceMul, Nat.reduceEqDiff, Nat.reduceLeDiff, Nat.reduceBEq, reduceCtorEq, List.drop_succ_cons, List.drop_zero, List.take_succ_cons, List.take_zero, List.drop_nil, List.take_nil, ne_eq, Option.getD_some, List.length_map, List.all_cons, List.all_nil, List.range_zero, List.range_succ, ite_true, ite_false, TYX]
  refine ⟨fun e3 => by simpa [okT, okN, e, e2, e3] using h, fun e3 _ => r_between ?_⟩
  simp +contextual only [Tm.d, hb, h1, ↓u33_s0, ↓u33_s1, ↓XA, XB, XL, XM, cellsOf, okc, one1, resOne, resAll, eqCells, cellEq, fits, sameK, List.length_cons, List.length_nil, List.replicate_succ, List.replicate_zero, List.cons_append, List.nil_append, List.append_nil, List.set_cons_succ, List.set_cons_zero, List.getD_cons_succ, List.getD_cons_zero, List.map_cons, List.map_nil, List.getElem?_cons_succ, List.getElem?_cons_zero, List.toList_toArray, Option.map_some, Option.map_none, Option.isSome_some, Option.isSome_none, Nat.reduceSub, Nat.reduceAdd, Nat.reduceMul, Nat.reduceEqDiff, Nat.reduceLeDiff, Nat.reduceBEq, reduceCtorEq, List.drop_succ_cons, List.drop_zero, List.take_succ_cons, List.take_zero, List.drop_nil, List.take_nil, ne_eq, Option.getD_some, List.length_map, List.all_cons, List.all_nil, List.range_zero, List.range_succ, ite_true, ite_false, TYX]
  simpa [okT, okN, e, e2, e3] using h
/-- rights.Valid -/
theorem r_valid {l : List Tm} {H : AH} {R : D → AH → Prop} (h : R (.bool (validT l)) H) : ACall Try.prog 17 [.slc (tms l)] H R := by
  refine b17 fun hf => ?_
  simp +contextual only [x17, tms_len, ↓u17_s0, ↓u17_s1, ↓XA, XB, XL, XM, cellsOf, okc, one1, resOne, resAll, eqCells, cellEq, fits, sameK, List.length_cons, List.length_nil, List.replicate_succ, List.replicate_zero, List.cons_append, List.nil_append, List.append_nil, List.set_cons_succ, List.set_cons_zero, List.getD_cons_succ, List.getD_cons_zero, List.map_cons, List.map_nil, List.getElem?_cons_succ, List.getElem?_cons_zero, List.toList_toArray, Option.map_some, Option.map_none, Option.isSome_some, Option.isSome_none, Nat.reduceSub, Nat.reduceAdd, Nat.reduceMul, Nat.reduceEqDiff, Nat.reduceLeDiff, Nat.reduceBEq, reduceCtorEq, List.drop_succ_cons, List.drop_zero, List.take_succ_cons, List.take_zero, List.drop_nil, List.take_nil, ne_eq, Option.getD_some, List.length_map, List.all_cons, List.all_nil, List.range_zero, List.range_succ, ite_true, ite_false, TYX]
  intro b hb _
  refine ⟨fun hle => ?_, fun hgt => ?_⟩
  · have ok : ∀ i, i < l.length → okT (prevO (tO l) i) (l.getD i default) = true ∨ okT (prevO (tO l) i) (l.getD i default) = false := fun i _ => by cases okT (prevO (tO l) i) (l.getD i default) <;> simp
    refine term_con (Hs := fun i => (b, .cells [.str (prevO (tO l) i)]) :: H) (p := fun i => !okT (prevO (tO l) i) (l.getD i default)) tms_3 (fun i => rfl) (fun i x hx hp R' hR' => ?_) (fun i hi hp hpi => ?_) (fun hp => ?_)
    · obtain ⟨hi, rfl⟩ := List.getElem?_eq_some_iff.1 hx
      rw [tms_len] at hi
      have e : (tms l)[i] = (l.getD i default).d := by simp [tms, hi]
      rw [e]
      refine r_valid1 (last := prevO (tO l) i) (by simp [getH]) ?_
      simpa [setH, prevO, tO] using hR'
    · simp +contextual only [↓u17_s0, ↓u17_s1, ↓XA, XB, XL, XM, cellsOf, okc, one1, resOne, resAll, eqCells, cellEq, fits, sameK, List.length_cons, List.length_nil, List.replicate_succ, List.replicate_zero, List.cons_append, List.nil_append, List.append_nil, List.set_cons_succ, List.set_cons_zero, List.getD_cons_succ, List.getD_cons_zero, List.map_cons, List.map_nil, List.getElem?_cons_succ, List.getElem?_cons_zero, List.toList_toArray, Option.map_some, Option.map_none, Option.isSome_some, Option.isSome_none, Nat.reduceSub, Nat.reduceAdd, Nat.reduceMul, Nat.reduceEqDiff, Nat.reduceLeDiff, Nat.reduceBEq, reduceCtorEq, List.drop_succ_cons, List.drop_zero, List.take_succ_cons, List.take_zero, List.drop_nil, List.take_nil, ne_eq, Option.getD_some, List.length_map, List.all_cons, List.all_nil, List.range_zero, List.range_succ, ite_true, ite_false, TYX]
      rw [tms_len] at hi
      simp only [Bool.not_eq_true'] at hpi
      have : validT l = false := by
        unfold validT
        rw [range_not hi hpi, Bool.and_false]
      rw [this] at h
      exact h
    · simp +contextual only [↓u17_s0, ↓u17_s1, ↓XA, XB, XL, XM, cellsOf, okc, one1, resOne, resAll, eqCells, cellEq, fits, sameK, List.length_cons, List.length_nil, List.replicate_succ, List.replicate_zero, List.cons_append, List.nil_append, List.append_nil, List.set_cons_succ, List.set_cons_zero, List.getD_cons_succ, List.getD_cons_zero, List.map_cons, List.map_nil, List.getElem?_cons_succ, List.getElem?_cons_zero, List.toList_toArray, Option.map_some, Option.map_none, Option.isSome_some, Option.isSome_none, Nat.reduceSub, Nat.reduceAdd, Nat.reduceMul, Nat.reduceEqDiff, Nat.reduceLeDiff, Nat.reduceBEq, reduceCtorEq, List.drop_succ_cons, List.drop_zero, List.take_succ_cons, List.take_zero, List.drop_nil, List.take_nil, ne_eq, Option.getD_some, List.length_map, List.all_cons, List.all_nil, List.range_zero, List.range_succ, ite_true, ite_false, TYX]
      have : validT l = true := by
        unfold validT
        rw [range_all.2 fun i hi => by simpa using hp i (by rw [tms_len]; exact hi)]
        simp
        omega
      rw [this] at h
      exact h
  · have : validT l = false := by
      unfold validT
      rw [decide_eq_false (by omega), Bool.false_and]
    rw [this] at h
    exact h
end Go.Proofs.Ytbfcfmcebdfndaa
