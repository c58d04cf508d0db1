/- The plain law of RightsOthers. Conditions: those in each; no program in sight. -/
import Derived.Test.YtbfcfmcebdfndaaRp1
namespace Go.Proofs.Ytbfcfmcebdfndaa
open Go Go.Aw
set_option linter.unusedVariables false
set_option linter.unusedSimpArgs false

def dayAt (b : List Pr) (k : Nat) : Int := if 0 < k then (b.getD (k - 1) default).day else 0
def othersOf (so : List (List UInt8)) (s : List UInt8) : List (List UInt8) := so.filter fun o => !decide (o = s)
def moreOf (b : List Pr) (k : Nat) (p : Pr) : List Pr := b.take k ++ [p] ++ b.drop k
theorem used_app {x y : List Pr} {o : List UInt8} : used (x ++ y) o = used x o + used y o := by
  unfold used
  rw [List.map_append, List.foldl_append, foldl_add (y.map _)]
theorem used_one {p : Pr} {o : List UInt8} : used [p] o = usedOf p o := by simp [used]
theorem used_more {b : List Pr} {k : Nat} {p : Pr} {o : List UInt8} (h : o ∉ p.owners) : used (moreOf b k p) o = used b o := by
  unfold moreOf
  rw [used_app, used_app, used_one]
  have h1 : usedOf p o = 0 := by simp [usedOf, h]
  have h2 : used b o = used (b.take k) o + used (b.drop k) o := by rw [← used_app, List.take_append_drop]
  omega
theorem more_valid {b : List Pr} {k : Nat} {p : Pr} (hb : validPs b = true) (hl : b.length ≤ 255) (hk : k ≤ b.length) (hd : p.day = dayAt b k) (hc : 0 ≤ p.copies ∧ p.copies ≤ 1073741824) (ho : rise p.owners = true) : validPs (moreOf b k p) = true := by
  obtain ⟨v1, v2, v3⟩ := valid_iff.1 hb
  have hdr : 0 ≤ dayAt b k ∧ dayAt b k ≤ 1048576 := by
    unfold dayAt
    split
    · rw [getD_in (show k - 1 < b.length by omega)]
      have := v2 _ (List.getElem_mem (show k - 1 < b.length by omega))
      simp only [validP, btw, Bool.and_eq_true, decide_eq_true_eq] at this
      exact this.1.1
    · omega
  have hp : validP p = true := by
    simp only [validP, hd, btw_of hdr.1 hdr.2, btw_of hc.1 hc.2, ho, Bool.and_self]
  have hb0 : ∀ q ∈ b, 0 ≤ q.day := fun q hq => by
    have := v2 q hq
    simp only [validP, btw, Bool.and_eq_true, decide_eq_true_eq] at this
    exact this.1.1.1
  refine valid_iff.2 ⟨?_, fun q hq => ?_, ?_⟩
  · simp only [moreOf, List.length_append, List.length_take, List.length_drop, List.length_singleton]
    omega
  · simp only [moreOf, List.mem_append, List.mem_singleton] at hq
    rcases hq with (hq | rfl) | hq
    · exact v2 q (List.mem_of_mem_take hq)
    · exact hp
    · exact v2 q (List.mem_of_mem_drop hq)
  · have hpw := v3
    rw [← List.take_append_drop k b, List.pairwise_append] at hpw
    obtain ⟨w1, w2, w3⟩ := hpw
    unfold moreOf
    rw [List.pairwise_append, List.pairwise_append]
    rw [List.pairwise_iff_getElem] at v3
    refine ⟨⟨w1, List.pairwise_singleton _ _, fun x hx y hy => ?_⟩, w2, fun x hx y hy => ?_⟩
    · simp only [List.mem_singleton] at hy
      subst hy
      obtain ⟨i, hi, rfl⟩ := List.getElem_of_mem hx
      have hi2 : i < k ∧ i < b.length := by simp only [List.length_take] at hi; omega
      rw [List.getElem_take, hd]
      unfold dayAt
      rw [if_pos (by omega), getD_in (by omega)]
      by_cases he : i = k - 1
      · subst he; exact Int.le_refl _
      · exact v3 i (k - 1) (by omega) (by omega) (by omega)
    · simp only [List.mem_append, List.mem_singleton] at hx
      rcases hx with hx | rfl
      · exact w3 x hx y hy
      · rw [hd]
        unfold dayAt
        split
        · rename_i h0
          rw [getD_in (by omega)]
          obtain ⟨i, hi, rfl⟩ := List.getElem_of_mem hy
          have hi2 : k + i < b.length := by simp only [List.length_drop] at hi; omega
          rw [List.getElem_drop]
          exact v3 (k - 1) (k + i) (by omega) (by omega) (by omega)
        · exact hb0 y (List.mem_of_mem_drop hy)
theorem left_more {a : List Tm} {b more : List Pr} {s : List UInt8} (hb : validPs b = true) (hm : validPs more = true) (hu : used more s = used b s) : leftOf a more s = leftOf a b s := by
  simp only [leftOf, hb, hm, hu]
theorem allowed_more {a : List Tm} {b more : List Pr} {s : List UInt8} {d n : Int} (hb : validPs b = true) (hm : validPs more = true) (hu : used more s = used b s) : allowedOf a more s d n = allowedOf a b s d n := by
  simp only [allowedOf, hb, hm, left_more hb hm hu]
theorem free_more {a : List Tm} {b more : List Pr} {s : List UInt8} {n : Int} (hb : validPs b = true) (hm : validPs more = true) (hu : used more s = used b s) : freeOf a more s n = freeOf a b s n := by
  simp only [freeOf, hb, hm, left_more hb hm hu]
theorem others_step {so : List (List UInt8)} {s : List UInt8} {i : Nat} (hi : i < so.length) : othersOf (so.take (i + 1)) s = if so[i] = s then othersOf (so.take i) s else othersOf (so.take i) s ++ [so[i]] := by
  unfold othersOf
  rw [List.take_succ_eq_append_getElem hi, List.filter_append]
  by_cases h : so[i] = s
  · rw [if_pos h]; simp [h]
  · rw [if_neg h]; simp [h]
end Go.Proofs.Ytbfcfmcebdfndaa
