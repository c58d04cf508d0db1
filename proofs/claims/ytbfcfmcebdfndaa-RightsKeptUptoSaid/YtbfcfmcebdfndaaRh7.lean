/- Plain facts on the reference's Terms, Owners and Done: what they make is valid. Conditions: none; no program in sight. -/
import Derived.Test.YtbfcfmcebdfndaaRh6
namespace Go.Proofs.Ytbfcfmcebdfndaa
open Go Go.Aw
set_option linter.unusedVariables false
set_option linter.unusedSimpArgs false

theorem ok5_0_0 : okN [] [97, 98, 98, 101, 121] = true := by decide
theorem ok5_0_1 : okN [] [99, 114, 111, 119, 110] = true := by decide
theorem ok5_1_1 : okN [97, 98, 98, 101, 121] [99, 114, 111, 119, 110] = true := by decide
theorem ok5_0_2 : okN [] [103, 117, 105, 108, 100] = true := by decide
theorem ok5_1_2 : okN [97, 98, 98, 101, 121] [103, 117, 105, 108, 100] = true := by decide
theorem ok5_2_2 : okN [99, 114, 111, 119, 110] [103, 117, 105, 108, 100] = true := by decide
theorem ok5_0_3 : okN [] [104, 101, 105, 114, 115] = true := by decide
theorem ok5_1_3 : okN [97, 98, 98, 101, 121] [104, 101, 105, 114, 115] = true := by decide
theorem ok5_2_3 : okN [99, 114, 111, 119, 110] [104, 101, 105, 114, 115] = true := by decide
theorem ok5_3_3 : okN [103, 117, 105, 108, 100] [104, 101, 105, 114, 115] = true := by decide
theorem ok5_0_4 : okN [] [112, 114, 101, 115, 115] = true := by decide
theorem ok5_1_4 : okN [97, 98, 98, 101, 121] [112, 114, 101, 115, 115] = true := by decide
theorem ok5_2_4 : okN [99, 114, 111, 119, 110] [112, 114, 101, 115, 115] = true := by decide
theorem ok5_3_4 : okN [103, 117, 105, 108, 100] [112, 114, 101, 115, 115] = true := by decide
theorem ok5_4_4 : okN [104, 101, 105, 114, 115] [112, 114, 101, 115, 115] = true := by decide
theorem btw_of {n m : Int} (h1 : 0 ≤ n) (h2 : n ≤ m) : btw n m = true := by simp [btw, h1, h2]
theorem okT_eq {last o : List UInt8} {u c : Int} (hu : btw u 1048576 = true) (hc : btw c 1073741824 = true) : okT last ⟨o, u, c⟩ = okN last o := by simp [okT, hu, hc]
theorem tmod_rng {n m : Int} (h0 : 0 ≤ n) (h : 0 < m) : 0 ≤ n.tmod m ∧ n.tmod m < m := by
  rw [Int.tmod_eq_emod_of_nonneg h0]
  exact ⟨Int.emod_nonneg _ (by omega), Int.emod_lt_of_pos _ h⟩
theorem termAt_cases {l : List Int} {i : Nat} : termAt l i = [] ∨ ∃ u c : Int, (0 ≤ u ∧ u < 60) ∧ (0 ≤ c ∧ c < 30) ∧ termAt l i = [⟨sorted5.getD i [], u, c⟩] := by
  have hx := atOf_range (l := l) (i := i) (most := 65536) (by omega)
  unfold termAt
  split
  · refine .inr ⟨_, _, ?_, ?_, rfl⟩
    · refine tmod_rng ?_ (by omega)
      rw [Int.tdiv_eq_ediv_of_nonneg hx.1]
      omega
    · refine tmod_rng ?_ (by omega)
      rw [Int.tdiv_eq_ediv_of_nonneg hx.1]
      omega
  · exact .inl rfl
theorem termsOf_valid {l : List Int} : validT (termsOf l) = true := by
  have e : termsOf l = ((((([] ++ termAt l 0) ++ termAt l 1) ++ termAt l 2) ++ termAt l 3) ++ termAt l 4) := rfl
  rw [e]
  have key : ∀ (t0 t1 t2 t3 t4 : List Tm), (t0 = [] ∨ ∃ u c : Int, (0 ≤ u ∧ u < 60) ∧ (0 ≤ c ∧ c < 30) ∧ t0 = [⟨sorted5.getD 0 [], u, c⟩]) → (t1 = [] ∨ ∃ u c : Int, (0 ≤ u ∧ u < 60) ∧ (0 ≤ c ∧ c < 30) ∧ t1 = [⟨sorted5.getD 1 [], u, c⟩]) → (t2 = [] ∨ ∃ u c : Int, (0 ≤ u ∧ u < 60) ∧ (0 ≤ c ∧ c < 30) ∧ t2 = [⟨sorted5.getD 2 [], u, c⟩]) → (t3 = [] ∨ ∃ u c : Int, (0 ≤ u ∧ u < 60) ∧ (0 ≤ c ∧ c < 30) ∧ t3 = [⟨sorted5.getD 3 [], u, c⟩]) → (t4 = [] ∨ ∃ u c : Int, (0 ≤ u ∧ u < 60) ∧ (0 ≤ c ∧ c < 30) ∧ t4 = [⟨sorted5.getD 4 [], u, c⟩]) → validT ((((([] ++ t0) ++ t1) ++ t2) ++ t3) ++ t4) = true := by
    intro t0 t1 t2 t3 t4 h0 h1 h2 h3 h4
    rcases h0 with rfl | ⟨u0, c0, hu0, hc0, rfl⟩ <;> rcases h1 with rfl | ⟨u1, c1, hu1, hc1, rfl⟩ <;> rcases h2 with rfl | ⟨u2, c2, hu2, hc2, rfl⟩ <;> rcases h3 with rfl | ⟨u3, c3, hu3, hc3, rfl⟩ <;> rcases h4 with rfl | ⟨u4, c4, hu4, hc4, rfl⟩
    all_goals
      simp only [validT, List.nil_append, List.append_nil, List.cons_append, List.length_cons, List.length_nil, List.range_succ, List.range_zero, List.all_append, List.all_cons, List.all_nil, prevO, tO, List.getD_cons_zero, List.getD_cons_succ, sorted5, Bool.and_true, Bool.true_and, decide_true, Nat.zero_add, Nat.reduceAdd, Nat.reduceLeDiff]
      repeat rw [okT_eq (btw_of (by omega) (by omega)) (btw_of (by omega) (by omega))]
      try simp only [ok5_0_0, ok5_0_1, ok5_1_1, ok5_0_2, ok5_1_2, ok5_2_2, ok5_0_3, ok5_1_3, ok5_2_3, ok5_3_3, ok5_0_4, ok5_1_4, ok5_2_4, ok5_3_4, ok5_4_4, Bool.and_true, Bool.true_and, Bool.and_self]
  exact key _ _ _ _ _ termAt_cases termAt_cases termAt_cases termAt_cases termAt_cases
end Go.Proofs.Ytbfcfmcebdfndaa
