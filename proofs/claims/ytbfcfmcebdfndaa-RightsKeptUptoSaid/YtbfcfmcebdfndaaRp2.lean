/- The plain law of RightsDays. Conditions: those in each; no program in sight. -/
import Derived.Test.YtbfcfmcebdfndaaRp1
namespace Go.Proofs.Ytbfcfmcebdfndaa
open Go Go.Aw
set_option linter.unusedVariables false
set_option linter.unusedSimpArgs false

section
variable {a : List Tm} {b : List Pr} {s : List UInt8}
theorem allowed_eq (hv : validT a = true) (hb : validPs b = true) {d n : Int} (h0 : 0 ≤ d) (h1 : d ≤ 1048576) (h2 : 0 ≤ n) (h3 : n ≤ 1073741824) :
    allowedOf a b s d n = (match findT a s with | none => 0 | some t => if d < t.u then 16 else if leftOf a b s < n then 17 else 0) := by
  simp only [allowedOf, hv, hb, btw_of h0 h1, btw_of h2 h3, Bool.and_self, if_true]
  rfl
theorem free_eq (hv : validT a = true) (hb : validPs b = true) {n : Int} (h2 : 0 ≤ n) (h3 : n ≤ 1073741824) :
    freeOf a b s n = (match findT a s with | none => 0 | some t => if leftOf a b s < n then -1 else t.u) := by
  simp only [freeOf, hv, hb, btw_of h2 h3, Bool.and_self, if_true]
  rfl
theorem days_law (hv : validT a = true) (hb : validPs b = true) (hu : ∀ t ∈ a, 0 ≤ t.u ∧ t.u < 60) {d n x y : Int} (hd : 0 ≤ d ∧ d < 100) (hn : 0 ≤ n ∧ n < 40) (hx : 0 ≤ x ∧ x < 100) (hy : 0 ≤ y ∧ y < n + 1) :
    (allowedOf a b s d n = 0 ↔ (0 ≤ freeOf a b s n ∧ freeOf a b s n ≤ d)) ∧ allowedOf a b s d n ≠ 1 ∧ (allowedOf a b s d n = 0 → allowedOf a b s (d + x) n = 0 ∧ allowedOf a b s d (n - y) = 0) ∧
    (0 ≤ freeOf a b s n → allowedOf a b s (freeOf a b s n) n = 0) ∧ (1 ≤ freeOf a b s n → allowedOf a b s (freeOf a b s n - 1) n = 16) ∧ -1 ≤ freeOf a b s n ∧ freeOf a b s n < 60 := by
  rw [allowed_eq hv hb (s := s) (d := d) (n := n) (by omega) (by omega) (by omega) (by omega), allowed_eq hv hb (s := s) (d := d + x) (n := n) (by omega) (by omega) (by omega) (by omega), allowed_eq hv hb (s := s) (d := d) (n := n - y) (by omega) (by omega) (by omega) (by omega)]
  have hF := free_eq hv hb (s := s) (n := n) (by omega) (by omega)
  cases hq : findT a s with
  | none =>
    simp only [hq] at hF ⊢
    rw [hF]
    refine ⟨⟨fun _ => ⟨by omega, by omega⟩, fun _ => by first | rfl | trivial⟩, by first | omega | trivial | simp, fun _ => ⟨by first | rfl | trivial, by first | rfl | trivial⟩, fun _ => ?_, fun hh => absurd hh (by omega), by omega, by omega⟩
    rw [allowed_eq hv hb (s := s) (by omega) (by omega) (by omega) (by omega), hq]
  | some t =>
    simp only [hq] at hF ⊢
    have ht := hu t (findT_mem hq).1
    by_cases hl : leftOf a b s < n
    · rw [if_pos hl] at hF
      rw [hF]
      have e1 : ∀ d' : Int, ¬ (if d' < t.u then (16 : Int) else if leftOf a b s < n then 17 else 0) = 0 ∧ ¬ (if d' < t.u then (16 : Int) else if leftOf a b s < n then 17 else 0) = 1 := fun d' => by
        split
        · omega
        · first | omega | (rw [if_pos hl]; omega)
      refine ⟨⟨fun h => absurd h (e1 d).1, by omega⟩, (e1 d).2, fun h => absurd h (e1 d).1, by omega, by omega, by omega, by omega⟩
    · rw [if_neg hl] at hF
      rw [hF]
      have hl2 : ¬ leftOf a b s < n - y := by omega
      refine ⟨?_, ?_, fun h => ?_, fun _ => ?_, fun _ => ?_, by omega, by omega⟩
      · split
        · omega
        · first | omega | (rw [if_neg hl]; omega)
      · split
        · omega
        · first | omega | (rw [if_neg hl]; omega)
      · split at h
        · omega
        · rw [if_neg (by omega), if_neg hl, if_neg (by omega), if_neg hl2]; exact ⟨rfl, rfl⟩
      · rw [allowed_eq hv hb (s := s) (by omega) (by omega) (by omega) (by omega), hq]
        simp only
        rw [if_neg (by omega), if_neg hl]
      · rw [allowed_eq hv hb (s := s) (by omega) (by omega) (by omega) (by omega), hq]
        simp only
        rw [if_pos (by omega)]
end
end Go.Proofs.Ytbfcfmcebdfndaa
