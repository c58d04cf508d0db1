/- Plain facts on prints: what is valid, and that the reference's Done makes valid prints. Conditions: none; no program in sight. -/
import Derived.Test.YtbfcfmcebdfndaaRh7
import Derived.Test.YtbfcfmcebdfndaaRg6
namespace Go.Proofs.Ytbfcfmcebdfndaa
open Go Go.Aw
set_option linter.unusedVariables false
set_option linter.unusedSimpArgs false

theorem getD_in {α : Type} {l : List α} {i : Nat} {d : α} (h : i < l.length) : l.getD i d = l[i] := by simp [h]
def own5 (b0 b1 b2 b3 b4 : Bool) : List (List UInt8) :=
  let o1 := if b0 then insR (ownerOf ((0 : Nat) : Int)) false [] else []
  let o2 := if b1 then insR (ownerOf ((1 : Nat) : Int)) false o1 else o1
  let o3 := if b2 then insR (ownerOf ((2 : Nat) : Int)) false o2 else o2
  let o4 := if b3 then insR (ownerOf ((3 : Nat) : Int)) false o3 else o3
  if b4 then insR (ownerOf ((4 : Nat) : Int)) false o4 else o4
theorem owners5 {n : Int} : ownersOf n = own5 (bitOf n 0) (bitOf n 1) (bitOf n 2) (bitOf n 3) (bitOf n 4) := rfl
theorem own5_rise : ∀ b0 b1 b2 b3 b4, rise (own5 b0 b1 b2 b3 b4) = true := by decide +kernel
theorem own5_nodup : ∀ b0 b1 b2 b3 b4, (own5 b0 b1 b2 b3 b4).Nodup := by decide +kernel
theorem own5_len : ∀ b0 b1 b2 b3 b4, (own5 b0 b1 b2 b3 b4).length ≤ 5 := by decide +kernel
theorem own5_filter : ∀ b0 b1 b2 b3 b4, ∀ s ∈ five, rise ((own5 b0 b1 b2 b3 b4).filter fun o => !decide (o = s)) = true := by decide +kernel
theorem owners_rise {n : Int} : rise (ownersOf n) = true := by rw [owners5]; exact own5_rise _ _ _ _ _
theorem owners_nodup {n : Int} : (ownersOf n).Nodup := by rw [owners5]; exact own5_nodup _ _ _ _ _
theorem owners_len {n : Int} : (ownersOf n).length ≤ 5 := by rw [owners5]; exact own5_len _ _ _ _ _
theorem owner_mem {n : Int} : ownerOf n ∈ five := by
  have h := around_range (n := n) (most := 5) (by omega)
  unfold ownerOf
  have : (around n 5).toNat < five.length := by show (around n 5).toNat < 5; omega
  rw [getD_in this]
  exact List.getElem_mem _
theorem owners_filter {n m : Int} : rise ((ownersOf n).filter fun o => !decide (o = ownerOf m)) = true := by rw [owners5]; exact own5_filter _ _ _ _ _ _ owner_mem

/-! ### the days do not fall -/
theorem sorted_iff {l : List Pr} : sortedP l = true ↔ l.Pairwise fun a b => a.day ≤ b.day := by
  unfold sortedP
  rw [range_all, List.pairwise_iff_getElem]
  constructor
  · intro h
    have key : ∀ d i (hj : i + d < l.length), (l[i]'(by omega)).day ≤ l[i + d].day := by
      intro d
      induction d with
      | zero => intro i hj; exact Int.le_refl _
      | succ d ih =>
        intro i hj
        have h1 := ih i (by omega)
        have h2 := h (i + d) (by omega)
        simp only [decide_eq_true_eq] at h2
        rw [getD_in (by omega), getD_in (by omega)] at h2
        exact Int.le_trans h1 h2
    intro i j hi hj hij
    have := key (j - i) i (by omega)
    simpa [show i + (j - i) = j by omega] using this
  · intro h i hi
    simp only [decide_eq_true_eq]
    rw [getD_in (by omega), getD_in (by omega)]
    exact h i (i + 1) (by omega) (by omega) (by omega)
theorem valid_iff {l : List Pr} : validPs l = true ↔ l.length ≤ 256 ∧ (∀ p ∈ l, validP p = true) ∧ l.Pairwise fun a b => a.day ≤ b.day := by
  rw [← sorted_iff]
  simp [validPs, List.all_eq_true, and_assoc]
theorem donePr_valid {m : List Int} {k : Nat} {day : Int} (h0 : 0 ≤ day) (h1 : day ≤ 1048576) : validP (donePr m k day) = true := by
  have h := around_range (n := at0 m (3 * k + 1)) (most := 9) (by omega)
  simp only [validP, donePr, owners_rise, btw_of h0 h1, btw_of h.1 (show around (at0 m (3 * k + 1)) 9 ≤ 1073741824 by omega), Bool.and_self]
theorem doneTo_inv {m : List Int} : ∀ k, k ≤ 5 → (∀ p ∈ (doneTo m k).2, validP p = true ∧ p.day ≤ (doneTo m k).1 ∧ p.copies < 9 ∧ ∃ n, p.owners = ownersOf n) ∧ (doneTo m k).2.Pairwise fun a b => a.day ≤ b.day
  | 0, _ => ⟨fun p hp => by simp [doneTo] at hp, List.Pairwise.nil⟩
  | k + 1, hk => by
    obtain ⟨h1, h2⟩ := doneTo_inv (m := m) k (by omega)
    have hd := doneTo_day (m := m) k
    have ha := around_range (n := at0 m (3 * k)) (most := 30) (by omega)
    have hc := around_range (n := at0 m (3 * k + 1)) (most := 9) (by omega)
    rw [doneTo]
    split
    · refine ⟨fun p hp => ?_, ?_⟩
      · simp only [List.mem_append, List.mem_singleton] at hp
        rcases hp with hp | rfl
        · obtain ⟨e1, e2, e3, e4⟩ := h1 p hp
          exact ⟨e1, by simp only; omega, e3, e4⟩
        · exact ⟨donePr_valid (by omega) (by omega), Int.le_refl _, hc.2, _, rfl⟩
      · simp only
        rw [List.pairwise_append]
        refine ⟨h2, List.pairwise_singleton _ _, fun a ha' b hb => ?_⟩
        simp only [List.mem_singleton] at hb
        subst hb
        have := (h1 a ha').2.1
        simp only [donePr]
        omega
    · exact ⟨h1, h2⟩
theorem doneOf_valid {m : List Int} : validPs (doneOf m) = true := by
  obtain ⟨h1, h2⟩ := doneTo_inv (m := m) 5 (by omega)
  exact valid_iff.2 ⟨Nat.le_trans (doneTo_len 5) (by omega), fun p hp => (h1 p hp).1, h2⟩
/-- What every term of the reference's Terms is like. -/
theorem termsOf_mem {l : List Int} {t : Tm} (h : t ∈ termsOf l) : (0 ≤ t.u ∧ t.u < 60) ∧ 0 ≤ t.c ∧ t.c < 30 := by
  have key : ∀ i, ∀ t ∈ termsTo l i, (0 ≤ t.u ∧ t.u < 60) ∧ 0 ≤ t.c ∧ t.c < 30 := by
    intro i
    induction i with
    | zero => intro t ht; simp [termsTo] at ht
    | succ i ih =>
      intro t ht
      rw [termsTo, List.mem_append] at ht
      rcases ht with ht | ht
      · exact ih t ht
      · rcases termAt_cases (l := l) (i := i) with h | ⟨u, c, hu, hc, h⟩
        · rw [h] at ht; simp at ht
        · rw [h] at ht
          simp only [List.mem_singleton] at ht
          subst ht
          exact ⟨hu, hc⟩
  exact key 5 t h
theorem findT_mem {l : List Tm} {o : List UInt8} {t : Tm} (h : findT l o = some t) : t ∈ l ∧ t.o = o := by
  unfold findT at h
  exact ⟨List.mem_of_find?_eq_some h, by simpa using List.find?_some h⟩
end Go.Proofs.Ytbfcfmcebdfndaa
