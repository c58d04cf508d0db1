/- The plain law of RightsKept. Conditions: those in each; no program in sight. -/
import Derived.Test.YtbfcfmcebdfndaaRp2
import Derived.Test.YtbfcfmcebdfndaaRp3
namespace Go.Proofs.Ytbfcfmcebdfndaa
open Go Go.Aw
set_option linter.unusedVariables false
set_option linter.unusedSimpArgs false

theorem sorted5_nodup : sorted5.Nodup := by decide +kernel
theorem terms_sub {l : List Int} : ∀ i, i ≤ 5 → List.Sublist ((termsTo l i).map (·.o)) (sorted5.take i)
  | 0, _ => List.nil_sublist _
  | i + 1, hi => by
    have ih := terms_sub (l := l) i (by omega)
    have hl : i < sorted5.length := by show i < 5; omega
    rw [termsTo, List.map_append, List.take_succ_eq_append_getElem hl]
    refine List.Sublist.append ih ?_
    rcases termAt_cases (l := l) (i := i) with h | ⟨u, c, _, _, h⟩
    · rw [h]; exact List.nil_sublist _
    · rw [h, getD_in hl]; exact List.Sublist.refl _
theorem terms_nodup {l : List Int} : ((termsOf l).map (·.o)).Nodup := List.Nodup.sublist (terms_sub 5 (Nat.le_refl _)) (List.Nodup.sublist (List.take_sublist _ _) sorted5_nodup)
theorem findT_self : ∀ {a : List Tm} {t : Tm}, (a.map (·.o)).Nodup → t ∈ a → findT a t.o = some t
  | [], t, _, h => by simp at h
  | x :: r, t, hn, h => by
    rw [List.map_cons, List.nodup_cons] at hn
    unfold findT
    rw [List.find?_cons]
    rcases List.mem_cons.1 h with rfl | h
    · simp
    · have hne : x.o ≠ t.o := fun e => hn.1 (by rw [e]; exact List.mem_map_of_mem h)
      simp only [hne, decide_false]
      exact findT_self hn.2 h

structure Kept (a : List Tm) (done : List Pr) : Prop where
  v : validPs done = true
  nd : ∀ q ∈ done, q.owners.Nodup ∧ q.owners.length ≤ 5
  cp : ∀ q ∈ done, 0 ≤ q.copies ∧ q.copies < 9
  len : done.length ≤ 5
  us : ∀ t ∈ a, used done t.o ≤ t.c
  dy : ∀ t ∈ a, ∀ q ∈ done, t.o ∈ q.owners → t.u ≤ q.day
theorem kept_nil {a : List Tm} (h : ∀ t ∈ a, 0 ≤ t.c) : Kept a [] :=
  ⟨by decide +kernel, fun q h => by simp at h, fun q h => by simp at h, by simp, fun t ht => by simpa [used] using h t ht, fun t _ q hq => by simp at hq⟩
theorem used_kept {o : List UInt8} : ∀ {l : List Pr}, (∀ q ∈ l, 0 ≤ q.copies ∧ q.copies < 9) → 0 ≤ used l o ∧ used l o ≤ 9 * l.length
  | [], _ => by simp [used]
  | x :: r, h => by
    have ih := used_kept (o := o) (l := r) (fun q hq => h q (List.mem_cons_of_mem _ hq))
    have hx := h x (List.mem_cons_self ..)
    have e : used (x :: r) o = usedOf x o + used r o := by
      rw [show x :: r = [x] ++ r from rfl, used_app, used_one]
    have hu : 0 ≤ usedOf x o ∧ usedOf x o < 9 := by unfold usedOf; split <;> omega
    simp only [List.length_cons]
    omega
theorem firstErr_cases {f : List UInt8 → Int} {l : List (List UInt8)} : (firstErr f l = 0 ∧ ∀ o ∈ l, f o = 0) ∨ ∃ o ∈ l, firstErr f l = f o ∧ f o ≠ 0 := by
  unfold firstErr
  cases hq : l.find? fun o => decide (f o ≠ 0) with
  | none =>
    refine .inl ⟨rfl, fun o ho => ?_⟩
    rw [List.find?_eq_none] at hq
    simpa using hq o ho
  | some o => exact .inr ⟨o, List.mem_of_find?_eq_some hq, rfl, by simpa using List.find?_some hq⟩
theorem allowed_range {a : List Tm} {done : List Pr} {o : List UInt8} {d n : Int} (hv : validT a = true) (hb : validPs done = true) (h0 : 0 ≤ d) (h1 : d ≤ 1048576) (h2 : 0 ≤ n) (h3 : n ≤ 1073741824) : allowedOf a done o d n = 0 ∨ allowedOf a done o d n = 16 ∨ allowedOf a done o d n = 17 := by
  rw [allowed_eq hv hb h0 h1 h2 h3]
  split
  · exact .inl rfl
  · split
    · exact .inr (.inl rfl)
    · split
      · exact .inr (.inr rfl)
      · exact .inl rfl
theorem record_step {a : List Tm} {done : List Pr} {p : Pr} (hn : (a.map (·.o)).Nodup) (hv : validT a = true) (hk : Kept a done) (hl : done.length < 5) (hp : validP p = true) (hpn : p.owners.Nodup ∧ p.owners.length ≤ 5) (hpc : 0 ≤ p.copies ∧ p.copies < 9) (hd : ∀ q ∈ done, q.day ≤ p.day) :
    (recErr a done p = 0 ∨ recErr a done p = 16 ∨ recErr a done p = 17) ∧ (recErr a done p = 0 → Kept a (done ++ [p])) := by
  have hp' := hp
  simp only [validP, btw, Bool.and_eq_true, decide_eq_true_eq] at hp'
  have hbf : before done p = false := by
    unfold before
    by_cases h0 : 0 < done.length
    · have := hd _ (List.getElem_mem (show done.length - 1 < done.length by omega))
      rw [getD_in (by omega)]
      simp only [Bool.and_eq_false_iff, decide_eq_false_iff_not]
      exact .inr (by omega)
    · simp [h0]
  have e : recErr a done p = firstErr (fun o => allowedOf a done o p.day p.copies) p.owners := by
    unfold recErr
    rw [if_pos (by simp [hv, hk.v, hp, hbf]), if_neg (by omega)]
  have hr := fun o => allowed_range (a := a) (done := done) (o := o) hv hk.v hp'.1.1.1 hp'.1.1.2 hp'.1.2.1 hp'.1.2.2
  rw [e]
  rcases firstErr_cases (f := fun o => allowedOf a done o p.day p.copies) (l := p.owners) with ⟨h1, h2⟩ | ⟨o, ho, h1, h2⟩
  · refine ⟨.inl h1, fun _ => ?_⟩
    have key : ∀ t ∈ a, t.o ∈ p.owners → t.u ≤ p.day ∧ used done t.o + p.copies ≤ t.c := fun t ht hto => by
      have h3 := h2 _ hto
      rw [allowed_eq hv hk.v hp'.1.1.1 hp'.1.1.2 hp'.1.2.1 hp'.1.2.2, findT_self hn ht] at h3
      simp only at h3
      split at h3
      · omega
      · split at h3
        · omega
        · rename_i h4 h5
          have h6 := hk.us t ht
          have h7 : leftOf a done t.o = t.c - used done t.o := by
            unfold leftOf
            rw [if_pos (by simp [hv, hk.v]), findT_self hn ht]
            simp only
            omega
          omega
    obtain ⟨v1, v2, v3⟩ := valid_iff.1 hk.v
    refine ⟨valid_iff.2 ⟨by simp; omega, fun q hq => ?_, ?_⟩, fun q hq => ?_, fun q hq => ?_, by simp; omega, fun t ht => ?_, fun t ht q hq hto => ?_⟩
    · rcases List.mem_append.1 hq with hq | hq
      · exact v2 q hq
      · rw [List.mem_singleton.1 hq]; exact hp
    · rw [List.pairwise_append]
      refine ⟨v3, List.pairwise_singleton _ _, fun x hx y hy => ?_⟩
      rw [List.mem_singleton.1 hy]
      exact hd x hx
    · rcases List.mem_append.1 hq with hq | hq
      · exact hk.nd q hq
      · rw [List.mem_singleton.1 hq]; exact hpn
    · rcases List.mem_append.1 hq with hq | hq
      · exact hk.cp q hq
      · rw [List.mem_singleton.1 hq]; exact hpc
    · rw [used_app, used_one]
      unfold usedOf
      split
      · rename_i hm
        exact (key t ht hm).2
      · have := hk.us t ht
        omega
    · rcases List.mem_append.1 hq with hq | hq
      · exact hk.dy t ht q hq hto
      · rw [List.mem_singleton.1 hq] at hto ⊢
        exact (key t ht hto).1
  · rw [h1]
    exact ⟨hr o, fun h => absurd h h2⟩
theorem left_kept {a : List Tm} {done : List Pr} {t : Tm} (hn : (a.map (·.o)).Nodup) (hv : validT a = true) (hk : Kept a done) (ht : t ∈ a) : leftOf a done t.o = t.c - used done t.o := by
  have h6 := hk.us t ht
  unfold leftOf
  rw [if_pos (by simp [hv, hk.v]), findT_self hn ht]
  simp only
  omega

/-! ### the copies, counted name by name -/
def partC (p : Pr) (o : List UInt8) (j : Nat) : Int := if o ∈ p.owners.take j then p.copies else 0
theorem partC_zero {p : Pr} {o : List UInt8} : partC p o 0 = 0 := by simp [partC]
theorem partC_full {p : Pr} {o : List UInt8} {j : Nat} (h : p.owners.length ≤ j) : partC p o j = usedOf p o := by
  unfold partC usedOf
  rw [List.take_of_length_le h]
theorem partC_eq {p : Pr} {o : List UInt8} {j : Nat} (hn : p.owners.Nodup) (hj : j < p.owners.length) (h : p.owners[j] = o) : partC p o (j + 1) = partC p o j + p.copies := by
  have hne : o ∉ p.owners.take j := fun hm => by
    obtain ⟨i, hi, he⟩ := List.getElem_of_mem hm
    have hi2 : i < j := by simp only [List.length_take] at hi; omega
    rw [List.getElem_take, ← h] at he
    rw [List.nodup_iff_pairwise_ne, List.pairwise_iff_getElem] at hn
    exact hn i j (by omega) hj hi2 he
  unfold partC
  rw [if_neg hne, if_pos (by rw [List.take_succ_eq_append_getElem hj]; simp [h])]
  omega
theorem partC_ne {p : Pr} {o : List UInt8} {j : Nat} (hj : j < p.owners.length) (h : ¬ p.owners[j] = o) : partC p o (j + 1) = partC p o j := by
  unfold partC
  rw [List.take_succ_eq_append_getElem hj]
  have : (o ∈ p.owners.take j ++ [p.owners[j]]) ↔ o ∈ p.owners.take j := by
    simp only [List.mem_append, List.mem_singleton]
    exact ⟨fun hh => hh.resolve_right (fun e => h e.symm), .inl⟩
  simp only [this]
theorem used_next {done : List Pr} {o : List UInt8} {k : Nat} (hk : k < done.length) : used (done.take (k + 1)) o = used (done.take k) o + usedOf done[k] o := by
  rw [List.take_succ_eq_append_getElem hk, used_app, used_one]
end Go.Proofs.Ytbfcfmcebdfndaa
