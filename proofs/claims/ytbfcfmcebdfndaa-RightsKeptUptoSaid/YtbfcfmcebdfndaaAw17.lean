/- The walk over the shorter form ('xcode'). Conditions: none; definitions and plain lemmas. -/
import Derived.Test.YtbfcfmcebdfndaaAw16
namespace Go.Aw
open Go Go.RowKit
set_option linter.unusedVariables false
set_option linter.unusedSimpArgs false

/-- A loop whose body is this. -/
def XW (P : Program) (x : XC) (F : List D) (H : AH) (Q : AQ) : Prop := ∀ c, cmp c = x → codeOk c = true → AW P (.loop c) F H Q

def xcode (P : Program) : XC → List D → AH → AQ → Prop
  | .skip, F, H, Q => Q .normal F H
  | .reg l, F, H, Q => xops P false l F H (Q .normal)
  | .regD l, F, H, Q => xops P true l F H (Q .normal)
  | .seq x y, F, H, Q => xcode P x F H (nextQ (fun F' H' => xcode P y F' H' Q) Q)
  | .cond (.tmp t) x y, F, H, Q => match F.getD t .any with
    | .bool b => (b = true → xcode P x (F.set t (.bool true)) H Q) ∧ (b = false → xcode P y (F.set t (.bool false)) H Q)
    | _ => False
  | .cond (.const (.bool true)) x y, F, H, Q => xcode P x F H Q
  | .cond (.const (.bool false)) x y, F, H, Q => xcode P y F H Q
  | .block id c, F, H, Q => xcode P c F H (blockQ id Q)
  | .exit id, F, H, Q => Q (.exit id) F H
  | .ret, F, H, Q => Q .ret F H
  | .loop c, F, H, Q => XW P c F H Q
  | _, _, _, _ => False

theorem nextQ_congr {k k' : HK} {Q : AQ} (h : ∀ F H, k F H → k' F H) : ∀ e F H, nextQ k Q e F H → nextQ k' Q e F H := by
  intro e F H hh
  cases e <;> first | exact h _ _ hh | exact hh

theorem xcode_aw {P : Program} (hm : P.follows .mixedOrders = true) : ∀ (c : Code) (F : List D) (H : AH) (Q : AQ), codeOk c = true → xcode P (cmp c) F H Q → AW P c F H Q
  | .skip, F, H, Q, ho, h => acode_sound hm _ F H Q ho h
  | .label l, F, H, Q, ho, h => acode_sound hm _ F H Q ho h
  | .exit id, F, H, Q, ho, h => acode_sound hm _ F H Q ho h
  | .ret, F, H, Q, ho, h => acode_sound hm _ F H Q ho h
  | .loop c, F, H, Q, ho, h => h c rfl (by simpa [codeOk] using ho)
  | .region id ops false, F, H, Q, ho, h => acode_sound hm _ F H Q ho (by
      simp only [cmp, xcode, xops_aops] at h
      exact h)
  | .region id ops true, F, H, Q, ho, h => acode_sound hm _ F H Q ho (by
      simp only [cmp, xcode, xops_aopsD] at h
      exact h)
  | .seq x y, F, H, Q, ho, h => by
      simp only [codeOk, Bool.and_eq_true] at ho
      refine AW.and_then ((xcode_aw hm x F H _ ho.1 h).mono fun e F' H' hq => ?_)
      cases e with
      | normal => exact xcode_aw hm y F' H' Q ho.2 hq
      | _ => exact hq
  | .cond (.tmp t) x y, F, H, Q, ho, h => fun K w a hs hd => by
      simp only [codeOk, Bool.and_eq_true] at ho
      simp only [cmp, xcode] at h
      split at h
      · rename_i b hb
        have hv := (show rv F (.tmp t) = D.bool b by show (F.getD t D.any).view = _; rw [hb]; rfl) ▸ hs.rep ho.1.1
        cases b with
        | true => exact wp_cond_true hv.bool_inv (xcode_aw hm x F H Q ho.1.2 (by have := h.1 rfl; rwa [set_same hb (by simp)] at this) K w a hs hd)
        | false => exact wp_cond_false hv.bool_inv (xcode_aw hm y F H Q ho.2 (by have := h.2 rfl; rwa [set_same hb (by simp)] at this) K w a hs hd)
      · exact h.elim
  | .cond (.const v) x y, F, H, Q, ho, h => fun K w a hs hd => by
      simp only [codeOk, Bool.and_eq_true] at ho
      cases v <;> first | exact h.elim | skip
      rename_i b
      cases b with
      | true => exact wp_cond_true rfl (xcode_aw hm x F H Q ho.1.2 h K w a hs hd)
      | false => exact wp_cond_false rfl (xcode_aw hm y F H Q ho.2 h K w a hs hd)
  | .cond (.global g) x y, F, H, Q, ho, h => h.elim
  | .cond (.func g) x y, F, H, Q, ho, h => h.elim
  | .block id c, F, H, Q, ho, h => fun K w a hs hd => by
      simp only [codeOk] at ho
      refine wp_block (wp_mono (xcode_aw hm c F H _ ho h K w a hs hd) fun e a' w' ⟨F', H', K', g1, g2⟩ => ?_)
      cases e with
      | exit id' =>
        simp only [blockQ] at g1
        simp only [Exit.inBlock]
        split
        · rename_i e; rw [if_pos e] at g1; exact ⟨F', H', K', g1, g2⟩
        · rename_i e; rw [if_neg e] at g1; exact ⟨F', H', K', g1, g2⟩
      | _ => exact ⟨F', H', K', g1, g2⟩

def loopQ (I : List D → AH → Prop) (μ : List D → AH → Nat) (F : List D) (H : AH) (Q : AQ) : AQ := nextQ (fun F' H' => I F' (back H.length H') ∧ μ F' (back H.length H') < μ F H) Q

/-- A LOOP: what holds at each round's head, and a number that goes down. -/
theorem XW.loop {P : Program} (hm : P.follows .mixedOrders = true) {x : XC} {F : List D} {H : AH} {Q : AQ} (I : List D → AH → Prop) (μ : List D → AH → Nat) (h0 : I F H)
    (round : ∀ F H, I F H → xcode P x F H (loopQ I μ F H Q)) : XW P x F H Q := by
  intro c hc ho K0 w0 a0 hs0 hd0
  subst hc
  let R : Act → World → Nat → Prop := fun a w n => ∃ F H K, I F H ∧ μ F H = n ∧ FK K0 w0 K w ∧ St K w F H a.tmps ∧ a.defers = []
  refine wp_loop (fun a w => ∃ n, R a w n) (fun a w => open Classical in if h : ∃ n, R a w n then Classical.choose (least (R a w) h.choose h.choose_spec) else 0) ⟨_, F, H, K0, h0, rfl, .refl K0 w0, hs0, hd0⟩ ?_
  intro a w hR
  have hmin := Classical.choose_spec (least (R a w) hR.choose hR.choose_spec)
  simp only [dif_pos hR]
  generalize Classical.choose (least (R a w) hR.choose hR.choose_spec) = m at hmin
  obtain ⟨⟨F1, H1, K1, i1, i2, i3, i4, i5⟩, hleast⟩ := hmin
  refine wp_mono (xcode_aw hm c F1 H1 _ ho (round F1 H1 i1) K1 w a i4 i5) fun e a' w' ⟨F', H', K', g1, g2, g3, g4⟩ => ?_
  cases e with
  | normal =>
    obtain ⟨q1, q2⟩ := g1
    have hR' : R a' w' (μ F' (back H1.length H')) := ⟨F', _, K', q1, rfl, i3.trans g2, g3.sub (back_sub _ _), g4⟩
    have hex : ∃ n, R a' w' n := ⟨_, hR'⟩
    refine ⟨hex, ?_⟩
    simp only [dif_pos hex]
    have hmin' := Classical.choose_spec (least (R a' w') hex.choose hex.choose_spec)
    generalize Classical.choose (least (R a' w') hex.choose hex.choose_spec) = m' at hmin'
    have : m' ≤ μ F' (back H1.length H') := Nat.le_of_not_lt fun hlt => hmin'.2 _ hlt hR'
    omega
  | _ => exact ⟨F', H', K', g1, i3.trans g2, g3, g4⟩

/-- A FUNCTION's CONTRACT, FROM THE SHORTER FORM OF ITS BODY. -/
theorem xcall_body {P : Program} (hm : P.follows .mixedOrders = true) {f : FuncId} {fn : Func} {c : Code} {x : XC} (hf : P.funcs[f]? = some fn) (hb : fn.body = some c) (hk : bodyOk fn = true) (hcall : callOk P f = true) (hx : cmp c = x) {n : Nat} (hn : fn.ntmps = n) {rs : List ResultVar} (hr : fn.results.toList = rs)
    {args : List D} {H : AH} {R : D → AH → Prop} (h : facts args → xcode P x (args ++ List.replicate (n - args.length) (.tup [])) H (retQ P rs H.length R)) : ACall P f args H R := by
  subst hx hn hr
  refine ⟨hcall, fun K w vs h1 h2 h3 h4 h5 => calls_of_wp hf hb ?_⟩
  unfold bodyOk at hk
  simp only [hb, Bool.and_eq_true] at hk
  have hfacts : facts args := facts_of args vs.toList (by simpa using h4) (fun j d v hd hv => h5 j d v hd (by simpa using hv))
  have hst : St K w (args ++ List.replicate (fn.ntmps - args.length) (.tup [])) H (vs ++ Array.replicate (fn.ntmps - vs.size) undef) := by
    refine ⟨h1, h3, by simp [h4], fun i d v hd hv => ?_⟩
    rw [List.getElem?_append] at hd
    split at hd
    · rename_i hi
      rw [Array.getElem?_append_left (by rw [h4]; exact hi)] at hv
      exact (h5 i d v hd hv).viewO
    · rename_i hi
      rw [Array.getElem?_append_right (by rw [h4]; omega)] at hv
      have hd' := List.eq_of_mem_replicate (List.mem_of_getElem? hd)
      have hv' : v = undef := by
        have := Array.mem_of_getElem? hv
        simpa using (Array.mem_replicate.1 this).2
      rw [hd', hv']
      exact undef_rep.viewO
  have hw := xcode_aw hm c _ H _ hk.1 (h hfacts) K w { tmps := vs ++ Array.replicate (fn.ntmps - vs.size) undef, defers := [] } hst rfl
  refine wp_mono hw fun e a' w' ⟨F', H', K', g1, g2, g3, g4⟩ => ?_
  cases e with
  | normal =>
    obtain ⟨v, d, H'', K'', e1, e2, e3, e4, e5, e6⟩ := end_state (fn := fn) hk.2 g3 g1
    exact ⟨g4, v, e1, v, d, H'', K'', rfl, e2, g2.trans e3, e4, e5, e6⟩
  | ret =>
    obtain ⟨v, d, H'', K'', e1, e2, e3, e4, e5, e6⟩ := end_state (fn := fn) hk.2 g3 g1
    exact ⟨g4, v, e1, v, d, H'', K'', rfl, e2, g2.trans e3, e4, e5, e6⟩
  | exit id => exact g1.elim
  | goto l => exact g1.elim
  | panic ch => exact g1.elim
  | outgrown => exact g1.elim

end Go.Aw
