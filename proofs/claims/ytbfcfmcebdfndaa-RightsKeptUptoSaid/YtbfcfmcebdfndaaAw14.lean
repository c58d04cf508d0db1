/- Code at the abstract state ('acode'), loops, and a function's body. Conditions: those that stand in 'acode'. -/
import Derived.Test.YtbfcfmcebdfndaaAw13
namespace Go.Aw
open Go Go.RowKit
set_option linter.unusedVariables false
set_option linter.unusedSimpArgs false

abbrev AQ := Exit → List D → AH → Prop
/-- The code, run from a state like this one, ends as Q says. -/
def AW (P : Program) (c : Code) (F : List D) (H : AH) (Q : AQ) : Prop :=
  ∀ (K : Nat → BK) (w : World) (a : Act), St K w F H a.tmps → a.defers = [] →
    c.wp P (fun e a' w' => ∃ F' H' K', Q e F' H' ∧ FK K w K' w' ∧ St K' w' F' H' a'.tmps ∧ a'.defers = []) a w

def nextQ (k : List D → AH → Prop) (Q : AQ) : AQ
  | .normal => k
  | e => Q e
def blockQ (id : Nat) (Q : AQ) : AQ
  | .exit id' => if id' = id then Q .normal else Q (.exit id')
  | e => Q e

def acode (P : Program) : Code → List D → AH → AQ → Prop
  | .skip, F, H, Q => Q .normal F H
  | .region _ ops false, F, H, Q => aops P ops.toList ops.toList F H fun F' H' => Q .normal F' H'
  | .region _ ops true, F, H, Q => aopsD P ops.toList ops.toList F H fun F' => Q .normal F' H
  | .seq x y, F, H, Q => acode P x F H (nextQ (fun F' H' => acode P y F' H' Q) Q)
  | .cond c x y, F, H, Q => match rv F c with
    | .bool b => (b = true → acode P x F H Q) ∧ (b = false → acode P y F H Q)
    | _ => False
  | .block id c, F, H, Q => acode P c F H (blockQ id Q)
  | .exit id, F, H, Q => Q (.exit id) F H
  | .ret, F, H, Q => Q .ret F H
  | .label _, F, H, Q => Q .normal F H
  | .loop c, F, H, Q => AW P (.loop c) F H Q
  | _, _, _, _ => False

def codeOk : Code → Bool
  | .region _ ops false => ops.all opOk
  | .region _ ops true => ops.all opOk && lexT .any ops ops.size 0 (Array.replicate ops.size false)
  | .seq x y => codeOk x && codeOk y
  | .cond c x y => opndOk c && codeOk x && codeOk y
  | .block _ c => codeOk c
  | .loop c => codeOk c
  | _ => true

theorem AW.mono {P : Program} {c : Code} {F : List D} {H : AH} {Q Q' : AQ} (h : AW P c F H Q) (hq : ∀ e F H, Q e F H → Q' e F H) : AW P c F H Q' :=
  fun K w a hs hd => wp_mono (h K w a hs hd) fun e a' w' ⟨F', H', K', g1, g2⟩ => ⟨F', H', K', hq _ _ _ g1, g2⟩

theorem AW.and_then {P : Program} {x y : Code} {F : List D} {H : AH} {Q : AQ} (h : AW P x F H (nextQ (fun F' H' => AW P y F' H' Q) Q)) : AW P (.seq x y) F H Q := by
  intro K w a hs hd
  refine wp_seq (wp_mono (h K w a hs hd) fun e a' w' ⟨F', H', K', g1, g2, g3, g4⟩ => ?_)
  cases e with
  | normal =>
    refine wp_mono (g1 K' w' a' g3 g4) fun e' a'' w'' ⟨F'', H'', K'', q1, q2, q3, q4⟩ => ⟨F'', H'', K'', q1, g2.trans q2, q3, q4⟩
  | _ => exact ⟨F', H', K', g1, g2, g3, g4⟩

theorem acode_sound {P : Program} (hm : P.follows .mixedOrders = true) : ∀ (c : Code) (F : List D) (H : AH) (Q : AQ), codeOk c = true → acode P c F H Q → AW P c F H Q
  | .skip, F, H, Q, _, h => fun K w a hs hd => wp_skip ⟨F, H, K, h, .refl K w, hs, hd⟩
  | .label l, F, H, Q, _, h => fun K w a hs hd => wp_label ⟨F, H, K, h, .refl K w, hs, hd⟩
  | .exit id, F, H, Q, _, h => fun K w a hs hd => wp_exit ⟨F, H, K, h, .refl K w, hs, hd⟩
  | .ret, F, H, Q, _, h => fun K w a hs hd => wp_ret ⟨F, H, K, h, .refl K w, hs, hd⟩
  | .loop c, F, H, Q, _, h => h
  | .region id ops false, F, H, Q, hok, h => fun K w a hs hd => by
      simp only [codeOk] at hok
      refine wp_region_list (aops_sound (ops := ops) (k := fun F' H' => Q .normal F' H') (w := w) (a := a) (K := K) (fun a' w' ⟨F', H', K', g1, g2, g3, g4⟩ => ⟨F', H', K', g1, g2, g3, g4.trans hd⟩) ops.toList F H K w a (fun o ho => (Array.all_eq_true'.1 hok) o (by simpa using ho)) hs (.refl K w) rfl h)
  | .region id ops true, F, H, Q, hok, h => fun K w a hs hd => by
      simp only [codeOk, Bool.and_eq_true] at hok
      refine region_any (Q := fun F' => Q .normal F' H) hm hok.2 (fun o ho => (Array.all_eq_true'.1 hok.1) o (by simpa using ho)) hs (fun a' w' ⟨F', H', K', ⟨g1, g1'⟩, g2, g3, g4⟩ => ⟨F', H', K', by rw [g1']; exact g1, g2, g3, g4.trans hd⟩) h
  | .seq x y, F, H, Q, hok, h => by
      simp only [codeOk, Bool.and_eq_true] at hok
      refine AW.and_then ((acode_sound hm x F H _ hok.1 h).mono fun e F' H' hq => ?_)
      cases e with
      | normal => exact acode_sound hm y F' H' Q hok.2 hq
      | _ => exact hq
  | .cond c x y, F, H, Q, hok, h => fun K w a hs hd => by
      simp only [codeOk, Bool.and_eq_true] at hok
      simp only [acode] at h
      split at h
      · rename_i b hb
        have hv := (hb ▸ hs.rep hok.1.1).bool_inv
        cases b with
        | true => exact wp_cond_true hv (acode_sound hm x F H Q hok.1.2 (h.1 rfl) K w a hs hd)
        | false => exact wp_cond_false hv (acode_sound hm y F H Q hok.2 (h.2 rfl) K w a hs hd)
      · exact h.elim
  | .block id c, F, H, Q, hok, h => fun K w a hs hd => by
      simp only [codeOk] at hok
      refine wp_block (wp_mono (acode_sound hm c F H _ hok h K w a hs hd) fun e a' w' ⟨F', H', K', g1, g2⟩ => ?_)
      cases e with
      | exit id' =>
        simp only [blockQ] at g1
        simp only [Exit.inBlock]
        split
        · rename_i e; rw [if_pos e] at g1; exact ⟨F', H', K', g1, g2⟩
        · rename_i e; rw [if_neg e] at g1; exact ⟨F', H', K', g1, g2⟩
      | _ => exact ⟨F', H', K', g1, g2⟩

/-! ### loops -/
theorem least (R : Nat → Prop) (n : Nat) (h : R n) : ∃ m, R m ∧ ∀ k, k < m → ¬ R k := by
  induction n using Nat.strongRecOn with
  | _ n ih =>
    by_cases hh : ∃ k, k < n ∧ R k
    · obtain ⟨k, hk, hr⟩ := hh
      exact ih k hk hr
    · exact ⟨n, h, fun k hk hr => hh ⟨k, hk, hr⟩⟩

/-- What of the heap lies below the n-th of its last variables. -/
def back (n : Nat) (H : AH) : AH := H.drop (H.length - n)
theorem back_self (H : AH) : back H.length H = H := by simp [back]
theorem back_cons {n : Nat} {x : Nat × AO} {H : AH} (h : n ≤ H.length) : back n (x :: H) = back n H := by
  unfold back
  rw [List.length_cons, show H.length + 1 - n = (H.length - n) + 1 by omega, List.drop_succ_cons]
theorem setH_len {b : Nat} {o : AO} : ∀ {H : AH}, (setH H b o).length = H.length
  | [] => rfl
  | (c, x) :: r => by
    simp only [setH]
    split
    · rfl
    · simp only [List.length_cons, setH_len]
theorem back_set (H : AH) (b : Nat) (o : AO) : back H.length (setH H b o) = setH H b o := by
  unfold back
  rw [setH_len]
  simp

theorem St.sub {K : Nat → BK} {w : World} {F : List D} {H H' : AH} {t : Array Value} (h : St K w F H t) (hs : H'.Sublist H) : St K w F H' t :=
  ⟨h.krel, ⟨(hs.map (·.1)).nodup h.hrel.nd, fun b o hm => h.hrel.ok b o (hs.subset hm)⟩, h.len, h.slot⟩
theorem back_sub (n : Nat) (H : AH) : (back n H).Sublist H := List.drop_sublist _ _

/-- A LOOP: what holds of frame and heap at each round's head, and a number that goes down. What a round has laid is let go at its end. -/
theorem AW.loop {P : Program} (hm : P.follows .mixedOrders = true) {c : Code} {F : List D} {H : AH} {Q : AQ} (hok : codeOk c = true) (I : List D → AH → Prop) (μ : List D → AH → Nat) (h0 : I F H)
    (round : ∀ F H, I F H → acode P c F H (nextQ (fun F' H' => I F' (back H.length H') ∧ μ F' (back H.length H') < μ F H) Q)) : AW P (.loop c) F H Q := by
  intro K0 w0 a0 hs0 hd0
  let R : Act → World → Nat → Prop := fun a w n => ∃ F H K, I F H ∧ μ F H = n ∧ FK K0 w0 K w ∧ St K w F H a.tmps ∧ a.defers = []
  refine wp_loop (fun a w => ∃ n, R a w n) (fun a w => open Classical in if h : ∃ n, R a w n then Classical.choose (least (R a w) h.choose h.choose_spec) else 0) ⟨_, F, H, K0, h0, rfl, .refl K0 w0, hs0, hd0⟩ ?_
  intro a w hR
  have hmin := Classical.choose_spec (least (R a w) hR.choose hR.choose_spec)
  simp only [dif_pos hR]
  generalize Classical.choose (least (R a w) hR.choose hR.choose_spec) = m at hmin
  obtain ⟨⟨F1, H1, K1, i1, i2, i3, i4, i5⟩, hleast⟩ := hmin
  refine wp_mono (acode_sound hm c F1 H1 _ hok (round F1 H1 i1) K1 w a i4 i5) fun e a' w' ⟨F', H', K', g1, g2, g3, g4⟩ => ?_
  cases e with
  | normal =>
    obtain ⟨q1, q2⟩ := g1
    have hR' : R a' w' (μ F' (back H1.length H')) := ⟨F', _, K', q1, rfl, i3.trans g2, g3.sub (back_sub _ _), g4⟩
    have hex : ∃ n, R a' w' n := ⟨_, hR'⟩
    refine ⟨hex, ?_⟩
    simp only [dif_pos hex]
    have hmin' := Classical.choose_spec (least (R a' w') hex.choose hex.choose_spec)
    generalize Classical.choose (least (R a' w') hex.choose hex.choose_spec) = m' at hmin'
    have : m' ≤ μ F' (back H1.length H') := Nat.le_of_not_lt fun hlt => hmin'.2 _ hlt hR'
    omega
  | _ => exact ⟨F', H', K', g1, i3.trans g2, g3, g4⟩

/-! ### a function's body -/
def resOne (P : Program) (F : List D) (H : AH) : ResultVar → Option D
  | .tmp t => match F.getD t .any with
    | .tup _ => none
    | d => some d
  | .cell x t => match tyI P t, rv F (.tmp x) with
    | some (true, n), .ptr b off => match getH H b with
      | some (.cells cs) => if off + n ≤ cs.length then some (.agg (((cs.drop off).take n).map D.view1)) else none
      | none => none
    | some (false, _), .ptr b off => match getH H b with
      | some (.cells cs) => match cs[off]? with
        | some c => some c.view1
        | none => none
      | none => none
    | _, _ => none
def resAll (P : Program) (F : List D) (H : AH) : List ResultVar → Option (List D)
  | [] => some []
  | r :: rs => match resOne P F H r with
    | some d => match resAll P F H rs with
      | some ds => some (d :: ds)
      | none => none
    | none => none
def resD (P : Program) (rs : List ResultVar) (F : List D) (H : AH) (k : D → Prop) : Prop :=
  match rs with
  | [r] => match resOne P F H r with
    | some d => k d
    | none => False
  | rs => match resAll P F H rs with
    | some ds => k (.tup ds)
    | none => False
def retQ (P : Program) (rs : List ResultVar) (n : Nat) (R : D → AH → Prop) : AQ
  | .normal, F, H => resD P rs F H fun d => R d (back n H)
  | .ret, F, H => resD P rs F H fun d => R d (back n H)
  | _, _, _ => False
def facts : List D → Prop
  | [] => True
  | d :: r => fact d ∧ facts r
/-- No two results lie in one slot. -/
def resOk (rs : List ResultVar) : Bool := (rs.filterMap fun | .tmp t => some t | _ => none).Nodup

section
variable {P : Program} {K : Nat → BK} {w : World} {F : List D} {H : AH} {a : Act}

def resRun (tmps : Array Value) : ResultVar → Sem Value
  | .tmp t => pure (tmps.getD t undef)
  | .cell x t => do loadVar t (← asAddr (tmps.getD x undef))

theorem resOne_run (hs : St K w F H a.tmps) {r : ResultVar} {d : D} (h : resOne P F H r = some d) : ∃ v, (resRun a.tmps r).run P w = .ok v w ∧
    ((∃ t, r = .tmp t ∧ RepC K w (.slot t 0) d v) ∨ ((∀ t, r ≠ .tmp t) ∧ RepV K w d v)) := by
  cases r with
  | tmp t =>
    simp only [resOne] at h
    have hd : d = F.getD t .any ∧ ∀ ds, F.getD t .any ≠ .tup ds := by
      split at h
      · cases h
      · rename_i hn; simp only [Option.some.injEq] at h; exact ⟨h.symm, hn⟩
    refine ⟨a.tmps.getD t undef, rfl, .inl ⟨t, rfl, ?_⟩⟩
    rcases Nat.lt_or_ge t F.length with hlt | hge
    · have h1 : F[t]? = some d := by rw [hd.1]; simp [List.getD, List.getElem?_eq_getElem hlt]
      have h2 : a.tmps[t]? = some (a.tmps.getD t undef) := by
        have : t < a.tmps.size := by rw [hs.len]; exact hlt
        simp [Array.getElem?_eq_getElem this]
      have hr := hs.slot t d _ h1 h2
      have hnt := hd.2
      rw [← hd.1] at hnt
      cases d <;> first | exact hr | exact (hnt _ rfl).elim
    · rw [hd.1]
      simp only [List.getD, List.getElem?_eq_none hge]
      exact .any _
  | cell x t =>
    simp only [resOne] at h
    have hx := hs.rep (x := .tmp x) rfl
    split at h
    · rename_i n b off ht hp
      split at h
      · rename_i cs hg
        split at h
        · rename_i hle
          simp only [Option.some.injEq] at h
          subst h
          have hv := (hp ▸ hx).ptr_inv
          obtain ⟨_, c, T, hb, hcs, hr⟩ := hs.hrel.ok b _ (getH_mem hg)
          have hl := run_loadAgg (P := P) ht b off ((c.toList.drop off).take n) (by simp; omega) (fun j v hv' => by
            rw [cell_at hb]
            rw [List.getElem?_take] at hv'
            split at hv'
            · simpa using hv'
            · cases hv')
          refine ⟨.agg ((c.toList.drop off).take n).toArray, ?_, .inr ⟨fun t e => (by cases e), agg_of_list _ _ (by simp; omega) (fun j u hu => ?_) (fun j d u hd hu => ?_)⟩⟩
          · have he : a.tmps.getD x undef = .pointer (some ⟨b, off, none⟩) := hv
            simp only [resRun, he, asAddr, Sem.run_bind, Sem.run_pure, Result.andThen_ok]
            simpa [Instr.loadAt, Instr.sureAddr] using hl
          · rw [List.getElem?_take] at hu
            split at hu
            · rename_i hj
              obtain ⟨u', e1, e2, _⟩ := hr (off + j) _ (List.getElem?_eq_getElem (show off + j < cs.length by omega))
              simp only [List.getElem?_drop, Array.getElem?_toList, e1, Option.some.injEq] at hu
              exact hu ▸ e2
            · cases hu
          · rw [List.getElem?_take] at hu
            split at hu
            · rename_i hj
              rw [List.getElem?_map, List.getElem?_take, if_pos hj, List.getElem?_drop, Option.map_eq_some_iff] at hd
              obtain ⟨d', hd', rfl⟩ := hd
              obtain ⟨u', e1, e2, e3⟩ := hr (off + j) _ hd'
              simp only [List.getElem?_drop, Array.getElem?_toList, e1, Option.some.injEq] at hu
              exact hu ▸ e3.rep
            · cases hu
        · cases h
      · cases h
    · rename_i n b off ht hp
      split at h
      · rename_i cs hg
        split at h
        · rename_i c hc
          simp only [Option.some.injEq] at h
          subst h
          have hv := (hp ▸ hx).ptr_inv
          obtain ⟨_, c', T, hb, hcs, hr⟩ := hs.hrel.ok b _ (getH_mem hg)
          obtain ⟨u, e1, e2, e3⟩ := hr off _ hc
          have hl := run_loadOne (P := P) ht b off u (by rw [cell_at hb]; exact e1)
          refine ⟨u, ?_, .inr ⟨fun t e => (by cases e), e3.rep⟩⟩
          have he : a.tmps.getD x undef = .pointer (some ⟨b, off, none⟩) := hv
          simp only [resRun, he, asAddr, Sem.run_bind, Sem.run_pure, Result.andThen_ok]
          simpa [Instr.loadAt, Instr.sureAddr] using hl
        · cases h
      · cases h
    · cases h

theorem resAll_run (hs : St K w F H a.tmps) : ∀ (rs : List ResultVar) (ds : List D), resAll P F H rs = some ds → ∃ vs, (rs.mapM (resRun a.tmps)).run P w = .ok vs w ∧ vs.length = ds.length ∧ rs.length = ds.length ∧
    ∀ (j : Nat) (r : ResultVar) (d : D) (v : Value), rs[j]? = some r → ds[j]? = some d → vs[j]? = some v → ((∃ t, r = .tmp t ∧ RepC K w (.slot t 0) d v) ∨ ((∀ t, r ≠ .tmp t) ∧ RepV K w d v))
  | [], ds, h => by
    simp only [resAll, Option.some.injEq] at h
    subst h
    exact ⟨[], by simp, rfl, rfl, fun j r d v h => by simp at h⟩
  | r :: rs, ds, h => by
    simp only [resAll] at h
    split at h
    · rename_i d hd
      split at h
      · rename_i ds' hds
        simp only [Option.some.injEq] at h
        subst h
        obtain ⟨v, h1, h2⟩ := resOne_run hs hd
        obtain ⟨vs, g1, g2, g3, g4⟩ := resAll_run hs rs ds' hds
        refine ⟨v :: vs, by simp only [List.mapM_cons, Sem.run_bind, h1, Result.andThen_ok, g1, Sem.run_pure], by simp [g2], by simp [g3], fun j r' d' v' e1 e2 e3 => ?_⟩
        cases j with
        | zero =>
          simp only [List.getElem?_cons_zero, Option.some.injEq] at e1 e2 e3
          subst e1 e2 e3
          exact h2
        | succ j => exact g4 j r' d' v' e1 e2 e3
      · cases h
    · cases h
end
end Go.Aw
