/- Each operation runs as its abstract step says ('aop_sound'). Conditions: those that stand in 'aop'. -/
import Derived.Test.YtbfcfmcebdfndaaAw10
namespace Go.Aw
open Go Go.RowKit
set_option linter.unusedVariables false
set_option linter.unusedSimpArgs false

section
variable {P : Program} {ops : List Oper} {o : Oper} {F : List D} {H : AH} {k : List D → AH → Prop} {K : Nat → BK} {w : World} {a : Act} {Q : Exit → Act → World → Prop}

theorem run_store_agg {t : TypeId} {n b off : Nat} {ag : Bool} (ht : tyI P t = some (ag, n)) {v : Value} (hn : v.cells.size = n) {w' : World} (h : (storeCells ⟨b, off, none⟩ v.cells.toList).run P w = .ok () w') :
    (Instr.storeAt t (.pointer (some ⟨b, off, none⟩)) v).run P w = .ok () w' := by
  obtain ⟨h1, h2⟩ := tyI_spec ht
  simp [Instr.storeAt, Instr.sureAddr, storeVar, h2, hn, h]

theorem rep_one {d : D} {v : Value} {i : Nat} (h : RepO K w i d v) (h1 : one1 d = true) : v.oneCell' = true ∧ v.cells = #[v] := by
  cases d <;> simp [one1] at h1
  case own xs => rcases h with ⟨_, a, rfl⟩ | ⟨_, _, _, _, _, rfl, _⟩ <;> exact ⟨rfl, rfl⟩
  all_goals (cases h <;> exact ⟨rfl, rfl⟩)

theorem repO_C {i : Nat} {d : D} {v : Value} (h : RepO K w i d v) (h1 : one1 d = true) : RepC K w (.slot i 0) d v := by
  cases d <;> simp [one1] at h1 <;> exact h

theorem slot_of (hs : St K w F H a.tmps) {s : Nat} {d : D} (hev : ev F (.tmp s) = d) (hd : d ≠ .any) : F[s]? = some d ∧ a.tmps[s]? = some (a.eval (.tmp s)) := by
  have hlt : s < F.length := by
    rcases Nat.lt_or_ge s F.length with h' | h'
    · exact h'
    · simp [ev, List.getD, List.getElem?_eq_none h'] at hev
      exact (hd hev.symm).elim
  have hts : s < a.tmps.size := by rw [hs.len]; exact hlt
  refine ⟨?_, by simp [Act.eval, Array.getElem?_eq_getElem hts]⟩
  have : F[s]? = some (ev F (.tmp s)) := by simp [ev, List.getD, List.getElem?_eq_getElem hlt]
  rw [this, hev]

theorem stp_store (hs : St K w F H a.tmps) (hok : opOk o = true) {t : TypeId} {x y : Operand} (ho : o.op = .store t x y) (h : aop P ops o F H k) : o.wp P a w (OKd k K w a.defers) Q := by
  simp only [aop, ho] at h
  have hx : opndOk x = true ∧ opndOk y = true := by
    unfold opOk at hok
    simp only [ho, Op.operands, Bool.and_eq_true] at hok
    simpa using hok.1
  split at h
  · rename_i n b off ht hp
    split at h
    · rename_i cs hg
      obtain ⟨hc, hn, hfit, h⟩ := h
      have hv := (hp ▸ hs.rep hx.1).ptr_inv
      obtain ⟨c1, c2, c3⟩ := cells_rep (hs.rep hx.2) hc
      have hsz : (a.eval y).cells.size = n := by rw [c1, hn]
      obtain ⟨c', T, hrun, _, hfk, hk', hh', hkeep, _⟩ := set_box (P := P) (off := off) (cs' := cs.take off ++ (cellsOf (rv F y) ++ cs.drop (off + n))) (vs := (a.eval y).cells.toList) hs.krel hs.hrel hg (.refl K w) hs.krel (fun _ _ _ _ h => h)
        (by simp; omega) (fun v hm => by
          obtain ⟨j, hj, he⟩ := List.mem_iff_getElem.1 hm
          exact c2 j v (by rw [← he]; simp at hj ⊢)) (by simp; omega)
        (fun j d hd hj => by
          simp only [Array.length_toList, hsz] at hj
          rcases hj with hj | hj
          · rw [List.getElem?_append_left (by simp; omega), List.getElem?_take, if_pos hj] at hd; exact hd
          · have hl1 : (cs.take off).length = off := by simp; omega
            rw [List.getElem?_append_right (by rw [hl1]; omega), hl1, List.getElem?_append_right (by omega), List.getElem?_drop] at hd
            rw [← hd]; congr 1; omega)
        (fun j d u hd hu => by
          have hj : j < n := by rw [← hsz]; simpa using (List.getElem?_eq_some_iff.1 hu).1
          have hl1 : (cs.take off).length = off := by simp; omega
          rw [List.getElem?_append_right (by rw [hl1]; omega), hl1, show off + j - off = j by omega, List.getElem?_append_left (by omega)] at hd
          exact (c3 j d u hd (by simpa using hu)).repC (fun xs e => by subst e; exact (c3 j _ u hd (by simpa using hu)).not_own))
      have hst := run_store_agg (P := P) ht hsz hrun
      refine wp_of_skip (w' := w.setRow b c') ?_ ⟨_, _, K, h, hfk, hs.put (E := noE) (B := fun x => x = b) hkeep (fun _ _ h => h) hk' hh' o.dst (fun i _ => RepV.viewO (.tup [] #[] rfl (fun j d u hd => by simp at hd))), put_defers _ _⟩
      simp only [execOp, ho, hv, Sem.run_bind, hst, Result.andThen_ok]
      rfl
    · exact h.elim
  · rename_i n b off ht hp
    split at h
    · rename_i cs hg
      obtain ⟨rfl, hoff, h1, hdst, h⟩ := h
      have hv := (hp ▸ hs.rep hx.1).ptr_inv
      have main : ∃ K', FK K w K' w ∧ KRel K' w ∧ (∀ b' n c j, K b' = .tok n (.cell c j) → K' b' = .tok n (.cell c j)) ∧ RepC K' w (.cell b off) (ev F y) (a.eval y) ∧ (a.eval y).oneCell' = true ∧ (a.eval y).cells = #[a.eval y] ∧
          ∃ F', (∀ H', (match y with | .tmp s => k (F.set s (rv F y)) H' | _ => k F H') → k F' H') ∧ F'.length = F.length ∧ ∀ (i : Nat) (d : D) (v : Value), F'[i]? = some d → a.tmps[i]? = some v → RepO K' w i d v := by
        cases y with
        | tmp s =>
          obtain ⟨hF, hT⟩ := slot_of hs (s := s) rfl (fun e => by rw [e] at h1; simp [one1] at h1)
          have hr := hs.slot s _ _ hF hT
          obtain ⟨o1, o2⟩ := rep_one hr h1
          let φ := mvφ (.slot s 0) (.cell b off)
          have hcv := RepC.conv (o' := .cell b off) (relab_ext φ K w) (fun b' n hb' => by rw [relab_tok hb']; simp [φ, mvφ]) (repO_C hr h1)
          refine ⟨relab φ K, mv_fk (by simp) (by simp), relab_krel hs.krel, fun b' n c j hb' => by rw [relab_tok hb']; simp [φ, mvφ], hcv, o1, o2, F.set s (rv F (.tmp s)), fun H' h => h, by simp, fun i d v hd hv => ?_⟩
          rcases getElem?_set_some hd with ⟨rfl, rfl, _⟩ | ⟨hne, hd⟩
          · rw [hT] at hv
            obtain rfl := Option.some.inj hv
            exact (RepV.mono (relab_ext φ K w) hr.rep).viewO
          · exact mv_repO (fun j e => by injection e with e _; exact hne e) (hs.slot i d v hd hv)
        | const c =>
          have hr := constD_rep (K := K) (w := w) (o := .cell b off) hx.2
          have hr0 := constD_repO (K := K) (w := w) c hx.2 0
          obtain ⟨o1, o2⟩ := rep_one hr0 h1
          exact ⟨K, .refl K w, hs.krel, fun _ _ _ _ h => h, hr, o1, o2, F, fun H' h => h, rfl, hs.slot⟩
        | global g => exact ⟨K, .refl K w, hs.krel, fun _ _ _ _ h => h, .ptr g 0, rfl, rfl, F, fun H' h => h, rfl, hs.slot⟩
        | func f => exact ⟨K, .refl K w, hs.krel, fun _ _ _ _ h => h, hs.rep (x := .func f) rfl, rfl, rfl, F, fun H' h => h, rfl, hs.slot⟩
      obtain ⟨K', hfk0, hk0, hcell, hrc, ho1, ho2, F', hF', hlen', hslots⟩ := main
      obtain ⟨c', T, hrun, _, hfk, hk', hh', hkeep, _⟩ := set_box (P := P) (off := off) (cs' := cs.set off (ev F y)) (vs := [a.eval y]) hs.krel hs.hrel hg hfk0 hk0 hcell
        (by simp; omega) (fun v hm => by simp at hm; subst hm; exact ho1) (by simp)
        (fun j d hd hj => by
          rcases getElem?_set_some hd with ⟨rfl, _, _⟩ | ⟨_, hd⟩
          · simp only [List.length_cons, List.length_nil] at hj; omega
          · exact hd)
        (fun j d u hd hu => by
          cases j with
          | zero =>
            simp only [List.getElem?_cons_zero, Option.some.injEq] at hu
            subst hu
            rcases getElem?_set_some hd with ⟨_, rfl, _⟩ | ⟨hne, _⟩
            · exact hrc
            · exact (hne rfl).elim
          | succ j => simp at hu)
      have hst := run_store_agg (P := P) ht (v := a.eval y) (by rw [ho2]; rfl) (w' := w.setRow b c') (by rw [ho2]; exact hrun)
      have hdef : (a.put o.dst undef) = a := by rw [hdst]; rfl
      refine wp_of_skip (w' := w.setRow b c') ?_ ⟨F', _, K', hF' _ (by cases y <;> exact h), hfk, ⟨hk', hh', by rw [hdef, hlen']; exact hs.len, fun i d v hd hv' => ?_⟩, put_defers _ _⟩
      · simp only [execOp, ho, hv, Sem.run_bind, hst, Result.andThen_ok]
        rfl
      · rw [hdef] at hv'
        exact (hslots i d v hd hv').keep hkeep (fun _ h => h)
    · exact h.elim
  · exact h.elim

theorem stp_call (hs : St K w F H a.tmps) (hok : opOk o = true) {c : Call} {f : Operand} (ho : o.op = .call c) (hf : c.callee = .value f) (h : aop P ops o F H k) : o.wp P a w (OKd k K w a.defers) Q := by
  simp only [aop, ho, hf] at h
  split at h
  · rename_i g caps hg
    have hall : opndOk f = true ∧ c.args.all opndOk = true := by
      unfold opOk at hok
      simp only [ho, Op.operands, Call.operands, hf, Bool.and_eq_true] at hok
      exact ⟨(Array.all_eq_true'.1 hok.1) f (by simp), hok.2⟩
    obtain ⟨vs, hv, hl, hcap⟩ := (hg ▸ hs.rep hall.1).fn_inv
    obtain ⟨hcall, hR⟩ := h
    unfold callOk at hcall
    split at hcall
    · rename_i fn hfn
      simp only [Bool.and_eq_true, Bool.not_eq_true'] at hcall
      have hrun : (execOp a.eval o).run P w = .ok (.enter g (c.args.map a.eval ++ vs)) w := by
        have hb : fn.body.isNone = false := by cases hbb : fn.body <;> simp_all
        simp only [execOp, ho, resolve, hf, hv, Deferred.ofValue, Sem.run_bind, Sem.run_pure, Result.andThen_ok, invoke, callFunc, run_program, hfn, hcall.2, hb, Bool.false_eq_true, if_false]
        simp
      have hc := hR (relab outerize K) w (c.args.map a.eval ++ vs) (relab_krel hs.krel) (noslot_outer K) (relab_hrel ⟨fun _ _ => rfl, rfl⟩ hs.hrel) (by simp [hl]) (fun j d v hd hv' => by
        have hrep : RepV K w d v := by
          rw [List.getElem?_append] at hd
          split at hd
          · rename_i hj
            simp only [List.length_map, Array.length_toList] at hj
            rw [Array.getElem?_append_left (by simpa using hj)] at hv'
            rw [List.getElem?_map, Option.map_eq_some_iff] at hd
            rw [Array.getElem?_map, Option.map_eq_some_iff] at hv'
            obtain ⟨x, h1, rfl⟩ := hd
            obtain ⟨y, h2, rfl⟩ := hv'
            rw [Array.getElem?_toList, h2] at h1
            obtain rfl := Option.some.inj h1
            exact hs.rep ((Array.all_eq_true'.1 hall.2) _ (Array.mem_of_getElem? h2))
          · rename_i hj
            simp only [List.length_map, Array.length_toList] at hj hd
            rw [Array.getElem?_append_right (by simpa using hj)] at hv'
            exact hcap _ d v hd (by simpa using hv')
        exact hrep.mono (relab_ext outerize K w))
      unfold Oper.wp
      rw [hrun, Oper.upon_enter]
      refine hc.mono fun e w' ⟨v, d, H', K', he, hk, hfk, hk', hh', hr⟩ => ?_
      subst he
      have key : ∀ dst, (∀ i, o.dst = some i → i = dst) → St (backK K K' dst) w' (putF F o.dst d) H' (a.put o.dst v).tmps := by
        intro dst hd
        obtain ⟨hkeep, hext⟩ := back_keep hfk dst
        have hkr : KRel (backK K K' dst) w' := fun b hb => by simp [backK, hk' b hb]
        have hhr : HRel (backK K K' dst) w' H' := hh'.conv hext (fun b n c j hb => by simp [backK, hb])
        exact hs.put hkeep (fun _ _ h => h) hkr hhr o.dst (fun i hi => by
            obtain rfl := hd i hi
            exact hr.conv hext (fun b n j hb => by simp [backK, hb]))
      have hkk := hk hr.rep.fact
      cases hd : o.dst with
      | none => exact ⟨_, H', _, hkk, (back_keep hfk 0).1.fk (fun h => h), hd ▸ key 0 (fun i hi => by rw [hd] at hi; cases hi), put_defers _ _⟩
      | some t => exact ⟨_, H', _, hkk, (back_keep hfk t).1.fk (fun h => h), hd ▸ key t (fun i hi => by rw [hd] at hi; exact (Option.some.inj hi).symm), put_defers _ _⟩
    · cases hcall
  · exact h.elim

theorem two_of_list {α : Type} {xs : Array α} {x y : α} (h : xs.toList = [x, y]) : xs = #[x, y] := by
  obtain ⟨l⟩ := xs
  simp at h
  simp [h]

theorem stp_append (hs : St K w F H a.tmps) (hok : opOk o = true) {c : Call} (ho : o.op = .call c) (hf : c.callee = .builtin .append) (h : aop P ops o F H k) : o.wp P a w (OKd k K w a.defers) Q := by
  simp only [aop, ho, hf] at h
  split at h
  · rename_i s x t u d hargs htys hd
    split at h
    · rename_i xs e sz bs hev hap
      obtain ⟨hF, hT⟩ := slot_of hs hev (by simp)
      have hown : OwnAt K w (.slot s 0) xs (a.eval (.tmp s)) := hs.slot s _ _ hF hT
      have hx : opndOk x = true := by
        unfold opOk at hok
        simp only [ho, Op.operands, Call.operands, hf, Bool.and_eq_true] at hok
        exact (Array.all_eq_true'.1 hok.2) x (by rw [two_of_list hargs]; simp)
      have fin : ∀ ys : List (List D), (∀ y ∈ xs, y.length = sz) → Src P w K sz ys (a.eval x) → (xs.length + ys.length) * bs ≤ 140737488355328 → k ((F.set s (.slc xs)).set d (.own (xs ++ ys))) H → o.wp P a w (OKd k K w a.defers) Q := by
        intro ys hxs hsrc hb hk
        obtain ⟨r, K', w', hrun, hkeep, hk', hh', hown'⟩ := app_sound (P := P) (ty := o.type) hs.krel hs.hrel hap (s := .slot s 0) (d := .slot d 0) (by simp) (by simp) (by simp) hown hxs hsrc hb
        refine wp_of_value (v := r) (w' := w') ?_ ⟨_, H, K', hk, hkeep.fk (by simp), ⟨hk', hh', by rw [hd]; simpa [Act.put] using hs.len, fun i dd v hdd hv => ?_⟩, put_defers _ _⟩
        · simp only [execOp, ho, resolve, hf, Sem.run_bind, Sem.run_pure, Result.andThen_ok, invoke, builtin, two_of_list hargs, two_of_list htys]
          simp [hrun]
        · rw [hd] at hv
          simp only [Act.put] at hv
          rcases getElem?_set_some hdd with ⟨rfl, rfl, hl⟩ | ⟨hne, hdd⟩
          · rw [Array.getElem?_setIfInBounds_self_of_lt (by rw [hs.len]; simpa using hl)] at hv
            obtain rfl := Option.some.inj hv
            exact hown'
          · rw [Array.getElem?_setIfInBounds_ne hne] at hv
            rcases getElem?_set_some hdd with ⟨rfl, rfl, _⟩ | ⟨hne2, hdd⟩
            · rw [hT] at hv
              obtain rfl := Option.some.inj hv
              exact (RepV.mono hkeep.ext hown.rep).viewO
            · exact (hs.slot i dd v hdd hv).keep hkeep (fun j e => by injection e with e _; exact hne2 e.symm)
      split at h
      · rename_i ys hy
        obtain ⟨h1, h2, h3, h4⟩ := h
        have hpos : 0 < sz := (slI_spec (apI_spec hap).1).2.1
        exact fin ys h1 (src_of_slc (hy ▸ hs.rep hx) h2 hpos) h3 h4
      · rename_i l hy
        obtain ⟨rfl, h2, h3, h4⟩ := h
        exact fin _ h2 (src_of_str (hy ▸ hs.rep hx)) (by simpa using h3) h4
      · exact h.elim
    · exact h.elim
  · exact h.elim

theorem stp_load (hs : St K w F H a.tmps) (hok : opOk o = true) {t : TypeId} {s : Nat} (ho : o.op = .load t (.tmp s)) (h : aop P ops o F H k) : o.wp P a w (OKd k K w a.defers) Q := by
  simp only [aop, ho] at h
  split at h
  · rename_i d hd
    split at h
    · split at h
      · rename_i n b off ht hp
        split at h
        · rename_i cs hg
          split at h
          · rename_i xs hc
            have hv := (hp ▸ hs.rep (x := .tmp s) rfl).ptr_inv
            obtain ⟨hpb, c, T, hb, hcs, hr⟩ := hs.hrel.ok b _ (getH_mem hg)
            obtain ⟨u, e1, e2, e3⟩ := hr off _ hc
            have hcell : w.cell? ⟨b, off, none⟩ = some u := by rw [cell_at hb]; exact e1
            let φ := mvφ (.cell b off) (.slot d 0)
            have hfk : FK K w (relab φ K) w := mv_fk (by simp) (by simp)
            have hcv : OwnAt (relab φ K) w (.slot d 0) xs u := OwnAt.conv (relab_ext φ K w) (fun b' n hb' => by rw [relab_tok hb']; simp [φ, mvφ]) e3
            refine wp_of_value (v := u) (w' := w) ?_ ⟨_, _, relab φ K, h, hfk, ⟨relab_krel hs.krel, ⟨by rw [keys_set]; exact hs.hrel.nd, fun b' o' hm => ?_⟩, by rw [hd]; simpa [Act.put] using hs.len, fun i dd v hdd hv' => ?_⟩, put_defers _ _⟩
            · simp only [execOp, ho, hv, Sem.run_bind, run_loadOne ht b off u hcell, Result.andThen_ok]
              rfl
            · have conv : ∀ (b' : Nat) (cs' : List D), b' ≠ b → AO.at_ K w b' (.cells cs') → AO.at_ (relab φ K) w b' (.cells cs') := by
                rintro b' cs' hne ⟨g1, c', T', g2, g3, g4⟩
                refine ⟨relab_priv.2 g1, c', T', g2, g3, fun j d' hd' => ?_⟩
                obtain ⟨u', q1, q2, q3⟩ := g4 j d' hd'
                exact ⟨u', q1, q2, q3.conv (relab_ext φ K w) (fun b'' n hb'' => by
                  rw [relab_tok hb'']
                  simp only [φ, mvφ, BK.tok.injEq, true_and]
                  rw [if_neg]
                  intro e
                  injection e with e _
                  exact hne e)⟩
              rcases mem_set hs.hrel.nd hm with ⟨rfl, rfl⟩ | ⟨hne, hm⟩
              · refine ⟨relab_priv.2 hpb, c, T, hb, by simpa using hcs, fun j d' hd' => ?_⟩
                rcases getElem?_set_some hd' with ⟨rfl, rfl, _⟩ | ⟨hnej, hd'⟩
                · exact ⟨u, e1, e2, RepV.mono (relab_ext φ K w) (OwnAt.rep e3)⟩
                · obtain ⟨u', q1, q2, q3⟩ := hr j d' hd'
                  exact ⟨u', q1, q2, q3.conv (relab_ext φ K w) (fun b'' n hb'' => by
                    rw [relab_tok hb'']
                    simp only [φ, mvφ, BK.tok.injEq, true_and]
                    rw [if_neg]
                    intro e
                    injection e with _ e
                    exact hnej e.symm)⟩
              · cases o' with
                | cells cs' => exact conv b' cs' hne (hs.hrel.ok b' _ hm)
            · rw [hd] at hv'
              simp only [Act.put] at hv'
              rcases getElem?_set_some hdd with ⟨rfl, rfl, hl⟩ | ⟨hne, hdd⟩
              · rw [Array.getElem?_setIfInBounds_self_of_lt (by rw [hs.len]; exact hl)] at hv'
                obtain rfl := Option.some.inj hv'
                exact hcv
              · rw [Array.getElem?_setIfInBounds_ne hne] at hv'
                exact mv_repO (fun j e => by cases e) (hs.slot i dd v hdd hv')
          · exact h.elim
        · exact h.elim
      · exact h.elim
    · exact stp_val hs hok (by simpa only [ho, hd] using h)
  · rename_i hd
    exact stp_val hs hok (by simpa only [ho, hd] using h)

/-- EVERY OPERATION THAT 'aop' KNOWS. -/
theorem run_equal_nil {t e : TypeId} (ht : P.underlying t = some (.slice e)) (w : World) (ad : Option Addr) (n c d : Nat) : (Op.equalIn (d + 1) t (.slice ad n c) (.slice none 0 0)).run P w = .ok ad.isNone w := by
  cases ad <;> simp [Op.equalIn, run_underlying ht]
theorem run_eqnil {t e : TypeId} (ht : P.underlying t = some (.slice e)) (w : World) (ad : Option Addr) (n c : Nat) : (binOp .eql t (.slice ad n c) (.slice none 0 0)).run P w = .ok (.bool ad.isNone) w := by
  have : binOp .eql t (.slice ad n c) (.slice none 0 0) = (do pure (.bool (← Op.equal t (.slice ad n c) (.slice none 0 0)))) := rfl
  rw [this, Sem.run_bind, show Op.equal t (.slice ad n c) (.slice none 0 0) = Op.equalIn (9999 + 1) t (.slice ad n c) (.slice none 0 0) from rfl, run_equal_nil ht]
  rfl
theorem run_nenil {t e : TypeId} (ht : P.underlying t = some (.slice e)) (w : World) (ad : Option Addr) (n c : Nat) : (binOp .neq t (.slice ad n c) (.slice none 0 0)).run P w = .ok (.bool (!ad.isNone)) w := by
  have : binOp .neq t (.slice ad n c) (.slice none 0 0) = (do pure (.bool (!(← Op.equal t (.slice ad n c) (.slice none 0 0))))) := rfl
  rw [this, Sem.run_bind, show Op.equal t (.slice ad n c) (.slice none 0 0) = Op.equalIn (9999 + 1) t (.slice ad n c) (.slice none 0 0) from rfl, run_equal_nil ht]
  rfl
theorem stp_bin (hs : St K w F H a.tmps) (hok : opOk o = true) {bo : BinOp} {t ty : TypeId} {x y : Operand} (ho : o.op = .binOp bo t x y ty) (h : aop P ops o F H k) : o.wp P a w (OKd k K w a.defers) Q := by
  simp only [aop, ho] at h
  split at h
  · rename_i hn
    obtain rfl : y = .const (.slice none 0 0) := by
      unfold isNilS at hn
      split at hn
      · rfl
      · cases hn
    have hx : opndOk x = true := by
      unfold opOk at hok
      simp only [ho, Op.operands, Bool.and_eq_true] at hok
      have := hok.1
      simp at this
      exact this.1
    have hr := hs.rep hx
    unfold nilcmp at h
    split at h
    · rename_i xs hxs
      rw [hxs] at hr
      obtain ⟨hsl, h⟩ := h
      obtain ⟨⟨e, sz⟩, hsl⟩ := Option.isSome_iff_exists.1 hsl
      obtain ⟨ht, _⟩ := slI_spec hsl
      have hform : ∃ ad n c, a.eval x = .slice ad n c ∧ (ad = none → xs = []) := by
        rcases hr.slc_inv with ⟨rfl, ad, hv⟩ | ⟨b, off, cap, sz', f, hv, _⟩
        · exact ⟨_, _, _, hv, fun _ => rfl⟩
        · exact ⟨_, _, _, hv, fun e => by cases e⟩
      obtain ⟨ad, n, c, hv, hne⟩ := hform
      have put : ∀ (b : Bool), k (putF F o.dst (.bool b)) H → (execOp a.eval o).run P w = .ok (.value (.bool b)) w → o.wp P a w (OKd k K w a.defers) Q := fun b hk hrun =>
        wp_of_value hrun ⟨_, H, K, hk, .refl K w, hs.put ((Pres.refl K w).keep hs.krel) (fun _ _ h => h) hs.krel hs.hrel o.dst (fun i _ => RepV.viewO (.bool b)), put_defers _ _⟩
      have hrun : ∀ v, (binOp bo t (.slice ad n c) (.slice none 0 0)).run P w = .ok v w → (execOp a.eval o).run P w = .ok (.value v) w := fun v hv' => by
        have hy : a.eval (.const (.slice none 0 0)) = .slice none 0 0 := rfl
        have hg : eqGuard bo t x (.const (.slice none 0 0)) (.slice ad n c) (.slice none 0 0) = pure () := by cases bo <;> rfl
        simp only [execOp, ho]
        rw [hv, hy, hg, Sem.run_bind, Sem.run_bind, Sem.run_pure, Result.andThen_ok, hv']
        rfl
      split at h
      · cases ad with
        | none => exact put true (h.1 (hne rfl)) (hrun _ (run_eqnil ht _ _ _ _))
        | some ad => exact put false h.2 (hrun _ (run_eqnil ht _ _ _ _))
      · cases ad with
        | none => exact put false (h.1 (hne rfl)) (hrun _ (run_nenil ht _ _ _ _))
        | some ad => exact put true h.2 (hrun _ (run_nenil ht _ _ _ _))
      · exact h.elim
    · exact h.elim
  · exact stp_val hs hok (by simpa only [ho] using h)

theorem aop_sound (hs : St K w F H a.tmps) (hok : opOk o = true) (h : aop P ops o F H k) : o.wp P a w (OKd k K w a.defers) Q := by
  have hopnd : ∀ x, o.op.operands = #[x] → opndOk x = true := fun x hx => by
    unfold opOk at hok
    simp only [hx, Bool.and_eq_true] at hok
    simpa using hok.1
  cases ho : o.op
  case move x =>
    cases x with
    | tmp s => exact stp_move hs ho h
    | _ => exact stp_const hs (hopnd _ (by rw [ho]; rfl)) (fun s e => by cases e) (by simp [execOp, ho]) (by simpa only [aop, ho] using h)
  case assign x =>
    cases x with
    | tmp s => exact stp_assign hs ho h
    | _ => exact stp_const hs (hopnd _ (by rw [ho]; rfl)) (fun s e => by cases e) (by simp [execOp, ho]) (by simpa only [aop, ho] using h)
  case extract x ix =>
    cases x with
    | tmp s => exact stp_extract hs ho h
    | _ => exact stp_val hs hok (by simpa only [aop, ho] using h)
  case alloc t => exact stp_alloc hs ho h
  case box t x => exact stp_box hs hok ho h
  case store t x y => exact stp_store hs hok ho h
  case binOp bo t x y ty => exact stp_bin hs hok ho h
  case load t x =>
    cases x with
    | tmp s => exact stp_load hs hok ho h
    | _ => exact stp_val hs hok (by simpa only [aop, ho] using h)
  case call c =>
    cases hf : c.callee with
    | value f => exact stp_call hs hok ho hf h
    | invoke r m => exact stp_val hs hok (by simpa only [aop, ho, hf] using h)
    | builtin b =>
      cases b
      case append => exact stp_append hs hok ho hf h
      all_goals exact stp_val hs hok (by simpa only [aop, ho, hf] using h)
  all_goals exact stp_val hs hok (by simpa only [aop, ho] using h)
end
end Go.Aw
