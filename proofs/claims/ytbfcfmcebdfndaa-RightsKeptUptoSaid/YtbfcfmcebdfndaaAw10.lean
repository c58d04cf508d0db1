/- Each operation runs as its abstract step says ('aop_sound'); the operations of a region one behind the other ('aops_sound'). Conditions: those that stand in 'aop'. -/
import Derived.Test.YtbfcfmcebdfndaaAw9
namespace Go.Aw
open Go Go.RowKit
set_option linter.unusedVariables false
set_option linter.unusedSimpArgs false

section
variable {P : Program} {ops : List Oper} {o : Oper} {F : List D} {H : AH} {k : List D → AH → Prop} {K : Nat → BK} {w : World} {a : Act} {Q : Exit → Act → World → Prop}

theorem repC_O {i : Nat} {d : D} {v : Value} (h : RepC K w (.slot i 0) d v) : RepO K w i d v := by
  cases d <;> first | exact RepV.viewO h | exact h
theorem run_extract {vs : Array Value} {ix : Nat} {v : Value} (h : vs[ix]? = some v) : (Instr.extract (.tuple vs) ix).run P w = .ok v w := by
  simp [Instr.extract, h]

theorem stp_extract (hs : St K w F H a.tmps) {s ix : Nat} (ho : o.op = .extract (.tmp s) ix) (h : aop P ops o F H k) : o.wp P a w (OKd k K w a.defers) Q := by
  simp only [aop, ho] at h
  split at h
  · rename_i d ds hd hev
    split at h
    · rename_i c hc
      have hlt : s < F.length := by
        rcases Nat.lt_or_ge s F.length with h' | h'
        · exact h'
        · simp [ev, List.getD, List.getElem?_eq_none h'] at hev
      have hF : F[s]? = some (.tup ds) := by
        have : F[s]? = some (ev F (.tmp s)) := by simp [ev, List.getD, List.getElem?_eq_getElem hlt]
        rw [this, hev]
      have hts : s < a.tmps.size := by rw [hs.len]; exact hlt
      have hT : a.tmps[s]? = some (a.eval (.tmp s)) := by simp [Act.eval, Array.getElem?_eq_getElem hts]
      obtain ⟨vs, hv, hl, hh⟩ := hs.slot s _ _ hF hT
      have hix : ix < vs.size := by rw [hl]; exact (List.getElem?_eq_some_iff.1 hc).1
      have hvi : vs[ix]? = some vs[ix] := Array.getElem?_eq_getElem hix
      have hrc := hh ix c _ hc hvi
      have hrun : (execOp a.eval o).run P w = .ok (.value vs[ix]) w := by
        simp only [execOp, ho, hv, Sem.run_bind, run_extract hvi, Result.andThen_ok]
        rfl
      split at h
      · -- what it owns goes along
        let φ := mvφ (.slot s (ix + 1)) (.slot d 0)
        have hfk : FK K w (relab φ K) w := mv_fk (by simp) (by simp)
        refine wp_of_value hrun ⟨_, H, relab φ K, h hrc.rep.fact, hfk, ⟨relab_krel hs.krel, mv_hrel (by simp) hs.hrel, by rw [hd]; simpa [Act.put] using hs.len, fun i x v hx hv' => ?_⟩, put_defers _ _⟩
        rw [hd] at hv'
        simp only [Act.put] at hv'
        rcases getElem?_set_some hx with ⟨rfl, rfl, hl'⟩ | ⟨hne, hx⟩
        · rw [Array.getElem?_setIfInBounds_self_of_lt (by rw [hs.len]; simpa using hl')] at hv'
          obtain rfl := Option.some.inj hv'
          have hcv := RepC.conv (o' := .slot d 0) (relab_ext φ K w) (fun b n hb => by rw [relab_tok hb]; simp [φ, mvφ]) hrc
          exact repC_O hcv
        · rw [Array.getElem?_setIfInBounds_ne hne] at hv'
          rcases getElem?_set_some hx with ⟨rfl, rfl, hl'⟩ | ⟨hne2, hx⟩
          · rw [hT] at hv'
            obtain rfl := Option.some.inj hv'
            refine ⟨vs, hv, by simpa using hl, fun j d' u hd' hu => ?_⟩
            rcases getElem?_set_some hd' with ⟨rfl, rfl, _⟩ | ⟨hne3, hd'⟩
            · rw [hvi] at hu
              obtain rfl := Option.some.inj hu
              exact (RepV.mono (relab_ext φ K w) hrc.rep).repC (fun xs e => by cases c <;> simp [D.view1] at e)
            · exact (hh j d' u hd' hu).conv (relab_ext φ K w) (fun b n hb => by
                rw [relab_tok hb]
                simp only [φ, mvφ, BK.tok.injEq, true_and]
                rw [if_neg]
                intro e
                injection e with _ e
                omega)
          · exact (hs.slot i x v hx hv').conv (relab_ext φ K w) (fun b n j hb => by
              rw [relab_tok hb]
              simp only [φ, mvφ, BK.tok.injEq, true_and]
              rw [if_neg]
              intro e
              injection e with e _
              exact hne2 e.symm)
      · refine wp_of_value hrun ⟨_, H, K, h hrc.rep.fact, .refl K w, ?_, put_defers _ _⟩
        rw [hd]
        exact hs.put ((Pres.refl K w).keep hs.krel) (fun _ _ h => h) hs.krel hs.hrel (some d) (fun i _ => hrc.rep.viewO)
    · exact h.elim
  · exact h.elim

/-- A new variable. -/
theorem new_box (hs : St K w F H a.tmps) (t : TypeId) (c : Array Value) (cs : List D) (hc : c.size = cs.length)
    (hr : ∀ (j : Nat) (d : D), cs[j]? = some d → ∃ u, c[j]? = some u ∧ u.oneCell' = true ∧ (RepV K w d u ∨ (∃ x, d = .own [] ∧ u = .slice x 0 0))) (dst : Option Tmp) :
    ∃ K', FK K w K' (w.alloc (.cells c t)) ∧ St K' (w.alloc (.cells c t)) (putF F dst (.ptr w.heap.size 0)) ((w.heap.size, .cells cs) :: H) (a.put dst (.pointer (some ⟨w.heap.size, 0, none⟩))).tmps := by
  obtain ⟨hp, hk'⟩ := pres_alloc (K := K) (w := w) hs.krel (.cells c t) (x := .priv) (by simp)
  refine ⟨_, hp.fk hs.krel, hs.put (hp.keep hs.krel) (fun _ _ h => h) hk' ?_ dst (fun i _ => RepV.viewO (.ptr _ _))⟩
  have hold := hs.hrel.pres hs.krel hp
  refine ⟨?_, fun b o hm => ?_⟩
  · simp only [List.map_cons, List.nodup_cons]
    refine ⟨fun hm => ?_, hold.nd⟩
    rw [List.mem_map] at hm
    obtain ⟨⟨b, o⟩, h1, h2⟩ := hm
    have := hs.hrel.lt hs.krel h1
    simp only [] at h2
    omega
  · rcases List.mem_cons.1 hm with h | h
    · injection h with h1 h2
      subst h1 h2
      refine ⟨setK_same _ _ _, c, t, heap_alloc_new w _, hc, fun j d hd => ?_⟩
      obtain ⟨u, e1, e2, e3⟩ := hr j d hd
      refine ⟨u, e1, e2, ?_⟩
      rcases e3 with e3 | ⟨x, rfl, rfl⟩
      · exact (RepV.mono (hp.keep hs.krel).ext e3).repC (fun xs e => by subst e; exact e3.not_own)
      · exact .inl ⟨rfl, x, rfl⟩
    · exact hold.ok b o h

theorem stp_alloc (hs : St K w F H a.tmps) {t : TypeId} (ho : o.op = .alloc t) (h : aop P ops o F H k) : o.wp P a w (OKd k K w a.defers) Q := by
  simp only [aop, ho] at h
  split at h
  · rename_i z hz
    obtain ⟨i, zv, hi, hzv, z1, z2, z3, z4⟩ := zcI_spec hz
    obtain ⟨K', h1, h2⟩ := new_box hs t zv.cells z z1 (fun j d hd => by
      have hj : j < zv.cells.size := by rw [z1]; exact (List.getElem?_eq_some_iff.1 hd).1
      have hu := Array.getElem?_eq_getElem hj
      obtain ⟨e1, e2⟩ := z3 j _ hu
      refine ⟨_, hu, e1, ?_⟩
      have hcd := constD_rep (K := K) (w := w) (o := .outer) e2
      have hd' := z4 j d _ hd hu
      subst hd'
      generalize hcc : constD zv.cells[j] = cc at hcd
      cases cc with
      | own xs =>
        right
        unfold constD at hcc
        split at hcc <;> first
          | (injection hcc with hcc
             subst hcc
             exact ⟨none, rfl, by assumption⟩)
          | (exact absurd hcc (by simp))
      | _ => exact .inl hcd) o.dst
    refine wp_of_value (w' := w.alloc (.cells zv.cells t)) ?_ ⟨_, _, K', h _ (hs.hrel.fresh hs.krel), h1, h2, put_defers _ _⟩
    simp [execOp, ho, Instr.alloc, zeroValue, typeInfo, hi, hzv, newVar, newRow]
  · exact h.elim

theorem stp_box (hs : St K w F H a.tmps) (hok : opOk o = true) {t : TypeId} {x : Operand} (ho : o.op = .box t x) (h : aop P ops o F H k) : o.wp P a w (OKd k K w a.defers) Q := by
  simp only [aop, ho] at h
  obtain ⟨hc, h⟩ := h
  have hx : opndOk x = true := by
    unfold opOk at hok
    simp only [ho, Op.operands, Bool.and_eq_true] at hok
    simpa using hok.1
  obtain ⟨c1, c2, c3⟩ := cells_rep (hs.rep hx) hc
  obtain ⟨K', h1, h2⟩ := new_box hs t (a.eval x).cells _ c1 (fun j d hd => by
    have hj : j < (a.eval x).cells.size := by rw [c1]; exact (List.getElem?_eq_some_iff.1 hd).1
    have hu := Array.getElem?_eq_getElem hj
    exact ⟨_, hu, c2 j _ hu, .inl (c3 j d _ hd hu)⟩) o.dst
  refine wp_of_value (w' := w.alloc (.cells (a.eval x).cells t)) ?_ ⟨_, _, K', h _ (hs.hrel.fresh hs.krel), h1, h2, put_defers _ _⟩
  simp [execOp, ho, Instr.box, newVar, newRow]

theorem keys_set {b : Nat} {x : AO} : ∀ {H : AH}, (setH H b x).map (·.1) = H.map (·.1)
  | [] => rfl
  | (c, o) :: r => by
    simp only [setH]
    split
    · rfl
    · simp only [List.map_cons, keys_set]
theorem mem_set {b : Nat} {x : AO} : ∀ {H : AH}, (H.map (·.1)).Nodup → ∀ {b' : Nat} {o' : AO}, (b', o') ∈ setH H b x → (b' = b ∧ o' = x) ∨ (b' ≠ b ∧ (b', o') ∈ H)
  | [], _, b', o', h => by simp [setH] at h
  | (c, o) :: r, hn, b', o', h => by
    simp only [List.map_cons, List.nodup_cons] at hn
    simp only [setH] at h
    split at h
    · rename_i e
      subst e
      rcases List.mem_cons.1 h with h' | h'
      · injection h' with h1 h2; exact .inl ⟨h1, h2⟩
      · refine .inr ⟨fun e => ?_, .tail _ h'⟩
        subst e
        exact hn.1 (List.mem_map.2 ⟨_, h', rfl⟩)
    · rename_i e
      rcases List.mem_cons.1 h with h | h
      · injection h with h1 h2; subst h1 h2; exact .inr ⟨Ne.symm e, .head _⟩
      · rcases mem_set hn.2 h with h | ⟨h1, h2⟩
        · exact .inl h
        · exact .inr ⟨h1, .tail _ h2⟩

/-- The cells of a variable are written. 'K'' names the owners anew. -/
theorem set_box {b off : Nat} {cs cs' : List D} {vs : List Value} (hk : KRel K w) (hh : HRel K w H) (hg : getH H b = some (.cells cs)) {K' : Nat → BK} (hfk : FK K w K' w) (hK' : KRel K' w) (hcell : ∀ b' n c j, K b' = .tok n (.cell c j) → K' b' = .tok n (.cell c j))
    (hfit : off + vs.length ≤ cs.length) (h1 : ∀ v ∈ vs, v.oneCell' = true) (hlen : cs'.length = cs.length)
    (hold : ∀ (j : Nat) (d : D), cs'[j]? = some d → (j < off ∨ off + vs.length ≤ j) → cs[j]? = some d)
    (hnew : ∀ (j : Nat) (d : D) (u : Value), cs'[off + j]? = some d → vs[j]? = some u → RepC K' w (.cell b (off + j)) d u) :
    ∃ c' T, (storeCells ⟨b, off, none⟩ vs).run P w = .ok () (w.setRow b c') ∧ w.heap[b]? ≠ none ∧ FK K w K' (w.setRow b c') ∧ KRel K' (w.setRow b c') ∧ HRel K' (w.setRow b c') (setH H b (.cells cs')) ∧ Keep noE (fun x => x = b) K' w K' (w.setRow b c') ∧ T = b := by
  obtain ⟨hpb, c, T, hb, hc, hr⟩ := hh.ok b _ (getH_mem hg)
  have hrun := run_storeCells_at P b off T vs 0 c w hb (by simpa [hc] using hfit) h1
  simp only [Nat.add_zero] at hrun
  generalize hcc : (c.toList.take off ++ vs ++ c.toList.drop (off + vs.length)).toArray = c' at hrun
  have hsame := setRow_heap w b c c' T (0, 0) hb
  have hoth : ∀ b', b' ≠ b → (w.setRow b c').heap[b']? = w.heap[b']? := fun b' h => setRow_other w b b' c' h
  have hpb' : K' b = .priv := hfk.ext.priv b hpb
  have hkeep : Keep noE (fun x => x = b) K' w K' (w.setRow b c') := by
    refine ⟨⟨rfl, rfl, rfl, by simp, fun b' _ hi => ⟨hi, hoth b' (fun e => by subst e; rw [hpb'] at hi; cases hi)⟩, fun b' n o hb' => ⟨n, o, hb', Nat.le_refl _, fun j _ => cell_of_block (hoth b' (fun e => by subst e; rw [hpb'] at hb'; cases hb')) j⟩, fun b' h => h⟩,
      fun b' n o hb' _ => ⟨hb', hoth b' (fun e => by subst e; rw [hpb'] at hb'; cases hb')⟩, fun b' n h => h, fun b' hb' hne => hoth b' hne⟩
  have hcs' : c'.size = cs'.length := by
    rw [← hcc, hlen, ← hc]
    simp only [List.size_toArray, List.length_append, List.length_take, List.length_drop, Array.length_toList]
    omega
  have hget : ∀ j, c'[j]? = if j < off then c[j]? else if j < off + vs.length then vs[j - off]? else c[j]? := fun j => by
    rw [← hcc]
    simp only [List.getElem?_toArray]
    have hl1 : (c.toList.take off).length = off := by simp; omega
    by_cases a1 : j < off
    · rw [if_pos a1, List.append_assoc, List.getElem?_append_left (by rw [hl1]; exact a1), List.getElem?_take, if_pos a1]; simp
    · rw [if_neg a1, List.append_assoc, List.getElem?_append_right (by rw [hl1]; omega), hl1]
      by_cases a2 : j < off + vs.length
      · rw [if_pos a2, List.getElem?_append_left (by omega)]
      · rw [if_neg a2, List.getElem?_append_right (by omega), List.getElem?_drop]
        simp only [Array.getElem?_toList]
        congr 1
        omega
  have hhK' : HRel K' w H := hh.conv hfk.ext hcell
  refine ⟨c', b, hrun, by rw [hb]; simp, hfk.trans (hkeep.fk (fun h => h)), fun b' hb' => hK' b' (by simpa using hb'), ⟨by rw [keys_set]; exact hh.nd, fun b' o' hm => ?_⟩, hkeep, rfl⟩
  rcases mem_set hh.nd hm with ⟨rfl, rfl⟩ | ⟨hne, hm⟩
  · refine ⟨hpb', c', T, hsame, hcs', fun j d hd => ?_⟩
    by_cases hj : j < off ∨ off + vs.length ≤ j
    · obtain ⟨u, e1, e2, e3⟩ := hr j d (hold j d hd hj)
      refine ⟨u, ?_, e2, ((e3.conv (o' := .cell b' j) hfk.ext (fun b'' n hb'' => hcell b'' n _ _ hb'')).keep hkeep (fun h => h))⟩
      rw [hget]
      rcases hj with hj | hj
      · rw [if_pos hj]; exact e1
      · rw [if_neg (by omega), if_neg (by omega)]; exact e1
    · have hj1 : off ≤ j := by omega
      have hj2 : j - off < vs.length := by omega
      have hu := List.getElem?_eq_getElem hj2
      have hd' : cs'[off + (j - off)]? = some d := by rw [show off + (j - off) = j by omega]; exact hd
      have := hnew (j - off) d _ hd' hu
      rw [show off + (j - off) = j by omega] at this
      refine ⟨_, ?_, h1 _ (List.mem_of_getElem? hu), this.keep hkeep (fun h => h)⟩
      rw [hget, if_neg (by omega), if_pos (by omega)]
      exact hu
  · exact (AO.keep hkeep hne (fun _ h => h) (hhK'.ok b' o' hm))
end
end Go.Aw
