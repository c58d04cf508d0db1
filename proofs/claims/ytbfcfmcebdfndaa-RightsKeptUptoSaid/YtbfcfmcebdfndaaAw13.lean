/- A region whose order is open ('region_any'), code ('acode'), loops, and a function's body. Conditions: those that stand in 'acode'. -/
import Derived.Test.YtbfcfmcebdfndaaAw12
namespace Go.Aw
open Go Go.RowKit
set_option linter.unusedVariables false
set_option linter.unusedSimpArgs false

section
variable {P : Program} {ops : Array Oper} {H : AH} {md : Region.Mode} {Q : List D → Prop}

def EffOf (P : Program) (H : AH) (ops : Array Oper) (o : Oper) (F : List D) (e : Eff) : Prop :=
  (gst ops.toList F o = some true ∧ SEff P H o F e ∧ ∀ s v, e.tk = some (s, v) → tk1 ops.toList o = some s) ∨ (gst ops.toList F o = some false ∧ e = ⟨none, .tup []⟩)

theorem looks_operand {o : Oper} {t : Nat} (h : .tmp t ∈ o.op.operands.toList) : t ∈ o.looksAt ops := by
  unfold Oper.looksAt
  exact List.mem_append_left _ (List.mem_filterMap.2 ⟨.tmp t, h, rfl⟩)

theorem gst_congr {o : Oper} {F G : List D} (h : ∀ t ∈ o.looksAt ops, G.getD t .any = F.getD t .any) : gst ops.toList G o = gst ops.toList F o := by
  unfold gst
  cases hg : o.guard with
  | none => rfl
  | some g =>
    obtain ⟨j, want⟩ := g
    simp only [Array.getElem?_toList]
    cases hd : (ops[j]?).bind (·.dst) with
    | none => rfl
    | some t =>
      have : t ∈ o.looksAt ops := by
        unfold Oper.looksAt
        simp only [hg]
        exact List.mem_append_right _ (by rw [hd]; simp)
      simp only [h t this]

theorem EffOf.congr {o : Oper} {F G : List D} {e : Eff} (he : EffOf P H ops o F e) (h : ∀ t ∈ o.looksAt ops, G.getD t .any = F.getD t .any) (hl : G.length = F.length) : EffOf P H ops o G e := by
  rcases he with ⟨h1, h2, h3⟩ | ⟨h1, h2⟩
  · refine .inl ⟨by rw [gst_congr h]; exact h1, fun K w a G' Q hs hG hlen => ?_, h3⟩
    exact h2 K w a G' Q hs (fun t ht => (hG t ht).trans (h t (looks_operand ht))) (hlen.trans hl)
  · exact .inr ⟨by rw [gst_congr h]; exact h1, h2⟩

theorem putF_len (F : List D) (dst : Option Tmp) (d : D) : (putF F dst d).length = F.length := by cases dst <;> simp [putF]
theorem app_len (e : Eff) (dst : Option Tmp) (F : List D) : (e.app dst F).length = F.length := by
  unfold Eff.app
  rw [putF_len]
  split <;> simp

theorem getD_set (F : List D) (i t : Nat) (d : D) (h : i ≠ t) : (F.set i d).getD t .any = F.getD t .any := by
  simp [List.getD, List.getElem?_set_ne h]
theorem app_getD {e : Eff} {dst : Option Tmp} {F : List D} {t : Nat} (h1 : dst ≠ some t) (h2 : ∀ v, e.tk ≠ some (t, v)) : (e.app dst F).getD t .any = F.getD t .any := by
  unfold Eff.app
  have key : ∀ G : List D, (putF G dst e.d).getD t .any = G.getD t .any := fun G => by
    cases dst with
    | none => rfl
    | some d => exact getD_set _ _ _ _ (fun e => h1 (by rw [e]))
  rw [key]
  split
  · rename_i s v hs
    exact getD_set _ _ _ _ (fun e => h2 v (by rw [hs, e]))
  · rfl

theorem set_comm' (F : List D) {i j : Nat} (h : i ≠ j) (x y : D) : (F.set i x).set j y = (F.set j y).set i x := List.set_comm x y h

theorem app_comm {e f : Eff} {d1 d2 : Option Tmp} (F : List D) (h1 : ∀ t, d1 = some t → d2 ≠ some t) (h2 : ∀ s v, e.tk = some (s, v) → d2 ≠ some s) (h3 : ∀ s v, f.tk = some (s, v) → d1 ≠ some s)
    (h4 : ∀ s v, e.tk = some (s, v) → ∀ v', f.tk ≠ some (s, v')) : f.app d2 (e.app d1 F) = e.app d1 (f.app d2 F) := by
  obtain ⟨tk, x⟩ := e
  obtain ⟨tk', y⟩ := f
  unfold Eff.app putF
  cases tk with
  | none => cases tk' with
    | none => cases d1 <;> cases d2 <;> simp only [] <;> first | rfl | (exact set_comm' _ (fun e => h1 _ rfl (by rw [e])) _ _)
    | some p =>
      obtain ⟨s', v'⟩ := p
      cases d1 <;> cases d2 <;> simp only []
      · rw [set_comm' F (fun e => h3 s' v' rfl (by rw [e]))]
      · rename_i a b
        rw [set_comm' F (i := a) (j := s') (fun e => h3 s' v' rfl (by rw [e])), set_comm' _ (i := a) (j := b) (fun e => h1 _ rfl (by rw [e]))]
  | some p =>
    obtain ⟨s, v⟩ := p
    cases tk' with
    | none =>
      cases d1 <;> cases d2 <;> simp only []
      · rw [set_comm' F (fun e => h2 s v rfl (by rw [e]))]
      · rename_i a b
        rw [set_comm' _ (i := a) (j := b) (fun e => h1 _ rfl (by rw [e])), set_comm' F (i := s) (j := b) (fun e => h2 s v rfl (by rw [e]))]
    | some q =>
      obtain ⟨s', v'⟩ := q
      have hss : s ≠ s' := fun e => h4 s v rfl v' (by rw [e])
      cases d1 <;> cases d2 <;> simp only []
      · rw [set_comm' F hss]
      · rename_i b
        rw [set_comm' F hss, set_comm' _ (i := s) (j := b) (fun e => h2 s v rfl (by rw [e]))]
      · rename_i a
        rw [set_comm' _ (i := a) (j := s') (fun e => h3 s' v' rfl (by rw [e])), set_comm' F hss]
      · rename_i a b
        rw [set_comm' _ (i := a) (j := s') (fun e => h3 s' v' rfl (by rw [e])), set_comm' F hss, set_comm' _ (i := a) (j := b) (fun e => h1 _ rfl (by rw [e])), set_comm' _ (i := s) (j := b) (fun e => h2 s v rfl (by rw [e]))]

theorem tk_looks {o : Oper} {s : Nat} (h : tk1 ops.toList o = some s) : s ∈ o.looksAt ops := by
  apply looks_operand
  unfold tk1 at h
  split at h
  · rename_i x ho
    split at h
    · split at h <;> first | (simp only [Option.some.injEq] at h; subst h; simp [ho, Op.operands]) | cases h
    · cases h
  · rename_i x ho
    simp only [Option.some.injEq] at h
    subst h
    simp [ho, Op.operands]
  · rename_i x ix ho
    split at h
    · split at h <;> first | (simp only [Option.some.injEq] at h; subst h; simp [ho, Op.operands]) | cases h
    · cases h
  · rename_i c ho
    split at h
    · rename_i hf
      split at h
      · rename_i x y hargs
        simp only [Option.some.injEq] at h
        subst h
        simp only [ho, Op.operands, Call.operands, hf]
        rw [two_of_list hargs]
        simp
      · cases h
    · cases h
  · cases h

/-- Two operations that do not touch each other. -/
structure Far (ops : Array Oper) (x y : Oper) : Prop where
  d : ∀ t, x.dst = some t → t ∉ y.looksAt ops ∧ y.dst ≠ some t
  d' : ∀ t, y.dst = some t → t ∉ x.looksAt ops
  t : ∀ s, tk1 ops.toList x = some s → s ∉ y.looksAt ops ∧ y.dst ≠ some s
  t' : ∀ s, tk1 ops.toList y = some s → s ∉ x.looksAt ops ∧ x.dst ≠ some s
theorem far_of {x y : Oper} (h : x.apart ops y = true) (h' : tapart ops x y = true) : Far ops x y := by
  obtain ⟨a1, a2, a3⟩ := Oper.apart_spec h
  unfold tapart at h'
  simp only [Bool.and_eq_true] at h'
  refine ⟨fun t ht => ⟨a1 t ht, a2 t ht⟩, a3, fun s hs => ?_, fun s hs => ?_⟩
  · have := h'.1
    simp only [hs, Bool.and_eq_true, Bool.not_eq_true', bne_iff_ne, ne_eq] at this
    exact ⟨by simpa using this.1, this.2⟩
  · have := h'.2
    simp only [hs, Bool.and_eq_true, Bool.not_eq_true', bne_iff_ne, ne_eq] at this
    exact ⟨by simpa using this.1, this.2⟩

theorem EffOf.tk {o : Oper} {F : List D} {e : Eff} (he : EffOf P H ops o F e) : ∀ s v, e.tk = some (s, v) → tk1 ops.toList o = some s := by
  rcases he with ⟨_, _, h⟩ | ⟨_, rfl⟩
  · exact h
  · intro s v h; cases h

theorem swap {x y : Oper} {F : List D} {e f : Eff} (hf : Far ops x y) (hx : EffOf P H ops x F e) (hy : EffOf P H ops y (e.app x.dst F) f) :
    EffOf P H ops y F f ∧ EffOf P H ops x (f.app y.dst F) e ∧ f.app y.dst (e.app x.dst F) = e.app x.dst (f.app y.dst F) := by
  have hy' : EffOf P H ops y F f := hy.congr (fun t ht => (app_getD (fun h => (hf.d t h).1 ht) (fun v h => (hf.t t (hx.tk t v h)).1 ht)).symm) (app_len _ _ _).symm
  refine ⟨hy', hx.congr (fun t ht => app_getD (fun h => hf.d' t h ht) (fun v h => (hf.t' t (hy.tk t v h)).1 ht)) (app_len _ _ _), app_comm F (fun t h => (hf.d t h).2) (fun s v h => (hf.t s (hx.tk s v h)).2) (fun s v h => (hf.t' s (hy.tk s v h)).2) (fun s v h v' h' => ?_)⟩
  exact (hf.t s (hx.tk s v h)).1 (tk_looks (hy.tk s v' h'))

def wpAnyD (P : Program) (md : Region.Mode) (ops : Array Oper) (H : AH) (Q : List D → Prop) : Nat → Array Bool → List D → Prop
  | 0, listed, F => Region.ready md ops listed = [] ∧ Q F
  | fuel + 1, listed, F => (Region.ready md ops listed = [] → Q F) ∧ ∀ i ∈ Region.ready md ops listed, ∃ o e, ops[i]? = some o ∧ EffOf P H ops o F e ∧ wpAnyD P md ops H Q fuel (listed.setIfInBounds i true) (e.app o.dst F)

theorem wpAnyD_first {i : Nat} {oi : Oper} {e : Eff} (hi : ops[i]? = some oi) :
    ∀ (fuel : Nat) (listed : Array Bool) (F : List D),
      (∀ j oj, ops[j]? = some oj → j ≠ i → listed.getD j true = false → (∀ e ∈ oj.after, Region.binds md e = true → e.on ≠ i) → Far ops oi oj) →
      i ∈ Region.ready md ops listed → EffOf P H ops oi F e →
      wpAnyD P md ops H Q fuel (listed.setIfInBounds i true) (e.app oi.dst F) → wpAnyD P md ops H Q (fuel + 1) listed F := by
  intro fuel
  induction fuel with
  | zero =>
    intro listed F _ hr hy Hh
    refine ⟨fun h => (by rw [h] at hr; cases hr), fun j hj => ?_⟩
    by_cases hji : j = i
    · subst hji; exact ⟨oi, e, hi, hy, Hh⟩
    · have := ready_mono hj hji
      rw [Hh.1] at this
      cases this
  | succ fuel ih =>
    intro listed F hfree hr hy Hh
    refine ⟨fun h => (by rw [h] at hr; cases hr), fun j hj => ?_⟩
    by_cases hji : j = i
    · subst hji; exact ⟨oi, e, hi, hy, Hh⟩
    · obtain ⟨oj, f, hoj, hyj, hk⟩ := Hh.2 j (ready_mono hj hji)
      obtain ⟨hjun, oj', hoj', hall⟩ := mem_ready.1 hj
      obtain rfl : oj = oj' := by rw [hoj] at hoj'; exact Option.some.inj hoj'
      have hnot : ∀ e ∈ oj.after, Region.binds md e = true → e.on ≠ i := fun e he hb heq => by
        have h1 := hall e he hb
        have h0 := (mem_ready.1 hr).1
        rw [heq] at h1
        rcases Nat.lt_or_ge i listed.size with h' | h'
        · simp [h'] at h0 h1; rw [h0] at h1; cases h1
        · simp [Array.getElem?_eq_none h'] at h1
      obtain ⟨s1, s2, s3⟩ := swap (hfree j oj hoj hji hjun hnot) hy hyj
      refine ⟨oj, f, hoj, s1, ih _ _ (fun k ok hk' hki hun hno => ?_) (ready_mono hr (Ne.symm hji)) s2 ?_⟩
      · refine hfree k ok hk' hki ?_ hno
        by_cases hjk : j = k
        · subst hjk; exact hjun
        · rw [getD_set_ne true hjk] at hun; exact hun
      · rw [Array.setIfInBounds_comm _ _ hji, ← s3]
        exact hk

def freeT (md : Region.Mode) (ops : Array Oper) (listed : Array Bool) (i : Nat) : Bool :=
  match ops[i]? with
  | none => false
  | some oi => (List.range ops.size).all fun j => j == i || listed.getD j true || match ops[j]? with
      | some oj => oj.after.any (fun e => Region.binds md e && e.on == i) || (oi.apart ops oj && tapart ops oi oj)
      | none => true
theorem freeT_spec {i : Nat} {oi : Oper} {listed : Array Bool} (hi : ops[i]? = some oi) (h : freeT md ops listed i = true) (j : Nat) (oj : Oper)
    (hj : ops[j]? = some oj) (hne : j ≠ i) (hun : listed.getD j true = false) (hno : ∀ e ∈ oj.after, Region.binds md e = true → e.on ≠ i) : Far ops oi oj := by
  simp only [freeT, hi, List.all_eq_true, List.mem_range] at h
  have h1 := h j (Array.getElem?_eq_some_iff.1 hj).1
  simp only [hj, Bool.or_eq_true, beq_iff_eq, hne, false_or, hun, Bool.false_eq_true] at h1
  rcases h1 with h1 | h1
  · obtain ⟨e, he, hb⟩ := Array.any_eq_true'.1 h1
    simp only [Bool.and_eq_true, beq_iff_eq] at hb
    exact (hno e he hb.1 hb.2).elim
  · simp only [Bool.and_eq_true] at h1
    exact far_of h1.1 h1.2
def lexT (md : Region.Mode) (ops : Array Oper) : Nat → Nat → Array Bool → Bool
  | 0, _, listed => (Region.ready md ops listed).isEmpty
  | fuel + 1, k, listed => (Region.ready md ops listed).contains k && freeT md ops listed k && lexT md ops fuel (k + 1) (listed.setIfInBounds k true)

def chain (P : Program) (H : AH) (ops : Array Oper) : List Oper → List D → (List D → Prop) → Prop
  | [], F, k => k F
  | o :: r, F, k => ∃ e, EffOf P H ops o F e ∧ chain P H ops r (e.app o.dst F) k

theorem wpAnyD_lex : ∀ (l : List Oper) (k : Nat) (listed : Array Bool) (F : List D), (∀ j, l[j]? = ops[k + j]?) → lexT md ops l.length k listed = true → chain P H ops l F Q → wpAnyD P md ops H Q l.length listed F
  | [], _, _, _, _, hB, h => ⟨by simpa [lexT] using hB, h⟩
  | o :: l, k, listed, F, hl, hB, h => by
    have h0 : ops[k]? = some o := by simpa using (hl 0).symm
    simp only [List.length_cons, lexT, Bool.and_eq_true] at hB
    obtain ⟨⟨hr, hf⟩, hB'⟩ := hB
    obtain ⟨e, he, hk⟩ := h
    exact wpAnyD_first h0 l.length listed F (freeT_spec h0 hf) (by simpa using hr) he
      (wpAnyD_lex l (k + 1) _ _ (fun j => by have := hl (j + 1); simpa [Nat.add_assoc, Nat.add_comm 1 j] using this) hB' hk)

theorem chain_of {k : List D → Prop} : ∀ (l : List Oper) (F : List D) (K : Nat → BK) (w : World) (a : Act), (∀ o ∈ l, opOk o = true) → St K w F H a.tmps → aopsD P ops.toList l F H k → chain P H ops l F k
  | [], F, K, w, a, _, _, h => h
  | o :: r, F, K, w, a, hok, hs, h => by
    have hgo : gst ops.toList F o = some true → aopD P ops.toList o F H (fun F' => aopsD P ops.toList r F' H k) → chain P H ops (o :: r) F k := fun hg h => by
      obtain ⟨e, h1, h2, h3⟩ := aopD_eff hs (hok o (.head _)) h
      refine ⟨e, .inl ⟨hg, h3, h2⟩, ?_⟩
      obtain ⟨a', w', F', H', K', ⟨hF', hH'⟩, _, hs', _⟩ := wp_some (h3 K w a F (fun _ _ _ => False) hs (fun _ _ => rfl) rfl)
      rw [hF', hH'] at hs'
      exact chain_of r _ K' w' a' (fun o ho => hok o (.tail _ ho)) hs' h1
    have hskip : gst ops.toList F o = some false → aopsD P ops.toList r (putF F o.dst (.tup [])) H k → chain P H ops (o :: r) F k := fun hg h =>
      ⟨⟨none, .tup []⟩, .inr ⟨hg, rfl⟩, chain_of r _ K w _ (fun o ho => hok o (.tail _ ho)) (st_skip hs o.dst) h⟩
    unfold gst at hgo hskip
    cases hg : o.guard with
    | none =>
      simp only [aopsD, hg] at h hgo
      exact hgo trivial h
    | some g =>
      obtain ⟨j, want⟩ := g
      simp only [aopsD, hg] at h hgo hskip
      cases hdd : (ops.toList[j]?).bind (·.dst) with
      | none =>
        simp only [hdd] at h hskip
        exact hskip trivial h
      | some t =>
        simp only [hdd] at h hgo hskip
        split at h
        · rename_i b hb
          simp only [hb] at hgo hskip
          by_cases e : b = want
          · exact hgo (by simp [e]) (h.1 e)
          · exact hskip (by simp [e]) (h.2 (by cases b <;> cases want <;> simp_all))
        · rename_i ds hb
          simp only [hb] at hskip
          exact hskip trivial h
        · exact h.elim

theorem wpAny_of_D {K : Nat → BK} {w : World} {a : Act} {Q' : Exit → Act → World → Prop} (hQ : ∀ a' w', OKd (fun F' H' => Q F' ∧ H' = H) K w a.defers a' w' → Q' .normal a' w') :
    ∀ (fuel : Nat) (listed : Array Bool) (F : List D) (K1 : Nat → BK) (w1 : World) (a1 : Act), St K1 w1 F H a1.tmps → FK K w K1 w1 → a1.defers = a.defers → wpAnyD P md ops H Q fuel listed F → wpAny P md ops Q' fuel listed a1 w1
  | 0, _, F, K1, w1, a1, hs, hfk, hd, h => ⟨h.1, hQ a1 w1 ⟨F, H, K1, ⟨h.2, rfl⟩, hfk, hs, hd⟩⟩
  | fuel + 1, listed, F, K1, w1, a1, hs, hfk, hd, h => ⟨fun h0 => hQ a1 w1 ⟨F, H, K1, ⟨h.1 h0, rfl⟩, hfk, hs, hd⟩, fun i hi => by
      obtain ⟨o, e, ho, he, hk⟩ := h.2 i hi
      unfold wpOp
      simp only [ho]
      rcases he with ⟨g1, g2, _⟩ | ⟨g1, rfl⟩
      · rw [if_pos (gst_sound hs g1)]
        refine .inl (Oper.wp_mono (fun a2 w2 h2 => ?_) (g2 K1 w1 a1 F Q' hs (fun _ _ => rfl) rfl))
        obtain ⟨F', H', K', ⟨hF', hH'⟩, q2, q3, q4⟩ := h2
        rw [hF', hH'] at q3
        exact wpAny_of_D hQ fuel _ _ K' w2 a2 q3 (hfk.trans q2) (q4.trans hd) hk
      · rw [if_neg (by rw [gst_sound hs g1]; simp)]
        exact wpAny_of_D hQ fuel _ _ K1 w1 _ (st_skip hs o.dst) hfk ((put_defers o.dst undef).trans hd) hk⟩

theorem St.drew {K : Nat → BK} {w : World} {F : List D} {t : Array Value} (h : St K w F H t) : ∃ K', FK K w K' { w with drawn := w.drawn + 1 } ∧ St K' { w with drawn := w.drawn + 1 } F H t := by
  have hp : Pres K w K { w with drawn := w.drawn + 1 } := ⟨rfl, rfl, rfl, Nat.le_refl _, fun _ _ => ⟨rfl, rfl⟩, fun _ _ h => h⟩
  exact ⟨K, hp.fk h.krel, ⟨h.krel, h.hrel.pres h.krel hp, h.len, fun i d v hd hv => (h.slot i d v hd hv).keep (hp.keep h.krel) (fun _ h => h)⟩⟩

/-- A REGION WHOSE ORDER IS OPEN. -/
theorem region_any {K : Nat → BK} {w : World} {F : List D} {a : Act} {Q' : Exit → Act → World → Prop} {id : Nat} (hm : P.follows .mixedOrders = true) (hB : lexT .any ops ops.size 0 (Array.replicate ops.size false) = true) (hok : ∀ o ∈ ops.toList, opOk o = true)
    (hs : St K w F H a.tmps) (hQ : ∀ a' w', OKd (fun F' H' => Q F' ∧ H' = H) K w a.defers a' w' → Q' .normal a' w') (h : aopsD P ops.toList ops.toList F H Q) : (Code.region id ops true).wp P Q' a w := by
  have hc := chain_of (ops := ops) ops.toList F K w a hok hs h
  obtain ⟨K', hfk, hs'⟩ := hs.drew
  refine wp_region_any hm (wpAny_of_D (a := a) hQ ops.size _ F K' _ a hs' hfk rfl ?_)
  have := wpAnyD_lex (P := P) (H := H) (md := .any) (Q := Q) ops.toList 0 (Array.replicate ops.size false) F (by simp) (by simpa using hB) hc
  simpa using this
end
end Go.Aw
