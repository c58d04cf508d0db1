/- The operations of a region, one behind the other ('aops'), and in whatever order ('aopsD'). Conditions: those that stand in 'aop'. -/
import Derived.Test.YtbfcfmcebdfndaaAw11
import Derived.Still
namespace Go.Aw
open Go Go.RowKit
set_option linter.unusedVariables false
set_option linter.unusedSimpArgs false

/-- Is the operation wanted: yes, no, or not known. -/
def gst (ops : List Oper) (F : List D) (o : Oper) : Option Bool :=
  match o.guard with
  | none => some true
  | some (j, want) => match (ops[j]?).bind (·.dst) with
    | some t => match F.getD t .any with
      | .bool b => some (b == want)
      | .tup _ => some false
      | _ => none
    | none => some false

/-- One behind the other. -/
def aops (P : Program) (ops : List Oper) : List Oper → List D → AH → (List D → AH → Prop) → Prop
  | [], F, H, k => k F H
  | o :: r, F, H, k => match o.guard with
    | none => aop P ops o F H fun F' H' => aops P ops r F' H' k
    | some (j, want) => match (ops[j]?).bind (·.dst) with
      | some t => match F.getD t .any with
        | .bool b => (b = want → aop P ops o F H fun F' H' => aops P ops r F' H' k) ∧ (b = (!want) → aops P ops r (putF F o.dst (.tup [])) H k)
        | .tup _ => aops P ops r (putF F o.dst (.tup [])) H k
        | _ => False
      | none => aops P ops r (putF F o.dst (.tup [])) H k

section
variable {P : Program} {ops : Array Oper} {o : Oper} {F : List D} {H : AH} {k : List D → AH → Prop} {K : Nat → BK} {w : World} {a : Act} {Q : Exit → Act → World → Prop}

theorem gst_sound (hs : St K w F H a.tmps) {b : Bool} (h : gst ops.toList F o = some b) : Region.wanted o (yielded ops a.tmps) = b := by
  unfold gst at h
  unfold Region.wanted
  cases hg : o.guard with
  | none => simp only [hg, Option.some.injEq] at h; exact h
  | some g =>
    obtain ⟨j, want⟩ := g
    simp only [hg] at h ⊢
    unfold yielded
    simp only [Array.getElem?_toList] at h
    cases hd : (ops[j]?).bind (·.dst) with
    | none => simp only [hd, Option.some.injEq] at h; subst h; rfl
    | some t =>
      simp only [hd] at h
      simp only [Option.bind_some]
      have key : ∀ d : D, F.getD t .any = d → d ≠ .any → ∃ v, a.tmps[t]? = some v ∧ RepO K w t d v := by
        intro d h1 h2
        have hlt : t < F.length := by
          rcases Nat.lt_or_ge t F.length with h' | h'
          · exact h'
          · simp [List.getD, List.getElem?_eq_none h'] at h1; exact (h2 h1.symm).elim
        have hF : F[t]? = some d := by rw [← h1]; simp [List.getD, List.getElem?_eq_getElem hlt]
        have hts : t < a.tmps.size := by rw [hs.len]; exact hlt
        exact ⟨_, Array.getElem?_eq_getElem hts, hs.slot t d _ hF (Array.getElem?_eq_getElem hts)⟩
      split at h
      · rename_i bb hb
        obtain ⟨v, h1, h2⟩ := key _ hb (by simp)
        rw [h1, RepV.bool_inv h2]
        simp only [Option.some.injEq] at h
        simp only [← h]
        cases bb <;> cases want <;> rfl
      · rename_i ds hb
        obtain ⟨v, h1, vs, rfl, _⟩ := key _ hb (by simp)
        rw [h1]
        simp only [Option.some.injEq] at h
        subst h
        rfl
      · cases h

theorem undef_rep : RepV K w (.tup []) undef := .tup [] #[] rfl (fun j d u hd => by simp at hd)
theorem st_skip (hs : St K w F H a.tmps) (dst : Option Tmp) : St K w (putF F dst (.tup [])) H (a.put dst undef).tmps :=
  hs.put ((Pres.refl K w).keep hs.krel) (fun _ _ h => h) hs.krel hs.hrel dst (fun i _ => undef_rep.viewO)

/-- What follows a step starts from where the first one began. -/
theorem OKd.trans {k' : List D → AH → Prop} {ds : List Deferred} {K0 : Nat → BK} {w0 : World} {F' : List D} {H' : AH} (h : OKd k K w ds a w0) : OKd k K w ds a w0 := h

theorem aops_sound (hQ : ∀ a' w', OKd k K w a.defers a' w' → Q .normal a' w') : ∀ (l : List Oper) (F : List D) (H : AH) (K1 : Nat → BK) (w1 : World) (a1 : Act), (∀ o ∈ l, opOk o = true) → St K1 w1 F H a1.tmps → FK K w K1 w1 → a1.defers = a.defers →
    aops P ops.toList l F H k → wpList P ops Q l a1 w1
  | [], F, H, K1, w1, a1, _, hs, hfk, hd, h => wpList_nil (hQ a1 w1 ⟨F, H, K1, h, hfk, hs, hd⟩)
  | o :: r, F, H, K1, w1, a1, hok, hs, hfk, hd, h => by
    have hgo : aop P ops.toList o F H (fun F' H' => aops P ops.toList r F' H' k) → o.wp P a1 w1 (wpList P ops Q r) Q := fun h => by
      refine Oper.wp_mono (fun a2 w2 h2 => ?_) (aop_sound (Q := Q) hs (hok o (.head _)) h)
      obtain ⟨F', H', K', g1, g2, g3, g4⟩ := h2
      exact aops_sound hQ r F' H' K' w2 a2 (fun o ho => hok o (.tail _ ho)) g3 (hfk.trans g2) (g4.trans hd) g1
    have hskip : aops P ops.toList r (putF F o.dst (.tup [])) H k → wpList P ops Q r (a1.put o.dst undef) w1 := fun h =>
      aops_sound hQ r _ H K1 w1 _ (fun o ho => hok o (.tail _ ho)) (st_skip hs o.dst) hfk ((put_defers o.dst undef).trans hd) h
    have hw := fun b => gst_sound (ops := ops) (o := o) hs (b := b)
    unfold gst at hw
    unfold wpList
    cases hg : o.guard with
    | none =>
      simp only [aops, hg] at h
      simp only [hg] at hw
      rw [if_pos (hw true rfl)]
      exact .inl (hgo h)
    | some g =>
      obtain ⟨j, want⟩ := g
      simp only [aops, hg] at h
      simp only [hg] at hw
      cases hdd : (ops.toList[j]?).bind (·.dst) with
      | none =>
        simp only [hdd] at h hw
        rw [if_neg (by rw [hw false rfl]; simp)]
        exact hskip h
      | some t =>
        simp only [hdd] at h hw
        split at h
        · rename_i b hb
          simp only [hb] at hw
          by_cases e : b = want
          · rw [if_pos (by rw [hw true (by simp [e])])]
            exact .inl (hgo (h.1 e))
          · rw [if_neg (by rw [hw false (by simp [e])]; simp)]
            exact hskip (h.2 (by cases b <;> cases want <;> simp_all))
        · rename_i ds hb
          simp only [hb] at hw
          rw [if_neg (by rw [hw false rfl]; simp)]
          exact hskip h
        · exact h.elim
end

/-! ### whatever the order -/
/-- What an operation does to a frame: the slot that it takes from, and the value that it writes. -/
structure Eff where
  tk : Option (Nat × D)
  d : D
def Eff.app (e : Eff) (dst : Option Tmp) (G : List D) : List D := putF (match e.tk with | some (s, v) => G.set s v | none => G) dst e.d

def tk1 (ops : List Oper) (o : Oper) : Option Nat :=
  match o.op with
  | .move (.tmp s) => match o.dst with
    | some d => if takes ops d = true then some s else none
    | none => none
  | .assign (.tmp s) => some s
  | .extract (.tmp s) _ => match o.dst with
    | some d => if takes ops d = true then some s else none
    | none => none
  | .call c => match c.callee with
    | .builtin .append => match c.args.toList with
      | [.tmp s, _] => some s
      | _ => none
    | _ => none
  | _ => none
def tapart (ops : Array Oper) (x y : Oper) : Bool :=
  (match tk1 ops.toList x with
   | some s => !(y.looksAt ops).contains s && y.dst != some s
   | none => true) &&
  (match tk1 ops.toList y with
   | some s => !(x.looksAt ops).contains s && x.dst != some s
   | none => true)

def aopD (P : Program) (ops : List Oper) (o : Oper) (F : List D) (H : AH) (k : List D → Prop) : Prop :=
  match o.op with
  | .alloc _ => False
  | .box _ _ => False
  | .store _ _ _ => False
  | .load _ _ => valO P (rv F) H o.op fun d => k (putF F o.dst d)
  | .binOp _ _ _ _ _ => valO P (rv F) H o.op fun d => k (putF F o.dst d)
  | .call c => match c.callee with
    | .value f => match rv F f with
      | .fn g caps => ∃ d, ACall P g (c.args.toList.map (rv F) ++ caps) H (fun d' H' => d' = d ∧ H' = H) ∧ (fact d.view → k (putF F o.dst d))
      | _ => False
    | _ => aop P ops o F H fun F' _ => k F'
  | _ => aop P ops o F H fun F' _ => k F'

def aopsD (P : Program) (ops : List Oper) : List Oper → List D → AH → (List D → Prop) → Prop
  | [], F, _, k => k F
  | o :: r, F, H, k => match o.guard with
    | none => aopD P ops o F H fun F' => aopsD P ops r F' H k
    | some (j, want) => match (ops[j]?).bind (·.dst) with
      | some t => match F.getD t .any with
        | .bool b => (b = want → aopD P ops o F H fun F' => aopsD P ops r F' H k) ∧ (b = (!want) → aopsD P ops r (putF F o.dst (.tup [])) H k)
        | .tup _ => aopsD P ops r (putF F o.dst (.tup [])) H k
        | _ => False
      | none => aopsD P ops r (putF F o.dst (.tup [])) H k

/-- In every state whose frame agrees with F where the operation looks: it does e. -/
def SEff (P : Program) (H : AH) (o : Oper) (F : List D) (e : Eff) : Prop :=
  ∀ (K : Nat → BK) (w : World) (a : Act) (G : List D) (Q : Exit → Act → World → Prop), St K w G H a.tmps → (∀ t, .tmp t ∈ o.op.operands.toList → G.getD t .any = F.getD t .any) → G.length = F.length →
    o.wp P a w (OKd (fun G' H' => G' = e.app o.dst G ∧ H' = H) K w a.defers) Q

section
variable {P : Program} {ops : List Oper} {o : Oper} {F : List D} {H : AH} {K : Nat → BK} {w : World} {a : Act}

theorem ev_agree {G : List D} {xs : List Operand} (h : ∀ t, .tmp t ∈ xs → G.getD t .any = F.getD t .any) {x : Operand} (hx : x ∈ xs) : ev G x = ev F x := by
  cases x <;> first | rfl | exact h _ hx

theorem seff_val (hs : St K w F H a.tmps) (hok : opOk o = true) {k : List D → Prop} (h : valO P (rv F) H o.op fun d => k (putF F o.dst d)) : ∃ e : Eff, k (e.app o.dst F) ∧ e.tk = none ∧ SEff P H o F e := by
  have hr := hs.ops (xs := o.op.operands) (by unfold opOk at hok; simp only [Bool.and_eq_true] at hok; exact hok.1)
  obtain ⟨d, hd, hy⟩ := valO_sound h ⟨K, w, a.eval, hs.krel, hs.hrel, hr⟩
  refine ⟨⟨none, d⟩, hd, rfl, fun K w a G Q hs hG hlen => ?_⟩
  have hr : ∀ x ∈ o.op.operands.toList, RepV K w (rv F x) (a.eval x) := fun x hx => by
    have := hs.ops (xs := o.op.operands) (by unfold opOk at hok; simp only [Bool.and_eq_true] at hok; exact hok.1) x hx
    unfold rv at this ⊢
    rwa [ev_agree hG hx] at this
  obtain ⟨v, K', w', h1, h2, h3, h4⟩ := hy K w a.eval (o.dst.getD 0) hs.krel hs.hrel hr
  exact wp_of_value h1 ⟨_, H, K', ⟨rfl, rfl⟩, h2.fk hs.krel, hs.put (h2.keep hs.krel) (fun _ _ h => h) h3 (hs.hrel.pres hs.krel h2) o.dst (fun i hi => by rw [hi] at h4; exact h4), put_defers _ _⟩

/-- Some state stands behind a step. -/
theorem wp_some {next : Act → World → Prop} (h : o.wp P a w next (fun _ _ _ => False)) : ∃ a' w', next a' w' := by
  unfold Oper.wp at h
  generalize (execOp a.eval o).run P w = r at h
  cases r with
  | ok n w' =>
    cases n <;> simp only [Oper.upon] at h <;> first
      | exact ⟨_, _, h⟩
      | exact h.elim
      | skip
    · obtain ⟨e, w'', fr, hR, _⟩ := h []
      cases e with
      | returned v => exact ⟨_, _, hR⟩
      | panicked c => exact hR.elim
      | outgrown => obtain ⟨_, _, h⟩ := hR; exact h.elim
    · obtain ⟨v, w'', hR, _⟩ := h (default : Frame) []
      exact ⟨_, _, hR⟩
  | halt x w' => cases x <;> simp only [Oper.upon] at h

theorem OKd.eq {k k' : List D → AH → Prop} {ds : List Deferred} (h : ∀ F H, k F H → k' F H) {a' : Act} {w' : World} (hh : OKd k K w ds a' w') : OKd k' K w ds a' w' :=
  let ⟨F', H', K', g1, g2⟩ := hh
  ⟨F', H', K', h _ _ g1, g2⟩

/-- A step whose outcome 'aop' fixes. -/
theorem seff_of_aop {e : Eff} (hok : opOk o = true) (h : ∀ G : List D, (∀ t, .tmp t ∈ o.op.operands.toList → G.getD t .any = F.getD t .any) → G.length = F.length → aop P ops o G H (fun G' H' => G' = e.app o.dst G ∧ H' = H)) : SEff P H o F e :=
  fun K w a G Q hs hG hlen => aop_sound hs hok (h G hG hlen)

theorem aopD_eff (hs : St K w F H a.tmps) (hok : opOk o = true) {k : List D → Prop} (h : aopD P ops o F H k) : ∃ e : Eff, k (e.app o.dst F) ∧ (∀ s v, e.tk = some (s, v) → tk1 ops o = some s) ∧ SEff P H o F e := by
  have viaVal : ∀ h : valO P (rv F) H o.op (fun d => k (putF F o.dst d)), ∃ e : Eff, k (e.app o.dst F) ∧ (∀ s v, e.tk = some (s, v) → tk1 ops o = some s) ∧ SEff P H o F e := fun h => by
    obtain ⟨e, h1, h2, h3⟩ := seff_val hs hok h
    exact ⟨e, h1, fun s v hsv => (by rw [h2] at hsv; cases hsv), h3⟩
  have evG : ∀ (s : Nat), .tmp s ∈ o.op.operands.toList → ∀ G : List D, (∀ t, .tmp t ∈ o.op.operands.toList → G.getD t .any = F.getD t .any) → ev G (.tmp s) = ev F (.tmp s) := fun s hm G hG => hG s hm
  cases ho : o.op
  case move x =>
    cases x with
    | tmp s =>
      simp only [aopD, aop, ho] at h
      cases hd : o.dst with
      | none =>
        simp only [hd] at h
        refine ⟨⟨none, .any⟩, h, fun s v hsv => (by cases hsv), seff_of_aop (ops := ops) hok fun G hG hlen => ?_⟩
        simp only [aop, ho, hd]
        exact ⟨rfl, by trivial⟩
      | some d =>
        simp only [hd] at h
        by_cases ht : takes ops d = true
        · rw [if_pos ht] at h
          refine ⟨⟨some (s, rv F (.tmp s)), ev F (.tmp s)⟩, h, fun s' v hsv => ?_, seff_of_aop (ops := ops) hok fun G hG hlen => ?_⟩
          · simp only [Option.some.injEq, Prod.mk.injEq] at hsv
            simp [tk1, ho, hd, ht, hsv.1]
          · have he := evG s (by simp [ho, Op.operands]) G hG
            simp only [aop, ho, hd, if_pos ht, rv, he]
            exact ⟨rfl, by trivial⟩
        · rw [if_neg ht] at h
          refine ⟨⟨none, rv F (.tmp s)⟩, h, fun s v hsv => (by cases hsv), seff_of_aop (ops := ops) hok fun G hG hlen => ?_⟩
          have he := evG s (by simp [ho, Op.operands]) G hG
          simp only [aop, ho, hd, if_neg ht, rv, he]
          exact ⟨rfl, by trivial⟩
    | const c =>
      simp only [aopD, aop, ho] at h
      exact ⟨⟨none, ev F (.const c)⟩, h, fun s v hsv => (by cases hsv), seff_of_aop (ops := ops) hok fun G hG hlen => by simp only [aop, ho]; exact ⟨rfl, by trivial⟩⟩
    | global g =>
      simp only [aopD, aop, ho] at h
      exact ⟨⟨none, ev F (.global g)⟩, h, fun s v hsv => (by cases hsv), seff_of_aop (ops := ops) hok fun G hG hlen => by simp only [aop, ho]; exact ⟨rfl, by trivial⟩⟩
    | func f =>
      simp only [aopD, aop, ho] at h
      exact ⟨⟨none, ev F (.func f)⟩, h, fun s v hsv => (by cases hsv), seff_of_aop (ops := ops) hok fun G hG hlen => by simp only [aop, ho]; exact ⟨rfl, by trivial⟩⟩
  case assign x =>
    cases x with
    | tmp s =>
      simp only [aopD, aop, ho] at h
      cases hd : o.dst with
      | none =>
        simp only [hd] at h
        refine ⟨⟨none, .any⟩, h, fun s v hsv => (by cases hsv), seff_of_aop (ops := ops) hok fun G hG hlen => ?_⟩
        simp only [aop, ho, hd]
        exact ⟨rfl, by trivial⟩
      | some d =>
        simp only [hd] at h
        refine ⟨⟨some (s, rv F (.tmp s)), ev F (.tmp s)⟩, h, fun s' v hsv => ?_, seff_of_aop (ops := ops) hok fun G hG hlen => ?_⟩
        · simp only [Option.some.injEq, Prod.mk.injEq] at hsv
          simp [tk1, ho, hsv.1]
        · have he := evG s (by simp [ho, Op.operands]) G hG
          simp only [aop, ho, hd, rv, he]
          exact ⟨rfl, by trivial⟩
    | const c =>
      simp only [aopD, aop, ho] at h
      exact ⟨⟨none, ev F (.const c)⟩, h, fun s v hsv => (by cases hsv), seff_of_aop (ops := ops) hok fun G hG hlen => by simp only [aop, ho]; exact ⟨rfl, by trivial⟩⟩
    | global g =>
      simp only [aopD, aop, ho] at h
      exact ⟨⟨none, ev F (.global g)⟩, h, fun s v hsv => (by cases hsv), seff_of_aop (ops := ops) hok fun G hG hlen => by simp only [aop, ho]; exact ⟨rfl, by trivial⟩⟩
    | func f =>
      simp only [aopD, aop, ho] at h
      exact ⟨⟨none, ev F (.func f)⟩, h, fun s v hsv => (by cases hsv), seff_of_aop (ops := ops) hok fun G hG hlen => by simp only [aop, ho]; exact ⟨rfl, by trivial⟩⟩
  case extract x ix =>
    cases x with
    | tmp s =>
      simp only [aopD, aop, ho] at h
      cases hd : o.dst with
      | none => simp only [hd] at h
      | some d =>
        simp only [hd] at h
        split at h
        · rename_i d' ds hdd hev
          simp only [Option.some.injEq] at hdd
          subst hdd
          split at h
          · rename_i c hc
            obtain ⟨hF, hT⟩ := slot_of hs hev (by simp)
            obtain ⟨vs, hv, hl, hh⟩ := hs.slot s _ _ hF hT
            have hix : ix < vs.size := by rw [hl]; exact (List.getElem?_eq_some_iff.1 hc).1
            have hfact := (hh ix c _ hc (Array.getElem?_eq_getElem hix)).rep.fact
            by_cases ht : takes ops d = true
            · rw [if_pos ht] at h
              refine ⟨⟨some (s, .tup (ds.set ix c.view1)), c⟩, h hfact, fun s' v hsv => ?_, seff_of_aop (ops := ops) hok fun G hG hlen => ?_⟩
              · simp only [Option.some.injEq, Prod.mk.injEq] at hsv
                simp [tk1, ho, hd, ht, hsv.1]
              · have he := evG s (by simp [ho, Op.operands]) G hG
                rw [hev] at he
                simp only [aop, ho, hd, he, hc, if_pos ht]
                exact fun _ => ⟨rfl, by trivial⟩
            · rw [if_neg ht] at h
              refine ⟨⟨none, c.view1⟩, h hfact, fun s v hsv => (by cases hsv), seff_of_aop (ops := ops) hok fun G hG hlen => ?_⟩
              have he := evG s (by simp [ho, Op.operands]) G hG
              rw [hev] at he
              simp only [aop, ho, hd, he, hc, if_neg ht]
              exact fun _ => ⟨rfl, by trivial⟩
          · exact h.elim
        · exact h.elim
    | _ => exact viaVal (by simpa only [aopD, aop, ho] using h)
  case alloc t => simp only [aopD, ho] at h
  case box t x => simp only [aopD, ho] at h
  case store t x y => simp only [aopD, ho] at h
  case load t x => exact viaVal (by simpa only [aopD, ho] using h)
  case binOp bo t x y ty => exact viaVal (by simpa only [aopD, ho] using h)
  case call c =>
    cases hf : c.callee with
    | value f =>
      simp only [aopD, ho, hf] at h
      split at h
      · rename_i g caps hg
        obtain ⟨d, hc, hk⟩ := h
        have hops : o.op.operands = #[f] ++ c.args := by simp only [ho, Op.operands, Call.operands, hf]
        have hse : SEff P H o F ⟨none, d⟩ := seff_of_aop (ops := ops) hok fun G hG hlen => by
          have h1 : rv G f = .fn g caps := by rw [← hg]; unfold rv; rw [ev_agree hG (by rw [hops]; simp)]
          have h2 : c.args.toList.map (rv G) = c.args.toList.map (rv F) := List.map_congr_left fun x hx => by
            unfold rv
            rw [ev_agree hG (by rw [hops]; simp; exact .inr (by simpa using hx))]
          simp only [aop, ho, hf, h1, h2]
          exact hc.mono fun d' H' ⟨e1, e2⟩ _ => by subst e1 e2; exact ⟨rfl, by trivial⟩
        refine ⟨⟨none, d⟩, hk ?_, fun s v hsv => (by cases hsv), hse⟩
        -- what the call hands back obeys its bounds
        have hap : aop P ops o F H (fun _ _ => fact d.view) := by
          simp only [aop, ho, hf, hg]
          exact hc.mono fun d' H' ⟨e1, _⟩ hfct => by subst e1; exact hfct
        obtain ⟨a', w', F', H', K', hfct, _⟩ := wp_some (aop_sound (Q := fun _ _ _ => False) hs hok hap)
        exact hfct
      · exact h.elim
    | invoke r m => exact viaVal (by simpa only [aopD, aop, ho, hf] using h)
    | builtin b =>
      cases b
      case append =>
        simp only [aopD, aop, ho, hf] at h
        split at h
        · rename_i s x t u d hargs htys hd
          split at h
          · rename_i xs e sz bs hev hap
            have hops : o.op.operands = #[] ++ c.args := by simp only [ho, Op.operands, Call.operands, hf]
            have hms : .tmp s ∈ o.op.operands.toList := by rw [hops, two_of_list hargs]; simp
            have hmx : x ∈ o.op.operands.toList := by rw [hops, two_of_list hargs]; simp
            split at h
            · rename_i ys hy
              obtain ⟨h1, h2, h3, h4⟩ := h
              refine ⟨⟨some (s, .slc xs), .own (xs ++ ys)⟩, by rw [hd]; exact h4, fun s' v hsv => ?_, seff_of_aop (ops := ops) hok fun G hG hlen => ?_⟩
              · simp only [Option.some.injEq, Prod.mk.injEq] at hsv
                simp [tk1, ho, hf, hargs, hsv.1]
              · have he := evG s hms G hG
                have hx : rv G x = .slc ys := by rw [← hy]; unfold rv; rw [ev_agree hG hmx]
                rw [hev] at he
                simp only [aop, ho, hf, hargs, htys, hd, he, hap, hx]
                exact ⟨h1, h2, h3, rfl, by trivial⟩
            · rename_i l hy
              obtain ⟨h1, h2, h3, h4⟩ := h
              refine ⟨⟨some (s, .slc xs), .own (xs ++ l.map byteD)⟩, by rw [hd]; exact h4, fun s' v hsv => ?_, seff_of_aop (ops := ops) hok fun G hG hlen => ?_⟩
              · simp only [Option.some.injEq, Prod.mk.injEq] at hsv
                simp [tk1, ho, hf, hargs, hsv.1]
              · have he := evG s hms G hG
                have hx : rv G x = .str l := by rw [← hy]; unfold rv; rw [ev_agree hG hmx]
                rw [hev] at he
                simp only [aop, ho, hf, hargs, htys, hd, he, hap, hx]
                exact ⟨h1, h2, h3, rfl, by trivial⟩
            · exact h.elim
          · exact h.elim
        · exact h.elim
      all_goals exact viaVal (by simpa only [aopD, aop, ho, hf] using h)
  all_goals exact viaVal (by simpa only [aopD, aop, ho] using h)
end
end Go.Aw
