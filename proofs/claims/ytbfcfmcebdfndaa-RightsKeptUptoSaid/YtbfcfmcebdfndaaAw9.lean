/- Calls at the abstract state, and each operation's abstract step ('aop') with its proof. Conditions: those that stand in 'aop'. -/
import Derived.Test.YtbfcfmcebdfndaaAw8
namespace Go.Aw
open Go Go.RowKit
set_option linter.unusedVariables false
set_option linter.unusedSimpArgs false

/-! ### owners under other names, once more -/
section
variable {K K' : Nat → BK} {w : World}
theorem OwnAt.conv {o o' : Who} (h : ExtV K w K' w) (ho : ∀ b n, K b = .tok n o → K' b = .tok n o') {xs : List (List D)} {v : Value} (hr : OwnAt K w o xs v) : OwnAt K' w o' xs v := by
  rcases hr with hr | ⟨b, cap, sz, c, T, hv, hk, hh, hcs, hp, hl, hm, hb, hs, hrep⟩
  · exact .inl hr
  · refine .inr ⟨b, cap, sz, c, T, hv, ho b _ hk, hh, hcs, hp, hl, hm, hb, hs, fun i x hi j d hj => ?_⟩
    obtain ⟨u, e1, e2, e3⟩ := hrep i x hi j d hj
    exact ⟨u, e1, e2, e3.mono h⟩
theorem RepC.conv {o o' : Who} (h : ExtV K w K' w) (ho : ∀ b n, K b = .tok n o → K' b = .tok n o') {d : D} {v : Value} (hr : RepC K w o d v) : RepC K' w o' d v := by
  cases d <;> first | exact OwnAt.conv h ho hr | exact RepV.mono h hr
theorem RepO.conv {i i' : Nat} (h : ExtV K w K' w) (ho : ∀ b n j, K b = .tok n (.slot i j) → K' b = .tok n (.slot i' j)) {d : D} {v : Value} (hr : RepO K w i d v) : RepO K' w i' d v := by
  cases d <;> first
    | exact OwnAt.conv h (fun b n hb => ho b n 0 hb) hr
    | exact RepV.mono h hr
    | (obtain ⟨vs, hv, hl, hh⟩ := hr
       exact ⟨vs, hv, hl, fun j d u hd hu => (hh j d u hd hu).conv h (fun b n hb => ho b n _ hb)⟩)
theorem HRel.conv {H : AH} (h : ExtV K w K' w) (ho : ∀ b n c j, K b = .tok n (.cell c j) → K' b = .tok n (.cell c j)) (hr : HRel K w H) : HRel K' w H := by
  refine ⟨hr.nd, fun b o hbo => ?_⟩
  have := hr.ok b o hbo
  cases o with
  | cells cs =>
    obtain ⟨hk, c, T, hh, hc, hh2⟩ := this
    refine ⟨h.priv b hk, c, T, hh, hc, fun j d hd => ?_⟩
    obtain ⟨u, e1, e2, e3⟩ := hh2 j d hd
    exact ⟨u, e1, e2, e3.conv h (fun b' n hb' => ho b' n b j hb')⟩
end

/-! ### calls -/
def NoSlot (K : Nat → BK) : Prop := ∀ b n i j, K b ≠ .tok n (.slot i j)
def callOk (P : Program) (f : FuncId) : Bool := match P.funcs[f]? with
  | some fn => fn.body.isSome && !(fn.name == "runtime.NumGoroutine")
  | none => false
/-- The function f, called with these arguments in this heap, hands back what R says. -/
def ACall (P : Program) (f : FuncId) (args : List D) (H : AH) (R : D → AH → Prop) : Prop :=
  callOk P f = true ∧ ∀ (K : Nat → BK) (w : World) (vs : Array Value), KRel K w → NoSlot K → HRel K w H → vs.size = args.length → (∀ (j : Nat) (d : D) (v : Value), args[j]? = some d → vs[j]? = some v → RepV K w d v) →
    Calls P f vs w fun e w' => ∃ v d H' K', e = .returned v ∧ R d H' ∧ FK K w K' w' ∧ KRel K' w' ∧ HRel K' w' H' ∧ RepO K' w' 0 d v

theorem ACall.mono {P : Program} {f : FuncId} {args : List D} {H : AH} {R R' : D → AH → Prop} (h : ACall P f args H R) (hr : ∀ d H', R d H' → R' d H') : ACall P f args H R' :=
  ⟨h.1, fun K w vs h1 h2 h3 h4 h5 => (h.2 K w vs h1 h2 h3 h4 h5).mono fun e w' ⟨v, d, H', K', g1, g2, g3⟩ => ⟨v, d, H', K', g1, hr d H' g2, g3⟩⟩

def outerize : Who → Who
  | .slot _ _ => .outer
  | o => o
def Ecell : Who → Prop
  | .cell _ _ => True
  | _ => False
def backK (K K' : Nat → BK) (dst : Nat) : Nat → BK := fun b => match K' b with
  | .tok n (.slot _ j) => .tok n (.slot dst j)
  | .tok n .outer => K b
  | x => x

theorem relab_outer {K : Nat → BK} {b n : Nat} : relab outerize K b = .tok n .outer ↔ (K b = .tok n .outer ∨ ∃ i j, K b = .tok n (.slot i j)) := by
  constructor
  · intro h
    obtain ⟨o', h1, h2⟩ := relab_tok_inv h
    cases o' with
    | slot i j => exact .inr ⟨i, j, h1⟩
    | cell b j => simp [outerize] at h2
    | outer => exact .inl h1
  · rintro (h | ⟨i, j, h⟩) <;> rw [relab_tok h] <;> rfl

theorem back_keep {K K' : Nat → BK} {w w' : World} (hfk : FK (relab outerize K) w K' w') (dst : Nat) : Keep Ecell (fun _ => True) K w (backK K K' dst) w' ∧ ExtV K' w' (backK K K' dst) w' := by
  have hout : ∀ b n, K' b = .tok n .outer → ∃ o, K b = .tok n o ∧ (o = .outer ∨ ∃ i j, o = .slot i j) := fun b n h => by
    rcases relab_outer.1 (hfk.new b n h) with h1 | ⟨i, j, h1⟩
    · exact ⟨_, h1, .inl rfl⟩
    · exact ⟨_, h1, .inr ⟨i, j, rfl⟩⟩
  have htok : ∀ b m o', K' b = .tok m o' → ∃ o'', backK K K' dst b = .tok m o'' := fun b m o' h => by
    cases o' with
    | slot i j => exact ⟨_, by simp [backK, h]; rfl⟩
    | cell c j => exact ⟨_, by simp [backK, h]; rfl⟩
    | outer =>
      obtain ⟨o, h1, _⟩ := hout b m h
      exact ⟨o, by simp [backK, h, h1]⟩
  have hext : ExtV K' w' (backK K K' dst) w' :=
    ⟨rfl, rfl, rfl, Nat.le_refl _, fun b _ h => ⟨by simp [backK, h], rfl⟩, fun b n o h => by
      obtain ⟨o'', h1⟩ := htok b n o h
      exact ⟨n, o'', h1, Nat.le_refl _, fun _ _ => rfl⟩, fun b h => by simp [backK, h]⟩
  have hfull : ExtV K w (backK K K' dst) w' := ((relab_ext outerize K w).trans hfk.ext).trans hext
  refine ⟨⟨hfull, fun b n o hb ho => ?_, fun b n hb => ?_, fun b _ h => (h trivial).elim⟩, hext⟩
  · have ho1 : relab outerize K b = .tok n .outer := by
      cases o with
      | slot i j => exact relab_outer.2 (.inr ⟨i, j, hb⟩)
      | cell c j => exact (ho trivial).elim
      | outer => exact relab_outer.2 (.inl hb)
    obtain ⟨h1, h2⟩ := hfk.own b n ho1
    exact ⟨by simp [backK, h1, hb], h2⟩
  · unfold backK at hb
    split at hb
    · injection hb with _ h; cases h
    · exact hb
    · rename_i x h1 h2
      exact (h2 n hb).elim

theorem noslot_outer (K : Nat → BK) : NoSlot (relab outerize K) := fun b n i j h => by
  obtain ⟨o', _, h2⟩ := relab_tok_inv h
  cases o' <;> simp [outerize] at h2

/-! ### one operation -/
def OKd (k : List D → AH → Prop) (K : Nat → BK) (w : World) (ds : List Deferred) : Act → World → Prop :=
  fun a' w' => ∃ F' H' K', k F' H' ∧ FK K w K' w' ∧ St K' w' F' H' a'.tmps ∧ a'.defers = ds

def isTmp (x : Option Operand) (d : Nat) : Bool := match x with | some (.tmp t) => t == d | _ => false
/-- Is the slot d used up by an append, an assignment, a store. -/
def takes (ops : List Oper) (d : Nat) : Bool := ops.any fun o => match o.op with
  | .call c => (match c.callee with | .builtin .append => isTmp c.args[0]? d | _ => false)
  | .assign x => isTmp (some x) d
  | .store _ _ x => isTmp (some x) d
  | _ => false
def takesA (ops : List Oper) (d : Nat) : Bool := ops.any fun o => match o.op with
  | .call c => (match c.callee with | .builtin .append => isTmp c.args[0]? d | _ => false)
  | _ => false

def freshH : AH → Nat → Prop
  | [], _ => True
  | (c, _) :: r, b => b ≠ c ∧ freshH r b
def one1 : D → Bool
  | .tup _ => false
  | .agg _ => false
  | .any => false
  | _ => true

def isNilS : Operand → Bool
  | .const (.slice none 0 0) => true
  | _ => false
/-- A slice, compared with nil: what is not empty is not nil. -/
def nilcmp (P : Program) (op : BinOp) (t : TypeId) (x : D) (k : D → Prop) : Prop := match x with
  | .slc xs => (slI P t).isSome = true ∧ (match op with
    | .eql => (xs = [] → k (.bool true)) ∧ k (.bool false)
    | .neq => (xs = [] → k (.bool false)) ∧ k (.bool true)
    | _ => False)
  | _ => False

def aop (P : Program) (ops : List Oper) (o : Oper) (F : List D) (H : AH) (k : List D → AH → Prop) : Prop :=
  match o.op with
  | .move (.tmp s) => match o.dst with
    | some d => if takes ops d = true then k ((F.set s (rv F (.tmp s))).set d (ev F (.tmp s))) H else k (F.set d (rv F (.tmp s))) H
    | none => k F H
  | .assign (.tmp s) => match o.dst with
    | some d => k ((F.set s (rv F (.tmp s))).set d (ev F (.tmp s))) H
    | none => k F H
  | .move x => k (putF F o.dst (ev F x)) H
  | .assign x => k (putF F o.dst (ev F x)) H
  | .extract (.tmp s) ix => match o.dst, ev F (.tmp s) with
    | some d, .tup ds => match ds[ix]? with
      | some c => if takes ops d = true then fact c.view1 → k ((F.set s (.tup (ds.set ix c.view1))).set d c) H else fact c.view1 → k (F.set d c.view1) H
      | none => False
    | _, _ => False
  | .alloc t => match zcI P t with
    | some z => ∀ b, freshH H b → k (putF F o.dst (.ptr b 0)) ((b, .cells z) :: H)
    | none => False
  | .box t x => okc (rv F x) = true ∧ ∀ b, freshH H b → k (putF F o.dst (.ptr b 0)) ((b, .cells (cellsOf (rv F x))) :: H)
  | .store t a x => match tyI P t, rv F a with
    | some (true, n), .ptr b off => match getH H b with
      | some (.cells cs) => okc (rv F x) = true ∧ (cellsOf (rv F x)).length = n ∧ off + n ≤ cs.length ∧ k (putF F o.dst (.tup [])) (setH H b (.cells (cs.take off ++ (cellsOf (rv F x) ++ cs.drop (off + n)))))
      | none => False
    | some (false, n), .ptr b off => match getH H b with
      | some (.cells cs) => n = 1 ∧ off < cs.length ∧ one1 (ev F x) = true ∧ o.dst = none ∧ (match x with
        | .tmp s => k (F.set s (rv F x)) (setH H b (.cells (cs.set off (ev F x))))
        | _ => k F (setH H b (.cells (cs.set off (ev F x)))))
      | none => False
    | _, _ => False
  | .call c => match c.callee with
    | .value f => match rv F f with
      | .fn g caps => ACall P g (c.args.toList.map (rv F) ++ caps) H fun d H' => fact d.view → k (putF F o.dst d) H'
      | _ => False
    | .builtin .append => match c.args.toList, c.argTypes.toList, o.dst with
      | [.tmp s, x], [t, u], some d => match ev F (.tmp s), apI P t u with
        | .own xs, some (_, sz, bs) => match rv F x with
          | .slc ys => (∀ y ∈ xs, y.length = sz) ∧ (∀ y ∈ ys, y.length = sz) ∧ (xs.length + ys.length) * bs ≤ 140737488355328 ∧ k ((F.set s (.slc xs)).set d (.own (xs ++ ys))) H
          | .str l => sz = 1 ∧ (∀ y ∈ xs, y.length = 1) ∧ (xs.length + l.length) * bs ≤ 140737488355328 ∧ k ((F.set s (.slc xs)).set d (.own (xs ++ l.map byteD))) H
          | _ => False
        | _, _ => False
      | _, _, _ => False
    | _ => valO P (rv F) H o.op fun d => k (putF F o.dst d) H
  | .binOp bo t x y _ => if isNilS y = true then nilcmp P bo t (rv F x) fun d => k (putF F o.dst d) H else valO P (rv F) H o.op fun d => k (putF F o.dst d) H
  | .load t (.tmp s) => match o.dst with
    | some d => if takesA ops d = true then (match tyI P t, rv F (.tmp s) with
        | some (false, _), .ptr b off => match getH H b with
          | some (.cells cs) => match cs[off]? with
            | some (.own xs) => k (F.set d (.own xs)) (setH H b (.cells (cs.set off (.slc xs))))
            | _ => False
          | none => False
        | _, _ => False)
      else valO P (rv F) H o.op fun c => k (putF F o.dst c) H
    | none => valO P (rv F) H o.op fun c => k (putF F o.dst c) H
  | _ => valO P (rv F) H o.op fun d => k (putF F o.dst d) H

def opOk (o : Oper) : Bool := o.op.operands.all opndOk && (match o.op with | .call c => c.args.all opndOk | _ => true)

section
variable {P : Program} {ops : List Oper} {o : Oper} {F : List D} {H : AH} {k : List D → AH → Prop} {K : Nat → BK} {w : World} {a : Act} {Q : Exit → Act → World → Prop}

theorem freshH_of {b : Nat} : ∀ {H : AH}, (∀ x ∈ H, x.1 ≠ b) → freshH H b
  | [], _ => trivial
  | (c, _) :: r, h => ⟨fun e => h (c, _) (.head _) e.symm, freshH_of (fun x hx => h x (.tail _ hx))⟩

theorem HRel.lt (hk : KRel K w) (hh : HRel K w H) {b : Nat} {o : AO} (hm : (b, o) ∈ H) : b < w.heap.size := by
  have := hh.ok b o hm
  cases o with
  | cells cs =>
    obtain ⟨h1, _⟩ := this
    exact hk.lt_of (by rw [h1]; simp)

theorem HRel.fresh (hk : KRel K w) (hh : HRel K w H) : freshH H w.heap.size :=
  freshH_of fun x hx e => by have := hh.lt hk (b := x.1) (o := x.2) hx; omega

/-- A run that ends in a value, in wp. -/
theorem wp_of_value {v : Value} {w' : World} (hrun : (execOp a.eval o).run P w = .ok (.value v) w') {next : Act → World → Prop} (h : next (a.put o.dst v) w') : o.wp P a w next Q := by
  unfold Oper.wp
  rw [hrun, Oper.upon_value]
  exact h
theorem wp_of_skip {w' : World} (hrun : (execOp a.eval o).run P w = .ok .skip w') {next : Act → World → Prop} (h : next (a.put o.dst undef) w') : o.wp P a w next Q := by
  unfold Oper.wp
  rw [hrun, Oper.upon_skip]
  exact h
theorem put_defers (dst : Option Tmp) (v : Value) : (a.put dst v).defers = a.defers := by cases dst <;> rfl

theorem Pres.fk {K' : Nat → BK} {w' : World} (hk : KRel K w) (h : Pres K w K' w') : FK K w K' w' := (h.keep hk).fk (fun h => h)

theorem stp_val (hs : St K w F H a.tmps) (hok : opOk o = true) (h : valO P (rv F) H o.op fun d => k (putF F o.dst d) H) : o.wp P a w (OKd k K w a.defers) Q := by
  have hr := hs.ops (xs := o.op.operands) (by unfold opOk at hok; simp only [Bool.and_eq_true] at hok; exact hok.1)
  obtain ⟨d, hd, hy⟩ := valO_sound h ⟨K, w, a.eval, hs.krel, hs.hrel, hr⟩
  cases hdst : o.dst with
  | none =>
    obtain ⟨v, K', w', h1, h2, h3, h4⟩ := hy K w a.eval 0 hs.krel hs.hrel hr
    exact wp_of_value h1 ⟨_, H, K', hd, h2.fk hs.krel, hs.put (h2.keep hs.krel) (fun _ _ h => h) h3 (hs.hrel.pres hs.krel h2) o.dst (fun i hi => by rw [hdst] at hi; cases hi), put_defers _ _⟩
  | some t =>
    obtain ⟨v, K', w', h1, h2, h3, h4⟩ := hy K w a.eval t hs.krel hs.hrel hr
    exact wp_of_value h1 ⟨_, H, K', hd, h2.fk hs.krel, hs.put (h2.keep hs.krel) (fun _ _ h => h) h3 (hs.hrel.pres hs.krel h2) o.dst (fun i hi => by rw [hdst] at hi; obtain rfl := Option.some.inj hi; exact h4), put_defers _ _⟩

/-- Ownership goes from one place to another. -/
def mvφ (s d : Who) : Who → Who := fun o => if o = s then d else o
theorem mv_fk {s d : Who} (hs : s ≠ .outer) (hd : d ≠ .outer) : FK K w (relab (mvφ s d) K) w := by
  refine ⟨relab_ext _ K w, fun b n h => ⟨?_, rfl⟩, fun b n h => ?_⟩
  · rw [relab_tok h]
    simp [mvφ, Ne.symm hs]
  · obtain ⟨o', h1, h2⟩ := relab_tok_inv h
    unfold mvφ at h2
    split at h2
    · exact (hd h2).elim
    · rw [h1, h2]
theorem mv_hrel {s d : Who} (hs : ∀ b j, s ≠ .cell b j) (hh : HRel K w H) : HRel (relab (mvφ s d) K) w H :=
  hh.conv (relab_ext _ K w) (fun b n c j h => by rw [relab_tok h]; simp [mvφ, Ne.symm (hs c j)])
theorem mv_repO {s d : Who} {i : Nat} (hi : ∀ j, s ≠ .slot i j) {x : D} {v : Value} (h : RepO K w i x v) : RepO (relab (mvφ s d) K) w i x v :=
  h.conv (relab_ext _ K w) (fun b n j hb => by rw [relab_tok hb]; simp [mvφ, Ne.symm (hi j)])

/-- A slot's value goes to another slot, with what it owns; the slot that it came from is only read from then on. -/
theorem St.mv (hs : St K w F H a.tmps) (s d : Nat) : ∃ K', FK K w K' w ∧ St K' w ((F.set s (rv F (.tmp s))).set d (ev F (.tmp s))) H (a.put (some d) (a.eval (.tmp s))).tmps := by
  by_cases hlt : s < F.length
  · have hF : F[s]? = some (ev F (.tmp s)) := by simp [ev, List.getD, List.getElem?_eq_getElem hlt]
    have hts : s < a.tmps.size := by rw [hs.len]; exact hlt
    have hT : a.tmps[s]? = some (a.eval (.tmp s)) := by simp [Act.eval, Array.getElem?_eq_getElem hts]
    have hr := hs.slot s _ _ hF hT
    -- all the tokens of slot s go to slot d
    let φ : Who → Who := fun o => match o with
      | .slot i j => if i = s then .slot d j else .slot i j
      | x => x
    have hφ : Nice φ := ⟨fun _ _ => rfl, rfl⟩
    have hfk : FK K w (relab φ K) w := by
      refine ⟨relab_ext _ K w, fun b n h => ⟨relab_tok h, rfl⟩, fun b n h => ?_⟩
      obtain ⟨o', h1, h2⟩ := relab_tok_inv h
      cases o' with
      | slot i j => simp only [φ] at h2; split at h2 <;> cases h2
      | cell c j => cases h2
      | outer => exact h1
    refine ⟨relab φ K, hfk, relab_krel hs.krel, relab_hrel hφ hs.hrel, by simpa [Act.put] using hs.len, fun i x v hx hv => ?_⟩
    simp only [Act.put] at hv
    rcases getElem?_set_some hx with ⟨rfl, rfl, hl⟩ | ⟨hne, hx⟩
    · rw [Array.getElem?_setIfInBounds_self_of_lt (by rw [hs.len]; simpa using hl)] at hv
      obtain rfl := Option.some.inj hv
      exact relab_repO (fun j => by simp [φ]) hr
    · rw [Array.getElem?_setIfInBounds_ne hne] at hv
      rcases getElem?_set_some hx with ⟨rfl, rfl, hl⟩ | ⟨hne2, hx⟩
      · rw [hT] at hv
        obtain rfl := Option.some.inj hv
        exact (RepV.mono (relab_ext φ K w) hr.rep).viewO
      · exact relab_repO (fun j => by simp [φ, Ne.symm hne2]) (hs.slot i x v hx hv)
  · have hge : F.length ≤ s := Nat.le_of_not_lt hlt
    have hev : ev F (.tmp s) = .any := by simp [ev, List.getD, List.getElem?_eq_none hge]
    refine ⟨K, .refl K w, ?_⟩
    rw [List.set_eq_of_length_le hge, hev]
    exact hs.put (d := .any) ((Pres.refl K w).keep hs.krel) (fun _ _ h => h) hs.krel hs.hrel (some d) (fun i _ => RepV.viewO (.any _))

theorem stp_move (hs : St K w F H a.tmps) {s : Nat} (ho : o.op = .move (.tmp s)) (h : aop P ops o F H k) : o.wp P a w (OKd k K w a.defers) Q := by
  simp only [aop, ho] at h
  have hrun : (execOp a.eval o).run P w = .ok (.value (a.eval (.tmp s))) w := by simp [execOp, ho]
  cases hd : o.dst with
  | none =>
    simp only [hd] at h
    exact wp_of_value hrun ⟨F, H, K, h, .refl K w, by rw [hd]; exact hs, put_defers _ _⟩
  | some d =>
    simp only [hd] at h
    split at h
    · obtain ⟨K', h1, h2⟩ := hs.mv s d
      exact wp_of_value hrun ⟨_, H, K', h, h1, by rw [hd]; exact h2, put_defers _ _⟩
    · refine wp_of_value hrun ⟨_, H, K, h, .refl K w, ?_, put_defers _ _⟩
      rw [hd]
      exact hs.put ((Pres.refl K w).keep hs.krel) (fun _ _ h => h) hs.krel hs.hrel (some d) (fun i _ => (hs.rep (x := .tmp s) rfl).viewO)

theorem stp_assign (hs : St K w F H a.tmps) {s : Nat} (ho : o.op = .assign (.tmp s)) (h : aop P ops o F H k) : o.wp P a w (OKd k K w a.defers) Q := by
  simp only [aop, ho] at h
  have hrun : (execOp a.eval o).run P w = .ok (.value (a.eval (.tmp s))) w := by simp [execOp, ho]
  cases hd : o.dst with
  | none =>
    simp only [hd] at h
    exact wp_of_value hrun ⟨F, H, K, h, .refl K w, by rw [hd]; exact hs, put_defers _ _⟩
  | some d =>
    simp only [hd] at h
    obtain ⟨K', h1, h2⟩ := hs.mv s d
    exact wp_of_value hrun ⟨_, H, K', h, h1, by rw [hd]; exact h2, put_defers _ _⟩

theorem constD_repO (v : Value) (hv : constOk v = true) (i : Nat) : RepO K w i (constD v) v := by
  have h := constD_rep (K := K) (w := w) (o := .slot i 0) hv
  generalize constD v = d at h
  cases d <;> first | exact h | exact RepV.viewO h

theorem stp_const (hs : St K w F H a.tmps) {x : Operand} (hx : opndOk x = true) (hn : ∀ s, x ≠ .tmp s) (hrun : (execOp a.eval o).run P w = .ok (.value (a.eval x)) w) (h : k (putF F o.dst (ev F x)) H) : o.wp P a w (OKd k K w a.defers) Q := by
  refine wp_of_value hrun ⟨_, H, K, h, .refl K w, hs.put ((Pres.refl K w).keep hs.krel) (fun _ _ h => h) hs.krel hs.hrel o.dst (fun i _ => ?_), put_defers _ _⟩
  cases x with
  | tmp s => exact (hn s rfl).elim
  | const v => exact constD_repO v hx i
  | global g => exact RepV.viewO (.ptr g 0)
  | func f => exact RepV.viewO (hs.rep (x := .func f) rfl)
end
end Go.Aw
