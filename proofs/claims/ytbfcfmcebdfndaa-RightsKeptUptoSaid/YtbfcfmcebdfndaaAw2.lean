/- The abstract heap, what keeps it, and the operations that only make a value: each run of such an operation is what its abstract law says. Conditions: those that stand in 'val'. -/
import Derived.Test.YtbfcfmcebdfndaaAw1
import Derived.WalkLawsBesides
namespace Go.Aw
open Go Go.RowKit
set_option linter.unusedVariables false

/-- A variable or a map of the abstract heap. -/
inductive AO where
  | cells (cs : List D)
abbrev AH := List (Nat × AO)

def AO.at_ (K : Nat → BK) (w : World) (b : Nat) : AO → Prop
  | .cells cs => K b = .priv ∧ ∃ (c : Array Value) (T : TypeId), w.heap[b]? = some (.cells c T (0, 0)) ∧ c.size = cs.length ∧
      ∀ (j : Nat) (d : D), cs[j]? = some d → ∃ u, c[j]? = some u ∧ u.oneCell' = true ∧ RepC K w (.cell b j) d u

structure HRel (K : Nat → BK) (w : World) (H : AH) : Prop where
  nd : (H.map (·.1)).Nodup
  ok : ∀ b o, (b, o) ∈ H → AO.at_ K w b o

def KRel (K : Nat → BK) (w : World) : Prop := ∀ b, w.heap.size ≤ b → K b = .imm

/-- Nothing but new blocks. -/
structure Pres (K : Nat → BK) (w : World) (K' : Nat → BK) (w' : World) : Prop where
  os : w'.os = w.os
  tape : w'.tape = w.tape
  output : w'.output = w.output
  size : w.heap.size ≤ w'.heap.size
  old : ∀ b, b < w.heap.size → K' b = K b ∧ w'.heap[b]? = w.heap[b]?
  new : ∀ b n, K' b = .tok n .outer → K b = .tok n .outer

/-- What stays but for the places in E and the variables in B. -/
structure Keep (E : Who → Prop) (B : Nat → Prop) (K : Nat → BK) (w : World) (K' : Nat → BK) (w' : World) : Prop where
  ext : ExtV K w K' w'
  own : ∀ b n o, K b = .tok n o → ¬ E o → K' b = .tok n o ∧ w'.heap[b]? = w.heap[b]?
  new : ∀ b n, K' b = .tok n .outer → K b = .tok n .outer
  box : ∀ b, K b = .priv → ¬ B b → w'.heap[b]? = w.heap[b]?

def noE : Who → Prop := fun _ => False
def noB : Nat → Prop := fun _ => False

theorem KRel.lt_of {K : Nat → BK} {w : World} (h : KRel K w) {b : Nat} (hb : K b ≠ .imm) : b < w.heap.size := by
  rcases Nat.lt_or_ge b w.heap.size with h' | h'
  · exact h'
  · exact (hb (h b h')).elim

theorem Pres.refl (K : Nat → BK) (w : World) : Pres K w K w := ⟨rfl, rfl, rfl, Nat.le_refl _, fun _ _ => ⟨rfl, rfl⟩, fun _ _ h => h⟩

theorem Pres.drew {K K' : Nat → BK} {w w' : World} (h : Pres K w K' w') : Pres K w K' w'.drew := ⟨h.os, h.tape, h.output, h.size, h.old, h.new⟩

theorem Pres.keep {K K' : Nat → BK} {w w' : World} (hk : KRel K w) (h : Pres K w K' w') : Keep noE noB K w K' w' := by
  refine ⟨⟨h.os, h.tape, h.output, h.size, fun b hb hi => ⟨(h.old b hb).1.trans hi, (h.old b hb).2⟩, fun b n o hb => ?_, fun b hb => ?_⟩, fun b n o hb _ => ?_, h.new, fun b hb _ => ?_⟩
  · have hlt := hk.lt_of (b := b) (by rw [hb]; simp)
    exact ⟨n, o, (h.old b hlt).1.trans hb, Nat.le_refl _, fun j _ => cell_of_block (h.old b hlt).2 j⟩
  · exact (h.old b (hk.lt_of (b := b) (by rw [hb]; simp))).1.trans hb
  · have hlt := hk.lt_of (b := b) (by rw [hb]; simp)
    exact ⟨(h.old b hlt).1.trans hb, (h.old b hlt).2⟩
  · exact (h.old b (hk.lt_of (b := b) (by rw [hb]; simp))).2

theorem OwnAt.keep {E : Who → Prop} {B : Nat → Prop} {K K' : Nat → BK} {w w' : World} (h : Keep E B K w K' w') {o : Who} (he : ¬ E o) {xs : List (List D)} {v : Value} (ho : OwnAt K w o xs v) : OwnAt K' w' o xs v := by
  rcases ho with ho | ⟨b, cap, sz, c, T, hv, hk, hh, hcs, hp, hl, hm, hb, hs, hrep⟩
  · exact .inl ho
  · obtain ⟨h1, h2⟩ := h.own b _ o hk he
    refine .inr ⟨b, cap, sz, c, T, hv, h1, h2.trans hh, hcs, hp, hl, hm, hb, hs, fun i x hi j d hj => ?_⟩
    obtain ⟨u, e1, e2, e3⟩ := hrep i x hi j d hj
    exact ⟨u, e1, e2, e3.mono h.ext⟩

theorem RepC.keep {E : Who → Prop} {B : Nat → Prop} {K K' : Nat → BK} {w w' : World} (h : Keep E B K w K' w') {o : Who} (he : ¬ E o) {d : D} {v : Value} (hr : RepC K w o d v) : RepC K' w' o d v := by
  cases d <;> first | exact OwnAt.keep h he hr | exact RepV.mono h.ext hr

theorem RepO.keep {E : Who → Prop} {B : Nat → Prop} {K K' : Nat → BK} {w w' : World} (h : Keep E B K w K' w') {i : Nat} (he : ∀ j, ¬ E (.slot i j)) {d : D} {v : Value} (hr : RepO K w i d v) : RepO K' w' i d v := by
  cases d <;> first
    | exact OwnAt.keep h (he 0) hr
    | exact RepV.mono h.ext hr
    | (obtain ⟨vs, hv, hl, hh⟩ := hr
       exact ⟨vs, hv, hl, fun j d u hd hu => (hh j d u hd hu).keep h (he _)⟩)

theorem AO.keep {E : Who → Prop} {B : Nat → Prop} {K K' : Nat → BK} {w w' : World} (h : Keep E B K w K' w') {b : Nat} (hb : ¬ B b) (he : ∀ j, ¬ E (.cell b j)) {o : AO} (ho : o.at_ K w b) : o.at_ K' w' b := by
  cases o with
  | cells cs =>
    obtain ⟨hk, c, T, hh, hc, hr⟩ := ho
    refine ⟨h.ext.priv b hk, c, T, (h.box b hk hb).trans hh, hc, fun j d hd => ?_⟩
    obtain ⟨u, e1, e2, e3⟩ := hr j d hd
    exact ⟨u, e1, e2, e3.keep h (he j)⟩

theorem HRel.keep {E : Who → Prop} {B : Nat → Prop} {K K' : Nat → BK} {w w' : World} {H : AH} (h : Keep E B K w K' w') (hb : ∀ b o, (b, o) ∈ H → ¬ B b ∧ ∀ j, ¬ E (.cell b j)) (hr : HRel K w H) : HRel K' w' H :=
  ⟨hr.nd, fun b o ho => AO.keep h (hb b o ho).1 (hb b o ho).2 (hr.ok b o ho)⟩

theorem HRel.pres {K K' : Nat → BK} {w w' : World} {H : AH} (hk : KRel K w) (h : Pres K w K' w') (hr : HRel K w H) : HRel K' w' H :=
  hr.keep (h.keep hk) (fun _ _ _ => ⟨fun h => h, fun _ h => h⟩)

/-! ### new blocks -/
def setK (K : Nat → BK) (b : Nat) (x : BK) : Nat → BK := fun c => if c = b then x else K c
theorem setK_same (K : Nat → BK) (b : Nat) (x : BK) : setK K b x b = x := by simp [setK]
theorem setK_other (K : Nat → BK) {b c : Nat} (x : BK) (h : c ≠ b) : setK K b x c = K c := by simp [setK, h]

theorem pres_alloc {K : Nat → BK} {w : World} (hk : KRel K w) (o : Obj) {x : BK} (hx : ∀ n, x ≠ .tok n .outer) : Pres K w (setK K w.heap.size x) (w.alloc o) ∧ KRel (setK K w.heap.size x) (w.alloc o) := by
  refine ⟨⟨rfl, rfl, rfl, by simp, fun b hb => ⟨setK_other K x (by omega), Below.heap_alloc w o b hb⟩, fun b n hb => ?_⟩, fun b hb => ?_⟩
  · by_cases e : b = w.heap.size
    · subst e; rw [setK_same] at hb; exact (hx n hb).elim
    · rwa [setK_other K x e] at hb
  · simp only [World.size_alloc] at hb
    rw [setK_other K x (by omega)]
    exact hk b (by omega)

theorem pres_alloc_imm {K : Nat → BK} {w : World} (hk : KRel K w) (o : Obj) : Pres K w K (w.alloc o) ∧ KRel K (w.alloc o) :=
  ⟨⟨rfl, rfl, rfl, by simp, fun b hb => ⟨rfl, Below.heap_alloc w o b hb⟩, fun _ _ h => h⟩, fun b hb => hk b (by simp at hb; omega)⟩

theorem KRel.drew {K : Nat → BK} {w : World} (hk : KRel K w) : KRel K w.drew := hk

/-! ### what is asked of the tables -/
def isAggB (P : Program) (t : TypeId) : Bool := match P.underlying t with | some (.struct _) | some (.array _ _) => true | _ => false
/-- Is it a struct or an array; how many cells. -/
def tyI (P : Program) (t : TypeId) : Option (Bool × Nat) :=
  match P.underlying t, P.info? t with
  | some _, some i => some (isAggB P t, i.size)
  | _, _ => none
/-- A slice's element type and its cells (more than none). -/
def slI (P : Program) (t : TypeId) : Option (TypeId × Nat) :=
  match P.underlying t with
  | some (.slice e) => match P.info? e with
    | some i => if 0 < i.size then some (e, i.size) else none
    | none => none
  | _ => none
def arI (P : Program) (t : TypeId) : Option (Nat × Nat) :=
  match P.underlying t with
  | some (.array n e) => match P.info? e with
    | some i => if 0 < i.size ∧ 1 < n then some (n, i.size) else none
    | none => none
  | _ => none
/-- A field's offset, whether it is a struct or an array, its cells. -/
def fldI (P : Program) (t : TypeId) (f : Nat) : Option (Nat × Bool × Nat) :=
  match P.underlying t with
  | some (.struct fs) => match fs[f]? with
    | some x => match tyI P x.type with
      | some (b, n) => if 0 < n then some (x.offset, b, n) else none
      | none => none
    | none => none
  | _ => none

theorem tyI_spec {P : Program} {t : TypeId} {b : Bool} {n : Nat} (h : tyI P t = some (b, n)) : (∀ w : World, (isAgg t).run P w = .ok b w) ∧ ∀ w : World, (sizeOf t).run P w = .ok n w := by
  unfold tyI at h
  cases hu : P.underlying t with
  | none => simp [hu] at h
  | some d =>
    cases hi : P.info? t with
    | none => simp [hu, hi] at h
    | some i =>
      simp only [hu, hi, Option.some.injEq, Prod.mk.injEq] at h
      obtain ⟨rfl, rfl⟩ := h
      constructor
      · intro w
        simp only [isAgg, Sem.run_bind, run_underlying hu, Result.andThen_ok, isAggB, hu]
        cases d <;> rfl
      · intro w
        simp [sizeOf, typeInfo, hi]

theorem slI_spec {P : Program} {t e : TypeId} {n : Nat} (h : slI P t = some (e, n)) : P.underlying t = some (.slice e) ∧ 0 < n ∧ ∃ i, P.info? e = some i ∧ i.size = n := by
  unfold slI at h
  split at h
  · rename_i e' hu
    split at h
    · rename_i i hi
      split at h
      · rename_i hp
        simp only [Option.some.injEq, Prod.mk.injEq] at h
        obtain ⟨rfl, rfl⟩ := h
        exact ⟨hu, hp, i, hi, rfl⟩
      · cases h
    · cases h
  · cases h

theorem arI_spec {P : Program} {t : TypeId} {m n : Nat} (h : arI P t = some (m, n)) : ∃ e, P.underlying t = some (.array m e) ∧ 0 < n ∧ 1 < m ∧ ∃ i, P.info? e = some i ∧ i.size = n := by
  unfold arI at h
  split at h
  · rename_i m' e' hu
    split at h
    · rename_i i hi
      split at h
      · rename_i hp
        simp only [Option.some.injEq, Prod.mk.injEq] at h
        obtain ⟨rfl, rfl⟩ := h
        exact ⟨e', hu, hp.1, hp.2, i, hi, rfl⟩
      · cases h
    · cases h
  · cases h

theorem fldI_spec {P : Program} {t : TypeId} {f off n : Nat} {b : Bool} (h : fldI P t f = some (off, b, n)) : ∃ fs x, P.underlying t = some (.struct fs) ∧ fs[f]? = some x ∧ x.offset = off ∧ tyI P x.type = some (b, n) ∧ 0 < n := by
  unfold fldI at h
  split at h
  · rename_i fs hu
    split at h
    · rename_i x hx
      split at h
      · rename_i b' n' hi
        split at h
        · rename_i hp
          simp only [Option.some.injEq, Prod.mk.injEq] at h
          obtain ⟨rfl, rfl, rfl⟩ := h
          exact ⟨fs, x, hu, hx, rfl, hi, hp⟩
        · cases h
      · cases h
    · cases h
  · cases h

/-! ### one operation that makes a value -/
/-- Whatever the memory: the operation yields a value that reads as d, and makes new blocks alone. -/
def Yields (P : Program) (o : Oper) (H : AH) (ρ : Operand → D) (d : D) : Prop :=
  ∀ (K : Nat → BK) (w : World) (σ : Operand → Value) (i : Nat), KRel K w → HRel K w H → (∀ x ∈ o.op.operands.toList, RepV K w (ρ x) (σ x)) →
    ∃ v K' w', (execOp σ o).run P w = .ok (.value v) w' ∧ Pres K w K' w' ∧ KRel K' w' ∧ RepO K' w' i d v

theorem yields_same {P : Program} {o : Oper} {H : AH} {ρ : Operand → D} {d : D}
    (h : ∀ (K : Nat → BK) (w : World) (σ : Operand → Value), KRel K w → HRel K w H → (∀ x ∈ o.op.operands.toList, RepV K w (ρ x) (σ x)) → ∃ v, (execOp σ o).run P w = .ok (.value v) w ∧ RepV K w d v) : Yields P o H ρ d := by
  intro K w σ i hk hh hr
  obtain ⟨v, h1, h2⟩ := h K w σ hk hh hr
  exact ⟨v, K, w, h1, .refl K w, hk, h2.viewO⟩

end Go.Aw
