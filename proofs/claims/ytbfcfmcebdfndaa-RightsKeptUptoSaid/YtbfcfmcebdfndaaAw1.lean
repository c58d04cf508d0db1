/- Abstract values over the machine's memory: what a value reads as, and that this is kept while memory only grows. Conditions: none; definitions and plain lemmas. -/
import Derived.WalkKit
import Derived.OpenShut
namespace Go.Aw
open Go Go.RowKit
set_option linter.unusedVariables false

/-- Abstract values, cell by cell. 'slc': a slice that is only read, its elements as lists of cells; 'own': a slice that its place may append to; 'ptr': a variable of the abstract heap; 'eptr': the address of an element of a slice, with what stands there. -/
inductive D where
  | int (k : IntKind) (n : Int)
  | bool (b : Bool)
  | str (s : List UInt8)
  | slc (xs : List (List D))
  | own (xs : List (List D))
  | ptr (b off : Nat)
  | eptr (cs : List D)
  | fn (f : FuncId) (caps : List D)
  | nilp
  | nilfn
  | mp (r : Option Nat)
  | agg (cs : List D)
  | tup (ds : List D)
  | any

instance : Inhabited D := ⟨.any⟩

def D.view1 : D → D
  | .own xs => .slc xs
  | d => d
def D.view : D → D
  | .tup ds => .tup (ds.map D.view1)
  | .own xs => .slc xs
  | d => d

/-- Who may append to a block. -/
inductive Who where
  | slot (i j : Nat)
  | cell (b j : Nat)
  | outer
  deriving DecidableEq
/-- A block: never written again; its first n cells never written again, the rest its owner's; a variable. -/
inductive BK where
  | imm
  | tok (n : Nat) (o : Who)
  | priv
  deriving DecidableEq

def big : Nat := 140737488355328
theorem big_eq : big = 140737488355328 := rfl

def Vis (K : Nat → BK) (w : World) (b off n : Nat) : Prop :=
  b < w.heap.size ∧ match K b with
    | .imm => True
    | .tok m _ => off + n ≤ m
    | .priv => False

def inR (k : IntKind) (n : Int) : Prop := (Lit.int k n).wf = true

inductive RepV (K : Nat → BK) (w : World) : D → Value → Prop where
  | int (k : IntKind) (n : Int) (h : inR k n) : RepV K w (.int k n) (.int k n)
  | bool (b : Bool) : RepV K w (.bool b) (.bool b)
  | str (s : List UInt8) (h : s.length ≤ big) : RepV K w (.str s) (.string ⟨⟨s⟩⟩)
  | slcnil (a : Option Addr) : RepV K w (.slc []) (.slice a 0 0)
  | slc (xs : List (List D)) (b off cap sz : Nat) (f : Nat → Nat → Value) (hb : xs.length ≤ big) (hc : xs.length ≤ cap) (hm : cap ≤ maxLen)
      (hs : ∀ (i : Nat) (x : List D), xs[i]? = some x → x.length = sz) (hv : Vis K w b off (xs.length * sz))
      (hcell : ∀ (i : Nat) (x : List D), xs[i]? = some x → ∀ (j : Nat) (d : D), x[j]? = some d → w.cell? ⟨b, off + (i * sz + j), none⟩ = some (f i j))
      (hone : ∀ (i : Nat) (x : List D), xs[i]? = some x → ∀ (j : Nat) (d : D), x[j]? = some d → (f i j).oneCell' = true)
      (hrep : ∀ (i : Nat) (x : List D), xs[i]? = some x → ∀ (j : Nat) (d : D), x[j]? = some d → RepV K w d (f i j)) :
      RepV K w (.slc xs) (.slice (some ⟨b, off, none⟩) xs.length cap)
  | ptr (b off : Nat) : RepV K w (.ptr b off) (.pointer (some ⟨b, off, none⟩))
  | eptr (cs : List D) (b off : Nat) (f : Nat → Value) (hv : Vis K w b off cs.length)
      (hcell : ∀ (j : Nat) (d : D), cs[j]? = some d → w.cell? ⟨b, off + j, none⟩ = some (f j))
      (hone : ∀ (j : Nat) (d : D), cs[j]? = some d → (f j).oneCell' = true)
      (hrep : ∀ (j : Nat) (d : D), cs[j]? = some d → RepV K w d (f j)) : RepV K w (.eptr cs) (.pointer (some ⟨b, off, none⟩))
  | fn (g : FuncId) (caps : List D) (vs : Array Value) (hl : vs.size = caps.length)
      (hrep : ∀ (j : Nat) (d : D) (v : Value), caps[j]? = some d → vs[j]? = some v → RepV K w d v) : RepV K w (.fn g caps) (.func (.func g) #[] vs)
  | nilp : RepV K w .nilp (.pointer none)
  | nilfn : RepV K w .nilfn .nilFunc
  | mp (r : Option Nat) : RepV K w (.mp r) (.map r)
  | agg (cs : List D) (vs : Array Value) (hl : vs.size = cs.length)
      (hone : ∀ (j : Nat) (v : Value), vs[j]? = some v → v.oneCell' = true)
      (hrep : ∀ (j : Nat) (d : D) (v : Value), cs[j]? = some d → vs[j]? = some v → RepV K w d v) : RepV K w (.agg cs) (.agg vs)
  | tup (cs : List D) (vs : Array Value) (hl : vs.size = cs.length)
      (hrep : ∀ (j : Nat) (d : D) (v : Value), cs[j]? = some d → vs[j]? = some v → RepV K w d v) : RepV K w (.tup cs) (.tuple vs)
  | any (v : Value) : RepV K w .any v

/-- What is only read stays. -/
structure ExtV (K : Nat → BK) (w : World) (K' : Nat → BK) (w' : World) : Prop where
  os : w'.os = w.os
  tape : w'.tape = w.tape
  output : w'.output = w.output
  size : w.heap.size ≤ w'.heap.size
  imm : ∀ b, b < w.heap.size → K b = .imm → K' b = .imm ∧ w'.heap[b]? = w.heap[b]?
  tok : ∀ b n o, K b = .tok n o → ∃ m o', K' b = .tok m o' ∧ n ≤ m ∧ ∀ j, j < n → w'.cell? ⟨b, j, none⟩ = w.cell? ⟨b, j, none⟩
  priv : ∀ b, K b = .priv → K' b = .priv

theorem ExtV.refl (K : Nat → BK) (w : World) : ExtV K w K w :=
  ⟨rfl, rfl, rfl, Nat.le_refl _, fun _ _ h => ⟨h, rfl⟩, fun b n o h => ⟨n, o, h, Nat.le_refl _, fun _ _ => rfl⟩, fun _ h => h⟩

theorem ExtV.trans {K K' K'' : Nat → BK} {w w' w'' : World} (h : ExtV K w K' w') (g : ExtV K' w' K'' w'') : ExtV K w K'' w'' := by
  refine ⟨g.os.trans h.os, g.tape.trans h.tape, g.output.trans h.output, Nat.le_trans h.size g.size, fun b hb hk => ?_, fun b n o hk => ?_, fun b hk => g.priv b (h.priv b hk)⟩
  · obtain ⟨h1, h2⟩ := h.imm b hb hk
    obtain ⟨g1, g2⟩ := g.imm b (Nat.lt_of_lt_of_le hb h.size) h1
    exact ⟨g1, g2.trans h2⟩
  · obtain ⟨m, o', h1, h2, h3⟩ := h.tok b n o hk
    obtain ⟨m', o'', g1, g2, g3⟩ := g.tok b m o' h1
    exact ⟨m', o'', g1, Nat.le_trans h2 g2, fun j hj => (g3 j (Nat.lt_of_lt_of_le hj h2)).trans (h3 j hj)⟩

theorem cell_of_block {w w' : World} {b : Nat} (h : w'.heap[b]? = w.heap[b]?) (o : Nat) : w'.cell? ⟨b, o, none⟩ = w.cell? ⟨b, o, none⟩ :=
  World.cell?_of_block (w := w) (a := ⟨b, o, none⟩) h

theorem ExtV.vis {K K' : Nat → BK} {w w' : World} (h : ExtV K w K' w') {b off n : Nat} (hv : Vis K w b off n) : Vis K' w' b off n := by
  obtain ⟨h1, h2⟩ := hv
  refine ⟨Nat.lt_of_lt_of_le h1 h.size, ?_⟩
  cases hk : K b with
  | imm => rw [(h.imm b h1 hk).1]; trivial
  | priv => rw [hk] at h2; exact h2.elim
  | tok m o =>
    rw [hk] at h2
    obtain ⟨m', o', e1, e2, _⟩ := h.tok b m o hk
    rw [e1]
    exact Nat.le_trans h2 e2

theorem ExtV.cell {K K' : Nat → BK} {w w' : World} (h : ExtV K w K' w') {b off n : Nat} (hv : Vis K w b off n) {j : Nat} (hj : j < n) : w'.cell? ⟨b, off + j, none⟩ = w.cell? ⟨b, off + j, none⟩ := by
  obtain ⟨h1, h2⟩ := hv
  cases hk : K b with
  | imm => exact cell_of_block (h.imm b h1 hk).2 _
  | priv => rw [hk] at h2; exact h2.elim
  | tok m o =>
    rw [hk] at h2
    obtain ⟨m', o', e1, e2, e3⟩ := h.tok b m o hk
    exact e3 _ (by have h2' : off + n ≤ m := h2; omega)

theorem idx_lt {xs : List (List D)} {sz i j : Nat} {x : List D} {d : D} (hi : xs[i]? = some x) (hl : x.length = sz) (hj : x[j]? = some d) : i * sz + j < xs.length * sz := by
  have h1 : i < xs.length := (List.getElem?_eq_some_iff.1 hi).1
  have h2 : j < sz := by have := (List.getElem?_eq_some_iff.1 hj).1; omega
  have h3 : (i + 1) * sz ≤ xs.length * sz := Nat.mul_le_mul_right _ h1
  rw [Nat.add_mul] at h3
  omega

theorem RepV.mono {K K' : Nat → BK} {w w' : World} (h : ExtV K w K' w') {d : D} {v : Value} (hr : RepV K w d v) : RepV K' w' d v := by
  induction hr with
  | int k n h => exact .int k n h
  | bool b => exact .bool b
  | str s h => exact .str s h
  | slcnil a => exact .slcnil a
  | slc xs b off cap sz f hb hc hm hs hv hcell hone hrep ih =>
    exact .slc xs b off cap sz f hb hc hm hs (h.vis hv) (fun i x hi j d hj => by rw [h.cell hv (idx_lt hi (hs i x hi) hj)]; exact hcell i x hi j d hj) hone ih
  | ptr b off => exact .ptr b off
  | eptr cs b off f hv hcell hone hrep ih =>
    exact .eptr cs b off f (h.vis hv) (fun j d hj => by rw [h.cell hv (List.getElem?_eq_some_iff.1 hj).1]; exact hcell j d hj) hone ih
  | fn g caps vs hl hrep ih => exact .fn g caps vs hl ih
  | nilp => exact .nilp
  | nilfn => exact .nilfn
  | mp r => exact .mp r
  | agg cs vs hl hone hrep ih => exact .agg cs vs hl hone ih
  | tup cs vs hl hrep ih => exact .tup cs vs hl ih
  | any v => exact .any v

/-- A slice that the place 'o' may append to. -/
def OwnAt (K : Nat → BK) (w : World) (o : Who) (xs : List (List D)) (v : Value) : Prop :=
  (xs = [] ∧ ∃ a, v = .slice a 0 0) ∨
  ∃ (b cap sz : Nat) (c : Array Value) (T : TypeId), v = .slice (some ⟨b, 0, none⟩) xs.length cap ∧ K b = .tok (xs.length * sz) o ∧ w.heap[b]? = some (.cells c T (0, 0)) ∧
    c.size = cap * sz ∧ 0 < xs.length ∧ xs.length ≤ cap ∧ cap ≤ maxLen ∧ xs.length ≤ big ∧ (∀ (i : Nat) (x : List D), xs[i]? = some x → x.length = sz) ∧
    ∀ (i : Nat) (x : List D), xs[i]? = some x → ∀ (j : Nat) (d : D), x[j]? = some d → ∃ u, c[i * sz + j]? = some u ∧ u.oneCell' = true ∧ RepV K w d u

theorem cell_at {w : World} {b o : Nat} {c : Array Value} {T : TypeId} {fz : Nat × Nat} (h : w.heap[b]? = some (.cells c T fz)) : w.cell? ⟨b, o, none⟩ = c[o]? := by
  simp [World.cell?, h]

theorem OwnAt.rep {K : Nat → BK} {w : World} {o : Who} {xs : List (List D)} {v : Value} (h : OwnAt K w o xs v) : RepV K w (.slc xs) v := by
  rcases h with ⟨rfl, a, rfl⟩ | ⟨b, cap, sz, c, T, rfl, hk, hh, hcs, hp, hl, hm, hb, hs, hrep⟩
  · exact .slcnil a
  · refine .slc xs b 0 cap sz (fun i j => (c[i * sz + j]?).getD default) hb hl hm hs ⟨(Array.getElem?_eq_some_iff.1 hh).1, ?_⟩ ?_ ?_ ?_
    · rw [hk]; simp
    · intro i x hi j d hj
      obtain ⟨u, h1, _, _⟩ := hrep i x hi j d hj
      rw [Nat.zero_add, cell_at hh, h1]; rfl
    · intro i x hi j d hj
      obtain ⟨u, h1, h2, _⟩ := hrep i x hi j d hj
      rw [h1]; exact h2
    · intro i x hi j d hj
      obtain ⟨u, h1, _, h3⟩ := hrep i x hi j d hj
      rw [h1]; exact h3

/-- What stands at a place that may own. -/
def RepC (K : Nat → BK) (w : World) (o : Who) : D → Value → Prop
  | .own xs, v => OwnAt K w o xs v
  | d, v => RepV K w d v

def RepO (K : Nat → BK) (w : World) (i : Nat) : D → Value → Prop
  | .own xs, v => OwnAt K w (.slot i 0) xs v
  | .tup ds, v => ∃ vs : Array Value, v = .tuple vs ∧ vs.size = ds.length ∧ ∀ (j : Nat) (d : D) (u : Value), ds[j]? = some d → vs[j]? = some u → RepC K w (.slot i (j + 1)) d u
  | d, v => RepV K w d v

theorem RepC.rep {K : Nat → BK} {w : World} {o : Who} {d : D} {v : Value} (h : RepC K w o d v) : RepV K w d.view1 v := by
  cases d <;> first | exact OwnAt.rep h | exact h

theorem RepO.rep {K : Nat → BK} {w : World} {i : Nat} {d : D} {v : Value} (h : RepO K w i d v) : RepV K w d.view v := by
  cases d <;> first
    | exact OwnAt.rep h
    | exact h
    | (obtain ⟨vs, rfl, hl, hr⟩ := h
       refine .tup _ vs (by simpa using hl) fun j d u hd hu => ?_
       rw [List.getElem?_map, Option.map_eq_some_iff] at hd
       obtain ⟨d', h1, rfl⟩ := hd
       exact (hr j d' u h1 hu).rep)

theorem RepV.repC {K : Nat → BK} {w : World} {o : Who} {d : D} {v : Value} (hn : ∀ xs, d ≠ .own xs) (h : RepV K w d v) : RepC K w o d v := by
  cases d <;> first | exact h | exact (hn _ rfl).elim

/-- No value that may only be read is an owner's. -/
theorem RepV.not_own {K : Nat → BK} {w : World} {xs : List (List D)} {v : Value} (h : RepV K w (.own xs) v) : False := by cases h

theorem RepV.viewO {K : Nat → BK} {w : World} {i : Nat} {d : D} {v : Value} (h : RepV K w d v) : RepO K w i d v := by
  cases d <;> first
    | exact h
    | exact h.not_own.elim
    | (cases h with
       | tup _ vs hl hr => exact ⟨vs, rfl, hl, fun j d u hd hu => (hr j d u hd hu).repC (fun xs e => by subst e; exact (hr j _ u hd hu).not_own)⟩)

end Go.Aw
