/- The operations that only make a value, each with its abstract law ('valO') and the proof that every run is as the law says. Conditions: those that stand in 'valO'. -/
import Derived.Test.YtbfcfmcebdfndaaAw2
namespace Go.Aw
open Go Go.RowKit
set_option linter.unusedVariables false

/-! ### inversion -/
section
variable {K : Nat → BK} {w : World} {v : Value}
theorem RepV.int_inv {k : IntKind} {n : Int} (h : RepV K w (.int k n) v) : v = .int k n ∧ inR k n := by cases h with | int _ _ h => exact ⟨rfl, h⟩
theorem RepV.bool_inv {b : Bool} (h : RepV K w (.bool b) v) : v = .bool b := by cases h; rfl
theorem RepV.str_inv {s : List UInt8} (h : RepV K w (.str s) v) : v = .string ⟨⟨s⟩⟩ ∧ s.length ≤ big := by cases h with | str _ h => exact ⟨rfl, h⟩
theorem RepV.ptr_inv {b off : Nat} (h : RepV K w (.ptr b off) v) : v = .pointer (some ⟨b, off, none⟩) := by cases h; rfl
theorem RepV.eptr_inv {cs : List D} (h : RepV K w (.eptr cs) v) : ∃ (b off : Nat) (f : Nat → Value), v = .pointer (some ⟨b, off, none⟩) ∧ Vis K w b off cs.length ∧
    (∀ (j : Nat) (d : D), cs[j]? = some d → w.cell? ⟨b, off + j, none⟩ = some (f j)) ∧ (∀ (j : Nat) (d : D), cs[j]? = some d → (f j).oneCell' = true) ∧ (∀ (j : Nat) (d : D), cs[j]? = some d → RepV K w d (f j)) := by
  cases h with | eptr _ b off f hv hc ho hr => exact ⟨b, off, f, rfl, hv, hc, ho, hr⟩
theorem RepV.fn_inv {g : FuncId} {caps : List D} (h : RepV K w (.fn g caps) v) : ∃ vs : Array Value, v = .func (.func g) #[] vs ∧ vs.size = caps.length ∧
    ∀ (j : Nat) (d : D) (u : Value), caps[j]? = some d → vs[j]? = some u → RepV K w d u := by cases h with | fn _ _ vs hl hr => exact ⟨vs, rfl, hl, hr⟩
theorem RepV.agg_inv {cs : List D} (h : RepV K w (.agg cs) v) : ∃ vs : Array Value, v = .agg vs ∧ vs.size = cs.length ∧ (∀ (j : Nat) (u : Value), vs[j]? = some u → u.oneCell' = true) ∧
    ∀ (j : Nat) (d : D) (u : Value), cs[j]? = some d → vs[j]? = some u → RepV K w d u := by cases h with | agg _ vs hl ho hr => exact ⟨vs, rfl, hl, ho, hr⟩
theorem RepV.tup_inv {cs : List D} (h : RepV K w (.tup cs) v) : ∃ vs : Array Value, v = .tuple vs ∧ vs.size = cs.length ∧
    ∀ (j : Nat) (d : D) (u : Value), cs[j]? = some d → vs[j]? = some u → RepV K w d u := by cases h with | tup _ vs hl hr => exact ⟨vs, rfl, hl, hr⟩
/-- A slice that is read, whole. -/
theorem RepV.slc_inv {xs : List (List D)} (h : RepV K w (.slc xs) v) : (xs = [] ∧ ∃ a, v = .slice a 0 0) ∨ ∃ (b off cap sz : Nat) (f : Nat → Nat → Value), v = .slice (some ⟨b, off, none⟩) xs.length cap ∧
    xs.length ≤ cap ∧ cap ≤ maxLen ∧ (∀ (i : Nat) (x : List D), xs[i]? = some x → x.length = sz) ∧ Vis K w b off (xs.length * sz) ∧
    (∀ (i : Nat) (x : List D), xs[i]? = some x → ∀ (j : Nat) (d : D), x[j]? = some d → w.cell? ⟨b, off + (i * sz + j), none⟩ = some (f i j)) ∧
    (∀ (i : Nat) (x : List D), xs[i]? = some x → ∀ (j : Nat) (d : D), x[j]? = some d → (f i j).oneCell' = true) ∧
    (∀ (i : Nat) (x : List D), xs[i]? = some x → ∀ (j : Nat) (d : D), x[j]? = some d → RepV K w d (f i j)) := by
  cases h with
  | slcnil a => exact .inl ⟨rfl, a, rfl⟩
  | slc _ b off cap sz f hb hc hm hs hv hcell hone hrep => exact .inr ⟨b, off, cap, sz, f, rfl, hc, hm, hs, hv, hcell, hone, hrep⟩
theorem RepV.slc_form {xs : List (List D)} (h : RepV K w (.slc xs) v) : ∃ a cap, v = .slice a xs.length cap ∧ xs.length ≤ cap ∧ cap ≤ maxLen := by
  rcases h.slc_inv with ⟨rfl, a, rfl⟩ | ⟨b, off, cap, sz, f, rfl, hc, hm, _⟩
  · exact ⟨a, 0, rfl, Nat.le_refl _, Nat.zero_le _⟩
  · exact ⟨_, cap, rfl, hc, hm⟩
theorem RepV.slc_big {xs : List (List D)} (h : RepV K w (.slc xs) v) : xs.length ≤ big := by
  cases h with
  | slcnil a => exact Nat.zero_le _
  | slc _ b off cap sz f hb hc hm hs hv hcell hone hrep => exact hb
end

/-- What every value that is represented obeys. -/
def fact : D → Prop
  | .int k n => inR k n
  | .str s => s.length ≤ big
  | .slc xs => xs.length ≤ big
  | .own xs => xs.length ≤ big
  | _ => True
theorem RepV.fact {K : Nat → BK} {w : World} {d : D} {v : Value} (h : RepV K w d v) : fact d := by
  cases d <;> first
    | exact trivial
    | exact h.int_inv.2
    | exact h.str_inv.2
    | exact h.slc_big
    | exact h.not_own.elim

/-! ### constants -/
def constD : Value → D
  | .int k n => .int k n
  | .bool b => .bool b
  | .string s => .str s.data.toList
  | .slice none 0 0 => .own []
  | .pointer none => .nilp
  | .nilFunc => .nilfn
  | .map none => .mp none
  | _ => .any
def constOk : Value → Bool
  | .int k n => (Lit.int k n).wf
  | .string s => decide (s.size ≤ 140737488355328)
  | _ => true
theorem constD_rep {K : Nat → BK} {w : World} {o : Who} {v : Value} (h : constOk v = true) : RepC K w o (constD v) v := by
  unfold constD
  split <;> first
    | exact .bool _
    | exact .inl ⟨rfl, none, rfl⟩
    | exact .nilp
    | exact .nilfn
    | exact .mp _
    | exact .any _
    | exact .int _ _ (by simpa [constOk, inR] using h)
    | exact .str _ (by simpa [constOk, big] using h)

/-! ### cells of a value -/
def cellsOf : D → List D
  | .agg cs => cs
  | d => [d]
def okc : D → Bool
  | .any => false
  | .tup _ => false
  | .own _ => false
  | _ => true
theorem cells_rep {K : Nat → BK} {w : World} {d : D} {v : Value} (h : RepV K w d v) (ho : okc d = true) :
    v.cells.size = (cellsOf d).length ∧ (∀ (j : Nat) (u : Value), v.cells[j]? = some u → u.oneCell' = true) ∧ ∀ (j : Nat) (d' : D) (u : Value), (cellsOf d)[j]? = some d' → v.cells[j]? = some u → RepV K w d' u := by
  have one : ∀ (d : D) (v : Value), RepV K w d v → v.cells = #[v] → v.oneCell' = true → v.cells.size = [d].length ∧ (∀ (j : Nat) (u : Value), v.cells[j]? = some u → u.oneCell' = true) ∧
      ∀ (j : Nat) (d' : D) (u : Value), [d][j]? = some d' → v.cells[j]? = some u → RepV K w d' u := by
    intro d v hr hc h1
    rw [hc]
    refine ⟨rfl, fun j u hu => ?_, fun j d' u hd hu => ?_⟩
    · cases j with
      | zero => simp at hu; exact hu ▸ h1
      | succ j => simp at hu
    · cases j with
      | zero => simp at hd hu; exact hd ▸ hu ▸ hr
      | succ j => simp at hd
  cases h with
  | agg cs vs hl hone hrep => exact ⟨hl, hone, hrep⟩
  | tup => simp [okc] at ho
  | any => simp [okc] at ho
  | int k n h => exact one _ _ (.int k n h) rfl rfl
  | bool b => exact one _ _ (.bool b) rfl rfl
  | str s h => exact one _ _ (.str s h) rfl rfl
  | slcnil a => exact one _ _ (.slcnil a) rfl rfl
  | slc xs b off cap sz f hb hc hm hs hv hcell hone hrep => exact one _ _ (.slc xs b off cap sz f hb hc hm hs hv hcell hone hrep) rfl rfl
  | ptr b off => exact one _ _ (.ptr b off) rfl rfl
  | eptr cs b off f hv hcell hone hrep => exact one _ _ (.eptr cs b off f hv hcell hone hrep) rfl rfl
  | fn g caps vs hl hrep => exact one _ _ (.fn g caps vs hl hrep) rfl rfl
  | nilp => exact one _ _ .nilp rfl rfl
  | nilfn => exact one _ _ .nilfn rfl rfl
  | mp r => exact one _ _ (.mp r) rfl rfl

/-- The cells of a type's zero. -/
def zcI (P : Program) (t : TypeId) : Option (List D) :=
  match P.info? t with
  | some i => match i.zero with
    | some z => if z.cells.size = i.size ∧ z.cells.all (fun v => constOk v && v.oneCell' && (match constD v with | .any => false | _ => true)) then some (z.cells.toList.map constD) else none
    | none => none
  | none => none
theorem zcI_spec {P : Program} {t : TypeId} {cs : List D} (h : zcI P t = some cs) : ∃ i z, P.info? t = some i ∧ i.zero = some z ∧ z.cells.size = cs.length ∧ i.size = cs.length ∧
    (∀ (j : Nat) (u : Value), z.cells[j]? = some u → u.oneCell' = true ∧ constOk u = true) ∧ ∀ (j : Nat) (d : D) (u : Value), cs[j]? = some d → z.cells[j]? = some u → d = constD u := by
  unfold zcI at h
  split at h
  · rename_i i hi
    split at h
    · rename_i z hz
      split at h
      · rename_i hc
        simp only [Option.some.injEq] at h
        subst h
        refine ⟨i, z, hi, hz, by simp, by simp [hc.1], fun j u hu => ?_, fun j d u hd hu => ?_⟩
        · have hm : u ∈ z.cells := Array.mem_of_getElem? hu
          have := (Array.all_eq_true'.1 hc.2) u hm
          simp only [Bool.and_eq_true] at this
          exact ⟨this.1.2, this.1.1⟩
        · simp only [List.getElem?_map, Array.getElem?_toList, hu, Option.map_some, Option.some.injEq] at hd
          exact hd.symm
      · cases h
    · cases h
  · cases h
theorem zcI_rep {P : Program} {t : TypeId} {cs : List D} {z : Value} {i : TypeInfo} (h : zcI P t = some cs) (hi : P.info? t = some i) (hz : i.zero = some z) (K : Nat → BK) (w : World) (o : Nat → Who) :
    z.cells.size = cs.length ∧ ∀ (j : Nat) (d : D), cs[j]? = some d → ∃ u, z.cells[j]? = some u ∧ u.oneCell' = true ∧ RepC K w (o j) d u := by
  obtain ⟨i', z', hi', hz', h1, h2, h3, h4⟩ := zcI_spec h
  obtain rfl : i = i' := by rw [hi] at hi'; exact Option.some.inj hi'
  obtain rfl : z = z' := by rw [hz] at hz'; exact Option.some.inj hz'
  refine ⟨h1, fun j d hd => ?_⟩
  have hj : j < z.cells.size := by rw [h1]; exact (List.getElem?_eq_some_iff.1 hd).1
  refine ⟨z.cells[j], Array.getElem?_eq_getElem hj, (h3 j _ (Array.getElem?_eq_getElem hj)).1, ?_⟩
  rw [h4 j d _ hd (Array.getElem?_eq_getElem hj)]
  exact constD_rep (h3 j _ (Array.getElem?_eq_getElem hj)).2

/-! ### the abstract heap -/
def getH : AH → Nat → Option AO
  | [], _ => none
  | (c, o) :: r, b => if b = c then some o else getH r b
def setH : AH → Nat → AO → AH
  | [], _, _ => []
  | (c, o) :: r, b, x => if b = c then (c, x) :: r else (c, o) :: setH r b x
theorem getH_mem {H : AH} {b : Nat} {o : AO} (h : getH H b = some o) : (b, o) ∈ H := by
  induction H with
  | nil => simp [getH] at h
  | cons x r ih =>
    obtain ⟨c, o'⟩ := x
    simp only [getH] at h
    split at h
    · rename_i e; subst e; simp only [Option.some.injEq] at h; subst h; exact .head _
    · exact .tail _ (ih h)

/-! ### the law -/
def intK (P : Program) (t : TypeId) : Option IntKind := match P.underlying t with | some (.int k) => some k | _ => none
def isStr (P : Program) (t : TypeId) : Bool := match P.underlying t with | some .string => true | _ => false
def isBoolT (P : Program) (t : TypeId) : Bool := match P.underlying t with | some .bool => true | _ => false
def isBytes (P : Program) (t : TypeId) : Bool := match P.underlying t with | some (.slice e) => (match P.underlying e with | some (.int .u8) => true | _ => false) | _ => false
def knownT (P : Program) (t : TypeId) : Bool := (P.underlying t).isSome

def byteD (c : UInt8) : List D := [.int .u8 c.toNat]
def unbyte : List D → UInt8
  | [.int _ n] => UInt8.ofNat n.toNat
  | _ => 0
def isByte : List D → Prop
  | [.int .u8 n] => 0 ≤ n ∧ n ≤ 255
  | _ => False

def binD (op : BinOp) (x y : D) (k : D → Prop) : Prop :=
  match x, y with
  | .int ka a, .int kb b => match op with
    | .shl => 0 ≤ b ∧ k (.int ka (ka.wrap (a * 2 ^ (min b.toNat ka.bits))))
    | .shr => 0 ≤ b ∧ k (.int ka (a.fdiv (2 ^ (min b.toNat ka.bits))))
    | .add => ka = kb ∧ k (.int ka (ka.wrap (a + b)))
    | .sub => ka = kb ∧ k (.int ka (ka.wrap (a - b)))
    | .mul => ka = kb ∧ k (.int ka (ka.wrap (a * b)))
    | .quo => ka = kb ∧ b ≠ 0 ∧ k (.int ka (ka.wrap (a.tdiv b)))
    | .rem => ka = kb ∧ b ≠ 0 ∧ k (.int ka (a.tmod b))
    | .and => ka = kb ∧ k (.int ka (bits .and ka a b))
    | .or => ka = kb ∧ k (.int ka (bits .or ka a b))
    | .xor => ka = kb ∧ k (.int ka (bits .xor ka a b))
    | .andNot => ka = kb ∧ k (.int ka (bits .andNot ka a b))
    | .eql => ka = kb ∧ k (.bool (decide (a = b)))
    | .neq => ka = kb ∧ k (.bool (!decide (a = b)))
    | .lss => ka = kb ∧ k (.bool (decide (a < b)))
    | .leq => ka = kb ∧ k (.bool (decide (a ≤ b)))
    | .gtr => ka = kb ∧ k (.bool (decide (b < a)))
    | .geq => ka = kb ∧ k (.bool (decide (b ≤ a)))
  | .str a, .str b => match op with
    | .add => a.length + b.length ≤ big ∧ k (.str (a ++ b))
    | .eql => k (.bool (decide (a = b)))
    | .neq => k (.bool (!decide (a = b)))
    | .lss => k (.bool (Op.bytesLess a b))
    | .leq => k (.bool (Op.bytesLess a b || decide (a = b)))
    | .gtr => k (.bool (!(Op.bytesLess a b || decide (a = b))))
    | .geq => k (.bool (!Op.bytesLess a b))
    | _ => False
  | .bool a, .bool b => match op with
    | .eql => k (.bool (a == b))
    | .neq => k (.bool (!(a == b)))
    | _ => False
  | _, _ => False

/-- The cells of a type that can be compared cell by cell. -/
inductive CT where
  | i
  | b
  | s
def flatF (P : Program) (g : TypeId → Option (List CT)) : List Field → Nat → Option (List CT)
  | [], _ => some []
  | f :: fs, off => if f.name ≠ "_" ∧ f.offset = off then
      match g f.type with
      | some l => if tyI P f.type = some (isAggB P f.type, l.length) ∧ (isAggB P f.type = true ∨ l.length = 1) ∧ 0 < l.length then
          match flatF P g fs (off + l.length) with
          | some r => some (l ++ r)
          | none => none
        else none
      | none => none
    else none
def flatT (P : Program) : Nat → TypeId → Option (List CT)
  | 0, _ => none
  | e + 1, t => match P.underlying t with
    | some (.int _) => some [.i]
    | some .bool => some [.b]
    | some .string => some [.s]
    | some (.struct fs) => if P.stoodInHeld t = false then flatF P (flatT P e) fs.toList 0 else none
    | _ => none
/-- A type's cells, where '==' goes cell by cell. -/
def eqI (P : Program) (t : TypeId) : Option (List CT) := if P.eqGuardType P.depth t = false ∧ isAggB P t = true then flatT P 8 t else none
def fits : List CT → List D → Prop
  | [], [] => True
  | .i :: r, .int _ _ :: s => fits r s
  | .b :: r, .bool _ :: s => fits r s
  | .s :: r, .str _ :: s => fits r s
  | _, _ => False
def cellEq : D → D → Bool
  | .int k a, .int k' b => decide (k = k') && decide (a = b)
  | .bool a, .bool b => a == b
  | .str a, .str b => decide (a = b)
  | _, _ => false
def eqCells : List D → List D → Bool
  | [], [] => true
  | a :: r, b :: s => cellEq a b && eqCells r s
  | _, _ => false
def sameK : List D → List D → Prop
  | .int k _ :: r, .int k' _ :: s => k = k' ∧ sameK r s
  | _ :: r, _ :: s => sameK r s
  | _, _ => True

def fldsOk (P : Program) (t : TypeId) : Bool :=
  match P.underlying t with
  | some (.struct fs) => fs.all fun f => (P.info? f.type).isSome
  | _ => false
/-- A struct's fields are filled in. -/
def fillS (P : Program) (t : TypeId) : List (Nat × List D) → List D → (List D → Prop) → Prop
  | [], z, k => k z
  | (i, cs) :: r, z, k => match fldI P t i with
    | some (off, _, n) => cs.length = n ∧ off + n ≤ z.length ∧ fillS P t r (z.take off ++ (cs ++ z.drop (off + n))) k
    | none => False

/-- 'x[lo:hi]': lo, hi where they stand; the length where hi does not. -/
def cutD (n : Nat) (lo hi : Option D) (k : Nat → Nat → Prop) : Prop :=
  match lo, hi with
  | none, none => k 0 n
  | some (.int _ l), none => 0 ≤ l ∧ l ≤ (n : Int) ∧ k l.toNat n
  | none, some (.int _ h) => 0 ≤ h ∧ h ≤ (n : Int) ∧ k 0 h.toNat
  | some (.int _ l), some (.int _ h) => 0 ≤ l ∧ l ≤ h ∧ h ≤ (n : Int) ∧ k l.toNat h.toNat
  | _, _ => False

def valO (P : Program) (ρ : Operand → D) (H : AH) (op : Op) (k : D → Prop) : Prop :=
  match op with
  | .pick c a b => match ρ c with
    | .bool true => k (ρ a)
    | .bool false => k (ρ b)
    | _ => False
  | .build t ps => match zcI P t with
    | some z => fldsOk P t = true ∧ (∀ p ∈ ps.toList, okc (ρ p.2) = true) ∧ fillS P t (ps.toList.map fun p => (p.1, cellsOf (ρ p.2))) (z.map D.view1) fun cs => k (.agg cs)
    | none => False
  | .buildSlice t n ps => match slI P t with
    | some (e, sz) => ps.toList.map (·.1) = List.range n ∧ (∀ p ∈ ps.toList, okc (ρ p.2) = true ∧ (cellsOf (ρ p.2)).length = sz) ∧ n * sz ≤ 16777216 ∧ (zcI P e).isSome = true ∧ k (.own (ps.toList.map fun p => cellsOf (ρ p.2)))
    | none => False
  | .load t a => match tyI P t, ρ a with
    | some (true, n), .ptr b off => match getH H b with
      | some (.cells cs) => off + n ≤ cs.length ∧ k (.agg (((cs.drop off).take n).map D.view1))
      | none => False
    | some (false, _), .ptr b off => match getH H b with
      | some (.cells cs) => match cs[off]? with
        | some c => fact c.view1 → k c.view1
        | none => False
      | none => False
    | some (true, n), .eptr cs => n ≤ cs.length ∧ k (.agg (cs.take n))
    | some (false, _), .eptr (c :: _) => fact c → k c
    | _, _ => False
  | .binOp op t x y _ => match ρ x, ρ y with
    | .bool a, .bool b => isBoolT P t = true ∧ binD op (.bool a) (.bool b) k
    | .agg xs, .agg ys => match eqI P t with
      | some l => fits l xs ∧ fits l ys ∧ sameK xs ys ∧ (match op with
        | .eql => k (.bool (eqCells xs ys))
        | .neq => k (.bool (!eqCells xs ys))
        | _ => False)
      | none => False
    | a, b => binD op a b k
  | .unOp op _ x => match op, ρ x with
    | .not, .bool b => k (.bool (!b))
    | .neg, .int kd n => k (.int kd (kd.wrap (0 - n)))
    | .xor, .int kd n => k (.int kd (bits .xor kd (if kd.signed then -1 else kd.max) n))
    | _, _ => False
  | .convert s t x => match ρ x with
    | .int _ n => match intK P t with
      | some kd => knownT P s = true ∧ k (.int kd (kd.wrap n))
      | none => False
    | .str l => if isStr P t = true then isStr P s = true ∧ k (.str l) else isStr P s = true ∧ isBytes P t = true ∧ (fact (.str l) → k (.slc (l.map byteD)))
    | .slc xs => isBytes P s = true ∧ isStr P t = true ∧ (∀ x ∈ xs, isByte x) ∧ (fact (.slc xs) → k (.str (xs.map unbyte)))
    | _ => False
  | .makeFunc (.func f) first caps => first = #[] ∧ k (.fn f (caps.toList.map ρ))
  | .makeSlice t l c => match slI P t with
    | some (e, sz) => match zcI P e, ρ l, ρ c with
      | some z, .int _ n, .int _ m => n = m ∧ 0 ≤ n ∧ (match P.info? e with | some i => (i.bytes : Int) * n ≤ 140737488355328 ∧ n ≤ 140737488355328 | none => False) ∧ k (.own (List.replicate n.toNat (z.map D.view1)))
      | _, _, _ => False
    | none => False
  | .slice t x lo hi none => match ρ x with
    | .slc xs => match slI P t with
      | some (_, sz) => (∀ x ∈ xs, x.length = sz) ∧ cutD xs.length (lo.map ρ) (hi.map ρ) fun l h => k (.slc ((xs.take h).drop l))
      | none => False
    | .str s => isStr P t = true ∧ cutD s.length (lo.map ρ) (hi.map ρ) fun l h => k (.str ((s.take h).drop l))
    | _ => False
  | .slice t x lo (some hi) (some mx) => match lo.map ρ, ρ hi, ρ mx with
    | none, .int _ h, .int _ m => h = 0 ∧ m = 0 ∧ (slI P t).isSome = true ∧ (∃ xs, ρ x = .slc xs) ∧ k (.own [])
    | some (.int _ l), .int _ h, .int _ m => l = 0 ∧ h = 0 ∧ m = 0 ∧ (slI P t).isSome = true ∧ (∃ xs, ρ x = .slc xs) ∧ k (.own [])
    | _, _, _ => False
  | .fieldAddr t x f => match fldI P t f, ρ x with
    | some (off, _, _), .ptr b o => k (.ptr b (o + off))
    | some (off, _, _), .eptr cs => off ≤ cs.length ∧ k (.eptr (cs.drop off))
    | _, _ => False
  | .field t x f => match fldI P t f, ρ x with
    | some (off, true, n), .agg cs => off + n ≤ cs.length ∧ k (.agg ((cs.drop off).take n))
    | some (off, false, _), .agg cs => match cs[off]? with
      | some c => fact c → k c
      | none => False
    | _, _ => False
  | .indexAddr t x i => match ρ x, ρ i with
    | .slc xs, .int _ n => match slI P t with
      | some (_, sz) => 0 ≤ n ∧ n < (xs.length : Int) ∧ (xs.getD n.toNat []).length = sz ∧ k (.eptr (xs.getD n.toNat []))
      | none => False
    | .ptr b off, .int _ n => match arI P t with
      | some (m, sz) => 0 ≤ n ∧ n < (m : Int) ∧ k (.ptr b (off + n.toNat * sz))
      | none => False
    | .eptr cs, .int _ n => match arI P t with
      | some (m, sz) => 0 ≤ n ∧ n < (m : Int) ∧ n.toNat * sz ≤ cs.length ∧ k (.eptr (cs.drop (n.toNat * sz)))
      | none => False
    | _, _ => False
  | .index t x i => match ρ x, ρ i with
    | .str s, .int _ n => isStr P t = true ∧ 0 ≤ n ∧ n < (s.length : Int) ∧ k (.int .u8 (s.getD n.toNat 0).toNat)
    | _, _ => False
  | .nilCheck x => match ρ x with
    | .ptr b o => k (.ptr b o)
    | .eptr cs => k (.eptr cs)
    | .fn f cs => k (.fn f cs)
    | _ => False
  | .call c => match c.callee, c.args.toList.map ρ, c.argTypes.toList with
    | .builtin .len, [.slc xs], [t] => (slI P t).isSome = true ∧ (fact (.slc xs) → k (.int .i64 xs.length))
    | .builtin .len, [.str s], [t] => isStr P t = true ∧ (fact (.str s) → k (.int .i64 s.length))
    | .builtin .max, [.int kd a, .int kb b], _ => kd = kb ∧ k (.int kd (if b > a then b else a))
    | .builtin .min, [.int kd a, .int kb b], _ => kd = kb ∧ k (.int kd (if b < a then b else a))
    | _, _, _ => False
  | _ => False

end Go.Aw
