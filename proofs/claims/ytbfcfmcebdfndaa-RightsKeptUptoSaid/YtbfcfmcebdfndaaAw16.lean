/- A shorter form of code ('XC') for the walks, and the proof that what it says holds of the code. Conditions: none; definitions and plain lemmas. -/
import Derived.Test.YtbfcfmcebdfndaaAw15
namespace Go.Aw
open Go Go.RowKit
set_option linter.unusedVariables false
set_option linter.unusedSimpArgs false

/-- An operation with what its region says of it: the slot of its guard, and whether its slot is used up. -/
structure XO where
  op : Op
  dst : Option Tmp
  g : Option (Option (Tmp × Bool))
  tk : Bool
  ta : Bool
inductive XC where
  | skip
  | reg (l : List XO)
  | regD (l : List XO)
  | seq (x y : XC)
  | cond (c : Operand) (x y : XC)
  | block (id : Nat) (c : XC)
  | exit (id : Nat)
  | ret
  | loop (c : XC)
  | bad

def xof (ops : List Oper) (o : Oper) : XO :=
  ⟨o.op, o.dst, (match o.guard with | none => none | some (j, want) => match (ops[j]?).bind (·.dst) with | some t => some (some (t, want)) | none => some none),
    (match o.dst with | some d => takes ops d | none => false), (match o.dst with | some d => takesA ops d | none => false)⟩
def cmp : Code → XC
  | .skip => .skip
  | .label _ => .skip
  | .region _ ops false => .reg (ops.toList.map (xof ops.toList))
  | .region _ ops true => .regD (ops.toList.map (xof ops.toList))
  | .seq x y => .seq (cmp x) (cmp y)
  | .cond c x y => .cond c (cmp x) (cmp y)
  | .block id c => .block id (cmp c)
  | .exit id => .exit id
  | .ret => .ret
  | .loop c => .loop (cmp c)
  | _ => .bad

abbrev HK := List D → AH → Prop

def xop (P : Program) (m : Bool) (x : XO) (F : List D) (H : AH) (k : HK) : Prop :=
  match x.op with
  | .move (.tmp s) => match x.dst with
    | some d => if x.tk = true then k ((F.set s (rv F (.tmp s))).set d (ev F (.tmp s))) H else k (F.set d (rv F (.tmp s))) H
    | none => k F H
  | .assign (.tmp s) => match x.dst with
    | some d => k ((F.set s (rv F (.tmp s))).set d (ev F (.tmp s))) H
    | none => k F H
  | .move y => k (putF F x.dst (ev F y)) H
  | .assign y => k (putF F x.dst (ev F y)) H
  | .extract (.tmp s) ix => match x.dst, ev F (.tmp s) with
    | some d, .tup ds => match ds[ix]? with
      | some c => if x.tk = true then fact c.view1 → k ((F.set s (.tup (ds.set ix c.view1))).set d c) H else fact c.view1 → k (F.set d c.view1) H
      | none => False
    | _, _ => False
  | .alloc t => m = false ∧ match zcI P t with
    | some z => ∀ b, freshH H b → k (putF F x.dst (.ptr b 0)) ((b, .cells z) :: H)
    | none => False
  | .box t y => m = false ∧ okc (rv F y) = true ∧ ∀ b, freshH H b → k (putF F x.dst (.ptr b 0)) ((b, .cells (cellsOf (rv F y))) :: H)
  | .store t a y => m = false ∧ match tyI P t, rv F a with
    | some (true, n), .ptr b off => match getH H b with
      | some (.cells cs) => okc (rv F y) = true ∧ (cellsOf (rv F y)).length = n ∧ off + n ≤ cs.length ∧ k (putF F x.dst (.tup [])) (setH H b (.cells (cs.take off ++ (cellsOf (rv F y) ++ cs.drop (off + n)))))
      | none => False
    | some (false, n), .ptr b off => match getH H b with
      | some (.cells cs) => n = 1 ∧ off < cs.length ∧ one1 (ev F y) = true ∧ x.dst = none ∧ (match y with
        | .tmp s => k (F.set s (rv F y)) (setH H b (.cells (cs.set off (ev F y))))
        | _ => k F (setH H b (.cells (cs.set off (ev F y)))))
      | none => False
    | _, _ => False
  | .call c => match c.callee with
    | .value f => match rv F f with
      | .fn g caps => if m = true then ∃ d, ACall P g (c.args.toList.map (rv F) ++ caps) H (fun d' H' => d' = d ∧ H' = H) ∧ (fact d.view → k (putF F x.dst d) H)
        else ACall P g (c.args.toList.map (rv F) ++ caps) H fun d H' => fact d.view → k (putF F x.dst d) H'
      | _ => False
    | .builtin .append => match c.args.toList, c.argTypes.toList, x.dst with
      | [.tmp s, y], [t, u], some d => match ev F (.tmp s), apI P t u with
        | .own xs, some (_, sz, bs) => match rv F y with
          | .slc ys => (∀ y ∈ xs, y.length = sz) ∧ (∀ y ∈ ys, y.length = sz) ∧ (xs.length + ys.length) * bs ≤ 140737488355328 ∧ k ((F.set s (.slc xs)).set d (.own (xs ++ ys))) H
          | .str l => sz = 1 ∧ (∀ y ∈ xs, y.length = 1) ∧ (xs.length + l.length) * bs ≤ 140737488355328 ∧ k ((F.set s (.slc xs)).set d (.own (xs ++ l.map byteD))) H
          | _ => False
        | _, _ => False
      | _, _, _ => False
    | _ => valO P (rv F) H x.op fun d => k (putF F x.dst d) H
  | .binOp bo t y z _ => if m = false ∧ isNilS z = true then nilcmp P bo t (rv F y) fun d => k (putF F x.dst d) H else valO P (rv F) H x.op fun d => k (putF F x.dst d) H
  | .load t (.tmp s) => match x.dst with
    | some d => if m = false ∧ x.ta = true then (match tyI P t, rv F (.tmp s) with
        | some (false, _), .ptr b off => match getH H b with
          | some (.cells cs) => match cs[off]? with
            | some (.own xs) => k (F.set d (.own xs)) (setH H b (.cells (cs.set off (.slc xs))))
            | _ => False
          | none => False
        | _, _ => False)
      else valO P (rv F) H x.op fun c => k (putF F x.dst c) H
    | none => valO P (rv F) H x.op fun c => k (putF F x.dst c) H
  | _ => valO P (rv F) H x.op fun d => k (putF F x.dst d) H

def xops (P : Program) (m : Bool) : List XO → List D → AH → HK → Prop
  | [], F, H, k => k F H
  | x :: r, F, H, k => match x.g with
    | none => xop P m x F H fun F' H' => xops P m r F' H' k
    | some none => xops P m r (putF F x.dst (.tup [])) H k
    | some (some (t, want)) => match F.getD t .any with
      | .bool b => (b = want → xop P m x (F.set t (.bool want)) H fun F' H' => xops P m r F' H' k) ∧ (b = (!want) → xops P m r (putF (F.set t (.bool (!want))) x.dst (.tup [])) H k)
      | .tup _ => xops P m r (putF F x.dst (.tup [])) H k
      | _ => False

theorem set_same {F : List D} {t : Nat} {d : D} (h : F.getD t .any = d) (hd : d ≠ .any) : F.set t d = F := by
  rcases Nat.lt_or_ge t F.length with h' | h'
  · rw [List.getD_eq_getElem?_getD, List.getElem?_eq_getElem h'] at h
    simp only [Option.getD_some] at h
    rw [← h, List.set_getElem_self]
  · rw [List.set_eq_of_length_le h']

section
variable {P : Program} {ops : List Oper} {o : Oper} {F : List D} {H : AH}

theorem xop_aop {k : HK} : xop P false (xof ops o) F H k = aop P ops o F H k := by
  obtain ⟨dst, op, ty, pos, af, g⟩ := o
  unfold xop aop
  simp only [xof, Bool.false_eq_true, if_false, true_and]
  cases dst <;> cases op
  all_goals first
    | rfl
    | (rename_i x; cases x <;> rfl)
    | (rename_i x y; cases x <;> rfl)
    | (rename_i c
       obtain ⟨callee, cargs, ctys⟩ := c
       cases callee <;> first | rfl | (rename_i b; cases b <;> rfl))
    | (rename_i x y; cases y <;> rfl)
    | (rename_i x y; cases x <;> first
        | rfl
        | (dsimp only; generalize ev F _ = e; cases e <;> rfl))

theorem xop_aopD {k : HK} : xop P true (xof ops o) F H k = aopD P ops o F H (fun F' => k F' H) := by
  obtain ⟨dst, op, ty, pos, af, g⟩ := o
  unfold xop aopD
  simp only [xof, Bool.true_eq_false, if_true, false_and, if_false]
  cases dst <;> cases op
  all_goals first
    | rfl
    | (rename_i x; cases x <;> rfl)
    | (rename_i x y; cases x <;> rfl)
    | (rename_i c
       obtain ⟨callee, cargs, ctys⟩ := c
       cases callee <;> first | rfl | (rename_i b; cases b <;> rfl))
    | (rename_i x y; cases y <;> rfl)
    | (rename_i x y; cases x <;> first
        | rfl
        | (dsimp only [aop]; generalize ev F _ = e; cases e <;> rfl))

theorem guard_eq {F : List D} {t : Nat} {want : Bool} {A B : List D → Prop} {N T : Prop} :
    (match F.getD t .any with
      | .bool b => (b = want → A (F.set t (.bool want))) ∧ (b = (!want) → B (F.set t (.bool (!want))))
      | .tup _ => T
      | _ => N) =
    (match F.getD t .any with
      | .bool b => (b = want → A F) ∧ (b = (!want) → B F)
      | .tup _ => T
      | _ => N) := by
  generalize he : F.getD t .any = e
  cases e <;> try rfl
  rename_i b
  have h1 : b = want → F.set t (.bool want) = F := fun hb => set_same (by rw [he, hb]) (by simp)
  have h2 : b = (!want) → F.set t (.bool (!want)) = F := fun hb => set_same (by rw [he, hb]) (by simp)
  simp only [eq_iff_iff]
  exact ⟨fun h => ⟨fun hb => by rw [← h1 hb]; exact h.1 hb, fun hb => by rw [← h2 hb]; exact h.2 hb⟩, fun h => ⟨fun hb => by rw [h1 hb]; exact h.1 hb, fun hb => by rw [h2 hb]; exact h.2 hb⟩⟩

theorem xops_aops {k : HK} : ∀ (l : List Oper) (F : List D) (H : AH), xops P false (l.map (xof ops)) F H k = aops P ops l F H k
  | [], F, H => rfl
  | o :: r, F, H => by
    have ih : (fun F' H' => xops P false (r.map (xof ops)) F' H' k) = fun F' H' => aops P ops r F' H' k := funext fun F' => funext fun H' => xops_aops r F' H'
    simp only [List.map_cons, xops]
    unfold aops
    cases hg : o.guard with
    | none =>
      have hx : (xof ops o).g = none := by simp [xof, hg]
      simp only [hx, xop_aop, ih]
    | some g =>
      obtain ⟨j, want⟩ := g
      simp only
      cases hd : (ops[j]?).bind (·.dst) with
      | none =>
        have hx : (xof ops o).g = some none := by simp [xof, hg, hd]
        simp only [hx]
        exact xops_aops r _ _
      | some t =>
        have hx : (xof ops o).g = some (some (t, want)) := by simp [xof, hg, hd]
        simp only [hx, xop_aop, ih]
        have h1 : ∀ F', xops P false (r.map (xof ops)) F' H k = aops P ops r F' H k := fun F' => xops_aops r F' H
        simp only [h1]
        exact guard_eq (A := fun F => aop P ops o F H fun F' H' => aops P ops r F' H' k) (B := fun F => aops P ops r (putF F (xof ops o).dst (.tup [])) H k)

theorem xops_aopsD {k : HK} : ∀ (l : List Oper) (F : List D), xops P true (l.map (xof ops)) F H k = aopsD P ops l F H (fun F' => k F' H)
  | [], F => rfl
  | o :: r, F => by
    have h1 : ∀ F', xops P true (r.map (xof ops)) F' H k = aopsD P ops r F' H (fun F' => k F' H) := fun F' => xops_aopsD r F'
    simp only [List.map_cons, xops]
    unfold aopsD
    cases hg : o.guard with
    | none =>
      have hx : (xof ops o).g = none := by simp [xof, hg]
      simp only [hx, xop_aopD, h1]
    | some g =>
      obtain ⟨j, want⟩ := g
      simp only
      cases hd : (ops[j]?).bind (·.dst) with
      | none =>
        have hx : (xof ops o).g = some none := by simp [xof, hg, hd]
        simp only [hx]
        exact h1 _
      | some t =>
        have hx : (xof ops o).g = some (some (t, want)) := by simp [xof, hg, hd]
        simp only [hx, xop_aopD, h1]
        exact guard_eq (A := fun F => aopD P ops o F H fun F' => aopsD P ops r F' H (fun F' => k F' H)) (B := fun F => aopsD P ops r (putF F (xof ops o).dst (.tup [])) H (fun F' => k F' H))
end
end Go.Aw
