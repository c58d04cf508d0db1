/- Operations that only make a value, the last of them, and all together ('valO_sound'). Conditions: those that stand in 'valO'. -/
import Derived.Test.YtbfcfmcebdfndaaAw5
namespace Go.Aw
open Go Go.RowKit
set_option linter.unusedVariables false
set_option linter.unusedSimpArgs false

/-! ### composite literals -/
theorem fold_cells (off : Nat) : ∀ (l : List Value) (s : Nat) (cells : Array Value), ∃ r, (l.zipIdx s).foldl (fun cs p => cs.setIfInBounds (off + p.2) p.1) cells = r ∧ r.size = cells.size ∧
    ∀ p, p < cells.size → r[p]? = if off + s ≤ p ∧ p < off + s + l.length then l[p - (off + s)]? else cells[p]?
  | [], s, cells => ⟨cells, rfl, rfl, fun p hp => by rw [if_neg (by simp)]⟩
  | v :: l, s, cells => by
    obtain ⟨r, h1, h2, h3⟩ := fold_cells off l (s + 1) (cells.setIfInBounds (off + s) v)
    refine ⟨r, by simpa [List.zipIdx_cons] using h1, by simpa using h2, fun p hp => ?_⟩
    rw [h3 p (by simpa using hp)]
    simp only [List.length_cons]
    by_cases hA : off + (s + 1) ≤ p ∧ p < off + (s + 1) + l.length
    · rw [if_pos hA, if_pos (by omega), show p - (off + s) = (p - (off + (s + 1))) + 1 by omega, List.getElem?_cons_succ]
    · rw [if_neg hA]
      by_cases hB : p = off + s
      · subst hB
        rw [if_pos (by omega)]
        simp [hp]
      · rw [if_neg (by omega), Array.getElem?_setIfInBounds_ne (by omega)]

theorem fold_arr (off : Nat) (vs cells : Array Value) : ∃ r, vs.zipIdx.foldl (fun cs (c, j) => cs.setIfInBounds (off + j) c) cells = r ∧ r.size = cells.size ∧
    ∀ p, p < cells.size → r[p]? = if off ≤ p ∧ p < off + vs.size then vs[p - off]? else cells[p]? := by
  obtain ⟨r, h1, h2, h3⟩ := fold_cells off vs.toList 0 cells
  refine ⟨r, ?_, h2, fun p hp => by simpa using h3 p hp⟩
  rw [← h1, ← Array.foldl_toList, Array.toList_zipIdx]

/-- Elements filled in one after the other. -/
theorem fill_dense (size n : Nat) : ∀ (parts : List (Nat × Value)) (s : Nat) (cells : Array Value), cells.size = n * size → s + parts.length ≤ n → (∀ (i : Nat) (p : Nat × Value), parts[i]? = some p → p.1 = s + i ∧ p.2.cells.size = size) →
    ∃ r, Instr.fill (fun i => some (i * size, size)) cells parts = some r ∧ r.size = n * size ∧ (∀ q, q < s * size → r[q]? = cells[q]?) ∧ ∀ (i : Nat) (p : Nat × Value), parts[i]? = some p → ∀ j, j < size → r[(s + i) * size + j]? = p.2.cells[j]?
  | [], s, cells, hc, _, _ => ⟨cells, rfl, hc, fun _ _ => rfl, fun i p h => by simp at h⟩
  | (i0, v) :: parts, s, cells, hc, hl, hp => by
    obtain ⟨e1, e2⟩ := hp 0 _ rfl
    simp only [Nat.add_zero] at e1
    dsimp only at e1 e2
    subst e1
    simp only [List.length_cons] at hl
    have hfit : i0 * size + size ≤ n * size := by rw [← Nat.succ_mul]; exact Nat.mul_le_mul_right _ (by omega)
    obtain ⟨r1, f1, f2, f3⟩ := fold_arr (i0 * size) v.cells cells
    obtain ⟨r, g1, g2, g3, g4⟩ := fill_dense size n parts (i0 + 1) r1 (by omega) (by omega) (fun i p h => by
      have := hp (i + 1) p h
      exact ⟨by omega, this.2⟩)
    refine ⟨r, ?_, g2, fun q hq => ?_, fun i p h j hj => ?_⟩
    · simp only [Instr.fill]
      rw [if_neg (by simp; omega)]
      exact (congrArg (fun c => Instr.fill (fun i => some (i * size, size)) c parts) f1).trans g1
    · rw [g3 q (by rw [Nat.succ_mul]; omega), f3 q (by omega), if_neg (by omega)]
    · cases i with
      | zero =>
        simp only [List.getElem?_cons_zero, Option.some.injEq] at h
        subst h
        rw [Nat.add_zero, g3 _ (by rw [Nat.succ_mul]; omega), f3 _ (by omega), if_pos (by omega)]
        congr 1
        omega
      | succ i =>
        have := g4 i p h j hj
        rwa [show i0 + 1 + i = i0 + (i + 1) by omega] at this

theorem fill_fields {P : Program} {t : TypeId} {fs : Array Field} (hu : P.underlying t = some (.struct fs)) {K : Nat → BK} {w : World} (place : Nat → Option (Nat × Nat))
    (hplace : ∀ i off b n, fldI P t i = some (off, b, n) → place i = some (off, n)) :
    ∀ (ps : List (Nat × D)) (vs : List (Nat × Value)) (z : List D) (cells : Array Value) (k : List D → Prop), (∀ p ∈ ps, okc p.2 = true) → vs.length = ps.length →
      (∀ (i : Nat) (p : Nat × D) (q : Nat × Value), ps[i]? = some p → vs[i]? = some q → q.1 = p.1 ∧ RepV K w p.2 q.2) →
      cells.size = z.length → (∀ (j : Nat) (u : Value), cells[j]? = some u → u.oneCell' = true) → (∀ (j : Nat) (d : D) (u : Value), z[j]? = some d → cells[j]? = some u → RepV K w d u) →
      fillS P t (ps.map fun p => (p.1, cellsOf p.2)) z k → ∃ cs r, k cs ∧ (∀ k', k' cs → fillS P t (ps.map fun p => (p.1, cellsOf p.2)) z k') ∧ Instr.fill place cells vs = some r ∧ RepV K w (.agg cs) (.agg r)
  | [], [], z, cells, k, _, _, _, hs, h1, hr, h => ⟨z, cells, h, fun _ h => h, rfl, .agg z cells hs h1 hr⟩
  | p :: ps, q :: vs, z, cells, k, ho, hl, hpq, hs, h1, hr, h => by
    obtain ⟨e1, e2⟩ := hpq 0 p q rfl rfl
    simp only [List.map_cons, fillS] at h ⊢
    split at h
    · rename_i off b n hf
      obtain ⟨hn, hle, h⟩ := h
      obtain ⟨c1, c2, c3⟩ := cells_rep e2 (ho p (.head _))
      obtain ⟨r1, f1, f2, f3⟩ := fold_arr off q.2.cells cells
      have hz' : (z.take off ++ (cellsOf p.2 ++ z.drop (off + n))).length = z.length := by simp; omega
      have hget : ∀ j d, (z.take off ++ (cellsOf p.2 ++ z.drop (off + n)))[j]? = some d → (off ≤ j ∧ j < off + n ∧ (cellsOf p.2)[j - off]? = some d) ∨ (¬ (off ≤ j ∧ j < off + n) ∧ z[j]? = some d) := by
        intro j d hj
        simp only [List.getElem?_append, List.length_take, List.getElem?_take, List.getElem?_drop] at hj
        by_cases a1 : j < off
        · rw [if_pos (by omega), if_pos a1] at hj; exact .inr ⟨by omega, hj⟩
        · rw [if_neg (by omega)] at hj
          by_cases a2 : j < off + n
          · rw [if_pos (by omega)] at hj
            refine .inl ⟨by omega, a2, ?_⟩
            rw [← hj]; congr 1; omega
          · rw [if_neg (by omega)] at hj
            refine .inr ⟨by omega, ?_⟩
            rw [← hj]; congr 1; omega
      obtain ⟨cs, r, g1, g2, g3, g4⟩ := fill_fields hu place hplace ps vs _ r1 k (fun p hp => ho p (.tail _ hp)) (Nat.succ.inj hl) (fun i p q hp hq => hpq (i + 1) p q hp hq)
        (by rw [f2, hz', hs]) (fun j u hu => by
          have hj : j < cells.size := by rw [← f2]; exact (Array.getElem?_eq_some_iff.1 hu).1
          rw [f3 j hj] at hu
          split at hu
          · exact c2 _ u hu
          · exact h1 j u hu)
        (fun j d u hd hu => by
          have hj : j < cells.size := by rw [← f2]; exact (Array.getElem?_eq_some_iff.1 hu).1
          rw [f3 j hj] at hu
          rcases hget j d hd with ⟨a1, a2, a3⟩ | ⟨a1, a3⟩
          · rw [if_pos (by omega)] at hu
            exact c3 _ d u a3 hu
          · rw [if_neg (by omega)] at hu
            exact hr j d u a3 hu) h
      refine ⟨cs, r, g1, fun k' hk' => ⟨hn, hle, g2 k' hk'⟩, ?_, g4⟩
      obtain ⟨i0, v⟩ := q
      simp only [Instr.fill]
      have hpl := hplace _ _ _ _ hf
      rw [← e1] at hpl
      simp only [] at hpl ⊢
      rw [hpl]
      simp only []
      rw [if_neg (by simp only [] at c1; simp; omega)]
      exact (congrArg (fun c => Instr.fill place c vs) f1).trans g3
    · exact h.elim
  | [], _ :: _, _, _, _, _, hl, _, _, _, _, _ => by simp at hl
  | _ :: _, [], _, _, _, _, hl, _, _, _, _, _ => by simp at hl

theorem run_mapM_list {P : Program} {w : World} {α β : Type} (f : α → Sem β) (g : α → β) : ∀ (l : List α), (∀ x ∈ l, (f x).run P w = .ok (g x) w) → (l.mapM f).run P w = .ok (l.map g) w
  | [], _ => by simp
  | x :: l, h => by
    simp only [List.mapM_cons, Sem.run_bind, h x (.head _), Result.andThen_ok, run_mapM_list f g l (fun y hy => h y (.tail _ hy)), Sem.run_pure, List.map_cons]

section
variable {P : Program} {o : Oper} {H : AH} {ρ : Operand → D} {k : D → Prop}

theorem snd_build {t : TypeId} {ps : Array (Nat × Operand)} (ho : o.op = .build t ps) (h : valO P ρ H (.build t ps) k) (hcur : Cur o H ρ) : ∃ d, k d ∧ Yields P o H ρ d := by
  simp only [valO] at h
  split at h
  · rename_i z hz
    obtain ⟨hfo, hok, h⟩ := h
    obtain ⟨i, zv, hi, hzv, z1, z2, z3, z4⟩ := zcI_spec hz
    unfold fldsOk at hfo
    split at hfo
    · rename_i fs hu
      have hall : ∀ f ∈ fs.toList, (P.info? f.type).isSome = true := fun f hf => (Array.all_eq_true'.1 hfo) f (by simpa using hf)
      let g : Field → Nat × Nat := fun f => (f.offset, ((P.info? f.type).map (·.size)).getD 0)
      have hplaces : ∀ w : World, (fs.mapM fun f => do pure (f.offset, ← sizeOf f.type) : Sem _).run P w = .ok (fs.map g) w := by
        intro w
        rw [Array.mapM_eq_mapM_toList, Sem.run_map, run_mapM_list _ g fs.toList (fun f hf => by
          obtain ⟨i, hi⟩ := Option.isSome_iff_exists.1 (hall f hf)
          simp [sizeOf, typeInfo, hi, g])]
        simp only [Result.andThen_ok]
        congr 1
        apply Array.ext'
        simp
      have hplace : ∀ i off b n, fldI P t i = some (off, b, n) → (fs.map g)[i]? = some (off, n) := by
        intro i off b n hf
        obtain ⟨fs', x, hu', hx, hof, hty, hn⟩ := fldI_spec hf
        rw [hu] at hu'
        obtain rfl : fs = fs' := by simpa using hu'
        rw [Array.getElem?_map, hx, Option.map_some]
        unfold tyI at hty
        cases h1 : P.underlying x.type with
        | none => simp [h1] at hty
        | some d =>
          cases h2 : P.info? x.type with
          | none => simp [h1, h2] at hty
          | some j =>
            simp only [h1, h2, Option.some.injEq, Prod.mk.injEq] at hty
            simp [g, hof, h2, hty.2]
      have main : ∀ (K : Nat → BK) (w : World) (σ : Operand → Value), (∀ x ∈ o.op.operands.toList, RepV K w (ρ x) (σ x)) → ∀ k : List D → Prop, fillS P t (ps.toList.map fun p => (p.1, cellsOf (ρ p.2))) (z.map D.view1) k →
          ∃ cs r, k cs ∧ (∀ k', k' cs → fillS P t (ps.toList.map fun p => (p.1, cellsOf (ρ p.2))) (z.map D.view1) k') ∧ (Instr.build t (ps.map fun p => (p.1, σ p.2))).run P w = .ok (.agg r) w ∧ RepV K w (.agg cs) (.agg r) := by
        intro K w σ hr k hk
        have hzr := (zcI_rep hz hi hzv K w (fun _ => .outer)).2
        have e := fill_fields (P := P) (t := t) hu (K := K) (w := w) ((fs.map g)[·]?) hplace (ps.toList.map fun p => (p.1, ρ p.2)) (ps.toList.map fun p => (p.1, σ p.2)) (z.map D.view1) zv.cells k
          (fun p hp => by
            rw [List.mem_map] at hp
            obtain ⟨q, hq, rfl⟩ := hp
            exact hok q hq) (by simp)
          (fun i p q hp hq => by
            simp only [List.getElem?_map, Option.map_eq_some_iff] at hp hq
            obtain ⟨a, ha, rfl⟩ := hp
            obtain ⟨b, hb, rfl⟩ := hq
            rw [ha] at hb
            obtain rfl := Option.some.inj hb
            exact ⟨rfl, hr a.2 (by simp only [ho, Op.operands]; simp only [List.mem_map]; exact ⟨a, List.mem_of_getElem? ha, rfl⟩)⟩)
          (by rw [z1]; simp) (fun j u hu => (z3 j u hu).1)
          (fun j d u hd hu => by
            rw [List.getElem?_map, Option.map_eq_some_iff] at hd
            obtain ⟨d', hd', rfl⟩ := hd
            obtain ⟨u', e1, e2, e3⟩ := hzr j d' hd'
            rw [hu] at e1
            obtain rfl := Option.some.inj e1
            exact e3.rep)
          (by rw [List.map_map]; exact hk)
        obtain ⟨cs, r, g1, g2, g3, g4⟩ := e
        refine ⟨cs, r, g1, fun k' hk' => by have := g2 k' hk'; rw [List.map_map] at this; exact this, ?_, g4⟩
        unfold Instr.build
        simp only [Sem.run_bind, zeroValue, typeInfo, run_program, Result.andThen_ok, hi, Sem.run_pure, hzv, run_underlying hu, hplaces]
        have : (ps.map fun p => (p.1, σ p.2)).toList = ps.toList.map fun p => (p.1, σ p.2) := by simp
        rw [this, g3]
        rfl
      obtain ⟨K0, w0, σ0, hk0, hh0, hr0⟩ := hcur
      obtain ⟨cs, r, g1, g2, _, _⟩ := main K0 w0 σ0 hr0 _ h
      refine ⟨.agg cs, g1, yields_same fun K w σ hk hh hr => ?_⟩
      obtain ⟨cs', r', e1, e2, e3, e4⟩ := main K w σ hr (fun x => x = cs) (g2 _ rfl)
      subst e1
      refine ⟨.agg r', ?_, e4⟩
      simp only [execOp, ho, Sem.run_bind]
      have : (ps.map fun x => match x with | (i, x) => (i, σ x)) = ps.map fun p => (p.1, σ p.2) := rfl
      rw [this, e3]
      rfl
    · simp at hfo
  · exact h.elim

theorem snd_buildSlice {t : TypeId} {n : Nat} {ps : Array (Nat × Operand)} (ho : o.op = .buildSlice t n ps) (h : valO P ρ H (.buildSlice t n ps) k) (hcur : Cur o H ρ) : ∃ d, k d ∧ Yields P o H ρ d := by
  simp only [valO] at h
  split at h
  · rename_i e sz hsl
    obtain ⟨hrange, hok, hn, hz, h⟩ := h
    refine ⟨_, h, ?_⟩
    obtain ⟨hu, hsz, i, hi, his⟩ := slI_spec hsl
    obtain ⟨zc, hz⟩ := Option.isSome_iff_exists.1 hz
    obtain ⟨i', zv, hi', hzv, z1, z2, z3, z4⟩ := zcI_spec hz
    rw [hi] at hi'
    obtain rfl := Option.some.inj hi'
    intro K w σ slot hk hh hr
    have hlen : ps.toList.length = n := by have := congrArg List.length hrange; simpa using this
    have hidx : ∀ (i : Nat) (p : Nat × Operand), ps.toList[i]? = some p → p.1 = i := fun i p hp => by
      have h1 : (ps.toList.map (·.1))[i]? = some p.1 := by rw [List.getElem?_map, hp]; rfl
      rw [hrange] at h1
      have := List.getElem?_eq_some_iff.1 h1
      obtain ⟨hl, he⟩ := this
      simpa using he.symm
    have hrep : ∀ (i : Nat) (p : Nat × Operand), ps.toList[i]? = some p → RepV K w (ρ p.2) (σ p.2) ∧ okc (ρ p.2) = true ∧ (cellsOf (ρ p.2)).length = sz := fun i p hp => by
      have hm := List.mem_of_getElem? hp
      exact ⟨hr p.2 (by simp only [ho, Op.operands]; simp only [List.mem_map]; exact ⟨p, hm, rfl⟩), hok p hm⟩
    obtain ⟨r, f1, f2, _, f4⟩ := fill_dense sz n (ps.toList.map fun p => (p.1, σ p.2)) 0 ((Array.range (n * sz)).map (fun j => if n * sz = 0 then default else zv.cells[j % zv.cells.size]!)) (by simp) (by simp only [List.length_map]; omega)
      (fun i p hp => by
        rw [List.getElem?_map, Option.map_eq_some_iff] at hp
        obtain ⟨q, hq, rfl⟩ := hp
        obtain ⟨r1, r2, r3⟩ := hrep i q hq
        have := (cells_rep r1 r2).1
        exact ⟨by simpa using hidx i q hq, by rw [this, r3]⟩)
    obtain ⟨hp, hk'⟩ := pres_alloc (K := K) (w := w) hk (.cells r e) (x := .tok (n * sz) (.slot slot 0)) (by simp)
    refine ⟨.slice (some ⟨w.heap.size, 0, none⟩) n n, _, _, ?_, hp, hk', ?_⟩
    · simp only [execOp, ho, Sem.run_bind]
      have hpp : (ps.map fun x => match x with | (i, x) => (i, σ x)).toList = ps.toList.map fun p => (p.1, σ p.2) := by simp
      have hrun : (Instr.buildSlice t n (ps.map fun x => match x with | (i, x) => (i, σ x))).run P w = .ok (.slice (some ⟨w.heap.size, 0, none⟩) n n) (w.alloc (.cells r e)) := by
        unfold Instr.buildSlice
        have hsize : ∀ w : World, (sizeOf e).run P w = .ok sz w := fun w => by simp [sizeOf, typeInfo, hi, his]
        simp only [Sem.run_bind, run_underlying hu, Result.andThen_ok, hsize, Sem.run_ite, if_neg (show ¬ n * sz > 2 ^ 24 by omega)]
        by_cases h0 : n * sz = 0
        · simp only [if_pos h0, Sem.run_pure, Result.andThen_ok, hpp]
          have harr : (Array.range (n * sz)).map (fun j => if n * sz = 0 then default else zv.cells[j % zv.cells.size]!) = (Array.range (n * sz)).map (fun x => (#[] : Array Value)[x % (#[] : Array Value).size]!) := by
            rw [h0]; rfl
          rw [harr] at f1
          simp only [f1, newRow, Sem.run_bind, run_newObj_alloc, Result.andThen_ok, Sem.run_pure]
        · simp only [if_neg h0, Sem.run_bind, zeroValue, typeInfo, run_program, hi, hzv, Sem.run_pure, Result.andThen_ok, hpp]
          simp only [if_neg h0] at f1
          simp only [f1, newRow, Sem.run_bind, run_newObj_alloc, Result.andThen_ok, Sem.run_pure]
      rw [hrun]
      rfl
    · by_cases hn0 : n = 0
      · subst hn0
        have : ps.toList.map (fun p => cellsOf (ρ p.2)) = [] := List.eq_nil_of_length_eq_zero (by simpa using hlen)
        rw [this]
        exact .inl ⟨rfl, _, rfl⟩
      refine .inr ⟨w.heap.size, n, sz, r, e, ?_, ?_, heap_alloc_new w _, f2, ?_, ?_, ?_, ?_, ?_, ?_⟩
      · simp [hlen]
      · rw [setK_same]; simp [hlen]
      · simp only [List.length_map, hlen]; omega
      · simp [hlen]
      · have : n ≤ n * sz := Nat.le_mul_of_pos_right n hsz
        unfold maxLen; omega
      · have : n ≤ n * sz := Nat.le_mul_of_pos_right n hsz
        simp only [List.length_map, hlen]; unfold big; omega
      · intro i x hx
        rw [List.getElem?_map, Option.map_eq_some_iff] at hx
        obtain ⟨q, hq, rfl⟩ := hx
        exact (hrep i q hq).2.2
      · intro i x hx j d hd
        rw [List.getElem?_map, Option.map_eq_some_iff] at hx
        obtain ⟨q, hq, rfl⟩ := hx
        obtain ⟨r1, r2, r3⟩ := hrep i q hq
        obtain ⟨c1, c2, c3⟩ := cells_rep r1 r2
        have hj : j < sz := by rw [← r3]; exact (List.getElem?_eq_some_iff.1 hd).1
        have hget := f4 i (q.1, σ q.2) (by rw [List.getElem?_map, hq]; rfl) j hj
        rw [Nat.zero_add] at hget
        have hju : (σ q.2).cells[j]? = some ((σ q.2).cells[j]'(by rw [c1, r3]; exact hj)) := Array.getElem?_eq_getElem _
        exact ⟨_, hget.trans hju, c2 j _ hju, (c3 j d _ hd hju).mono (hp.keep hk).ext⟩
  · exact h.elim
end
end Go.Aw
