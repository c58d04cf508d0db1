/- A part of the proof of what the last text says: Aw6, AwM. Conditions: those in each theorem. -/
import Derived.Test.YtffbjejmobhpkaaV2
set_option linter.unusedVariables false
set_option linter.unusedSimpArgs false
set_option maxRecDepth 100000
set_option maxHeartbeats 16000000
open Nat renaming reduceSub → qa,reduceAdd → qb,reduceMul → qc,reduceEqDiff → qd,reduceLeDiff → qe,reduceBEq → qf
section
namespace Go.Aw
open Go Go.RowKit
theorem fold_cells (off : Nat) : ∀ (l : List Value) (s : Nat) (cells : Array Value),∃ r,(l.zipIdx s).foldl (fun cs p => cs.setIfInBounds (off + p.2) p.1) cells = r ∧ r.size = cells.size ∧
    ∀ p,p < cells.size → r[p]? = if off + s ≤ p ∧ p < off + s + l.length then l[p - (off + s)]? else cells[p]?
  | [],s,cells => ⟨cells,rfl,rfl,fun p hp => by rw [if_neg (by simp)]⟩
  | v :: l,s,cells => by
    obtain ⟨r,h1,h2,h3⟩ := fold_cells off l (s + 1) (cells.setIfInBounds (off + s) v)
    refine ⟨r,by simpa [List.zipIdx_cons] using h1,by simpa using h2,fun p hp => ?_⟩
    rw [h3 p (by simpa using hp)]
    simp only [List.length_cons]
    by_cases hA : off + (s + 1) ≤ p ∧ p < off + (s + 1) + l.length
    · rw [if_pos hA,if_pos (by omega),show p - (off + s) = (p - (off + (s + 1))) + 1 by omega,List.getElem?_cons_succ]
    · rw [if_neg hA]
      by_cases hB : p = off + s
      · subst hB
        rw [if_pos (by omega)]
        simp [hp]
      · rw [if_neg (by omega),Array.getElem?_setIfInBounds_ne (by omega)]
theorem fold_arr (off : Nat) (vs cells : Array Value) : ∃ r,vs.zipIdx.foldl (fun cs (c,j) => cs.setIfInBounds (off + j) c) cells = r ∧ r.size = cells.size ∧
    ∀ p,p < cells.size → r[p]? = if off ≤ p ∧ p < off + vs.size then vs[p - off]? else cells[p]? := by
  obtain ⟨r,h1,h2,h3⟩ := fold_cells off vs.toList 0 cells
  refine ⟨r,?_,h2,fun p hp => by simpa using h3 p hp⟩
  rw [← h1,← Array.foldl_toList,Array.toList_zipIdx]
theorem fill_dense (size n : Nat) : ∀ (parts : List (Nat × Value)) (s : Nat) (cells : Array Value),cells.size = n * size → s + parts.length ≤ n → (∀ (i : Nat) (p : Nat × Value),parts[i]? = some p → p.1 = s + i ∧ p.2.cells.size = size) →
    ∃ r,Instr.fill (fun i => some (i * size,size)) cells parts = some r ∧ r.size = n * size ∧ (∀ q,q < s * size → r[q]? = cells[q]?) ∧ ∀ (i : Nat) (p : Nat × Value),parts[i]? = some p → ∀ j,j < size → r[(s + i) * size + j]? = p.2.cells[j]?
  | [],s,cells,hc,_,_ => ⟨cells,rfl,hc,fun _ _ => rfl,fun i p h => by simp at h⟩
  | (i0,v) :: parts,s,cells,hc,hl,hp => by
    obtain ⟨e1,e2⟩ := hp 0 _ rfl
    simp only [Nat.add_zero] at e1
    dsimp only at e1 e2
    subst e1
    simp only [List.length_cons] at hl
    have hfit : i0 * size + size ≤ n * size := by rw [← Nat.succ_mul]; exact Nat.mul_le_mul_right _ (by omega)
    obtain ⟨r1,f1,f2,f3⟩ := fold_arr (i0 * size) v.cells cells
    obtain ⟨r,g1,g2,g3,g4⟩ := fill_dense size n parts (i0 + 1) r1 (by omega) (by omega) (fun i p h => by
      have := hp (i + 1) p h
      exact ⟨by omega,this.2⟩)
    refine ⟨r,?_,g2,fun q hq => ?_,fun i p h j hj => ?_⟩
    · simp only [Instr.fill]
      rw [if_neg (by simp; omega)]
      exact (congrArg (fun c => Instr.fill (fun i => some (i * size,size)) c parts) f1).trans g1
    · rw [g3 q (by rw [Nat.succ_mul]; omega),f3 q (by omega),if_neg (by omega)]
    · cases i with
      | zero =>
        simp only [List.getElem?_cons_zero,Option.some.injEq] at h
        subst h
        rw [Nat.add_zero,g3 _ (by rw [Nat.succ_mul]; omega),f3 _ (by omega),if_pos (by omega)]
        congr 1
        omega
      | succ i =>
        have := g4 i p h j hj
        rwa [show i0 + 1 + i = i0 + (i + 1) by omega] at this
theorem fill_fields {P : Program} {t : TypeId} {K : Nat → BK} {w : World} (place : Nat → Option (Nat × Nat))
    (hplace : ∀ i off b n,bldI P t i = some (off,b,n) → place i = some (off,n)) :
    ∀ (ps : List (Nat × D)) (vs : List (Nat × Value)) (z : List D) (cells : Array Value) (k : List D → Prop),(∀ p ∈ ps,okc p.2 = true) → vs.length = ps.length →
      (∀ (i : Nat) (p : Nat × D) (q : Nat × Value),ps[i]? = some p → vs[i]? = some q → q.1 = p.1 ∧ RepV K w p.2 q.2) →
      cells.size = z.length → (∀ (j : Nat) (u : Value),cells[j]? = some u → u.oneCell' = true) → (∀ (j : Nat) (d : D) (u : Value),z[j]? = some d → cells[j]? = some u → RepV K w d u) →
      fillS P t (ps.map fun p => (p.1,cellsOf p.2)) z k → ∃ cs r,k cs ∧ (∀ k',k' cs → fillS P t (ps.map fun p => (p.1,cellsOf p.2)) z k') ∧ Instr.fill place cells vs = some r ∧ RepV K w (.agg cs) (.agg r)
  | [],[],z,cells,k,_,_,_,hs,h1,hr,h => ⟨z,cells,h,fun _ h => h,rfl,.agg z cells hs h1 hr⟩
  | p :: ps,q :: vs,z,cells,k,ho,hl,hpq,hs,h1,hr,h => by
    obtain ⟨e1,e2⟩ := hpq 0 p q rfl rfl
    simp only [List.map_cons,fillS] at h ⊢
    split at h
    · rename_i off b n hf
      obtain ⟨hn,hle,h⟩ := h
      obtain ⟨c1,c2,c3⟩ := cells_rep e2 (ho p (.head _))
      obtain ⟨r1,f1,f2,f3⟩ := fold_arr off q.2.cells cells
      have hz' : (z.take off ++ (cellsOf p.2 ++ z.drop (off + n))).length = z.length := by simp; omega
      have hget : ∀ j d,(z.take off ++ (cellsOf p.2 ++ z.drop (off + n)))[j]? = some d → (off ≤ j ∧ j < off + n ∧ (cellsOf p.2)[j - off]? = some d) ∨ (¬ (off ≤ j ∧ j < off + n) ∧ z[j]? = some d) := by
        intro j d hj
        simp only [List.getElem?_append,List.length_take,List.getElem?_take,List.getElem?_drop] at hj
        by_cases a1 : j < off
        · rw [if_pos (by omega),if_pos a1] at hj; exact .inr ⟨by omega,hj⟩
        · rw [if_neg (by omega)] at hj
          by_cases a2 : j < off + n
          · rw [if_pos (by omega)] at hj
            refine .inl ⟨by omega,a2,?_⟩
            rw [← hj]; congr 1; omega
          · rw [if_neg (by omega)] at hj
            refine .inr ⟨by omega,?_⟩
            rw [← hj]; congr 1; omega
      obtain ⟨cs,r,g1,g2,g3,g4⟩ := fill_fields place hplace ps vs _ r1 k (fun p hp => ho p (.tail _ hp)) (Nat.succ.inj hl) (fun i p q hp hq => hpq (i + 1) p q hp hq)
        (by rw [f2,hz',hs]) (fun j u hu => by
          have hj : j < cells.size := by rw [← f2]; exact (Array.getElem?_eq_some_iff.1 hu).1
          rw [f3 j hj] at hu
          split at hu
          · exact c2 _ u hu
          · exact h1 j u hu)
        (fun j d u hd hu => by
          have hj : j < cells.size := by rw [← f2]; exact (Array.getElem?_eq_some_iff.1 hu).1
          rw [f3 j hj] at hu
          rcases hget j d hd with ⟨a1,a2,a3⟩ | ⟨a1,a3⟩
          · rw [if_pos (by omega)] at hu
            exact c3 _ d u a3 hu
          · rw [if_neg (by omega)] at hu
            exact hr j d u a3 hu) h
      refine ⟨cs,r,g1,fun k' hk' => ⟨hn,hle,g2 k' hk'⟩,?_,g4⟩
      obtain ⟨i0,v⟩ := q
      simp only [Instr.fill]
      have hpl := hplace _ _ _ _ hf
      rw [← e1] at hpl
      simp only [] at hpl ⊢
      rw [hpl]
      simp only []
      rw [if_neg (by simp only [] at c1; simp; omega)]
      exact (congrArg (fun c => Instr.fill place c vs) f1).trans g3
    · exact h.elim
  | [],_ :: _,_,_,_,_,hl,_,_,_,_,_ => by simp at hl
  | _ :: _,[],_,_,_,_,hl,_,_,_,_,_ => by simp at hl
theorem run_mapM_list {P : Program} {w : World} {α β : Type} (f : α → Sem β) (g : α → β) : ∀ (l : List α),(∀ x ∈ l,(f x).run P w = .ok (g x) w) → (l.mapM f).run P w = .ok (l.map g) w
  | [],_ => by simp
  | x :: l,h => by
    simp only [List.mapM_cons,Sem.run_bind,h x (.head _),Result.andThen_ok,run_mapM_list f g l (fun y hy => h y (.tail _ hy)),Sem.run_pure,List.map_cons]
theorem build_place {P : Program} {t : TypeId} (hfo : fldsOk P t = true) : ∃ place : Nat → Option (Nat × Nat),(∀ i off b n,bldI P t i = some (off,b,n) → place i = some (off,n)) ∧
    ∀ (w : World) (i : TypeInfo) (zv : Value) (parts : Array (Nat × Value)) (r : Array Value),P.info? t = some i → i.zero = some zv → Instr.fill place zv.cells parts.toList = some r → (Instr.build t parts).run P w = .ok (.agg r) w := by
  unfold fldsOk at hfo
  split at hfo
  · rename_i fs hu
    have hall : ∀ f ∈ fs.toList,(P.info? f.type).isSome = true := fun f hf => (Array.all_eq_true'.1 hfo) f (by simpa using hf)
    let g : Field → Nat × Nat := fun f => (f.offset,((P.info? f.type).map (·.size)).getD 0)
    have hplaces : ∀ w : World,(fs.mapM fun f => do pure (f.offset,← sizeOf f.type) : Sem _).run P w = .ok (fs.map g) w := by
      intro w
      rw [Array.mapM_eq_mapM_toList,Sem.run_map,run_mapM_list _ g fs.toList (fun f hf => by
        obtain ⟨i,hi⟩ := Option.isSome_iff_exists.1 (hall f hf)
        simp [sizeOf,typeInfo,hi,g])]
      simp only [Result.andThen_ok]
      congr 1
      apply Array.ext'
      simp
    refine ⟨((fs.map g)[·]?),fun i off b n hf => ?_,fun w i zv parts r hi hzv hr => ?_⟩
    · unfold bldI at hf
      rw [hu] at hf
      simp only [] at hf
      obtain ⟨fs',x,hu',hx,hof,hty,hn⟩ := fldI_spec hf
      rw [hu] at hu'
      obtain rfl : fs = fs' := by simpa using hu'
      show (fs.map g)[i]? = _
      rw [Array.getElem?_map,hx,Option.map_some]
      unfold tyI at hty
      cases h1 : P.underlying x.type with
      | none => simp [h1] at hty
      | some d =>
        cases h2 : P.info? x.type with
        | none => simp [h1,h2] at hty
        | some j =>
          simp only [h1,h2,Option.some.injEq,Prod.mk.injEq] at hty
          simp [g,hof,h2,hty.2]
    · unfold Instr.build
      simp only [Sem.run_bind,zeroValue,typeInfo,run_program,Result.andThen_ok,hi,Sem.run_pure,hzv,run_underlying hu,hplaces]
      rw [hr]
      rfl
  · rename_i m e hu
    obtain ⟨ie,hie⟩ := Option.isSome_iff_exists.1 hfo
    refine ⟨fun i => some (i * ie.size,ie.size),fun i off b n hf => ?_,fun w i zv parts r hi hzv hr => ?_⟩
    · unfold bldI at hf
      rw [hu] at hf
      simp only [hie] at hf
      split at hf
      · simp only [Option.some.injEq,Prod.mk.injEq] at hf
        obtain ⟨rfl,_,rfl⟩ := hf
        rfl
      · cases hf
    · unfold Instr.build
      simp only [Sem.run_bind,zeroValue,typeInfo,run_program,Result.andThen_ok,hi,Sem.run_pure,hzv,run_underlying hu,sizeOf,hie]
      rw [hr]
      rfl
  · cases hfo
section
variable {P : Program} {o : Oper} {H : AH} {ρ : Operand → D} {k : D → Prop}
theorem snd_build {t : TypeId} {ps : Array (Nat × Operand)} (ho : o.op = .build t ps) (h : valO P ρ H (.build t ps) k) (hcur : Cur o H ρ) : ∃ d,k d ∧ Yields P o H ρ d := by
  simp only [valO] at h
  split at h
  · rename_i z hz
    obtain ⟨hfo,hok,h⟩ := h
    obtain ⟨i,zv,hi,hzv,z1,z2,z3,z4⟩ := zcI_spec hz
    obtain ⟨place,hplace,hbuild⟩ := build_place hfo
    · have main : ∀ (K : Nat → BK) (w : World) (σ : Operand → Value),(∀ x ∈ o.op.operands.toList,RepV K w (ρ x) (σ x)) → ∀ k : List D → Prop,fillS P t (ps.toList.map fun p => (p.1,cellsOf (ρ p.2))) (z.map D.view1) k →
          ∃ cs r,k cs ∧ (∀ k',k' cs → fillS P t (ps.toList.map fun p => (p.1,cellsOf (ρ p.2))) (z.map D.view1) k') ∧ (Instr.build t (ps.map fun p => (p.1,σ p.2))).run P w = .ok (.agg r) w ∧ RepV K w (.agg cs) (.agg r) := by
        intro K w σ hr k hk
        have hzr := (zcI_rep hz hi hzv K w (fun _ => .outer)).2
        have e := fill_fields (P := P) (t := t) (K := K) (w := w) place hplace (ps.toList.map fun p => (p.1,ρ p.2)) (ps.toList.map fun p => (p.1,σ p.2)) (z.map D.view1) zv.cells k
          (fun p hp => by
            rw [List.mem_map] at hp
            obtain ⟨q,hq,rfl⟩ := hp
            exact hok q hq) (by simp)
          (fun i p q hp hq => by
            simp only [List.getElem?_map,Option.map_eq_some_iff] at hp hq
            obtain ⟨a,ha,rfl⟩ := hp
            obtain ⟨b,hb,rfl⟩ := hq
            rw [ha] at hb
            obtain rfl := Option.some.inj hb
            exact ⟨rfl,hr a.2 (by simp only [ho,Op.operands]; simp only [List.mem_map]; exact ⟨a,List.mem_of_getElem? ha,rfl⟩)⟩)
          (by rw [z1]; simp) (fun j u hu => (z3 j u hu).1)
          (fun j d u hd hu => by
            rw [List.getElem?_map,Option.map_eq_some_iff] at hd
            obtain ⟨d',hd',rfl⟩ := hd
            obtain ⟨u',e1,e2,e3⟩ := hzr j d' hd'
            rw [hu] at e1
            obtain rfl := Option.some.inj e1
            exact e3.rep)
          (by rw [List.map_map]; exact hk)
        obtain ⟨cs,r,g1,g2,g3,g4⟩ := e
        refine ⟨cs,r,g1,fun k' hk' => by have := g2 k' hk'; rw [List.map_map] at this; exact this,?_,g4⟩
        refine hbuild w i zv _ r hi hzv ?_
        have : (ps.map fun p => (p.1,σ p.2)).toList = ps.toList.map fun p => (p.1,σ p.2) := by simp
        rw [this,g3]
      obtain ⟨K0,w0,σ0,hk0,hh0,hr0⟩ := hcur
      obtain ⟨cs,r,g1,g2,_,_⟩ := main K0 w0 σ0 hr0 _ h
      refine ⟨.agg cs,g1,yields_same fun K w σ hk hh hr => ?_⟩
      obtain ⟨cs',r',e1,e2,e3,e4⟩ := main K w σ hr (fun x => x = cs) (g2 _ rfl)
      subst e1
      refine ⟨.agg r',?_,e4⟩
      simp only [execOp,ho,Sem.run_bind]
      have : (ps.map fun x => match x with | (i,x) => (i,σ x)) = ps.map fun p => (p.1,σ p.2) := rfl
      rw [this,e3]
      rfl
  · exact h.elim
theorem snd_buildSlice {t : TypeId} {n : Nat} {ps : Array (Nat × Operand)} (ho : o.op = .buildSlice t n ps) (h : valO P ρ H (.buildSlice t n ps) k) (hcur : Cur o H ρ) : ∃ d,k d ∧ Yields P o H ρ d := by
  simp only [valO] at h
  split at h
  · rename_i e sz hsl
    obtain ⟨hrange,hok,hn,hz,h⟩ := h
    refine ⟨_,h,?_⟩
    obtain ⟨hu,hsz,i,hi,his⟩ := slI_spec hsl
    obtain ⟨zc,hz⟩ := Option.isSome_iff_exists.1 hz
    obtain ⟨i',zv,hi',hzv,z1,z2,z3,z4⟩ := zcI_spec hz
    rw [hi] at hi'
    obtain rfl := Option.some.inj hi'
    intro K w σ slot hk hh hr
    have hlen : ps.toList.length = n := by have := congrArg List.length hrange; simpa using this
    have hidx : ∀ (i : Nat) (p : Nat × Operand),ps.toList[i]? = some p → p.1 = i := fun i p hp => by
      have h1 : (ps.toList.map (·.1))[i]? = some p.1 := by rw [List.getElem?_map,hp]; rfl
      rw [hrange] at h1
      have := List.getElem?_eq_some_iff.1 h1
      obtain ⟨hl,he⟩ := this
      simpa using he.symm
    have hrep : ∀ (i : Nat) (p : Nat × Operand),ps.toList[i]? = some p → RepV K w (ρ p.2) (σ p.2) ∧ okc (ρ p.2) = true ∧ (cellsOf (ρ p.2)).length = sz := fun i p hp => by
      have hm := List.mem_of_getElem? hp
      exact ⟨hr p.2 (by simp only [ho,Op.operands]; simp only [List.mem_map]; exact ⟨p,hm,rfl⟩),hok p hm⟩
    obtain ⟨r,f1,f2,_,f4⟩ := fill_dense sz n (ps.toList.map fun p => (p.1,σ p.2)) 0 ((Array.range (n * sz)).map (fun j => if n * sz = 0 then default else zv.cells[j % zv.cells.size]!)) (by simp) (by simp only [List.length_map]; omega)
      (fun i p hp => by
        rw [List.getElem?_map,Option.map_eq_some_iff] at hp
        obtain ⟨q,hq,rfl⟩ := hp
        obtain ⟨r1,r2,r3⟩ := hrep i q hq
        have := (cells_rep r1 r2).1
        exact ⟨by simpa using hidx i q hq,by rw [this,r3]⟩)
    obtain ⟨hp,hk'⟩ := pres_alloc (K := K) (w := w) hk (.cells r e) (x := .tok (n * sz) (.slot slot 0)) (by simp)
    refine ⟨.slice (some ⟨w.heap.size,0,none⟩) n n,_,_,?_,hp,hk',?_⟩
    · simp only [execOp,ho,Sem.run_bind]
      have hpp : (ps.map fun x => match x with | (i,x) => (i,σ x)).toList = ps.toList.map fun p => (p.1,σ p.2) := by simp
      have hrun : (Instr.buildSlice t n (ps.map fun x => match x with | (i,x) => (i,σ x))).run P w = .ok (.slice (some ⟨w.heap.size,0,none⟩) n n) (w.alloc (.cells r e)) := by
        unfold Instr.buildSlice
        have hsize : ∀ w : World,(sizeOf e).run P w = .ok sz w := fun w => by simp [sizeOf,typeInfo,hi,his]
        simp only [Sem.run_bind,run_underlying hu,Result.andThen_ok,hsize,Sem.run_ite,if_neg (show ¬ n * sz > 2 ^ 24 by omega)]
        by_cases h0 : n * sz = 0
        · simp only [if_pos h0,Sem.run_pure,Result.andThen_ok,hpp]
          have harr : (Array.range (n * sz)).map (fun j => if n * sz = 0 then default else zv.cells[j % zv.cells.size]!) = (Array.range (n * sz)).map (fun x => (#[] : Array Value)[x % (#[] : Array Value).size]!) := by
            rw [h0]; rfl
          rw [harr] at f1
          simp only [f1,newRow,Sem.run_bind,run_newObj_alloc,Result.andThen_ok,Sem.run_pure]
        · simp only [if_neg h0,Sem.run_bind,zeroValue,typeInfo,run_program,hi,hzv,Sem.run_pure,Result.andThen_ok,hpp]
          simp only [if_neg h0] at f1
          simp only [f1,newRow,Sem.run_bind,run_newObj_alloc,Result.andThen_ok,Sem.run_pure]
      rw [hrun]
      rfl
    · by_cases hn0 : n = 0
      · subst hn0
        have : ps.toList.map (fun p => cellsOf (ρ p.2)) = [] := List.eq_nil_of_length_eq_zero (by simpa using hlen)
        rw [this]
        exact .inl ⟨rfl,_,rfl⟩
      refine .inr ⟨w.heap.size,n,sz,r,e,?_,?_,heap_alloc_new w _,f2,?_,?_,?_,?_,?_,?_⟩
      · simp [hlen]
      · rw [setK_same]; simp [hlen]
      · simp only [List.length_map,hlen]; omega
      · simp [hlen]
      · have : n ≤ n * sz := Nat.le_mul_of_pos_right n hsz
        unfold maxLen; omega
      · have : n ≤ n * sz := Nat.le_mul_of_pos_right n hsz
        simp only [List.length_map,hlen]; unfold big; omega
      · intro i x hx
        rw [List.getElem?_map,Option.map_eq_some_iff] at hx
        obtain ⟨q,hq,rfl⟩ := hx
        exact (hrep i q hq).2.2
      · intro i x hx j d hd
        rw [List.getElem?_map,Option.map_eq_some_iff] at hx
        obtain ⟨q,hq,rfl⟩ := hx
        obtain ⟨r1,r2,r3⟩ := hrep i q hq
        obtain ⟨c1,c2,c3⟩ := cells_rep r1 r2
        have hj : j < sz := by rw [← r3]; exact (List.getElem?_eq_some_iff.1 hd).1
        have hget := f4 i (q.1,σ q.2) (by rw [List.getElem?_map,hq]; rfl) j hj
        rw [Nat.zero_add] at hget
        have hju : (σ q.2).cells[j]? = some ((σ q.2).cells[j]'(by rw [c1,r3]; exact hj)) := Array.getElem?_eq_getElem _
        exact ⟨_,hget.trans hju,c2 j _ hju,(c3 j d _ hd hju).mono (hp.keep hk).ext⟩
  · exact h.elim
end
end Go.Aw
end
section
namespace Go.Aw
open Go Go.RowKit
section
variable {P : Program} {o : Oper} {H : AH} {ρ : Operand → D} {k : D → Prop}
theorem RepV.mp_inv {K : Nat → BK} {w : World} {r : Option Nat} {v : Value} (h : RepV K w (.mp r) v) : v = .map r := by cases h; rfl
theorem RepV.mpv_inv {K : Nat → BK} {w : World} {es : List (D × D)} {v : Value} (h : RepV K w (.mpv es) v) : ∃ b c,v = .map (some b) ∧ K b = .imm ∧ b < w.heap.size ∧ w.heap[b]? = some (.map c c.size) ∧ c.size = es.length ∧
    (∀ (j : Nat) (p : D × D) (e : MapEntry),es[j]? = some p → c[j]? = some e → RepV K w p.1 e.key) ∧ (∀ (j : Nat) (p : D × D) (e : MapEntry),es[j]? = some p → c[j]? = some e → RepV K w p.2 e.val) := by
  cases h with | mpv _ b c hk hb hh hl h1 h2 => exact ⟨b,c,rfl,hk,hb,hh,hl,h1,h2⟩
theorem run_checkKey_flat (em : Bool) : ∀ (e d : Nat) (t : TypeId) (l : List CT),flatT P e t = some l → e ≤ d → ∀ (vx : List Value) (w : World),fitsV l vx → (Instr.checkKey em d t (mkV P t vx)).run P w = .ok () w := by
  intro e
  induction e with
  | zero => intro d t l h; simp [flatT] at h
  | succ e ih =>
    intro d t l h hd vx w hx
    obtain ⟨d,rfl⟩ : ∃ d',d = d' + 1 := ⟨d - 1,by omega⟩
    simp only [flatT] at h
    split at h
    · rename_i k hu
      cases h
      have ha : isAggB P t = false := by simp [isAggB,hu]
      match vx,hx with
      | [.int ka a],_ => simp [mkV,ha,Instr.checkKey,run_underlying hu]
    · rename_i hu
      cases h
      have ha : isAggB P t = false := by simp [isAggB,hu]
      match vx,hx with
      | [.bool a],_ => simp [mkV,ha,Instr.checkKey,run_underlying hu]
    · rename_i hu
      cases h
      have ha : isAggB P t = false := by simp [isAggB,hu]
      match vx,hx with
      | [.string a],_ => simp [mkV,ha,Instr.checkKey,run_underlying hu]
    · rename_i fs hu
      split at h
      · rename_i hst
        have ha : isAggB P t = true := by simp [isAggB,hu]
        simp only [mkV,ha,if_true]
        rw [Instr.checkKey]
        simp only [Sem.run_bind,run_underlying hu,Result.andThen_ok]
        rw [← Array.forIn_toList]
        have key : ∀ (fl : List Field) (off : Nat) (l : List CT),flatF P (flatT P e) fl off = some l → fitsV l (vx.drop off) →
            (forIn fl PUnit.unit fun (f : Field) (_ : PUnit) => (if f.name ≠ "_" then do
                let x ← part f.type vx.toArray f.offset
                Instr.checkKey em d f.type x
                pure (ForInStep.yield PUnit.unit)
              else pure (ForInStep.yield PUnit.unit) : Sem (ForInStep PUnit))).run P w = .ok PUnit.unit w := by
          intro fl
          induction fl with
          | nil => intro off l _ _; simp
          | cons f fl ihf =>
            intro off l hl h1
            simp only [flatF] at hl
            split at hl
            · rename_i hname
              split at hl
              · rename_i lf hlf
                split at hl
                · rename_i htI
                  split at hl
                  · rename_i r hr
                    simp only [Option.some.injEq] at hl
                    subst hl
                    obtain ⟨f1,g1⟩ := fitsV_append h1
                    have ho : f.offset = off := hname.2
                    have p1 := run_part_mk (P := P) htI.1 htI.2.1 vx off (by
                      have := fitsV_len f1
                      have := htI.2.2
                      simp only [List.length_take,List.length_drop] at *
                      omega) w
                    have q := ih d f.type lf hlf (by omega) _ w f1
                    have rest := ihf (off + lf.length) r hr (by rwa [List.drop_drop] at g1)
                    simp only [List.forIn_cons,if_pos hname.1,ho,Sem.run_bind,p1,Result.andThen_ok,q,Sem.run_pure]
                    exact rest
                  · cases hl
                · cases hl
              · cases hl
            · cases hl
        rw [key fs.toList 0 l h (by simpa using hx)]
        rfl
      · cases h
    · cases h
theorem zC_rep {K : Nat → BK} {w : World} {v : Value} (h : constOk v = true) : RepV K w (zC v) v := by
  have hr := constD_rep (K := K) (w := w) (o := .outer) h
  unfold zC
  generalize hc : constD v = d at hr
  cases d with
  | own xs =>
    unfold constD at hc
    split at hc <;> first
      | (injection hc with hc; subst hc; exact .oslnil _ _ _)
      | cases hc
  | _ => exact hr
theorem zD_spec {t : TypeId} {z : D} (h : zD P t = some z) : ∃ i v,P.info? t = some i ∧ i.zero = some v ∧ ∀ K w,RepV K w z v := by
  unfold zD at h
  split at h
  · rename_i i hi
    split at h
    · rename_i cs hz
      split at h
      · rename_i hall
        cases h
        refine ⟨i,_,hi,hz,fun K w => .agg _ cs (by simp) (fun j v hv => ?_) (fun j d v hd hv => ?_)⟩
        · have := List.all_eq_true.1 hall v (Array.mem_toList_iff.2 (Array.mem_of_getElem? hv))
          simp only [Bool.and_eq_true] at this
          exact this.2
        · have := List.all_eq_true.1 hall v (Array.mem_toList_iff.2 (Array.mem_of_getElem? hv))
          simp only [Bool.and_eq_true] at this
          rw [List.getElem?_map,Array.getElem?_toList,hv] at hd
          cases hd
          exact zC_rep this.1
      · cases h
    · rename_i v hv hz
      split at h
      · rename_i hall
        cases h
        simp only [Bool.and_eq_true] at hall
        exact ⟨i,v,hi,hz,fun K w => zC_rep hall.1⟩
      · cases h
    · cases h
  · cases h
theorem val_mkV {K : Nat → BK} {w : World} {t : TypeId} {l : List CT} {d : D} {v : Value} (hr : RepV K w d v) (ha : isAg d = isAggB P t) (hf : fits l (cellsOf d)) (hag : isAggB P t = false → l.length = 1) :
    ∃ vs : List Value,v = mkV P t vs ∧ vs.length = (cellsOf d).length ∧ fitsV l vs ∧ ∀ (j : Nat) (d' : D) (u : Value),(cellsOf d)[j]? = some d' → vs[j]? = some u → RepV K w d' u := by
  have fin : ∀ (vs : List Value),vs.length = (cellsOf d).length → (∀ (j : Nat) (d' : D) (u : Value),(cellsOf d)[j]? = some d' → vs[j]? = some u → RepV K w d' u) → v = mkV P t vs →
      ∃ vs : List Value,v = mkV P t vs ∧ vs.length = (cellsOf d).length ∧ fitsV l vs ∧ ∀ (j : Nat) (d' : D) (u : Value),(cellsOf d)[j]? = some d' → vs[j]? = some u → RepV K w d' u :=
    fun vs h1 h2 h3 => ⟨vs,h3,h1,fitsV_of hf h1 h2,h2⟩
  cases d with
  | agg cs =>
    obtain ⟨vs,rfl,h1,_,h3⟩ := hr.agg_inv
    have hb : isAggB P t = true := ha.symm
    exact fin vs.toList (by simpa [cellsOf] using h1) (fun j d' u hd hu => h3 j d' u hd (by simpa using hu)) (by simp [mkV,hb])
  | _ =>
    have hb : isAggB P t = false := ha.symm
    exact fin [v] rfl (fun j d' u hd hu => by
      cases j with
      | zero => simp only [List.getElem?_cons_zero,Option.some.injEq] at hu hd; subst hu; simp only [cellsOf,List.getElem?_cons_zero,Option.some.injEq] at hd; subst hd; exact hr
      | succ j => simp at hu) (by simp [mkV,hb])
theorem flat_one {e : Nat} {t : TypeId} {l : List CT} (h : flatT P e t = some l) (ha : isAggB P t = false) : l.length = 1 := by
  cases e with
  | zero => simp [flatT] at h
  | succ e =>
    simp only [flatT] at h
    split at h
    · cases h; rfl
    · cases h; rfl
    · cases h; rfl
    · rename_i fs hu
      simp [isAggB,hu] at ha
    · cases h
def idxD : List (D × D) → List D → Option Nat
  | [],_ => none
  | p :: r,k => if eqCells k (cellsOf p.1) = true then some 0 else (idxD r k).map (· + 1)
theorem lookD_idx : ∀ (es : List (D × D)) (k : List D),lookD es k = (idxD es k).bind fun i => (es[i]?).map (·.2)
  | [],_ => rfl
  | p :: r,k => by
    simp only [lookD,idxD]
    split
    · rfl
    · rw [lookD_idx r k]
      cases idxD r k <;> rfl
theorem run_findAsking_flat {K : Nat → BK} {w : World} {kt : TypeId} {l : List CT} (hl : flatT P 8 kt = some l) {d : D} {v : Value} (hr : RepV K w d v) (ha : isAg d = isAggB P kt) (hf : fits l (cellsOf d)) :
    ∀ (es : List (D × D)) (c : List MapEntry) (i : Nat),c.length = es.length → (∀ p ∈ es,isAg p.1 = isAggB P kt ∧ fits l (cellsOf p.1) ∧ sameK (cellsOf d) (cellsOf p.1)) →
      (∀ (j : Nat) (p : D × D) (e : MapEntry),es[j]? = some p → c[j]? = some e → RepV K w p.1 e.key) →
      (Instr.findAsking kt v c i).run P w = .ok ((idxD es (cellsOf d)).bind fun j => (c[j]?).map fun e => (i + j,e.val)) w
  | [],[],i,_,_,_ => by simp [Instr.findAsking,idxD]
  | [],_ :: _,_,h,_,_ => by simp at h
  | _ :: _,[],_,h,_,_ => by simp at h
  | p :: es,e :: c,i,hlen,hall,hrep => by
    obtain ⟨vs,h1,h2,h3,h4⟩ := val_mkV (P := P) (t := kt) hr ha hf (flat_one hl)
    obtain ⟨b1,b2,b3⟩ := hall p (.head _)
    have hre := hrep 0 p e rfl rfl
    obtain ⟨us,g1,g2,g3,g4⟩ := val_mkV (P := P) (t := kt) hre b1 b2 (flat_one hl)
    have heq := run_equalIn_flat 8 Op.maxDepth kt l hl (by decide) vs us w h3 g3 (eqVs_of hf b2 b3 h2 g2 h4 g4).2
    have hev : eqVs vs us = eqCells (cellsOf d) (cellsOf p.1) := (eqVs_of hf b2 b3 h2 g2 h4 g4).1
    have ih := run_findAsking_flat hl hr ha hf es c (i + 1) (by simpa using hlen) (fun q hq => hall q (.tail _ hq)) (fun j q e' hj hj' => hrep (j + 1) q e' hj hj')
    have hq : (Op.equal kt v e.key).run P w = .ok (eqCells (cellsOf d) (cellsOf p.1)) w := by
      rw [h1,g1,← hev]; exact heq
    simp only [Instr.findAsking,Sem.run_bind,hq,Result.andThen_ok,Sem.run_ite,idxD]
    cases eqCells (cellsOf d) (cellsOf p.1)
    · simp only [Bool.false_eq_true,if_false,ih]
      cases idxD es (cellsOf d) with
      | none => rfl
      | some j =>
        simp only [Option.map_some,Option.bind_some,List.getElem?_cons_succ]
        cases c[j]? with
        | none => rfl
        | some e' => simp only [Option.map_some]; congr 3; omega
    · simp
theorem sameNow_eq {kd : TypeDesc} {a b : Value} {t : Bool} (h : Instr.sameNow kd a b = some t) : t = eqV a b := by
  unfold Instr.sameNow at h
  split at h
  · split at h
    · cases h; rfl
    · cases h
  · cases h; simp [eqV,beq_toListBytes]
  · cases h; rfl
  · cases h
theorem findNow_flat {K : Nat → BK} {w : World} {kt : TypeId} {kd : TypeDesc} {l : List CT} (hl : flatT P 8 kt = some l) {d : D} {v : Value} (hr : RepV K w d v) (ha : isAg d = isAggB P kt) (hf : fits l (cellsOf d)) :
    ∀ (es : List (D × D)) (c : List MapEntry) (i : Nat) (r : Option (Nat × Value)),c.length = es.length → (∀ p ∈ es,isAg p.1 = isAggB P kt ∧ fits l (cellsOf p.1) ∧ sameK (cellsOf d) (cellsOf p.1)) →
      (∀ (j : Nat) (p : D × D) (e : MapEntry),es[j]? = some p → c[j]? = some e → RepV K w p.1 e.key) →
      Instr.findNow kd v c i = some r → r = (idxD es (cellsOf d)).bind fun j => (c[j]?).map fun e => (i + j,e.val)
  | [],[],i,r,_,_,_,h => by cases h; rfl
  | [],_ :: _,_,_,h,_,_,_ => by simp at h
  | _ :: _,[],_,_,h,_,_,_ => by simp at h
  | p :: es,e :: c,i,r,hlen,hall,hrep,h => by
    obtain ⟨vs,h1,h2,h3,h4⟩ := val_mkV (P := P) (t := kt) hr ha hf (flat_one hl)
    obtain ⟨b1,b2,b3⟩ := hall p (.head _)
    have hre := hrep 0 p e rfl rfl
    obtain ⟨us,g1,g2,g3,g4⟩ := val_mkV (P := P) (t := kt) hre b1 b2 (flat_one hl)
    have hev : eqVs vs us = eqCells (cellsOf d) (cellsOf p.1) := (eqVs_of hf b2 b3 h2 g2 h4 g4).1
    have ih := findNow_flat (kd := kd) hl hr ha hf es c (i + 1) r (by simpa using hlen) (fun q hq => hall q (.tail _ hq)) (fun j q e' hj hj' => hrep (j + 1) q e' hj hj')
    simp only [Instr.findNow] at h
    cases hs : Instr.sameNow kd v e.key with
    | none => simp [hs] at h
    | some t =>
      have ht : t = eqCells (cellsOf d) (cellsOf p.1) := by
        rw [← hev,sameNow_eq hs]
        cases hb : isAggB P kt
        · have hl1 := flat_one hl hb
          have e1 := fitsV_len h3
          have e2 := fitsV_len g3
          match vs,us,(e1.trans hl1),(e2.trans hl1) with
          | [a],[b],_,_ =>
            rw [h1,g1]
            simp [mkV,hb,eqVs]
        · rw [h1] at hs
          simp [mkV,hb,Instr.sameNow] at hs
      subst ht
      simp only [hs] at h
      simp only [idxD]
      cases hc : eqCells (cellsOf d) (cellsOf p.1)
      · rw [hc] at h
        simp only [Bool.false_eq_true,if_false]
        rw [ih h]
        cases idxD es (cellsOf d) with
        | none => rfl
        | some j =>
          simp only [Option.map_some,Option.bind_some,List.getElem?_cons_succ]
          cases c[j]? with
          | none => rfl
          | some e' => simp only [Option.map_some]; congr 2; omega
      · rw [hc] at h
        simp only [Option.some.injEq] at h
        subst h
        simp
theorem run_findKey_flat {K : Nat → BK} {w : World} {kt : TypeId} {l : List CT} (hl : flatT P 8 kt = some l) {d : D} {v : Value} (hr : RepV K w d v) (ha : isAg d = isAggB P kt) (hf : fits l (cellsOf d))
    (es : List (D × D)) (c : List MapEntry) (hlen : c.length = es.length) (hall : ∀ p ∈ es,isAg p.1 = isAggB P kt ∧ fits l (cellsOf p.1) ∧ sameK (cellsOf d) (cellsOf p.1))
      (hrep : ∀ (j : Nat) (p : D × D) (e : MapEntry),es[j]? = some p → c[j]? = some e → RepV K w p.1 e.key) :
      (Instr.findKey kt v c).run P w = .ok ((idxD es (cellsOf d)).bind fun j => (c[j]?).map fun e => (j,e.val)) w := by
  obtain ⟨kd,hu⟩ : ∃ kd,P.underlying kt = some kd := by
    simp only [flatT] at hl
    split at hl
    · exact ⟨_,by assumption⟩
    · exact ⟨_,by assumption⟩
    · exact ⟨_,by assumption⟩
    · exact ⟨_,by assumption⟩
    · cases hl
  have h0 := run_findAsking_flat hl hr ha hf es c 0 hlen hall hrep
  simp only [Nat.zero_add] at h0
  simp only [Instr.findKey,Sem.run_bind,run_underlying hu,Result.andThen_ok]
  cases hn : Instr.findNow kd v c 0 with
  | none => simpa using h0
  | some r =>
    have := findNow_flat hl hr ha hf es c 0 r hlen hall hrep hn
    simp only [Nat.zero_add] at this
    simp [this]
theorem idxD_lt : ∀ {es : List (D × D)} {k : List D} {i : Nat},idxD es k = some i → i < es.length
  | p :: r,k,i,h => by
    simp only [idxD] at h
    split at h
    · cases h; simp
    · obtain ⟨j,h1,rfl⟩ := Option.map_eq_some_iff.1 h
      have := idxD_lt h1
      simp only [List.length_cons]
      omega
theorem mpI_spec {t : TypeId} {ag : Bool} {l : List CT} {z : D} (h : mpI P t = some (ag,l,z)) : ∃ kt et,P.underlying t = some (.map kt et) ∧ flatT P 8 kt = some l ∧ zD P et = some z ∧ ag = isAggB P kt := by
  unfold mpI at h
  split at h
  · rename_i kt et hu
    split at h
    · rename_i l' z' h1 h2
      cases h
      exact ⟨kt,et,hu,h1,h2,rfl⟩
    · cases h
  · cases h
theorem run_lookup {K : Nat → BK} {w : World} {t : TypeId} {ag : Bool} {l : List CT} {z : D} (hm : mpI P t = some (ag,l,z)) {es : List (D × D)} {c : Array MapEntry} {x : Value} {d : D} {v : Value}
    (hx : x = .map none ∧ c = #[] ∨ ∃ b n,x = .map (some b) ∧ w.heap[b]? = some (.map c n)) (hlen : c.size = es.length) (hr : RepV K w d v) (hk : keysOk ag l es d)
    (hkey : ∀ (j : Nat) (p : D × D) (e : MapEntry),es[j]? = some p → c[j]? = some e → RepV K w p.1 e.key)
    (hval : ∀ (j : Nat) (p : D × D) (e : MapEntry),es[j]? = some p → c[j]? = some e → RepV K w p.2 e.val) (ok : Bool) :
    ∃ u,(Instr.lookup t x v ok).run P w = .ok u w ∧ RepV K w (optD ok z (lookD es (cellsOf d))) u := by
  obtain ⟨kt,et,hu,hl,hz,rfl⟩ := mpI_spec hm
  obtain ⟨i,zv,hi,hzv,hzr⟩ := zD_spec hz
  obtain ⟨k1,k2,k3⟩ := hk
  obtain ⟨vs,h1,h2,h3,h4⟩ := val_mkV (P := P) (t := kt) hr k1 k2 (flat_one hl)
  have hck : ∀ em,(Instr.checkKey em 10000 kt v).run P w = .ok () w := fun em => by rw [h1]; exact run_checkKey_flat em 8 10000 kt l hl (by decide) vs w h3
  have hfk := run_findKey_flat hl hr k1 k2 es c.toList (by simpa using hlen) k3 (fun j p e hj he => hkey j p e hj (by simpa using he))
  have hzero : (zeroValue et).run P w = .ok zv w := by simp [zeroValue,typeInfo,hi,hzv]
  have hgo : ∀ b n,w.heap[b]? = some (.map c n) → (getObj b).run P w = .ok (.map c n) w := fun b n hb => by
    unfold getObj
    simp only [Sem.run,hb]
  rw [lookD_idx]
  cases hix : idxD es (cellsOf d) with
  | none =>
    refine ⟨if ok = true then .tuple #[zv,.bool false] else zv,?_,?_⟩
    · unfold Instr.lookup
      rcases hx with ⟨rfl,rfl⟩ | ⟨b,n,rfl,hb⟩
      · simp only [Sem.run_bind,run_underlying hu,Result.andThen_ok,Sem.run_pure,hck,hfk,hix,Option.bind_none,hzero,Sem.run_ite]
      · simp only [Sem.run_bind,run_underlying hu,Result.andThen_ok,Sem.run_pure,hgo b n hb,hck,hfk,hix,Option.bind_none,hzero,Sem.run_ite]
    · cases ok
      · exact hzr K w
      · exact .tup _ _ rfl (fun j d' u hd hu' => by
          match j with
          | 0 => simp at hd hu'; subst hd hu'; exact hzr K w
          | 1 => simp at hd hu'; subst hd hu'; exact .bool _
          | j + 2 => simp at hd)
  | some j =>
    have hj := idxD_lt hix
    have hp := List.getElem?_eq_getElem hj
    have hc : c[j]? = some c[j] := Array.getElem?_eq_getElem (by omega)
    have hrv := hval j _ _ hp hc
    refine ⟨if ok = true then .tuple #[c[j].val,.bool true] else c[j].val,?_,?_⟩
    · unfold Instr.lookup
      have hc' : c.toList[j]? = some c[j] := by rw [Array.getElem?_toList]; exact hc
      rcases hx with ⟨rfl,rfl⟩ | ⟨b,n,rfl,hb⟩
      · simp at hlen; omega
      · simp only [Sem.run_bind,run_underlying hu,Result.andThen_ok,Sem.run_pure,hgo b n hb,hck,hfk,hix,Option.bind_some,hc',Option.map_some,Sem.run_ite]
    · simp only [Option.bind_some,hp,Option.map_some]
      cases ok
      · exact hrv
      · exact .tup _ _ rfl (fun q d' u hd hu' => by
          match q with
          | 0 => simp at hd hu'; subst hd hu'; exact hrv
          | 1 => simp at hd hu'; subst hd hu'; exact .bool _
          | q + 2 => simp at hd)
theorem look_any {wk : Bool} {t : TypeId} {dm di : D} {ok : Bool} (h : lookO P wk t H dm di ok k) {K0 : Nat → BK} {w0 : World} {vm0 vi0 : Value} (hK0 : KRel K0 w0) (hH0 : HRel K0 w0 H) (hm0 : RepV K0 w0 dm vm0) (hi0 : RepV K0 w0 di vi0) :
    ∃ d,k d ∧ ∀ (K : Nat → BK) (w : World) (vm vi : Value),HRel K w H → RepV K w dm vm → RepV K w di vi → ∃ u,(Instr.lookup t vm vi ok).run P w = .ok u w ∧ RepV K w d u := by
  simp only [lookO] at h
  have key : ∀ (es : List (D × D)) (ag : Bool) (l : List CT) (z : D),mpI P t = some (ag,l,z) → keysOk ag l es di →
      (∀ (K : Nat → BK) (w : World) (vm : Value),HRel K w H → RepV K w dm vm →
        ∃ c : Array MapEntry,(vm = .map none ∧ c = #[] ∨ ∃ b n,vm = .map (some b) ∧ w.heap[b]? = some (.map c n)) ∧ c.size = es.length ∧
          (∀ (j : Nat) (p : D × D) (e : MapEntry),es[j]? = some p → c[j]? = some e → RepV K w p.1 e.key) ∧ (∀ (j : Nat) (p : D × D) (e : MapEntry),es[j]? = some p → c[j]? = some e → RepV K w p.2 e.val)) →
      (fact (optD ok z (lookD es (cellsOf di))) → k (wkI wk (optD ok z (lookD es (cellsOf di))))) → ∃ d,k d ∧ ∀ (K : Nat → BK) (w : World) (vm vi : Value),HRel K w H → RepV K w dm vm → RepV K w di vi → ∃ u,(Instr.lookup t vm vi ok).run P w = .ok u w ∧ RepV K w d u := by
    intro es ag l z hm hk hc hkk
    obtain ⟨c,c1,c2,c3,c4⟩ := hc K0 w0 vm0 hH0 hm0
    obtain ⟨u,_,hu⟩ := run_lookup hm c1 c2 hi0 hk c3 c4 ok
    refine ⟨_,hkk hu.fact,fun K w vm vi hH hr1 hr2 => ?_⟩
    obtain ⟨c,c1,c2,c3,c4⟩ := hc K w vm hH hr1
    obtain ⟨u,hrun,hu⟩ := run_lookup hm c1 c2 hr2 hk c3 c4 ok
    exact ⟨u,hrun,hu.wkI⟩
  split at h
  · rename_i ag l z hm
    refine key [] ag l z hm h.1 (fun K w vm hH hr => ⟨#[],.inl ⟨hr.mp_inv,rfl⟩,rfl,fun j p e hp => by simp at hp,fun j p e hp => by simp at hp⟩) (fun _ => by simpa [lookD] using h.2)
  · rename_i ag l z es hm
    refine key es ag l z hm h.1 (fun K w vm hH hr => ?_) h.2
    obtain ⟨b,c,h1,_,_,hh,hl,hkey,hval⟩ := hr.mpv_inv
    exact ⟨c,.inr ⟨b,_,h1,hh⟩,hl,hkey,hval⟩
  · rename_i ag l z b hm
    split at h
    · rename_i es hg
      refine key es ag l z hm h.1 (fun K w vm hH hr => ?_) h.2
      obtain ⟨_,c,hh,hl,hc⟩ := hH.ok b _ (getH_mem hg)
      refine ⟨c,.inr ⟨b,c.size,hr.mp_inv,hh⟩,hl,fun j p e hp he => ?_,fun j p e hp he => ?_⟩
      · obtain ⟨e',h1,_,h3,_⟩ := hc j p hp
        rw [he] at h1; cases h1; exact h3
      · obtain ⟨e',h1,_,_,h4⟩ := hc j p hp
        rw [he] at h1; cases h1; exact h4
    · exact h.elim
  · exact h.elim
theorem snd_lookup {t : TypeId} {m i : Operand} {ok : Bool} (ho : o.op = .lookup t m i ok) (h : valO P ρ H (.lookup t m i ok) k) (hcur : Cur o H ρ) : ∃ d,k d ∧ Yields P o H ρ d := by
  simp only [valO] at h
  have hops : ∀ {K : Nat → BK} {w : World} {σ : Operand → Value},(∀ x ∈ o.op.operands.toList,RepV K w (ρ x) (σ x)) → RepV K w (ρ m) (σ m) ∧ RepV K w (ρ i) (σ i) := fun hr =>
    ⟨hr m (by simp [ho,Op.operands]),hr i (by simp [ho,Op.operands])⟩
  obtain ⟨K,w,σ,hK,hH,hr⟩ := hcur
  obtain ⟨d,hd,hrun⟩ := look_any h hK hH (hops hr).1 (hops hr).2
  refine ⟨d,hd,yields_same fun K w σ hK hH hr => ?_⟩
  obtain ⟨u,h1,h2⟩ := hrun K w _ _ hH (hops hr).1 (hops hr).2
  refine ⟨u,?_,h2⟩
  simp only [execOp,ho,Sem.run_bind,h1,Result.andThen_ok]
  rfl
end
end Go.Aw
end
