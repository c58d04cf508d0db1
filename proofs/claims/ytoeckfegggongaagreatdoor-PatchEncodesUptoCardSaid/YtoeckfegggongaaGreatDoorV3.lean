/- A part of the proof of what the last text says: Aw7, Aw8. Conditions: those in each theorem. -/
import Derived.Test.YtoeckfegggongaaGreatDoorV2
set_option linter.unusedVariables false
set_option linter.unusedSimpArgs false
set_option maxRecDepth 100000
set_option maxHeartbeats 16000000
open Nat renaming reduceSub → qa,reduceAdd → qb,reduceMul → qc,reduceEqDiff → qd,reduceLeDiff → qe,reduceBEq → qf
section
namespace Go.Aw
open Go Go.RowKit
section
variable {P : Program} {o : Oper} {H : AH} {ρ : Operand → D} {k : D → Prop}
theorem Qf {t : TypeId} {l c : Operand} (ho : o.op = .makeSlice t l c) (h : qW P ρ H (.makeSlice t l c) k) (hcur : Cur o H ρ) : ∃ d,k d ∧ Yields P o H ρ d := by
 simp only [qW] at h
 have hml : l ∈ o.op.operands.toList := by simp [ho,Op.operands]
 have hmc : c ∈ o.op.operands.toList := by simp [ho,Op.operands]
 split at h
 ·rename_i e sz hsl
  split at h
  ·rename_i z k1 n k2 m hz hl hc
   obtain ⟨rfl,h0,hb,h⟩ := h
   obtain ⟨hu,hsz,i,hi,his⟩ := kg hsl
   obtain ⟨i',zv,hi',hzv,z1,z2,z3,z4⟩ := yx hz
   have hii : i = i' := by rw [hi] at hi'; exact Option.some.inj hi'
   subst hii
   simp only [hi] at hb
   refine ⟨_,h,?_⟩
   intro K w σ slot hk hh hr
   have hl' := (hl ▸ hr l hml).int_inv.1
   have hc' := (hc ▸ hr c hmc).int_inv.1
   obtain ⟨q,rfl⟩ := Int.eq_ofNat_of_zero_le h0
   have hrun := run_make (P := P) w t e i zv hu hi hzv k1 k2 q q h0 (Int.le_refl _) (by omega) (by omega)
   simp only [Int.toNat_natCast] at hrun
   obtain ⟨hp,hk'⟩ := wM (K := K) (w := w) hk (.cells (madeCells zv.cells (q * i.size)) e) (x := .tok (q * sz) (.slot slot 0)) (by simp)
   refine ⟨.slice (some ⟨w.heap.size,0,none⟩) q q,_,_,?_,hp,hk',?_⟩
   ·simp only [execOp,ho,Sem.run_bind,hl',hc',hrun,Result.andThen_ok]
    rfl
   ·have hzl : z.length = sz := by omega
    have hrepz := (Yt hz hi hzv (gz K w.heap.size (.tok (q * sz) (.slot slot 0))) (w.alloc (.cells (madeCells zv.cells (q * i.size)) e)) (fun _=>.outer)).2
    by_cases hq0 : q = 0
    ·subst hq0
     exact .inl ⟨rfl,_,rfl⟩
    refine .inr ⟨w.heap.size,q,sz,madeCells zv.cells (q * i.size),e,?_,?_,heap_alloc_new w _,?_,?_,?_,?_,?_,?_,?_⟩
    ·simp
    ·rw [kf]; simp
    ·rw [size_madeCells,his]
    ·simp only [List.length_replicate,Int.toNat_natCast]; omega
    ·simp
    ·unfold maxLen; omega
    ·simp only [List.length_replicate,Int.toNat_natCast]; unfold big; omega
    ·intro i x hx
     have := List.mem_of_getElem? hx
     have := List.eq_of_mem_replicate this
     subst this
     simpa using hzl
    ·intro a x hx j d hd
     have h1 := (List.getElem?_eq_some_iff.1 hx).1
     have := List.eq_of_mem_replicate (List.mem_of_getElem? hx)
     subst this
     simp only [List.length_replicate,Int.toNat_natCast] at h1
     rw [List.getElem?_map,Option.map_eq_some_iff] at hd
     obtain ⟨d',hd',rfl⟩ := hd
     have hj : j < sz := by rw [← hzl]; exact (List.getElem?_eq_some_iff.1 hd').1
     obtain ⟨u,e1,e2,e3⟩ := hrepz j d' hd'
     refine ⟨u,?_,e2,e3.rep⟩
     have hlt : a * sz + j < q * i.size := by
      rw [his]
      have : (a + 1) * sz ≤ q * sz := Nat.mul_le_mul_right _ h1
      rw [Nat.add_mul] at this
      omega
     have hzs : zv.cells.size = sz := by omega
     have hmod : (a * sz + j) % zv.cells.size = j := by rw [hzs,Nat.mul_comm,Nat.mul_add_mod,Nat.mod_eq_of_lt hj]
     unfold madeCells
     rw [Array.getElem?_map,Array.getElem?_range,if_pos hlt]
     simp only [Option.map_some,hmod]
     have hjz : j < zv.cells.size := by omega
     rw [getElem!_pos zv.cells j hjz,← e1]
     exact (Array.getElem?_eq_getElem hjz).symm
  ·exact h.elim
 ·exact h.elim
theorem zV {K : Nat → BK} {w : World} {b off n off' n' : Nat} (h : Vis K w b off n) (h0 : off ≤ off') (h' : off' + n' ≤ off + n) : Vis K w b off' n' := by
 obtain ⟨h1,h2⟩ := h
 refine ⟨h1,?_⟩
 cases hK : K b <;> rw [hK] at h2 <;> first | trivial | (show n' = 0; have : n = 0 := h2; omega) | (show n' = 0 ∨ off' + n' ≤ _; have : n = 0 ∨ off + n ≤ _ := h2; omega)
theorem YP {K : Nat → BK} {w : World} {xs : List (List D)} {a : Option Addr} {len cap : Nat} (hr : RepV K w (.slc xs) (.slice a len cap)) (sz : Nat) (hsz : ∀ (i : Nat) (x : List D),xs[i]? = some x → x.length = sz)
  {l h : Nat} (h1 : l ≤ h) (h2 : h ≤ xs.length) : len = xs.length ∧ xs.length ≤ cap ∧ RepV K w (.slc ((xs.take h).drop l)) (sliced a l h cap sz) := by
 have hlen : ((xs.take h).drop l).length = h - l := by simp; omega
 have key : ∀ (i : Nat) (x : List D),((xs.take h).drop l)[i]? = some x → xs[l + i]? = some x := fun i x hi=>by
  rw [List.getElem?_drop,List.getElem?_take] at hi
  split at hi
  ·exact hi
  ·cases hi
 rcases hr.slc_inv with ⟨rfl,a',he⟩ | ⟨b,off,cap',sz',f,he,hc,hm,hs,hv,hcell,hone,hrep⟩
 ·injection he with e1 e2 e3
  subst e1 e2 e3
  simp only [List.length_nil,Nat.le_zero_eq] at h2
  subst h2
  simp only [Nat.le_zero_eq] at h1
  subst h1
  exact ⟨rfl,Nat.le_refl _,.slcnil _⟩
 ·injection he with e1 e2 e3
  subst e1 e2 e3
  refine ⟨rfl,hc,?_⟩
  unfold sliced
  have hbig := hr.slc_big
  by_cases hcl : cap = l
  ·rw [if_pos hcl]
   have hnil : (xs.take h).drop l = [] := List.eq_nil_of_length_eq_zero (by omega)
   rw [hnil,show h - l = 0 by omega,show cap - l = 0 by omega]
   exact .slcnil _
  ·rw [if_neg hcl]
   simp only [Option.map_some,Addr.add_lit]
   by_cases hz : xs.length = 0
   ·have hnil : (xs.take h).drop l = [] := List.eq_nil_of_length_eq_zero (by omega)
    rw [hnil]
    have hl0 : l = 0 := by omega
    subst hl0
    have hh0 : h = 0 := by omega
    subst hh0
    have := RepV.slc (K := K) (w := w) [] b (off + 0 * sz) (cap - 0) sz (fun _ _=>default) (Nat.zero_le _) (Nat.zero_le _) (by omega) (by simp) (zV hv (by simp) (by simp)) (by simp) (by simp) (by simp)
    exact this
   ·have hszz : sz' = sz := by
     have h0 := List.getElem?_eq_getElem (show 0 < xs.length by omega)
     rw [← hs 0 _ h0,hsz 0 _ h0]
    subst hszz
    rw [← hlen]
    refine .slc _ b (off + l * sz') (cap - l) sz' (fun i j=>f (l + i) j) (by omega) (by omega) (by omega) (fun i x hi=>hs _ x (key i x hi)) (zV hv (Nat.le_add_right _ _) ?_) (fun i x hi j d hj=>?_) (fun i x hi=>hone _ x (key i x hi)) (fun i x hi=>hrep _ x (key i x hi))
    ·rw [hlen]
     have : (l + (h - l)) * sz' ≤ xs.length * sz' := Nat.mul_le_mul_right _ (by omega)
     rw [Nat.add_mul] at this
     omega
    ·rw [← hcell _ x (key i x hi) j d hj]
     congr 2
     rw [Nat.add_mul]
     omega
theorem KX {n cap : Nat} {lo hi : Option D} {K : Nat → BK} {w : World} {vlo vhi : Option Value} (hlo : ∀ d v,lo = some d → vlo = some v → RepV K w d v) (hhi : ∀ d v,hi = some d → vhi = some v → RepV K w d v)
  (e1 : lo.isSome = vlo.isSome) (e2 : hi.isSome = vhi.isSome) {kk : Nat → Nat → Prop} (hc : n ≤ cap) (h : gB n lo hi kk) :
  ∃ l hh,kk l hh ∧ l ≤ hh ∧ hh ≤ n ∧ ∀ b : Bool,(Instr.sliceBounds b n cap vlo vhi none).run P w = .ok (l,hh,cap) w := by
 unfold gB at h
 split at h
 ·cases vlo <;> simp at e1
  cases vhi <;> simp at e2
  exact ⟨0,n,h,Nat.zero_le _,Nat.le_refl _,fun b=>by simp [Instr.sliceBounds]⟩
 ·rename_i ka l
  obtain ⟨a1,a2,a3⟩ := h
  cases vlo <;> simp at e1
  rename_i vl
  cases vhi <;> simp at e2
  obtain ⟨rfl,_⟩ := (hlo _ _ rfl rfl).int_inv
  exact ⟨l.toNat,n,a3,by omega,Nat.le_refl _,fun b=>by simp [Instr.sliceBounds,run_sliceBound_if,a1,a2]⟩
 ·rename_i ka h'
  obtain ⟨a1,a2,a3⟩ := h
  cases vlo <;> simp at e1
  cases vhi <;> simp at e2
  rename_i vh
  obtain ⟨rfl,_⟩ := (hhi _ _ rfl rfl).int_inv
  have : h' ≤ (cap : Int) := by omega
  exact ⟨0,h'.toNat,a3,Nat.zero_le _,by omega,fun b=>by simp [Instr.sliceBounds,run_sliceBound_if,a1,this]⟩
 ·rename_i ka l kb h'
  obtain ⟨a1,a2,a3,a4⟩ := h
  cases vlo <;> simp at e1
  cases vhi <;> simp at e2
  obtain ⟨rfl,_⟩ := (hlo _ _ rfl rfl).int_inv
  obtain ⟨rfl,_⟩ := (hhi _ _ rfl rfl).int_inv
  have b1 : h' ≤ (cap : Int) := by omega
  have b2 : 0 ≤ h' := by omega
  have b3 : l ≤ (h'.toNat : Int) := by omega
  exact ⟨l.toNat,h'.toNat,a4,by omega,by omega,fun b=>by simp only [Instr.sliceBounds,run_sliceBound_if,Sem.run_bind,Sem.run_pure,Result.andThen_ok,if_pos (And.intro b2 b1),if_pos (And.intro a1 b3)]⟩
 ·exact h.elim
theorem Wv {t : TypeId} {x : Operand} {lo hi : Option Operand} (ho : o.op = .slice t x lo hi none) (h : qW P ρ H (.slice t x lo hi none) k) (hcur : Cur o H ρ) : ∃ d,k d ∧ Yields P o H ρ d := by
 simp only [qW] at h
 have hmx : x ∈ o.op.operands.toList := by simp [ho,Op.operands]
 have hml : ∀ y,lo = some y → y ∈ o.op.operands.toList := fun y hy=>by simp [ho,Op.operands,hy]
 have hmh : ∀ y,hi = some y → y ∈ o.op.operands.toList := fun y hy=>by simp [ho,Op.operands,hy]
 obtain ⟨K0,w0,σ0,hk0,hh0,hr0⟩ := hcur
 have bnd : ∀ {n cap : Nat} {K : Nat → BK} {w : World} {σ : Operand → Value} {kk : Nat → Nat → Prop},(∀ x ∈ o.op.operands.toList,RepV K w (ρ x) (σ x)) → n ≤ cap → gB n (lo.map ρ) (hi.map ρ) kk →
   ∃ l hh,kk l hh ∧ l ≤ hh ∧ hh ≤ n ∧ ∀ b : Bool,(Instr.sliceBounds b n cap (lo.map σ) (hi.map σ) none).run P w = .ok (l,hh,cap) w := by
  intro n cap K w σ kk hr hc hk
  refine KX (K := K) (fun d v h1 h2=>?_) (fun d v h1 h2=>?_) (by simp) (by simp) hc hk
  ·rw [Option.map_eq_some_iff] at h1 h2
   obtain ⟨y,h3,rfl⟩ := h1
   obtain ⟨z,h4,rfl⟩ := h2
   rw [h3] at h4
   obtain rfl := Option.some.inj h4
   exact hr y (hml y h3)
  ·rw [Option.map_eq_some_iff] at h1 h2
   obtain ⟨y,h3,rfl⟩ := h1
   obtain ⟨z,h4,rfl⟩ := h2
   rw [h3] at h4
   obtain rfl := Option.some.inj h4
   exact hr y (hmh y h3)
 have main : ∀ (n : Nat) (kk : Nat → Nat → Prop),gB n (lo.map ρ) (hi.map ρ) kk → ∃ l hh,kk l hh ∧ l ≤ hh ∧ hh ≤ n ∧ (∀ kk' : Nat → Nat → Prop,kk' l hh → gB n (lo.map ρ) (hi.map ρ) kk') := by
  intro n kk hkk
  unfold gB at hkk ⊢
  split at hkk
  ·exact ⟨0,n,hkk,Nat.zero_le _,Nat.le_refl _,fun _ h=>h⟩
  ·obtain ⟨a1,a2,a3⟩ := hkk
   exact ⟨_,_,a3,by omega,Nat.le_refl _,fun _ h=>⟨a1,a2,h⟩⟩
  ·obtain ⟨a1,a2,a3⟩ := hkk
   exact ⟨_,_,a3,Nat.zero_le _,by omega,fun _ h=>⟨a1,a2,h⟩⟩
  ·obtain ⟨a1,a2,a3,a4⟩ := hkk
   exact ⟨_,_,a4,by omega,by omega,fun _ h=>⟨a1,a2,a3,h⟩⟩
  ·exact hkk.elim
 split at h
 ·rename_i xs hx
  split at h
  ·rename_i e sz hsl
   obtain ⟨hall,h⟩ := h
   obtain ⟨hu,hsz,i,hi',his⟩ := kg hsl
   have he : P.elem t = e := by simp [Program.elem,hu]
   have hut : P.underlying t = some (.slice (P.elem t)) := by rw [he]; exact hu
   obtain ⟨l,hh,m1,m2,m3,m4⟩ := main _ _ h
   refine ⟨_,m1,qI fun K w σ hk hH hr=>?_⟩
   have hrx := hx ▸ hr x hmx
   obtain ⟨a,cap,hv,hcap,hmax⟩ := hrx.slc_form
   obtain ⟨l',hh',q1,q2,q3,q4⟩ := bnd (kk := fun a b=>l = a ∧ hh = b) hr hcap (m4 _ ⟨rfl,rfl⟩)
   obtain ⟨rfl,rfl⟩ := q1
   rw [hv] at hrx
   obtain ⟨_,_,hrep⟩ := YP hrx sz (fun i x hx=>hall x (List.mem_of_getElem? hx)) q2 q3
   refine ⟨_,?_,hrep⟩
   have hsize : ∀ w : World,(sizeOf (P.elem t)).run P w = .ok sz w := fun w=>by rw [he]; simp [sizeOf,typeInfo,hi',his]
   simp only [execOp,ho,hv,Sem.run_bind,run_sliceAt_slice w t _ _ _ _ hut,run_slice_any w t a xs.length cap hut,q4 true,Result.andThen_ok,hsize,Option.map_none]
   rfl
  ·exact h.elim
 ·rename_i s hx
  obtain ⟨hst,h⟩ := h
  have hu := wZ hst
  obtain ⟨l,hh,m1,m2,m3,m4⟩ := main _ _ h
  refine ⟨_,m1,qI fun K w σ hk hH hr=>?_⟩
  obtain ⟨hv,hb⟩ := (hx ▸ hr x hmx).str_inv
  obtain ⟨l',hh',q1,q2,q3,q4⟩ := bnd (kk := fun a b=>l = a ∧ hh = b) hr (Nat.le_refl _) (m4 _ ⟨rfl,rfl⟩)
  obtain ⟨rfl,rfl⟩ := q1
  refine ⟨.string ⟨⟨(s.take hh).drop l⟩⟩,?_,.str _ (by simp; omega)⟩
  have hsz : (⟨⟨s⟩⟩ : ByteArray).size = s.length := rfl
  have hex : (⟨⟨s⟩⟩ : ByteArray).extract l hh = ⟨⟨(s.take hh).drop l⟩⟩ := by
   apply ByteArray.ext
   rw [ByteArray.data_extract]
   apply Array.ext'
   simp [List.extract_eq_take_drop,List.drop_take]
  simp only [execOp,ho,hv,Sem.run_bind,run_sliceAt_string w t _ _ _ _ hu,Instr.slice,run_underlying hu,Result.andThen_ok,Option.map_none,Option.isSome_none,Bool.false_eq_true,if_false,hsz,q4 false,Sem.run_pure,hex,Sem.run_ite]
 ·exact h.elim
theorem KW {t : TypeId} {x : Operand} {lo : Option Operand} {hi mx : Operand} (ho : o.op = .slice t x lo (some hi) (some mx)) (h : qW P ρ H (.slice t x lo (some hi) (some mx)) k) (hcur : Cur o H ρ) : ∃ d,k d ∧ Yields P o H ρ d := by
 simp only [qW] at h
 have hmx : x ∈ o.op.operands.toList := by simp [ho,Op.operands]
 have hmh : hi ∈ o.op.operands.toList := by simp [ho,Op.operands]
 have hmm : mx ∈ o.op.operands.toList := by simp [ho,Op.operands]
 have fin : ∀ (vlo : (Operand → Value) → Option Value) (K : Nat → BK) (w : World) (σ : Operand → Value) (kh km : IntKind) (xs : List (List D)),(vlo σ = none ∨ ∃ kl,vlo σ = some (.int kl 0)) → lo.map σ = vlo σ → (yE P t).isSome = true → RepV K w (.slc xs) (σ x) → σ hi = .int kh 0 → σ mx = .int km 0 →
   ∃ v,(execOp σ o).run P w = .ok (.value v) w ∧ OwnAt K w (.slot 0 0) [] v ∧ ∃ a,v = .slice a 0 0 := by
  intro vlo K w σ kh km xs hvl hlo hsl hrx hh hm
  obtain ⟨⟨e,sz⟩,hsl⟩ := Option.isSome_iff_exists.1 hsl
  obtain ⟨hu,hsz,i,hi',his⟩ := kg hsl
  have he : P.elem t = e := by simp [Program.elem,hu]
  have hut : P.underlying t = some (.slice (P.elem t)) := by rw [he]; exact hu
  obtain ⟨a,cap,hv,hcap,hmax⟩ := hrx.slc_form
  have hsize : ∀ w : World,(sizeOf (P.elem t)).run P w = .ok sz w := fun w=>by rw [he]; simp [sizeOf,typeInfo,hi',his]
  have hb : (Instr.sliceBounds true xs.length cap (lo.map σ) (some (.int kh 0)) (some (.int km 0))).run P w = .ok (0,0,0) w := by
   rw [hlo]
   rcases hvl with h0 | ⟨kl,h0⟩ <;> rw [h0] <;> simp [Instr.sliceBounds,run_sliceBound_if]
  refine ⟨.slice a 0 0,?_,.inl ⟨rfl,a,rfl⟩,a,rfl⟩
  simp only [execOp,ho,hv,hh,hm,Sem.run_bind,run_sliceAt_slice w t _ _ _ _ hut,run_slice_any w t a xs.length cap hut,Option.map_some,hb,Result.andThen_ok,hsize,sliced]
  simp
 have yields : (∀ (K : Nat → BK) (w : World) (σ : Operand → Value),(∀ x ∈ o.op.operands.toList,RepV K w (ρ x) (σ x)) → ∃ v,(execOp σ o).run P w = .ok (.value v) w ∧ ∃ a,v = .slice a 0 0) → Yields P o H ρ (.own []) := by
  intro hh K w σ i hk hH hr
  obtain ⟨v,h1,a,rfl⟩ := hh K w σ hr
  exact ⟨_,K,w,h1,.refl K w,hk,.inl ⟨rfl,a,rfl⟩⟩
 split at h
 ·rename_i kh h' km m hlo hhi hm
  obtain ⟨rfl,rfl,hsl,⟨xs,hx⟩,h⟩ := h
  refine ⟨_,h,yields fun K w σ hr=>?_⟩
  have hl0 : lo = none := by cases lo <;> simp at hlo; rfl
  obtain ⟨v,e1,_,e2⟩ := fin (fun _=>none) K w σ kh km xs (.inl rfl) (by rw [hl0]; rfl) hsl (hx ▸ hr x hmx) (hhi ▸ hr hi hmh).int_inv.1 (hm ▸ hr mx hmm).int_inv.1
  exact ⟨v,e1,e2⟩
 ·rename_i kl l kh h' km m hlo hhi hm
  obtain ⟨rfl,rfl,rfl,hsl,⟨xs,hx⟩,h⟩ := h
  refine ⟨_,h,yields fun K w σ hr=>?_⟩
  cases lo with
  | none=>simp at hlo
  | some y =>
   simp only [Option.map_some,Option.some.injEq] at hlo
   have hy := (hlo ▸ hr y (by simp [ho,Op.operands])).int_inv.1
   obtain ⟨v,e1,_,e2⟩ := fin (fun σ=>some (σ y)) K w σ kh km xs (.inr ⟨kl,by simp only [hy]⟩) rfl hsl (hx ▸ hr x hmx) (hhi ▸ hr hi hmh).int_inv.1 (hm ▸ hr mx hmm).int_inv.1
   exact ⟨v,e1,e2⟩
 ·exact h.elim
theorem Qb {t : TypeId} {x i : Operand} (ho : o.op = .indexAddr t x i) (h : qW P ρ H (.indexAddr t x i) k) (hcur : Cur o H ρ) : ∃ d,k d ∧ Yields P o H ρ d := by
 simp only [qW] at h
 have hmx : x ∈ o.op.operands.toList := by simp [ho,Op.operands]
 have hmi : i ∈ o.op.operands.toList := by simp [ho,Op.operands]
 have key : ∀ {xs : List (List D)} {ki : IntKind} {n : Int},(∀ (K : Nat → BK) (w : World) (v : Value),RepV K w (ρ x) v → RepV K w (.slc xs) v) → ρ i = .int ki n → (match yE P t with
   | some (_,sz)=>0 ≤ n ∧ n < (xs.length : Int) ∧ (xs.getD n.toNat []).length = sz ∧ k (.eptr (xs.getD n.toNat []))
   | none=>False) → ∃ d,k d ∧ Yields P o H ρ d := by
  intro xs ki n hx hi h
  split at h
  ·rename_i e sz hsl
   obtain ⟨h0,hlt,hlen,h⟩ := h
   obtain ⟨hu,hsz,info,hinf,his⟩ := kg hsl
   have he : P.elem t = e := by simp [Program.elem,hu]
   have hut : P.underlying t = some (.slice (P.elem t)) := by rw [he]; exact hu
   have hsize : ∀ w : World,(sizeOf (P.elem t)).run P w = .ok sz w := fun w=>by rw [he]; simp [sizeOf,typeInfo,hinf,his]
   have hn : n.toNat < xs.length := by omega
   have hget : xs[n.toNat]? = some (xs.getD n.toNat []) := by simp [List.getD,List.getElem?_eq_getElem hn]
   refine ⟨_,h,qI fun K w σ hk hh hr=>?_⟩
   obtain hv := (hi ▸ hr i hmi).int_inv.1
   rcases (hx _ _ _ (hr x hmx)).slc_inv with ⟨rfl,_⟩ | ⟨b,off,cap,sz',f,hvx,hc,hm,hs,hvis,hcell,hone,hrep⟩
   ·simp at hn
   ·have hszz : sz' = sz := by rw [← hs _ _ hget,hlen]
    subst hszz
    refine ⟨.pointer (some ⟨b,off + n.toNat * sz',none⟩),?_,.eptr _ b (off + n.toNat * sz') (fun j=>f n.toNat j) (zV hvis (Nat.le_add_right _ _) ?_) (fun j d hj=>?_) (fun j d hj=>hone _ _ hget j d hj) (fun j d hj=>hrep _ _ hget j d hj)⟩
    ·simp only [execOp,ho,hv,hvx,Sem.run_bind,run_indexAt_slice w t ⟨b,off,none⟩ xs.length cap ki n hut,if_pos (And.intro h0 hlt),hsize,Result.andThen_ok,Addr.add_lit]
     rfl
    ·rw [hlen]
     have : (n.toNat + 1) * sz' ≤ xs.length * sz' := Nat.mul_le_mul_right _ hn
     rw [Nat.add_mul] at this
     omega
    ·rw [← hcell _ _ hget j d hj]
     congr 2
     omega
  ·exact h.elim
 split at h
 ·rename_i xs ki n hx hi
  exact key (fun K w v h'=>hx ▸ h') hi h
 ·rename_i b m ki n hx hi
  split at h
  ·rename_i e sz hsl
   obtain ⟨h0,hlt,h⟩ := h
   obtain ⟨hu,hsz,info,hinf,his⟩ := kg hsl
   have he : P.elem t = e := by simp [Program.elem,hu]
   have hut : P.underlying t = some (.slice (P.elem t)) := by rw [he]; exact hu
   have hsize : ∀ w : World,(sizeOf (P.elem t)).run P w = .ok sz w := fun w=>by rw [he]; simp [sizeOf,typeInfo,hinf,his]
   refine ⟨_,h,qI fun K w σ hk hh hr=>⟨.pointer (some ⟨b,n.toNat * sz,none⟩),?_,.ptr _ _⟩⟩
   obtain ⟨cap,hvx,_,_,_⟩ := (hx ▸ hr x hmx).hsl_inv
   simp only [execOp,ho,(hi ▸ hr i hmi).int_inv.1,hvx,Sem.run_bind,run_indexAt_slice w t ⟨b,0,none⟩ m cap ki n hut,if_pos (And.intro h0 hlt),hsize,Result.andThen_ok,Addr.add_lit,Nat.zero_add]
   rfl
  ·exact h.elim
 ·rename_i b off ki n hx hi
  split at h
  ·rename_i m sz har
   obtain ⟨h0,hlt,h⟩ := h
   obtain ⟨e,hu,hsz,hm1,info,hinf,his⟩ := JC har
   have he : P.elem t = e := by simp [Program.elem,hu]
   have hal : P.arrayLen t = m := by simp [Program.arrayLen,hu]
   have hut : P.underlying t = some (.array (P.arrayLen t) (P.elem t)) := by rw [he,hal]; exact hu
   have hsize : ∀ w : World,(sizeOf (P.elem t)).run P w = .ok sz w := fun w=>by rw [he]; simp [sizeOf,typeInfo,hinf,his]
   refine ⟨_,h,qI fun K w σ hk hh hr=>⟨.pointer (some ⟨b,off + n.toNat * sz,none⟩),?_,.ptr _ _⟩⟩
   have hlt' : n < (P.arrayLen t : Int) := by rw [hal]; exact hlt
   simp only [execOp,ho,(hi ▸ hr i hmi).int_inv.1,(hx ▸ hr x hmx).ptr_inv,Sem.run_bind,run_indexAt_array w t ⟨b,off,none⟩ ki n hut,if_pos (And.intro h0 hlt'),hsize,Result.andThen_ok,Addr.add_lit]
   rfl
  ·exact h.elim
 ·rename_i cs ki n hx hi
  split at h
  ·rename_i m sz har
   obtain ⟨h0,hlt,hle,h⟩ := h
   obtain ⟨e,hu,hsz,hm1,info,hinf,his⟩ := JC har
   have he : P.elem t = e := by simp [Program.elem,hu]
   have hal : P.arrayLen t = m := by simp [Program.arrayLen,hu]
   have hut : P.underlying t = some (.array (P.arrayLen t) (P.elem t)) := by rw [he,hal]; exact hu
   have hsize : ∀ w : World,(sizeOf (P.elem t)).run P w = .ok sz w := fun w=>by rw [he]; simp [sizeOf,typeInfo,hinf,his]
   refine ⟨_,h,qI fun K w σ hk hh hr=>?_⟩
   obtain ⟨b,ob,g,hvx,hvis,hcell,hone,hrep⟩ := (hx ▸ hr x hmx).eptr_inv
   have hd : ∀ (j : Nat) (d : D),(cs.drop (n.toNat * sz))[j]? = some d → cs[n.toNat * sz + j]? = some d := fun j d hj=>by rwa [List.getElem?_drop] at hj
   have hlt' : n < (P.arrayLen t : Int) := by rw [hal]; exact hlt
   refine ⟨.pointer (some ⟨b,ob + n.toNat * sz,none⟩),?_,.eptr _ b (ob + n.toNat * sz) (fun j=>g (n.toNat * sz + j)) (zV hvis (Nat.le_add_right _ _) (by rw [List.length_drop]; omega)) (fun j d hj=>?_) (fun j d hj=>hone _ d (hd j d hj)) (fun j d hj=>hrep _ d (hd j d hj))⟩
   ·simp only [execOp,ho,(hi ▸ hr i hmi).int_inv.1,hvx,Sem.run_bind,run_indexAt_array w t ⟨b,ob,none⟩ ki n hut,if_pos (And.intro h0 hlt'),hsize,Result.andThen_ok,Addr.add_lit]
    rfl
   ·rw [Nat.add_assoc]; exact hcell _ d (hd j d hj)
  ·exact h.elim
 ·rename_i b c xs ki n hx hi
  exact key (fun K w v h'=>by rw [hx] at h'; cases h' <;> first | assumption | exact .slcnil _) hi h
 ·exact h.elim
theorem Wy {t : TypeId} {x i : Operand} (ho : o.op = .index t x i) (h : qW P ρ H (.index t x i) k) (hcur : Cur o H ρ) : ∃ d,k d ∧ Yields P o H ρ d := by
 simp only [qW] at h
 have hmx : x ∈ o.op.operands.toList := by simp [ho,Op.operands]
 have hmi : i ∈ o.op.operands.toList := by simp [ho,Op.operands]
 split at h
 ·rename_i s ki n hx hi
  obtain ⟨hst,h0,hlt,h⟩ := h
  have hu := wZ hst
  refine ⟨_,h,qI fun K w σ hk hh hr=>⟨.int .u8 (s.getD n.toNat 0).toNat,?_,.int _ _ ?_⟩⟩
  ·have hn : n.toNat < s.length := by omega
   have hg : (⟨⟨s⟩⟩ : ByteArray)[n.toNat]? = some (s.getD n.toNat 0) := by
    show (if h : n.toNat < (⟨⟨s⟩⟩ : ByteArray).size then some (⟨⟨s⟩⟩ : ByteArray)[n.toNat] else none) = _
    have hsz : (⟨⟨s⟩⟩ : ByteArray).size = s.length := rfl
    rw [dif_pos (by rw [hsz]; exact hn)]
    simp [List.getD,List.getElem?_eq_getElem hn]
    rfl
   simp only [execOp,ho,(hi ▸ hr i hmi).int_inv.1,(hx ▸ hr x hmx).str_inv.1,Sem.run_bind,Instr.index,asIntOf,Sem.run_pure,Result.andThen_ok,run_underlying hu,if_pos h0,hg]
  ·have := (s.getD n.toNat 0).toNat_lt
   exact WalkArith.wf_u8 (by omega)
 ·exact h.elim
theorem Jf {x : Operand} (ho : o.op = .nilCheck x) (h : qW P ρ H (.nilCheck x) k) (hcur : Cur o H ρ) : ∃ d,k d ∧ Yields P o H ρ d := by
 simp only [qW] at h
 have hmx : x ∈ o.op.operands.toList := by simp [ho,Op.operands]
 split at h
 ·rename_i b ob hx
  refine ⟨_,h,qI fun K w σ hk hh hr=>⟨_,?_,.ptr _ _⟩⟩
  simp only [execOp,ho,(hx ▸ hr x hmx).ptr_inv]
  rfl
 ·rename_i cs hx
  refine ⟨_,h,qI fun K w σ hk hh hr=>⟨σ x,?_,hx ▸ hr x hmx⟩⟩
  obtain ⟨b,ob,g,hvx,_⟩ := (hx ▸ hr x hmx).eptr_inv
  simp only [execOp,ho,hvx]
  rfl
 ·rename_i f cs hx
  refine ⟨_,h,qI fun K w σ hk hh hr=>⟨σ x,?_,hx ▸ hr x hmx⟩⟩
  obtain ⟨fs,vs,hvx,_⟩ := (hx ▸ hr x hmx).fn_call
  simp only [execOp,ho,hvx]
  rfl
 ·exact h.elim
theorem u9 {K : Nat → BK} {w : World} {σ : Operand → Value} {c : Call} (ho : o.op = .call c) (hr : ∀ x ∈ o.op.operands.toList,RepV K w (ρ x) (σ x)) :
  (c.args.map σ).size = (c.args.toList.map ρ).length ∧ ∀ (j : Nat) (d : D) (v : Value),(c.args.toList.map ρ)[j]? = some d → (c.args.map σ)[j]? = some v → RepV K w d v := by
 refine ⟨by simp,fun j d v hd hv=>?_⟩
 simp only [List.getElem?_map,Array.getElem?_toList,Array.getElem?_map,Option.map_eq_some_iff] at hd hv
 obtain ⟨x,h1,rfl⟩ := hd
 obtain ⟨y,h2,rfl⟩ := hv
 rw [h1] at h2
 obtain rfl := Option.some.inj h2
 exact hr x (by simp only [ho,Op.operands,Call.operands,Array.toList_append,List.mem_append]; exact .inr (by simpa using Array.mem_of_getElem? h1))
theorem J5 {vs : Array Value} (h : vs.size = 1) : ∃ v,vs = #[v] := by
 obtain ⟨l⟩ := vs
 match l,h with
 | [v],_=>exact ⟨v,rfl⟩
theorem JA {vs : Array Value} (h : vs.size = 2) : ∃ u v,vs = #[u,v] := by
 obtain ⟨l⟩ := vs
 match l,h with
 | [u,v],_=>exact ⟨u,v,rfl⟩
theorem gx {ts : Array TypeId} {t : TypeId} (h : ts.toList = [t]) : ts = #[t] := by
 obtain ⟨l⟩ := ts
 simp at h
 simp [h]
theorem Vi {c : Call} (ho : o.op = .call c) (h : qW P ρ H (.call c) k) (hcur : Cur o H ρ) : ∃ d,k d ∧ Yields P o H ρ d := by
 simp only [qW] at h
 obtain ⟨K0,w0,σ0,hk0,hh0,hr0⟩ := hcur
 have run : ∀ (b : Builtin) (σ : Operand → Value) (w w' : World) (r : Value),c.callee = .builtin b → (builtin b c.argTypes o.type (c.args.map fun | .const _=>true | _=>false) (c.args.map σ)).run P w = .ok (.value r) w' → (execOp σ o).run P w = .ok (.value r) w' := by
  intro b σ w w' r hb hrun
  simp only [execOp,ho,resolve,hb,Sem.run_bind,Sem.run_pure,Result.andThen_ok,invoke]
  exact hrun
 split at h
 ·rename_i xs t hb ha ht
  obtain ⟨hsl,h⟩ := h
  obtain ⟨⟨e,sz⟩,hsl⟩ := Option.isSome_iff_exists.1 hsl
  obtain ⟨hu,hsz,info,hinf,his⟩ := kg hsl
  have key : ∀ (K : Nat → BK) (w : World) (σ : Operand → Value),(∀ x ∈ o.op.operands.toList,RepV K w (ρ x) (σ x)) → ∃ v,c.args.map σ = #[v] ∧ RepV K w (.slc xs) v := by
   intro K w σ hr
   obtain ⟨h1,h2⟩ := u9 ho hr
   rw [ha] at h1 h2
   obtain ⟨v,hv⟩ := J5 h1
   exact ⟨v,hv,h2 0 _ v rfl (by rw [hv]; rfl)⟩
  obtain ⟨_,_,hf⟩ := key K0 w0 σ0 hr0
  refine ⟨_,h hf.fact,qI fun K w σ hk hh hr=>?_⟩
  obtain ⟨v,hv,hrv⟩ := key K w σ hr
  obtain ⟨a,cap,rfl,hc,hm⟩ := hrv.slc_form
  refine ⟨.int .i64 xs.length,run _ σ w w _ hb ?_,.int _ _ ?_⟩
  ·have hlen := run_len_slice (P := P) w t o.type a xs.length cap (by simp [Program.elem,hu])
   simp only [builtin,gx ht,hv,Sem.run_bind,hlen,Result.andThen_ok]
   rfl
  ·have := hrv.slc_big
   exact WalkArith.wf_i64 (by unfold big at this; omega)
 ·rename_i bb m t hb ha ht
  obtain ⟨hsl,h⟩ := h
  obtain ⟨⟨e,sz⟩,hsl⟩ := Option.isSome_iff_exists.1 hsl
  obtain ⟨hu,hsz,info,hinf,his⟩ := kg hsl
  refine ⟨_,h,qI fun K w σ hk hh hr=>?_⟩
  obtain ⟨h1,h2⟩ := u9 ho hr
  rw [ha] at h1 h2
  obtain ⟨v,hv⟩ := J5 h1
  obtain ⟨cap,rfl,hc,hm,hbg⟩ := (h2 0 _ v rfl (by rw [hv]; rfl)).hsl_inv
  refine ⟨.int .i64 m,run _ σ w w _ hb ?_,.int _ _ (WalkArith.wf_i64 (by unfold big at hbg; omega))⟩
  have hlen := run_len_slice (P := P) w t o.type (some ⟨bb,0,none⟩) m cap (by simp [Program.elem,hu])
  simp only [builtin,gx ht,hv,Sem.run_bind,hlen,Result.andThen_ok]
  rfl
 ·rename_i s t hb ha ht
  obtain ⟨hst,h⟩ := h
  have hu := wZ hst
  have key : ∀ (K : Nat → BK) (w : World) (σ : Operand → Value),(∀ x ∈ o.op.operands.toList,RepV K w (ρ x) (σ x)) → ∃ v,c.args.map σ = #[v] ∧ RepV K w (.str s) v := by
   intro K w σ hr
   obtain ⟨h1,h2⟩ := u9 ho hr
   rw [ha] at h1 h2
   obtain ⟨v,hv⟩ := J5 h1
   exact ⟨v,hv,h2 0 _ v rfl (by rw [hv]; rfl)⟩
  obtain ⟨_,_,hf⟩ := key K0 w0 σ0 hr0
  refine ⟨_,h hf.fact,qI fun K w σ hk hh hr=>?_⟩
  obtain ⟨v,hv,hrv⟩ := key K w σ hr
  obtain ⟨rfl,hbg⟩ := hrv.str_inv
  refine ⟨.int .i64 s.length,run _ σ w w _ hb ?_,.int _ _ (WalkArith.wf_i64 (by unfold big at hbg; omega))⟩
  have hlen : (Builtin.len_ #[t] o.type #[.string ⟨⟨s⟩⟩]).run P w = .ok (.int .i64 s.length) w := by
   simp [Builtin.len_,run_underlying hu,goInt]
   rfl
  simp only [builtin,gx ht,hv,Sem.run_bind,hlen,Result.andThen_ok]
  rfl
 ·rename_i ts kd a kd' b hb ha
  obtain ⟨rfl,h⟩ := h
  refine ⟨_,h,qI fun K w σ hk hh hr=>?_⟩
  obtain ⟨h1,h2⟩ := u9 ho hr
  rw [ha] at h1 h2
  obtain ⟨u,v,hv⟩ := JA h1
  obtain ⟨rfl,r1⟩ := (h2 0 _ u rfl (by rw [hv]; rfl)).int_inv
  obtain ⟨rfl,r2⟩ := (h2 1 _ v rfl (by rw [hv]; rfl)).int_inv
  refine ⟨.int kd (if b > a then b else a),run _ σ w w _ hb ?_,.int _ _ (by split <;> assumption)⟩
  have hlen : ∀ ts ty,(Builtin.max_ ts ty #[.int kd a,.int kd b]).run P w = .ok (.int kd (if b > a then b else a)) w := fun ts ty=>by
   simp [Builtin.max_,Builtin.max2]
  simp only [builtin,hv,Sem.run_bind,hlen,Result.andThen_ok]
  rfl
 ·rename_i ts kd a kd' b hb ha
  obtain ⟨rfl,h⟩ := h
  refine ⟨_,h,qI fun K w σ hk hh hr=>?_⟩
  obtain ⟨h1,h2⟩ := u9 ho hr
  rw [ha] at h1 h2
  obtain ⟨u,v,hv⟩ := JA h1
  obtain ⟨rfl,r1⟩ := (h2 0 _ u rfl (by rw [hv]; rfl)).int_inv
  obtain ⟨rfl,r2⟩ := (h2 1 _ v rfl (by rw [hv]; rfl)).int_inv
  refine ⟨.int kd (if b < a then b else a),run _ σ w w _ hb ?_,.int _ _ (by split <;> assumption)⟩
  have hlen : ∀ ts ty,(Builtin.min_ ts ty #[.int kd a,.int kd b]).run P w = .ok (.int kd (if b < a then b else a)) w := fun ts ty=>by
   simp [Builtin.min_,Builtin.min2]
  simp only [builtin,hv,Sem.run_bind,hlen,Result.andThen_ok]
  rfl
 ·exact h.elim
theorem uz (h : qW P ρ H o.op k) (hcur : Cur o H ρ) : ∃ d,k d ∧ Yields P o H ρ d := by
 cases ho : o.op
 case makeFunc fn first caps =>
  rw [ho] at h
  cases fn <;> first
   | exact J2 ho h hcur
   | (simp only [qW] at h)
 case slice t x lo hi mx =>
  rw [ho] at h
  cases mx with
  | none=>exact Wv ho h hcur
  | some mx=>cases hi with
   | none=>cases lo <;> simp only [qW] at h
   | some hi=>exact KW ho h hcur
 all_goals
  rw [ho] at h
  first
   | exact Ub ho h hcur
   | exact WC ho h hcur
   | exact gm ho h hcur
   | exact Ve ho h hcur
   | exact snd_bin ho h hcur
   | exact snd_un ho h hcur
   | exact JW ho h hcur
   | exact Qf ho h hcur
   | exact Qc ho h hcur
   | exact W5 ho h hcur
   | exact Qb ho h hcur
   | exact Wy ho h hcur
   | exact Jf ho h hcur
   | exact Vi ho h hcur
   | (simp only [qW] at h)
end
end Go.Aw
end
section
namespace Go.Aw
open Go Go.RowKit
structure FK (K : Nat → BK) (w : World) (K' : Nat → BK) (w' : World) : Prop where
  ext : ExtV K w K' w'
  own : ∀ b n,K b = .tok n .outer → K' b = .tok n .outer ∧ w'.heap[b]? = w.heap[b]?
  new : ∀ b n,K' b = .tok n .outer → K b = .tok n .outer
theorem FK.refl (K : Nat → BK) (w : World) : FK K w K w := ⟨.refl K w,fun _ _ h=>⟨h,rfl⟩,fun _ _ h=>h⟩
theorem FK.trans {K K' K'' : Nat → BK} {w w' w'' : World} (h : FK K w K' w') (g : FK K' w' K'' w'') : FK K w K'' w'' :=
  ⟨h.ext.trans g.ext,fun b n hb=>⟨(g.own b n (h.own b n hb).1).1,(g.own b n (h.own b n hb).1).2.trans (h.own b n hb).2⟩,fun b n hb=>h.new b n (g.new b n hb)⟩
theorem Keep.fk {E : Who → Prop} {B : Nat → Prop} {K K' : Nat → BK} {w w' : World} (h : Keep E B K w K' w') (he : ¬ E .outer) : FK K w K' w' :=
  ⟨h.ext,fun b n hb=>h.own b n _ hb he,h.new⟩
structure St (K : Nat → BK) (w : World) (F : List D) (H : AH) (t : Array Value) : Prop where
  krel : KRel K w
  hrel : HRel K w H
  len : t.size = F.length
  slot : ∀ (i : Nat) (d : D) (v : Value),F[i]? = some d → t[i]? = some v → RepO K w i d v
def ev (F : List D) : Operand → D
  | .tmp t=>F.getD t .any
  | .const v=>jx v
  | .global g=>.ptr g 0
  | .func f=>.fn f []
def rv (F : List D) (x : Operand) : D := (ev F x).view
def j0 (F : List D) (dst : Option Tmp) (d : D) : List D := match dst with
  | some i=>F.set i d
  | none=>F
def y9 : Operand → Bool
  | .const v=>wY v
  | _=>true
theorem Ki (v : Value) : (jx v).view = (jx v).view1 := by unfold jx; split <;> rfl
theorem St.rep {K : Nat → BK} {w : World} {F : List D} {H : AH} {a : Act} (h : St K w F H a.tmps) {x : Operand} (hx : y9 x = true) : RepV K w (rv F x) (a.eval x) := by
  cases x with
  | tmp t =>
    simp only [rv,ev,Act.eval]
    rcases Nat.lt_or_ge t F.length with hlt | hge
    · have h1 : F[t]? = some (F.getD t .any) := by simp [List.getD,List.getElem?_eq_getElem hlt]
      have h2 : a.tmps[t]? = some (a.tmps.getD t undef) := by
        have : t < a.tmps.size := by rw [h.len]; exact hlt
        simp [Array.getElem?_eq_getElem this]
      exact (h.slot t _ _ h1 h2).rep
    · have : F.getD t .any = .any := by simp [List.getD,List.getElem?_eq_none hge]
      rw [this]
      exact .any _
  | const v=>simp only [rv,ev,Act.eval,Ki]; exact (yL (o := .outer) hx).rep
  | global g=>exact .ptr g 0
  | func f=>exact .fn f [] #[] rfl rfl (fun j d v hd=>by simp at hd)
theorem St.ops {K : Nat → BK} {w : World} {F : List D} {H : AH} {a : Act} (h : St K w F H a.tmps) {xs : Array Operand} (hx : xs.all y9 = true) : ∀ x ∈ xs.toList,RepV K w (rv F x) (a.eval x) :=
  fun x hm=>h.rep ((Array.all_eq_true'.1 hx) x (by simpa using hm))
theorem getElem?_set_some {F : List D} {i j : Nat} {d d' : D} (h : (F.set i d)[j]? = some d') : (i = j ∧ d' = d ∧ i < F.length) ∨ (i ≠ j ∧ F[j]? = some d') := by
  rw [List.getElem?_set] at h
  split at h
  · rename_i e
    split at h
    · rename_i hl
      simp only [Option.some.injEq] at h
      exact .inl ⟨e,h.symm,hl⟩
    · cases h
  · rename_i e; exact .inr ⟨e,h⟩
theorem St.put {E : Who → Prop} {B : Nat → Prop} {K K' : Nat → BK} {w w' : World} {F : List D} {H H' : AH} {a : Act} (h : St K w F H a.tmps) (hk : Keep E B K w K' w') (hE : ∀ i j,¬ E (.slot i j)) (hk' : KRel K' w') (hh' : HRel K' w' H')
    (dst : Option Tmp) {d : D} {v : Value} (hr : ∀ i,dst = some i → RepO K' w' i d v) : St K' w' (j0 F dst d) H' (a.put dst v).tmps := by
  cases dst with
  | none=>exact ⟨hk',hh',h.len,fun i d v hd hv=>(h.slot i d v hd hv).keep hk (hE i)⟩
  | some t =>
    refine ⟨hk',hh',by simpa [Act.put,j0] using h.len,fun i d' u hd hu=>?_⟩
    simp only [Act.put] at hu
    rcases getElem?_set_some hd with ⟨rfl,rfl,hl⟩ | ⟨hne,hd⟩
    · rw [Array.getElem?_setIfInBounds_self_of_lt (by rw [h.len]; exact hl)] at hu
      obtain rfl := Option.some.inj hu
      exact hr t rfl
    · rw [Array.getElem?_setIfInBounds_ne hne] at hu
      exact (h.slot i d' u hd hu).keep hk (hE i)
def relab (φ : Who → Who) (K : Nat → BK) : Nat → BK := fun b=>match K b with
  | .tok n o=>.tok n (φ o)
  | x=>x
structure Nice (φ : Who → Who) : Prop where
  cell : ∀ b j,φ (.cell b j) = .cell b j
  outer : φ .outer = .outer
theorem relab_imm {φ : Who → Who} {K : Nat → BK} {b : Nat} : relab φ K b = .imm ↔ K b = .imm := by unfold relab; split <;> simp_all
theorem relab_priv {φ : Who → Who} {K : Nat → BK} {b : Nat} : relab φ K b = .priv ↔ K b = .priv := by unfold relab; split <;> simp_all
theorem j4 {φ : Who → Who} {K : Nat → BK} {b n : Nat} {o : Who} (h : K b = .tok n o) : relab φ K b = .tok n (φ o) := by simp [relab,h]
theorem ye {φ : Who → Who} {K : Nat → BK} {b n : Nat} {o : Who} (h : relab φ K b = .tok n o) : ∃ o',K b = .tok n o' ∧ φ o' = o := by
  unfold relab at h
  split at h
  · rename_i n' o' hb; injection h with h1 h2; subst h1; exact ⟨o',hb,h2⟩
  · rename_i x hx; exact (hx n o h).elim
theorem qL (φ : Who → Who) (K : Nat → BK) (w : World) : ExtV K w (relab φ K) w :=
  ⟨rfl,rfl,rfl,Nat.le_refl _,fun b _ h=>⟨relab_imm.2 h,rfl⟩,fun b n o h=>⟨n,φ o,j4 h,Nat.le_refl _,fun _ _=>rfl⟩,fun b h=>.inl (relab_priv.2 h)⟩
theorem jI {φ : Who → Who} {K : Nat → BK} {w : World} (h : KRel K w) : KRel (relab φ K) w := fun b hb=>relab_imm.2 (h b hb)
theorem oM {φ : Who → Who} {K : Nat → BK} {w : World} {o : Who} {xs : List (List D)} {v : Value} (h : OwnAt K w o xs v) : OwnAt (relab φ K) w (φ o) xs v := by
  rcases h with h | ⟨b,cap,sz,c,T,hv,hk,hh,hcs,hp,hl,hm,hb,hs,hrep⟩
  · exact .inl h
  · refine .inr ⟨b,cap,sz,c,T,hv,j4 hk,hh,hcs,hp,hl,hm,hb,hs,fun i x hi j d hj=>?_⟩
    obtain ⟨u,e1,e2,e3⟩ := hrep i x hi j d hj
    exact ⟨u,e1,e2,e3.mono (qL φ K w)⟩
theorem gX {φ : Who → Who} {K : Nat → BK} {w : World} {o : Who} {d : D} {v : Value} (h : RepC K w o d v) : RepC (relab φ K) w (φ o) d v := by
  cases d <;> first | exact oM h | exact RepV.mono (qL φ K w) h
theorem yG {φ : Who → Who} (hn : Nice φ) {K : Nat → BK} {w : World} {H : AH} (h : HRel K w H) : HRel (relab φ K) w H := by
  refine ⟨h.nd,fun b o ho=>?_⟩
  have := h.ok b o ho
  cases o with
  | cells cs =>
    obtain ⟨hk,c,T,hh,hc,hr⟩ := this
    refine ⟨relab_priv.2 hk,c,T,hh,hc,fun j d hd=>?_⟩
    obtain ⟨u,e1,e2,e3⟩ := hr j d hd
    have := gX (φ := φ) e3
    rw [hn.cell] at this
    exact ⟨u,e1,e2,this⟩
  | room cap xs =>
    have h2 := oM (φ := φ) this.2
    rw [hn.cell] at h2
    exact ⟨this.1,h2⟩
theorem gj {φ : Who → Who} {K : Nat → BK} {w : World} {i i' : Nat} (hi : ∀ j,φ (.slot i j) = .slot i' j) {d : D} {v : Value} (h : RepO K w i d v) : RepO (relab φ K) w i' d v := by
  cases d <;> first
    | (have := oM (φ := φ) h
       rw [hi] at this
       exact this)
    | exact RepV.mono (qL φ K w) h
    | (obtain ⟨vs,hv,hl,hh⟩ := h
       refine ⟨vs,hv,hl,fun j d u hd hu=>?_⟩
       have := gX (φ := φ) (hh j d u hd hu)
       rw [hi] at this
       exact this)
section
variable {P : Program} {w : World}
theorem QW (t u ty e : TypeId) (i : TypeInfo) (ht : P.underlying t = some (.slice e)) (hu : (P.underlying u).isSome = true) (hun : ∀ k,P.underlying u ≠ some (.int k)) (hi : P.info? e = some i)
    (x : Value) (m : Nat) (news : List Value) (hlen : ∀ w',(Builtin.lenOf x).run P w' = .ok m w') (hl : news.length = m * i.size) (hfc : (Builtin.firstCells i.size m x).run P w = .ok news.toArray w) (h1 : ∀ v ∈ news,v.oneCell' = true)
    (g len cap : Nat) (cur : Array Value) (T : TypeId) (hg : w.heap[g]? = some (.cells cur T (0,0))) (hroom : len + m ≤ cap) (hfit : len * i.size + news.length ≤ cur.size) :
    (Builtin.append_ #[t,u] ty #[.slice (some ⟨g,0,none⟩) len cap,x]).run P w = .ok (.slice (some ⟨g,0,none⟩) (len + m) cap) (w.setRow g (cur.toList.take (len * i.size) ++ news ++ cur.toList.drop (len * i.size + news.length)).toArray) := by
  obtain ⟨du,hdu⟩ := Option.isSome_iff_exists.1 hu
  have hst := run_storeCells_at P g (len * i.size) T news 0 cur w hg (by simpa using hfit) h1
  simp only [Nat.add_zero] at hst
  cases du <;> first | exact (hun _ hdu).elim | skip
  all_goals simp only [Builtin.append_,List.getElem?_toArray,List.getElem?_cons_zero,List.getElem?_cons_succ,Sem.run_bind,run_underlying ht,Result.andThen_ok,sizeOf,typeInfo,run_program,hi,Sem.run_pure,run_underlying hdu,Bool.false_eq_true,if_false,hlen,hroom,if_true,Bool.not_false,hfc,Addr.add_lit,Nat.zero_add,hst]
theorem uY (t u ty e : TypeId) (i : TypeInfo) (z : Value) (ht : P.underlying t = some (.slice e)) (hu : (P.underlying u).isSome = true) (hun : ∀ k,P.underlying u ≠ some (.int k)) (hi : P.info? e = some i) (hz0 : i.zero = some z)
    (x : Value) (m : Nat) (news : List Value) (hlen : ∀ w',(Builtin.lenOf x).run P w' = .ok m w') (hfc : (Builtin.firstCells i.size m x).run P w.drew = .ok news.toArray w.drew)
    (a : Option Addr) (len cap : Nat) (olds : List Value) (hfo : (Builtin.firstCells i.size len (.slice a len cap)).run P w.drew = .ok olds.toArray w.drew) (hgrow : cap < len + m) (hb : (len + m) * i.bytes ≤ 140737488355328) (hbp : 0 < i.bytes) :
    (Builtin.append_ #[t,u] ty #[.slice a len cap,x]).run P w = .ok (.slice (some ⟨w.heap.size,0,none⟩) (len + m) (grownCap w (len + m) cap e))
      (w.drew.alloc (.cells (olds.toArray ++ news.toArray ++ Builtin.zeroCells z.cells (grownCap w (len + m) cap e - (len + m))) e)) := by
  obtain ⟨du,hdu⟩ := Option.isSome_iff_exists.1 hu
  have hn : ¬ (len + m ≤ cap) := by omega
  have hfit := growslice_fits hgrow hb
  have h48 : ¬ (Builtin.nextslicecap (len + m) cap * i.bytes > 2 ^ 48) := by omega
  have hle : len + m ≤ (len + m) * i.bytes := Nat.le_mul_of_pos_right _ hbp
  have h63 : ¬ (((len + m : Nat) : Int) > IntKind.i64.max ∧ ((false = true) ∨ i.bytes = 0)) := by
    rintro ⟨_,h | h⟩
    · cases h
    · omega
  cases du <;> first | exact (hun _ hdu).elim | skip
  all_goals
   simp only [Builtin.append_,List.getElem?_toArray,List.getElem?_cons_zero,List.getElem?_cons_succ,Sem.run_bind,run_underlying ht,Result.andThen_ok,sizeOf,typeInfo,run_program,hi,Sem.run_pure,run_underlying hdu,Bool.false_eq_true,if_false,hlen,hn,Bool.not_false,if_true]
   simp only [Sem.run_ite,Sem.run_bind,run_program,Result.andThen_ok,hi,Sem.run_pure,h48,if_false]
   rw [if_neg (by simpa using h63)]
   simp [Question.forced,hfo,hfc,zeroValue,typeInfo,hi,hz0,newRow,grownCap]
   congr 2
   apply Array.ext'
   simp [List.append_assoc]
theorem zd (t u ty e : TypeId) (i : TypeInfo) (ht : P.underlying t = some (.slice e)) (hu : (P.underlying u).isSome = true) (hun : ∀ k,P.underlying u ≠ some (.int k)) (hi : P.info? e = some i)
    (x : Value) (hlen : ∀ w',(Builtin.lenOf x).run P w' = .ok 0 w') (hfc : (Builtin.firstCells i.size 0 x).run P w = .ok #[] w) (a : Option Addr) :
    (Builtin.append_ #[t,u] ty #[.slice a 0 0,x]).run P w = .ok (.slice a 0 0) w := by
  obtain ⟨du,hdu⟩ := Option.isSome_iff_exists.1 hu
  cases du <;> first | exact (hun _ hdu).elim | skip
  all_goals
   simp only [Builtin.append_,List.getElem?_toArray,List.getElem?_cons_zero,List.getElem?_cons_succ,Sem.run_bind,run_underlying ht,Result.andThen_ok,sizeOf,typeInfo,run_program,hi,Sem.run_pure,run_underlying hdu,Bool.false_eq_true,if_false,hlen,Nat.add_zero,Nat.le_refl,Bool.not_false,if_true,hfc]
   cases a <;> simp [storeCells]
end
def VW (P : Program) (u : TypeId) : Bool := match P.underlying u with | some (.int _)=>true | _=>false
def Ju (P : Program) (t u : TypeId) : Option (TypeId × Nat × Nat) :=
  match yE P t with
  | some (e,sz)=>match P.info? e with
    | some i=>if (yF P e).isSome ∧ 0 < i.bytes ∧ (P.underlying u).isSome ∧ VW P u = false then some (e,sz,i.bytes) else none
    | none=>none
  | none=>none
theorem gv {P : Program} {t u e : TypeId} {sz by_ : Nat} (h : Ju P t u = some (e,sz,by_)) : yE P t = some (e,sz) ∧ ∃ i zc,P.info? e = some i ∧ i.size = sz ∧ i.bytes = by_ ∧ yF P e = some zc ∧ 0 < by_ ∧ (P.underlying u).isSome = true ∧ ∀ k,P.underlying u ≠ some (.int k) := by
  unfold Ju at h
  split at h
  · rename_i e' sz' hs
    split at h
    · rename_i i hi
      split at h
      · rename_i hc
        simp only [Option.some.injEq,Prod.mk.injEq] at h
        obtain ⟨rfl,rfl,rfl⟩ := h
        obtain ⟨_,_,i',hi',his⟩ := kg hs
        rw [hi] at hi'
        obtain rfl := Option.some.inj hi'
        obtain ⟨zc,hz⟩ := Option.isSome_iff_exists.1 hc.1
        refine ⟨hs,i,zc,hi,his,rfl,hz,hc.2.1,hc.2.2.1,fun k hk=>?_⟩
        have := hc.2.2.2
        simp [VW,hk] at this
      · cases h
    · cases h
  · cases h
def Src (P : Program) (w : World) (K : Nat → BK) (sz : Nat) (ys : List (List D)) (x : Value) : Prop :=
  ∃ news : List Value,(∀ w',(Builtin.lenOf x).run P w' = .ok ys.length w') ∧ news.length = ys.length * sz ∧ (∀ w',w'.heap = w.heap → (Builtin.firstCells sz ys.length x).run P w' = .ok news.toArray w') ∧
    (∀ (i : Nat) (y : List D),ys[i]? = some y → y.length = sz) ∧ (∀ v ∈ news,v.oneCell' = true) ∧
    ∀ (i : Nat) (y : List D),ys[i]? = some y → ∀ (j : Nat) (d : D),y[j]? = some d → ∃ u,news[i * sz + j]? = some u ∧ RepV K w d u
theorem gJ {P : Program} {w : World} {K : Nat → BK} {sz : Nat} {ys : List (List D)} {x : Value} (hr : RepV K w (.slc ys) x) (hs : ∀ y ∈ ys,y.length = sz) (hpos : 0 < sz) : Src P w K sz ys x := by
  have hs' : ∀ (i : Nat) (y : List D),ys[i]? = some y → y.length = sz := fun i y hi=>hs y (List.mem_of_getElem? hi)
  rcases hr.slc_inv with ⟨rfl,a,rfl⟩ | ⟨b,off,cap,sz',f,rfl,hc,hm,hsz,hv,hcell,hone,hrep⟩
  · refine ⟨[],fun w'=>by simp [Builtin.lenOf],by simp,fun w' _=>?_,by simp,by simp,by simp⟩
    cases a <;> simp [Builtin.firstCells,loadCells,loadCellsFrom]
  · have hq : ∀ q,q < ys.length * sz → ∃ y d,ys[q / sz]? = some y ∧ y[q % sz]? = some d := fun q hq=>by
      have h1 : q / sz < ys.length := Nat.div_lt_of_lt_mul (by rw [Nat.mul_comm]; exact hq)
      have h2 : q % sz < sz := Nat.mod_lt _ hpos
      have h3 := List.getElem?_eq_getElem h1
      have h4 := hs' _ _ h3
      exact ⟨_,_,h3,List.getElem?_eq_getElem (by rw [h4]; exact h2)⟩
    have hszz : 0 < ys.length → sz' = sz := fun h0=>by
      have h3 := List.getElem?_eq_getElem h0
      rw [← hsz _ _ h3,hs' _ _ h3]
    refine ⟨(List.range (ys.length * sz)).map fun q=>f (q / sz) (q % sz),fun w'=>by simp [Builtin.lenOf],by simp,fun w' hw=>?_,hs',fun v hv=>?_,fun i y hi j d hj=>?_⟩
    · have h := run_loadCells (P := P) w' ⟨b,off,none⟩ (ys.length * sz) (fun q=>f (q / sz) (q % sz)) (fun q hq'=>by
        obtain ⟨y,d,h1,h2⟩ := hq q hq'
        have hp : 0 < ys.length := by
          exact Nat.lt_of_le_of_lt (Nat.zero_le _) (List.getElem?_eq_some_iff.1 h1).1
        have e := hszz hp
        subst e
        have := hcell _ y h1 _ d h2
        rw [Addr.add_lit]
        have hw' : ∀ a,w'.cell? a = w.cell? a := fun a=>by simp [World.cell?,hw]
        rw [hw',← this]
        congr 2
        have := Nat.div_add_mod q sz'
        rw [Nat.mul_comm] at this
        omega)
      simpa [Builtin.firstCells] using h
    · rw [List.mem_map] at hv
      obtain ⟨q,hq',rfl⟩ := hv
      obtain ⟨y,d,h1,h2⟩ := hq q (by simpa using hq')
      exact hone _ y h1 _ d h2
    · have hlt := J1 hi (hs' i y hi) hj
      have hjs : j < sz := by rw [← hs' i y hi]; exact (List.getElem?_eq_some_iff.1 hj).1
      have e1 : (i * sz + j) / sz = i := by
        rw [Nat.mul_comm,Nat.mul_add_div hpos,Nat.div_eq_of_lt hjs,Nat.add_zero]
      have e2 : (i * sz + j) % sz = j := by rw [Nat.mul_comm,Nat.mul_add_mod,Nat.mod_eq_of_lt hjs]
      refine ⟨f i j,?_,hrep i y hi j d hj⟩
      rw [List.getElem?_map,List.getElem?_range hlt]
      simp [e1,e2]
theorem Yd {P : Program} {w : World} {K : Nat → BK} {l : List UInt8} {x : Value} (hr : RepV K w (.str l) x) : Src P w K 1 (l.map qr) x := by
  obtain ⟨rfl,hb⟩ := hr.str_inv
  have hsz : (⟨⟨l⟩⟩ : ByteArray).size = l.length := rfl
  refine ⟨l.map fun b=>.int .u8 b.toNat,fun w'=>by simp [Builtin.lenOf,hsz],by simp,fun w' _=>?_,fun i y hi=>?_,fun v hv=>?_,fun i y hi j d hj=>?_⟩
  · have : (⟨⟨l⟩⟩ : ByteArray).extract 0 l.length = ⟨⟨l⟩⟩ := by
      apply ByteArray.ext
      rw [ByteArray.data_extract]
      apply Array.ext'
      simp
    simp [Builtin.firstCells,this]
  · rw [List.getElem?_map,Option.map_eq_some_iff] at hi
    obtain ⟨c,_,rfl⟩ := hi
    rfl
  · rw [List.mem_map] at hv
    obtain ⟨c,_,rfl⟩ := hv
    rfl
  · rw [List.getElem?_map,Option.map_eq_some_iff] at hi
    obtain ⟨c,hc,rfl⟩ := hi
    cases j with
    | zero =>
      simp only [qr,List.getElem?_cons_zero,Option.some.injEq] at hj
      subst hj
      refine ⟨.int .u8 c.toNat,by simp [hc],.int _ _ ?_⟩
      have := c.toNat_lt
      exact WalkArith.wf_u8 (by omega)
    | succ j=>simp [qr] at hj
theorem Wn {P : Program} {K : Nat → BK} {w : World} {H : AH} (hk : KRel K w) (hh : HRel K w H) {t u ty e : TypeId} {sz by_ : Nat} (hap : Ju P t u = some (e,sz,by_)) {s d : Who} (hsc : ∀ b j,s ≠ .cell b j) (hso : s ≠ .outer) (hdo : d ≠ .outer)
    {xs ys : List (List D)} {v x : Value} (ho : OwnAt K w s xs v) (hxs : ∀ y ∈ xs,y.length = sz) (hsrc : Src P w K sz ys x) (hb : (xs.length + ys.length) * by_ ≤ 140737488355328) :
    ∃ r K' w',(Builtin.append_ #[t,u] ty #[v,x]).run P w = .ok r w' ∧ Keep (fun o=>o = s) noB K w K' w' ∧ KRel K' w' ∧ HRel K' w' H ∧ OwnAt K' w' d (xs ++ ys) r := by
  obtain ⟨hsl,i,zc,hi,his,hib,hz,hbp,hus,hun⟩ := gv hap
  obtain ⟨hu,hpos,_,_,_⟩ := kg hsl
  obtain ⟨i',z,hi',hz0,z1,z2,z3,z4⟩ := yx hz
  rw [hi] at hi'
  obtain rfl := Option.some.inj hi'
  obtain ⟨news,s1,s2,s3,s4,s5,s6⟩ := hsrc
  subst his hib
  have hlb : xs.length + ys.length ≤ (xs.length + ys.length) * i.bytes := Nat.le_mul_of_pos_right _ hbp
  have hkeepH : ∀ {K' : Nat → BK} {w' : World},Keep (fun o=>o = s) noB K w K' w' → HRel K' w' H := fun h=>hh.keep h (fun b o _=>⟨fun h=>h,fun j e=>hsc b j e.symm⟩)
  have hsall : ∀ (i' : Nat) (y : List D),(xs ++ ys)[i']? = some y → y.length = i.size := fun q y hq=>by
    rcases List.mem_append.1 (List.mem_of_getElem? hq) with h | h
    · exact hxs y h
    · obtain ⟨q',hq',he⟩ := List.mem_iff_getElem.1 h
      exact s4 q' y (by rw [List.getElem?_eq_getElem hq',he])
  -- a new block
  have grow : ∀ (a : Option Addr) (cap : Nat) (olds : List Value),v = .slice a xs.length cap → cap < xs.length + ys.length → olds.length = xs.length * i.size → (Builtin.firstCells i.size xs.length (.slice a xs.length cap)).run P w.drew = .ok olds.toArray w.drew →
      (∀ (q : Nat) (y : List D),xs[q]? = some y → ∀ (j : Nat) (d : D),y[j]? = some d → ∃ u,olds[q * i.size + j]? = some u ∧ u.oneCell' = true ∧ RepV K w d u) →
      ∃ r K' w',(Builtin.append_ #[t,u] ty #[v,x]).run P w = .ok r w' ∧ Keep (fun o=>o = s) noB K w K' w' ∧ KRel K' w' ∧ HRel K' w' H ∧ OwnAt K' w' d (xs ++ ys) r := by
    intro a cap olds hv hgr hol hfo hor
    subst hv
    have hrun := uY (P := P) (w := w) t u ty e i z hu hus hun hi hz0 x ys.length news s1 (s3 w.drew rfl) a xs.length cap olds hfo hgr hb hbp
    have hge := grownCap_ge w (xs.length + ys.length) cap e
    have hle := grownCap_le_maxLen w (xs.length + ys.length) cap e (by unfold maxLen; omega)
    generalize grownCap w (xs.length + ys.length) cap e = nc at hrun hge hle
    obtain ⟨hp,hk'⟩ := wM (K := K) (w := w.drew) hk (.cells (olds.toArray ++ news.toArray ++ Builtin.zeroCells z.cells (nc - (xs.length + ys.length))) e) (x := .tok ((xs.length + ys.length) * i.size) d) (by intro n h; injection h with _ h; exact hdo h)
    have hp' : Pres K w (gz K w.heap.size (.tok ((xs.length + ys.length) * i.size) d)) (w.drew.alloc (.cells (olds.toArray ++ news.toArray ++ Builtin.zeroCells z.cells (nc - (xs.length + ys.length))) e)) := ⟨hp.os,hp.tape,hp.output,hp.size,hp.old,hp.new⟩
    have hkp := hp'.keep hk
    have hkp' : Keep (fun o=>o = s) noB K w _ _ := ⟨hkp.ext,fun b n o h1 _=>hkp.own b n o h1 (fun h=>h),hkp.new,hkp.box⟩
    refine ⟨_,_,_,hrun,hkp',hk',hkeepH hkp',.inr ⟨w.heap.size,nc,i.size,_,e,by simp,?_,heap_alloc_new w.drew _,?_,by simp; omega,by simpa using hge,hle,?_,hsall,fun q y hq j dd hj=>?_⟩⟩
    · rw [List.length_append]; exact kf _ _ _
    · simp only [Array.size_append,List.size_toArray,size_zeroCells,z1,hol,s2,← z2,← Nat.add_mul]
      congr 1
      omega
    · rw [List.length_append]; unfold big; omega
    · have hjl : j < i.size := by rw [← hsall q y hq]; exact (List.getElem?_eq_some_iff.1 hj).1
      rw [List.getElem?_append] at hq
      split at hq
      · rename_i hlt
        obtain ⟨uu,e1,e2,e3⟩ := hor q y hq j dd hj
        refine ⟨uu,?_,e2,e3.mono hkp.ext⟩
        have hlt2 : q * i.size + j < olds.length := (List.getElem?_eq_some_iff.1 e1).1
        rw [Array.getElem?_append_left (by simp; omega),Array.getElem?_append_left (by simpa using hlt2)]
        simpa using e1
      · rename_i hge'
        obtain ⟨uu,e1,e3⟩ := s6 _ y hq j dd hj
        refine ⟨uu,?_,s5 _ (List.mem_of_getElem? e1),e3.mono hkp.ext⟩
        have hlt2 := (List.getElem?_eq_some_iff.1 e1).1
        have hsub : (q - xs.length) * i.size = q * i.size - xs.length * i.size := Nat.sub_mul _ _ _
        have hmul : xs.length * i.size ≤ q * i.size := Nat.mul_le_mul_right _ (by omega)
        rw [Array.getElem?_append_left (by simp; omega),Array.getElem?_append_right (by simp; omega)]
        rw [← e1]
        simp only [List.size_toArray,List.getElem?_toArray]
        congr 1
        omega
  rcases ho with ⟨rfl,a,rfl⟩ | ⟨b,cap,sz',c,T,rfl,hkb,hhb,hcs,hp,hl,hm,hbg,hs,hrep⟩
  · by_cases hy : ys.length = 0
    · have hyn : ys = [] := List.eq_nil_of_length_eq_zero hy
      subst hyn
      have hn : news = [] := List.eq_nil_of_length_eq_zero (by simpa using s2)
      subst hn
      have hrun := zd (P := P) (w := w) t u ty e i hu hus hun hi x s1 (s3 w rfl) a
      have hkp := (Pres.refl K w).keep hk
      exact ⟨_,K,w,hrun,⟨hkp.ext,fun b n o h1 _=>hkp.own b n o h1 (fun h=>h),hkp.new,hkp.box⟩,hk,hh,.inl ⟨rfl,a,rfl⟩⟩
    · exact grow a 0 [] rfl (by simp; omega) (by simp) (by cases a <;> simp [Builtin.firstCells,loadCells,loadCellsFrom]) (by simp)
  · have h3 := List.getElem?_eq_getElem hp
    have hszz : sz' = i.size := by rw [← hs _ _ h3,hxs _ (List.mem_of_getElem? h3)]
    subst hszz
    have holdc : ∀ (q : Nat),q < xs.length * i.size → ∃ uu,c[q]? = some uu ∧ uu.oneCell' = true := fun q hq=>by
      have hlt : q < c.size := by
        have : xs.length * i.size ≤ cap * i.size := Nat.mul_le_mul_right _ hl
        omega
      have h1 : q / i.size < xs.length := Nat.div_lt_of_lt_mul (by rw [Nat.mul_comm]; exact hq)
      have h4 := List.getElem?_eq_getElem h1
      have h5 : q % i.size < xs[q / i.size].length := by rw [hs _ _ h4]; exact Nat.mod_lt _ hpos
      obtain ⟨uu,e1,e2,_⟩ := hrep _ _ h4 _ _ (List.getElem?_eq_getElem h5)
      have := Nat.div_add_mod q i.size
      rw [Nat.mul_comm] at this
      rw [this] at e1
      exact ⟨uu,e1,e2⟩
    by_cases hroom : xs.length + ys.length ≤ cap
    · have hcap : (xs.length + ys.length) * i.size ≤ cap * i.size := Nat.mul_le_mul_right _ hroom
      rw [Nat.add_mul] at hcap
      have hfit : xs.length * i.size + news.length ≤ c.size := by rw [s2,hcs]; exact hcap
      have hrun := QW (P := P) (w := w) t u ty e i hu hus hun hi x ys.length news s1 s2 (s3 w rfl) s5 b xs.length cap c T hhb hroom hfit
      generalize hcc : (c.toList.take (xs.length * i.size) ++ news ++ c.toList.drop (xs.length * i.size + news.length)).toArray = c' at hrun
      have hcs' : c'.size = cap * i.size := by
        rw [← hcc,← hcs]
        simp only [List.size_toArray,List.length_append,List.length_take,List.length_drop,Array.length_toList]
        omega
      have hold : ∀ q,q < xs.length * i.size → c'[q]? = c[q]? := fun q hq=>by
        rw [← hcc]
        simp only [List.getElem?_toArray]
        rw [List.append_assoc,List.getElem?_append_left (by simp; omega),List.getElem?_take,if_pos hq]
        simp
      have hnew : ∀ q,q < news.length → c'[xs.length * i.size + q]? = news[q]? := fun q hq=>by
        rw [← hcc]
        simp only [List.getElem?_toArray]
        have hl1 : (c.toList.take (xs.length * i.size)).length = xs.length * i.size := by simp; omega
        rw [List.append_assoc,List.getElem?_append_right (by rw [hl1]; omega),List.getElem?_append_left (by rw [hl1]; omega),hl1]
        congr 1
        omega
      have hblt : b < w.heap.size := (Array.getElem?_eq_some_iff.1 hhb).1
      have hsame := setRow_heap w b c c' T (0,0) hhb
      have hoth : ∀ b',b' ≠ b → (w.setRow b c').heap[b']? = w.heap[b']? := fun b' h=>setRow_other w b b' c' h
      have hkp : Keep (fun o=>o = s) noB K w (gz K b (.tok ((xs.length + ys.length) * i.size) d)) (w.setRow b c') := by
        refine ⟨⟨rfl,rfl,rfl,by simp,fun b' hb' hi'=>?_,fun b' n o hb'=>?_,fun b' hb'=>?_⟩,fun b' n o hb' hne=>?_,fun b' n hb'=>?_,fun b' hb' _=>?_⟩
        · have hne : b' ≠ b := fun e=>by subst e; rw [hkb] at hi'; cases hi'
          exact ⟨by rw [jo _ _ hne]; exact hi',hoth b' hne⟩
        · by_cases hbb : b' = b
          · subst hbb
            rw [hkb] at hb'
            injection hb' with hn1 hn2
            subst hn1
            refine ⟨_,d,kf _ _ _,Nat.mul_le_mul_right _ (Nat.le_add_right _ _),fun j hj=>?_⟩
            rw [y5 hsame,y5 hhb,hold j hj]
          · exact ⟨n,o,by rw [jo _ _ hbb]; exact hb',Nat.le_refl _,fun j _=>jz (hoth b' hbb) j⟩
        · have hne : b' ≠ b := fun e=>by subst e; rw [hkb] at hb'; cases hb'
          exact .inl (by rw [jo _ _ hne]; exact hb')
        · have hbb : b' ≠ b := fun e=>by
            subst e
            rw [hkb] at hb'
            injection hb' with _ h2
            exact hne h2.symm
          exact ⟨by rw [jo _ _ hbb]; exact hb',hoth b' hbb⟩
        · by_cases hbb : b' = b
          · subst hbb
            rw [kf] at hb'
            injection hb' with _ h2
            exact (hdo h2).elim
          · rwa [jo _ _ hbb] at hb'
        · have hne : b' ≠ b := fun e=>by subst e; rw [hkb] at hb'; cases hb'
          exact ⟨by rw [jo _ _ hne]; exact hb',hoth b' hne⟩
      refine ⟨_,_,_,hrun,hkp,fun b' hb'=>?_,hkeepH hkp,.inr ⟨b,cap,i.size,c',T,by simp,?_,hsame,hcs',by simp; omega,by simpa using hroom,hm,?_,hsall,fun q y hq j dd hj=>?_⟩⟩
      · have hlt' : w.heap.size ≤ b' := by simpa using hb'
        rw [jo _ _ (by omega)]
        exact hk b' hlt'
      · rw [List.length_append]; exact kf _ _ _
      · rw [List.length_append]; unfold big; omega
      · have hjl : j < i.size := by rw [← hsall q y hq]; exact (List.getElem?_eq_some_iff.1 hj).1
        rw [List.getElem?_append] at hq
        split at hq
        · rename_i hlt
          obtain ⟨uu,e1,e2,e3⟩ := hrep q y hq j dd hj
          refine ⟨uu,?_,e2,e3.mono hkp.ext⟩
          have hqq : q * i.size + j < xs.length * i.size := by
            have : (q + 1) * i.size ≤ xs.length * i.size := Nat.mul_le_mul_right _ hlt
            rw [Nat.add_mul] at this
            omega
          rw [hold _ hqq]
          exact e1
        · rename_i hge'
          obtain ⟨uu,e1,e3⟩ := s6 _ y hq j dd hj
          refine ⟨uu,?_,s5 _ (List.mem_of_getElem? e1),e3.mono hkp.ext⟩
          have hlt2 := (List.getElem?_eq_some_iff.1 e1).1
          have hsub : (q - xs.length) * i.size = q * i.size - xs.length * i.size := Nat.sub_mul _ _ _
          have hmul : xs.length * i.size ≤ q * i.size := Nat.mul_le_mul_right _ (by omega)
          have hidx : q * i.size + j = xs.length * i.size + ((q - xs.length) * i.size + j) := by omega
          rw [hidx,hnew _ hlt2]
          exact e1
    · refine grow (some ⟨b,0,none⟩) cap (c.toList.take (xs.length * i.size)) rfl (by omega) ?_ ?_ ?_
      · have : xs.length * i.size ≤ cap * i.size := Nat.mul_le_mul_right _ hl
        simp; omega
      · have hlen : (c.toList.take (xs.length * i.size)).length = xs.length * i.size := by
          have : xs.length * i.size ≤ cap * i.size := Nat.mul_le_mul_right _ hl
          simp; omega
        exact run_firstCells_some (P := P) w.drew i.size xs.length ⟨b,0,none⟩ xs.length cap _ hlen (fun j v hv=>by
          rw [Addr.add_lit,Nat.zero_add]
          have : w.drew.cell? ⟨b,j,none⟩ = w.cell? ⟨b,j,none⟩ := rfl
          rw [this,y5 hhb]
          rw [List.getElem?_take] at hv
          split at hv
          · simpa using hv
          · cases hv)
      · intro q y hq j dd hj
        obtain ⟨uu,e1,e2,e3⟩ := hrep q y hq j dd hj
        refine ⟨uu,?_,e2,e3⟩
        have hqq := J1 hq (hs q y hq) hj
        rw [List.getElem?_take,if_pos hqq]
        simpa using e1
end Go.Aw
end
