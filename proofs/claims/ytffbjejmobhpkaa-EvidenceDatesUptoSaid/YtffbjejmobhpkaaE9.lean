/- A part of the proof of what the last text says: AwT. Conditions: those in each theorem. -/
import Derived.Test.YtffbjejmobhpkaaE8
set_option linter.unusedVariables false
set_option linter.unusedSimpArgs false
set_option maxRecDepth 100000
set_option maxHeartbeats 16000000
open Nat renaming reduceSub → qa,reduceAdd → qb,reduceMul → qc,reduceEqDiff → qd,reduceLeDiff → qe,reduceBEq → qf
section
namespace Go.Aw
open Go Go.RowKit
theorem getH_of_mem : ∀ {H : AH},(H.map (·.1)).Nodup → ∀ {b : Nat} {o : AO},(b,o) ∈ H → getH H b = some o
 | [],_,b,o,h=>by simp at h
 | (c,x) :: r,hn,b,o,h=>by
  simp only [List.map_cons,List.nodup_cons] at hn
  unfold getH
  rcases List.mem_cons.1 h with h | h
  ·injection h with h1 h2
   subst h1 h2
   simp
  ·have hne : b ≠ c := fun e=>hn.1 (by rw [← e]; exact List.mem_map.2 ⟨(b,o),h,rfl⟩)
   rw [if_neg hne]
   exact getH_of_mem hn.2 h
theorem RepC.view1 {K : Nat → BK} {w : World} {o : Who} {d : D} {v : Value} (h : RepC K w o d v) : RepC K w o d.view1 v := by
 cases d <;> first | exact h | exact OwnAt.rep h
theorem wkO_at {K : Nat → BK} {w : World} {b : Nat} {o : AO} (h : AO.at_ K w b o) : AO.at_ K w b (wkO o) := by
 cases o with
 | cells cs =>
  obtain ⟨hp,c,T,h1,h2,h3⟩ := h
  refine ⟨hp,c,T,h1,by simpa using h2,fun j d hd=>?_⟩
  rw [List.getElem?_map,Option.map_eq_some_iff] at hd
  obtain ⟨d',e1,rfl⟩ := hd
  obtain ⟨u,f1,f2,f3⟩ := h3 j d' e1
  exact ⟨u,f1,f2,f3.view1⟩
 | _=>exact h
theorem Sub.hrel {K : Nat → BK} {w : World} {H0 H : AH} (hn : (H0.map (·.1)).Nodup) (hs : Sub H0 H) (h : HRel K w H) : HRel K w H0 :=
 ⟨hn,fun b o hm=>by
  obtain ⟨o',h1,h2⟩ := hs b o (getH_of_mem hn hm)
  rcases h2 with rfl | rfl
  ·exact h.ok b _ (getH_mem h1)
  ·exact wkO_at (h.ok b _ (getH_mem h1))⟩
theorem Sub.st {K : Nat → BK} {w : World} {F : List D} {t : Array Value} {H0 H : AH} (hn : (H0.map (·.1)).Nodup) (hs : Sub H0 H) (h : St K w F H t) : St K w F H0 t :=
 ⟨h.krel,hs.hrel hn h.hrel,h.len,h.slot⟩
theorem getH_other {b c : Nat} {x : AO} (hne : c ≠ b) : ∀ {H : AH},getH (setH H b x) c = getH H c
 | []=>rfl
 | (e,o) :: r=>by
  unfold setH
  split
  ·rename_i h
   subst h
   unfold getH
   rw [if_neg hne,if_neg hne]
  ·unfold getH
   rw [getH_other hne]
theorem setH_swap {b c : Nat} {x y : AO} (hne : c ≠ b) : ∀ {H : AH},setH (setH H b x) c y = setH (setH H c y) b x
 | []=>rfl
 | (e,o) :: r=>by
  by_cases h1 : b = e
  ·subst h1
   have h2 : c ≠ b := hne
   simp [setH,h2]
  ·by_cases h2 : c = e
   ·subst h2
    simp [setH,h1]
   ·simp [setH,h1,h2,setH_swap hne]
theorem Sub.set {H0 H : AH} {b : Nat} {x : AO} (h : Sub H0 H) (hb : getH H0 b = none) : Sub H0 (setH H b x) := fun c o hc=>by
 have hne : c ≠ b := fun e=>by subst e; rw [hb] at hc; cases hc
 obtain ⟨o',h1,h2⟩ := h c o hc
 exact ⟨o',by rw [getH_other hne]; exact h1,h2⟩
abbrev NV := Nat → Option (Bool × List D)
def upv (σ : NV) (d : Nat) (x : Bool × List D) : NV := fun c=>if c = d then some x else σ c
theorem upv_at {σ : NV} {d : Nat} {x : Bool × List D} : upv σ d x d = some x := by simp [upv]
theorem upv_ne {σ : NV} {d c : Nat} {x : Bool × List D} (h : c ≠ d) : upv σ d x c = σ c := by simp [upv,h]
theorem upv_comm {σ : NV} {d e : Nat} {x y : Bool × List D} (h : e ≠ d) : upv (upv σ d x) e y = upv (upv σ e y) d x := funext fun c=>by
 by_cases h1 : c = d
 ·subst h1
  rw [upv_at,upv_ne (Ne.symm h),upv_at]
 ·by_cases h2 : c = e
  ·subst h2
   rw [upv_at,upv_ne h1,upv_at]
  ·rw [upv_ne h2,upv_ne h1,upv_ne h1,upv_ne h2]
inductive Ch where
 | no
 | blk (b : Nat) (o o' : AO)
 | al (d : Nat) (z : List D)
 | put (d : Nat) (z v : List D)
def Ch.plain : Ch → Bool
 | .no=>true
 | .blk _ _ _=>true
 | _=>false
structure Eff2 where
 e : Eff
 c : Ch
def Eff2.ap (x : Eff2) (H : AH × NV) : AH × NV := match x.c with
 | .blk b _ o=>(setH H.1 b o,H.2)
 | .no=>H
 | .al d z=>(H.1,upv H.2 d (false,z))
 | .put d _ v=>(H.1,upv H.2 d (true,v))
def Eff2.ok (x : Eff2) (H0 : AH) (H : AH × NV) : Prop := match x.c with
 | .blk b o o'=>(∀ H',Sub H0 H' → getH H' b = some o → Sub H0 (setH H' b o')) ∧ getH H.1 b = some o
 | .no=>True
 | .al d _=>H.2 d = none
 | .put d z _=>H.2 d = some (false,z)
def nv0 : NV := fun _=>none
def ordB (md : Region.Mode) (o : Oper) (i : Nat) : Bool := o.after.any fun e=>Region.binds md e && e.on == i
def Eff2.sep (x : Eff2) (md : Region.Mode) (o : Oper) (S : List (Nat × Nat)) : Prop := match x.c with
 | .blk b _ _=>∀ q ∈ S,q.2 = b → ordB md o q.1 = true
 | _=>True
def Eff2.add (x : Eff2) (k : Nat) (S : List (Nat × Nat)) : List (Nat × Nat) := match x.c with
 | .blk b _ _=>(k,b) :: S
 | _=>S
theorem Eff2.sub {x : Eff2} {H0 : AH} {H : AH × NV} (h : Sub H0 H.1) (hx : x.ok H0 H) : Sub H0 (x.ap H).1 := by
 unfold Eff2.ap
 unfold Eff2.ok at hx
 split
 ·rename_i b o o' hc
  simp only [hc] at hx
  exact hx.1 _ h hx.2
 ·exact h
 ·exact h
 ·exact h
def SEffH (P : Program) (H H' : AH) (o : Oper) (F : List D) (e : Eff) : Prop :=
 ∀ (K : Nat → BK) (w : World) (a : Act) (G : List D) (Q : Exit → Act → World → Prop),St K w G H a.tmps → (∀ t,.tmp t ∈ o.op.operands.toList → G.getD t .any = F.getD t .any) → G.length = F.length →
  o.wp P a w (OKd (fun G' H''=>G' = e.app o.dst G ∧ H'' = H') K w a.defers) Q
def isAl : Op → Bool
 | .alloc _=>true
 | _=>false
def isNew (al : List Nat) : Op → Bool
 | .alloc _=>true
 | .store _ (.tmp d) _=>al.contains d
 | _=>false
def Ef (P : Program) (H0 : AH) (al : List Nat) (ops : Array Oper) (o : Oper) (F : List D) (x : Eff2) : Prop :=
 (gst ops.toList F o = some true ∧ x.c.plain = true ∧ isNew al o.op = false ∧ (∀ H,Sub H0 H → x.ok H0 (H,nv0) → SEffH P H (x.ap (H,nv0)).1 o F x.e) ∧ ∀ s v,x.e.tk = some (s,v) → tk1 ops.toList o = some s) ∨
 (gst ops.toList F o = some false ∧ x = ⟨⟨none,.tup []⟩,.no⟩) ∨
 (o.guard = none ∧ ∃ t d z,x = ⟨⟨none,.any⟩,.al d z⟩ ∧ o.op = .alloc t ∧ o.dst = some d ∧ zcI P t = some z ∧ d ∈ al ∧ d < F.length) ∨
 (o.guard = none ∧ ∃ t d y n z,x = ⟨⟨none,.tup []⟩,.put d z (cellsOf (rv F y) ++ z.drop n)⟩ ∧ o.op = .store t (.tmp d) y ∧ d ∈ al ∧ tyI P t = some (true,n) ∧ okc (rv F y) = true ∧ (cellsOf (rv F y)).length = n ∧ n ≤ z.length)
section
variable {P : Program} {ops : Array Oper} {H0 : AH} {al : List Nat} {md : Region.Mode} {o : Oper}
theorem Ef.congr {F G : List D} {e : Eff2} (he : Ef P H0 al ops o F e) (h : ∀ t ∈ o.looksAt ops,G.getD t .any = F.getD t .any) (hl : G.length = F.length) : Ef P H0 al ops o G e := by
 rcases he with ⟨h1,ha,hb,h2,h3⟩ | ⟨h1,h2⟩ | ⟨h1,t,d,z,h2,h3,h4,h5,h6,h7⟩ | ⟨h1,t,d,y,n,z,h2,h3,h4,h5,h6,h7,h8⟩
 ·refine .inl ⟨by rw [gst_congr h]; exact h1,ha,hb,fun H q1 q2 K w a G' Q hs hG hlen=>?_,h3⟩
  exact h2 H q1 q2 K w a G' Q hs (fun t ht=>(hG t ht).trans (h t (looks_operand ht))) (hlen.trans hl)
 ·exact .inr (.inl ⟨by rw [gst_congr h]; exact h1,h2⟩)
 ·exact .inr (.inr (.inl ⟨h1,t,d,z,h2,h3,h4,h5,h6,by rw [hl]; exact h7⟩))
 ·have hy : rv G y = rv F y := by
   unfold rv
   rw [ev_agree (xs := o.op.operands.toList) (fun t ht=>h t (looks_operand ht)) (by simp [h3,Op.operands])]
  exact .inr (.inr (.inr ⟨h1,t,d,y,n,z,by rw [hy]; exact h2,h3,h4,h5,by rw [hy]; exact h6,by rw [hy]; exact h7,h8⟩))
theorem Ef.tk {F : List D} {e : Eff2} (he : Ef P H0 al ops o F e) : ∀ s v,e.e.tk = some (s,v) → tk1 ops.toList o = some s := by
 rcases he with ⟨_,_,_,_,h⟩ | ⟨_,rfl⟩ | ⟨_,_,_,_,rfl,_⟩ | ⟨_,_,_,_,_,_,rfl,_⟩
 ·exact h
 ·intro s v h; cases h
 ·intro s v h; cases h
 ·intro s v h; cases h
theorem Ef.dstN {F : List D} {e : Eff2} {d : Nat} {z : List D} (he : Ef P H0 al ops o F e) (hc : e.c = .al d z) : o.dst = some d := by
 rcases he with ⟨_,h,_⟩ | ⟨_,rfl⟩ | ⟨_,_,_,_,rfl,_,h,_⟩ | ⟨_,_,_,_,_,_,rfl,_⟩
 ·rw [hc] at h; cases h
 ·cases hc
 ·cases hc; exact h
 ·cases hc
theorem Ef.put {F : List D} {e : Eff2} {d : Nat} {z v : List D} (he : Ef P H0 al ops o F e) (hc : e.c = .put d z v) : d ∈ o.looksAt ops := by
 rcases he with ⟨_,h,_⟩ | ⟨_,rfl⟩ | ⟨_,_,_,_,rfl,_⟩ | ⟨_,_,_,_,_,_,rfl,h,_⟩
 ·rw [hc] at h; cases h
 ·cases hc
 ·cases hc
 ·cases hc; exact looks_operand (by simp [h,Op.operands])
theorem swapT {x y : Oper} {F : List D} {e f : Eff2} (hf : Far ops x y) (hx : Ef P H0 al ops x F e) (hy : Ef P H0 al ops y (e.e.app x.dst F) f) :
  Ef P H0 al ops y F f ∧ Ef P H0 al ops x (f.e.app y.dst F) e ∧ f.e.app y.dst (e.e.app x.dst F) = e.e.app x.dst (f.e.app y.dst F) := by
 have hy' : Ef P H0 al ops y F f := hy.congr (fun t ht=>(app_getD (fun h=>(hf.d t h).1 ht) (fun v h=>(hf.t t (hx.tk t v h)).1 ht)).symm) (app_len _ _ _).symm
 refine ⟨hy',hx.congr (fun t ht=>app_getD (fun h=>hf.d' t h ht) (fun v h=>(hf.t' t (hy.tk t v h)).1 ht)) (app_len _ _ _),app_comm F (fun t h=>(hf.d t h).2) (fun s v h=>(hf.t s (hx.tk s v h)).2) (fun s v h=>(hf.t' s (hy.tk s v h)).2) (fun s v h v' h'=>?_)⟩
 exact (hf.t s (hx.tk s v h)).1 (tk_looks (hy.tk s v' h'))
theorem swapH {e f : Eff2} {H : AH × NV} {S : List (Nat × Nat)} {i : Nat} {oj : Oper} (he : e.ok H0 H) (hf : f.ok H0 (e.ap H)) (hs : f.sep md oj (e.add i S)) (hn : ordB md oj i = false) (hap : ∀ d z z' v,e.c = .al d z → f.c = .put d z' v → False) : f.sep md oj S ∧ f.ok H0 H ∧ e.ok H0 (f.ap H) ∧ f.ap (e.ap H) = e.ap (f.ap H) := by
 obtain ⟨e0,ec⟩ := e
 obtain ⟨f0,fc⟩ := f
 have two : ∀ {σ : NV} {d d' : Nat} {x y : Bool × List D} {q : Option (Bool × List D)},(d' = d → False) → upv σ d x d' = q → σ d' = q ∧ ∀ y,upv σ d' y d = σ d := fun hne h=>⟨by rw [← h,upv_ne hne],fun y=>upv_ne (fun e=>hne e.symm)⟩
 cases ec with
 | no=>exact ⟨hs,hf,trivial,rfl⟩
 | al d z =>
  cases fc with
  | no=>exact ⟨trivial,trivial,he,rfl⟩
  | al d' z' =>
   simp only [Eff2.ok,Eff2.ap] at he hf ⊢
   have hne : d' = d → False := fun e=>by subst e; rw [upv_at] at hf; cases hf
   refine ⟨trivial,by rw [← hf,upv_ne hne],by rw [upv_ne (fun e=>hne e.symm)]; exact he,by rw [upv_comm hne]⟩
  | put d' z' v' =>
   simp only [Eff2.ok,Eff2.ap] at he hf ⊢
   have hne : d' = d → False := fun e=>by subst e; exact hap _ _ _ _ rfl rfl
   refine ⟨trivial,by rw [← hf,upv_ne hne],by rw [upv_ne (fun e=>hne e.symm)]; exact he,by rw [upv_comm hne]⟩
  | blk c p1 p2=>exact ⟨hs,hf,he,rfl⟩
 | put d z v =>
  cases fc with
  | no=>exact ⟨trivial,trivial,he,rfl⟩
  | al d' z' =>
   simp only [Eff2.ok,Eff2.ap] at he hf ⊢
   have hne : d' = d → False := fun e=>by subst e; rw [upv_at] at hf; cases hf
   refine ⟨trivial,by rw [← hf,upv_ne hne],by rw [upv_ne (fun e=>hne e.symm)]; exact he,by rw [upv_comm hne]⟩
  | put d' z' v' =>
   simp only [Eff2.ok,Eff2.ap] at he hf ⊢
   have hne : d' = d → False := fun e=>by subst e; rw [upv_at] at hf; cases hf
   refine ⟨trivial,by rw [← hf,upv_ne hne],by rw [upv_ne (fun e=>hne e.symm)]; exact he,by rw [upv_comm hne]⟩
  | blk c p1 p2=>exact ⟨hs,hf,he,rfl⟩
 | blk b o1 o2 =>
  cases fc with
  | no=>exact ⟨trivial,trivial,he,rfl⟩
  | al d' z'=>exact ⟨trivial,hf,he,rfl⟩
  | put d' z' v'=>exact ⟨trivial,hf,he,rfl⟩
  | blk c p1 p2 =>
   simp only [Eff2.sep,Eff2.add,List.forall_mem_cons] at hs
   obtain ⟨hne,hs⟩ := hs
   have hne : c ≠ b := fun e=>by rw [hne e.symm] at hn; cases hn
   simp only [Eff2.ok,Eff2.ap] at he hf ⊢
   refine ⟨hs,⟨hf.1,?_⟩,⟨he.1,?_⟩,by rw [setH_swap hne]⟩
   ·rw [← getH_other (x := o2) hne]; exact hf.2
   ·rw [getH_other (Ne.symm hne)]; exact he.2
def wpAnyT (P : Program) (md : Region.Mode) (ops : Array Oper) (H0 : AH) (al : List Nat) (n : Nat) (E : Array Bool → List D → AH × NV → Prop) : Nat → List (Nat × Nat) → Array Bool → List D → AH × NV → Prop
 | 0,_,listed,F,H=>E listed F H
 | fuel + 1,S,listed,F,H=>Region.ready md ops listed ≠ [] ∧ ∀ i ∈ Region.ready md ops listed,i < n ∧ ∃ o x,ops[i]? = some o ∧ Ef P H0 al ops o F x ∧ x.ok H0 H ∧ x.sep md o S ∧ wpAnyT P md ops H0 al n E fuel S (listed.setIfInBounds i true) (x.e.app o.dst F) (x.ap H)
theorem wpAnyT_less {n : Nat} {E : Array Bool → List D → AH × NV → Prop} {S S' : List (Nat × Nat)} (h : ∀ b,b ∈ S → b ∈ S') : ∀ (fuel : Nat) (listed : Array Bool) (F : List D) (H : AH × NV),wpAnyT P md ops H0 al n E fuel S' listed F H → wpAnyT P md ops H0 al n E fuel S listed F H
 | 0,_,_,_,hh=>hh
 | fuel + 1,listed,F,H,hh=>⟨hh.1,fun i hi=>by
   obtain ⟨h1,o,x,h2,h3,h4,h5,h6⟩ := hh.2 i hi
   refine ⟨h1,o,x,h2,h3,h4,?_,wpAnyT_less h fuel _ _ _ h6⟩
   unfold Eff2.sep at h5 ⊢
   split
   ·rename_i b _ _ hc
    simp only [hc] at h5
    exact fun q hq=>h5 q (h q hq)
   ·trivial⟩
theorem ordB_false {oj : Oper} {i : Nat} (h : ∀ e ∈ oj.after,Region.binds md e = true → e.on ≠ i) : ordB md oj i = false := by
 unfold ordB
 cases hb : oj.after.any fun e=>Region.binds md e && e.on == i with
 | false=>rfl
 | true =>
  obtain ⟨e,he,h2⟩ := Array.any_eq_true'.1 hb
  simp only [Bool.and_eq_true,beq_iff_eq] at h2
  exact (h e he h2.1 h2.2).elim
theorem wpAnyT_first {n i : Nat} {oi : Oper} {e : Eff2} {E : Array Bool → List D → AH × NV → Prop} (hi : ops[i]? = some oi) (hs : Region.sinkB md ops n = true) (hc : Region.chainB md ops n = true) (hn : n < ops.size) (hin : i < n)
  (hdone : ∀ listed F H,E listed F H → ∀ j ∈ Region.ready md ops listed,n ≤ j) :
  ∀ (fuel : Nat) (S : List (Nat × Nat)) (listed : Array Bool) (F : List D) (H : AH × NV),HeadInv md ops n listed →
   (∀ j oj,ops[j]? = some oj → j ≠ i → listed.getD j true = false → (∀ e ∈ oj.after,Region.binds md e = true → e.on ≠ i) → Far ops oi oj) →
   i ∈ Region.ready md ops listed → Ef P H0 al ops oi F e → e.ok H0 H → e.sep md oi S →
   wpAnyT P md ops H0 al n E fuel (e.add i S) (listed.setIfInBounds i true) (e.e.app oi.dst F) (e.ap H) → wpAnyT P md ops H0 al n E (fuel + 1) S listed F H := by
 intro fuel
 induction fuel with
 | zero =>
  intro S listed F H inv _ hr hy hy1 hy2 Hh
  refine ⟨fun h=>(by rw [h] at hr; cases hr),fun j hj=>?_⟩
  have hjn : j < n := by
   rcases Nat.lt_or_ge j n with h | h
   ·exact h
   ·exact absurd hj (tail_waits hs hc hn inv _ i rfl hin (mem_ready.1 hr).1 j h)
  refine ⟨hjn,?_⟩
  by_cases hji : j = i
  ·subst hji; exact ⟨oi,e,hi,hy,hy1,hy2,Hh⟩
  ·have := hdone _ _ _ Hh j (ready_mono hj hji)
   omega
 | succ fuel ih =>
  intro S listed F H inv hfree hr hy hy1 hy2 Hh
  refine ⟨fun h=>(by rw [h] at hr; cases hr),fun j hj=>?_⟩
  have hjn : j < n := by
   rcases Nat.lt_or_ge j n with h | h
   ·exact h
   ·exact absurd hj (tail_waits hs hc hn inv _ i rfl hin (mem_ready.1 hr).1 j h)
  refine ⟨hjn,?_⟩
  by_cases hji : j = i
  ·subst hji
   refine ⟨oi,e,hi,hy,hy1,hy2,?_⟩
   exact wpAnyT_less (fun b hb=>by unfold Eff2.add; split <;> simp [hb]) _ _ _ _ Hh
  ·obtain ⟨_,oj,f,hoj,hyj,hyj1,hyj2,hk⟩ := Hh.2 j (ready_mono hj hji)
   obtain ⟨hjun,oj',hoj',hall⟩ := mem_ready.1 hj
   obtain rfl : oj = oj' := by rw [hoj] at hoj'; exact Option.some.inj hoj'
   have hnot : ∀ e ∈ oj.after,Region.binds md e = true → e.on ≠ i := fun e he hb heq=>by
    have h1 := hall e he hb
    rw [heq,getD_both (mem_ready.1 hr).1] at h1
    cases h1
   obtain ⟨s1,s2,s3⟩ := swapT (hfree j oj hoj hji hjun hnot) hy hyj
   obtain ⟨q1,q2,q3,q4⟩ := swapH hy1 hyj1 hyj2 (ordB_false hnot) (fun d z z' v h1 h2=>((hfree j oj hoj hji hjun hnot).d d (hy.dstN h1)).1 (hyj.put h2))
   refine ⟨oj,f,hoj,s1,q2,q1,ih S _ _ _ (inv.set hj hjn) (fun k ok hk' hki hun hno=>?_) (ready_mono hr (Ne.symm hji)) s2 q3 hy2 ?_⟩
   ·refine hfree k ok hk' hki ?_ hno
    by_cases hjk : j = k
    ·subst hjk; exact hjun
    ·rw [getD_set_ne true hjk] at hun; exact hun
   ·rw [Array.setIfInBounds_comm _ _ hji,← s3,← q4]
    exact hk
def chainT (P : Program) (md : Region.Mode) (H0 : AH) (al : List Nat) (ops : Array Oper) : List Oper → Nat → List (Nat × Nat) → List D → AH × NV → (List D → AH × NV → Prop) → Prop
 | [],_,_,F,H,k=>k F H
 | o :: r,n,S,F,H,k=>∃ x,Ef P H0 al ops o F x ∧ x.ok H0 H ∧ x.sep md o S ∧ chainT P md H0 al ops r (n + 1) (x.add n S) (x.e.app o.dst F) (x.ap H) k
theorem wpAnyT_lex {n g : Nat} {T : List D → AH × NV → Prop} (hs : Region.sinkB md ops n = true) (hc : Region.chainB md ops n = true) (hn : n < ops.size) :
  ∀ (l : List Oper) (k : Nat) (S : List (Nat × Nat)) (listed : Array Bool) (F : List D) (H : AH × NV),(∀ j,j < l.length → l[j]? = ops[k + j]?) → k + l.length = n → HeadInv md ops n listed → lexH md ops g l.length k listed = true → chainT P md H0 al ops l k S F H T →
  wpAnyT P md ops H0 al n (fun listed' F' H'=>Region.seqB md ops g n listed' = true ∧ T F' H') l.length S listed F H
 | [],k,S,listed,F,H,_,hk,_,hB,h=>by
  have : k = n := by simpa using hk
  subst this
  exact ⟨by simpa [lexH] using hB,h⟩
 | o :: l,k,S,listed,F,H,hl,hk,inv,hB,h=>by
  have h0 : ops[k]? = some o := by simpa using (hl 0 (by simp)).symm
  simp only [List.length_cons,lexH,Bool.and_eq_true] at hB
  obtain ⟨⟨hr,hf⟩,hB'⟩ := hB
  have hkn : k < n := by simp only [List.length_cons] at hk; omega
  have hr' : k ∈ Region.ready md ops listed := by simpa using hr
  obtain ⟨e,he,he1,he2,hK⟩ := h
  exact wpAnyT_first h0 hs hc hn hkn (fun listed' F' H' hL=>seqB_ready hL.1) l.length S listed F H inv (freeT_spec h0 hf) hr' he he1 he2
   (wpAnyT_lex hs hc hn l (k + 1) _ _ _ _ (fun j hj=>by have := hl (j + 1) (by simp; omega); simpa [Nat.add_assoc,Nat.add_comm 1 j] using this) (by simp only [List.length_cons] at hk; omega) (inv.set hr' hkn) hB' hK)
def setsL : List (Nat × Nat) → List D → List D
 | [],F=>F
 | (d,b) :: r,F=>(setsL r F).set d (.ptr b 0)
def ovl (σ : NV) (H : AH) (c : Nat) : List (Nat × Nat) → Option AO
 | []=>getH H c
 | (d,b) :: r=>if c = b then (σ d).map fun q=>.cells q.2 else ovl σ H c r
theorem setsL_len {F : List D} : ∀ {L : List (Nat × Nat)},(setsL L F).length = F.length
 | []=>rfl
 | (d,b) :: r=>by simp [setsL,setsL_len (L := r)]
theorem setsL_not {F : List D} {i : Nat} : ∀ {L : List (Nat × Nat)},i ∉ L.map (·.1) → (setsL L F)[i]? = F[i]?
 | [],_=>rfl
 | (d,b) :: r,h=>by
  simp only [List.map_cons,List.mem_cons,not_or] at h
  unfold setsL
  rw [List.getElem?_set_ne (Ne.symm h.1)]
  exact setsL_not h.2
theorem setsL_in {F : List D} {i b : Nat} (hi : i < F.length) : ∀ {L : List (Nat × Nat)},(L.map (·.1)).Nodup → (i,b) ∈ L → (setsL L F)[i]? = some (.ptr b 0)
 | (d,c) :: r,hn,h=>by
  simp only [List.map_cons,List.nodup_cons] at hn
  unfold setsL
  rcases List.mem_cons.1 h with h | h
  ·injection h with h1 h2
   subst h1 h2
   rw [List.getElem?_set_self (by rw [setsL_len]; exact hi)]
  ·have hne : d ≠ i := fun e=>hn.1 (by rw [e]; exact List.mem_map.2 ⟨(i,b),h,rfl⟩)
   rw [List.getElem?_set_ne hne]
   exact setsL_in hi hn.2 h
theorem setsL_set {F : List D} {i : Nat} {v : D} : ∀ {L : List (Nat × Nat)},i ∉ L.map (·.1) → setsL L (F.set i v) = (setsL L F).set i v
 | [],_=>rfl
 | (d,b) :: r,h=>by
  simp only [List.map_cons,List.mem_cons,not_or] at h
  unfold setsL
  rw [setsL_set h.2,set_comm' _ h.1]
theorem setsL_put {F : List D} {dst : Option Tmp} {v : D} {L : List (Nat × Nat)} (h : ∀ t,dst = some t → t ∉ L.map (·.1)) : setsL L (putF F dst v) = putF (setsL L F) dst v := by
 cases dst with
 | none=>rfl
 | some t=>exact setsL_set (h t rfl)
theorem setsL_app {F : List D} {dst : Option Tmp} {e : Eff} {L : List (Nat × Nat)} (h : ∀ t,dst = some t → t ∉ L.map (·.1)) (ht : ∀ s v,e.tk = some (s,v) → s ∉ L.map (·.1)) : e.app dst (setsL L F) = setsL L (e.app dst F) := by
 unfold Eff.app
 rw [setsL_put h]
 cases htk : e.tk with
 | none=>rfl
 | some q =>
  obtain ⟨s,v⟩ := q
  simp only [setsL_set (ht s v htk)]
theorem setsL_same {F : List D} {L L' : List (Nat × Nat)} (hn : (L.map (·.1)).Nodup) (hn' : (L'.map (·.1)).Nodup) (h : ∀ p,p ∈ L ↔ p ∈ L') : setsL L F = setsL L' F := by
 apply List.ext_getElem?
 intro i
 rcases Nat.lt_or_ge i F.length with hi | hi
 ·by_cases hm : i ∈ L.map (·.1)
  ·obtain ⟨⟨j,b⟩,hb,rfl⟩ := List.mem_map.1 hm
   rw [setsL_in hi hn hb,setsL_in hi hn' ((h _).1 hb)]
  ·have hm' : i ∉ L'.map (·.1) := fun hh=>by
    obtain ⟨p,hp,rfl⟩ := List.mem_map.1 hh
    exact hm (List.mem_map.2 ⟨p,(h p).2 hp,rfl⟩)
   rw [setsL_not hm,setsL_not hm']
 ·rw [List.getElem?_eq_none (by rw [setsL_len]; exact hi),List.getElem?_eq_none (by rw [setsL_len]; exact hi)]
theorem ovl_not {σ : NV} {H : AH} {c : Nat} : ∀ {L : List (Nat × Nat)},c ∉ L.map (·.2) → ovl σ H c L = getH H c
 | [],_=>rfl
 | (d,b) :: r,h=>by
  simp only [List.map_cons,List.mem_cons,not_or] at h
  unfold ovl
  rw [if_neg h.1]
  exact ovl_not h.2
theorem ovl_in {σ : NV} {H : AH} {c d : Nat} : ∀ {L : List (Nat × Nat)},(L.map (·.2)).Nodup → (d,c) ∈ L → ovl σ H c L = (σ d).map fun q=>.cells q.2
 | (e,b) :: r,hn,h=>by
  simp only [List.map_cons,List.nodup_cons] at hn
  unfold ovl
  rcases List.mem_cons.1 h with h | h
  ·injection h with h1 h2
   subst h1 h2
   rw [if_pos rfl]
  ·have hne : c ≠ b := fun e=>hn.1 (by rw [← e]; exact List.mem_map.2 ⟨(d,c),h,rfl⟩)
   rw [if_neg hne]
   exact ovl_in hn.2 h
theorem ovl_upv {σ : NV} {H : AH} {c d : Nat} {x : Bool × List D} : ∀ {L : List (Nat × Nat)},d ∉ L.map (·.1) → ovl (upv σ d x) H c L = ovl σ H c L
 | [],_=>rfl
 | (e,b) :: r,h=>by
  simp only [List.map_cons,List.mem_cons,not_or] at h
  unfold ovl
  rw [ovl_upv h.2,upv_ne (Ne.symm h.1)]
structure Lft (al : List Nat) (F : List D) (H : AH × NV) (G : List D) (H' : AH) (L : List (Nat × Nat)) : Prop where
 n1 : (L.map (·.1)).Nodup
 n2 : (L.map (·.2)).Nodup
 inal : ∀ p ∈ L,p.1 ∈ al ∧ p.1 < F.length ∧ freshH H.1 p.2
 dom : ∀ d,(H.2 d).isSome = true ↔ d ∈ L.map (·.1)
 g : G = setsL L F
 nd : (H.1.map (·.1)).Nodup
 h : ∀ c,getH H' c = ovl H.2 H.1 c L
def Lone (al : List Nat) (ops : Array Oper) (n : Nat) : Prop :=
 ∀ j oj,j < n → ops[j]? = some oj → (isNew al oj.op = true ∧ oj.guard = none ∧ ∀ t a y,oj.op = .store t a y → ∀ d ∈ al,y ≠ .tmp d ∧ oj.dst ≠ some d) ∨ (isNew al oj.op = false ∧ ∀ d ∈ al,d ∉ oj.looksAt ops ∧ oj.dst ≠ some d)
theorem freshH_get {b c : Nat} {o : AO} : ∀ {H : AH},freshH H b → getH H c = some o → c ≠ b
 | [],_,h=>by cases h
 | (e,x) :: r,hf,h=>by
  unfold getH at h
  split at h
  ·rename_i e'
   intro hh
   exact hf.1 (hh.symm.trans e')
  ·exact freshH_get hf.2 h
theorem freshH_set {b c : Nat} {x : AO} : ∀ {H : AH},freshH (setH H c x) b ↔ freshH H b
 | []=>Iff.rfl
 | (e,o) :: r=>by
  unfold setH
  split
  ·rename_i h; subst h; exact Iff.rfl
  ·simp only [freshH,freshH_set]
theorem getH_at {b : Nat} {x o : AO} : ∀ {H : AH},getH H b = some o → getH (setH H b x) b = some x
 | [],h=>by cases h
 | (e,q) :: r,h=>by
  unfold setH
  split
  ·rename_i e'
   subst e'
   simp [getH]
  ·rename_i e'
   unfold getH at h ⊢
   rw [if_neg e'] at h ⊢
   exact getH_at h
theorem setH_keys {b : Nat} {x : AO} : ∀ {H : AH},(setH H b x).map (·.1) = H.map (·.1)
 | []=>rfl
 | (e,q) :: r=>by
  unfold setH
  split
  ·rfl
  ·simp [setH_keys]
theorem freshH_no : ∀ {H : AH} {b : Nat},freshH H b → getH H b = none
 | [],_,_=>rfl
 | (c,o) :: r,b,h=>by
  unfold getH
  rw [if_neg h.1]
  exact freshH_no h.2
theorem freshH_iff : ∀ {H : AH} {b : Nat},getH H b = none → freshH H b
 | [],_,_=>trivial
 | (c,o) :: r,b,h=>by
  unfold getH at h
  split at h
  ·cases h
  ·rename_i e
   exact ⟨e,freshH_iff h⟩
theorem St.same {K : Nat → BK} {w : World} {F : List D} {t : Array Value} {H H' : AH} (h : St K w F H t) (hn : (H'.map (·.1)).Nodup) (he : ∀ c,getH H' c = getH H c) : St K w F H' t :=
 ⟨h.krel,⟨hn,fun b o hm=>h.hrel.ok b o (getH_mem (by rw [← he]; exact getH_of_mem hn hm))⟩,h.len,h.slot⟩
theorem nodup_fst {L : List (Nat × Nat)} (hn : (L.map (·.1)).Nodup) {d b c : Nat} (h1 : (d,b) ∈ L) (h2 : (d,c) ∈ L) : b = c := by
 induction L with
 | nil=>cases h1
 | cons p r ih =>
  simp only [List.map_cons,List.nodup_cons] at hn
  rcases List.mem_cons.1 h1 with h1 | h1 <;> rcases List.mem_cons.1 h2 with h2 | h2
  ·rw [← h1] at h2; injection h2 with _ h2; exact h2.symm
  ·exact (hn.1 (List.mem_map.2 ⟨_,h2,by rw [← h1]⟩)).elim
  ·exact (hn.1 (List.mem_map.2 ⟨_,h1,by rw [← h2]⟩)).elim
  ·exact ih hn.2 h1 h2
theorem wpAny_of_T {n g : Nat} {E : Array Bool → List D → AH × NV → Prop} {K : Nat → BK} {w : World} {a : Act} {Q' : Exit → Act → World → Prop} (hL : Lone al ops n) (hokall : ∀ (i : Nat) (o : Oper),ops[i]? = some o → opOk o = true)
  (hE : ∀ listed F H G H' L K1 w1 (a1 : Act),E listed F H → Lft al F H G H' L → St K1 w1 G H' a1.tmps → FK K w K1 w1 → a1.defers = a.defers → wpAny P md ops Q' g listed a1 w1) :
  ∀ (fuel : Nat) (S : List (Nat × Nat)) (listed : Array Bool) (F : List D) (H : AH × NV) (G : List D) (H' : AH) (L : List (Nat × Nat)) (K1 : Nat → BK) (w1 : World) (a1 : Act),Sub H0 H.1 → Lft al F H G H' L → St K1 w1 G H' a1.tmps → FK K w K1 w1 → a1.defers = a.defers → wpAnyT P md ops H0 al n E fuel S listed F H → wpAny P md ops Q' (fuel + g) listed a1 w1
 | 0,S,_,F,H,G,H',L,K1,w1,a1,hsub,hlf,hs,hfk,hd,h=>by rw [Nat.zero_add]; exact hE _ F H G H' L K1 w1 a1 h hlf hs hfk hd
 | fuel + 1,S,listed,F,H,G,H',L,K1,w1,a1,hsub,hlf,hs,hfk,hd,h=>by
  rw [show fuel + 1 + g = (fuel + g) + 1 by omega]
  refine ⟨fun h0=>absurd h0 h.1,fun i hi=>?_⟩
  obtain ⟨hin,o,e,ho,he,hok,hsp,hk⟩ := h.2 i hi
  unfold wpOp
  simp only [ho]
  have hal : ∀ d,d ∈ L.map (·.1) → d ∈ al := fun d hd=>by
   obtain ⟨p,hp,rfl⟩ := List.mem_map.1 hd
   exact (hlf.inal p hp).1
  have hnew : ∀ c o',getH H.1 c = some o' → c ∉ L.map (·.2) := fun c o' hc hm=>by
   obtain ⟨p,hp,rfl⟩ := List.mem_map.1 hm
   exact freshH_get (hlf.inal p hp).2.2 hc rfl
  have hlone : isNew al o.op = false → ∀ d ∈ al,d ∉ o.looksAt ops ∧ o.dst ≠ some d := fun hna=>by
   rcases hL i o hin ho with ⟨h1,_⟩ | ⟨_,h2⟩
   ·rw [hna] at h1; cases h1
   ·exact h2
  have hsubr : Sub H0 H' := fun c o' hc=>by
   obtain ⟨o2,h1,h2⟩ := hsub c o' hc
   exact ⟨o2,by rw [hlf.h c,ovl_not (hnew c o2 h1)]; exact h1,h2⟩
  have hlen : G.length = F.length := by rw [hlf.g,setsL_len]
  have hagree : isNew al o.op = false → ∀ t ∈ o.looksAt ops,G.getD t .any = F.getD t .any := fun hna t ht=>by
   rw [hlf.g,List.getD_eq_getElem?_getD,setsL_not (fun hm=>((hlone hna) t (hal t hm)).1 ht),← List.getD_eq_getElem?_getD]
  rcases he with ⟨g1,gc,gna,g2,gtk⟩ | ⟨g1,rfl⟩ | ⟨gg,t,d,z,rfl,hop,hdst,hz,hdal,hdl⟩ | ⟨gg,t,d,y,m,z,rfl,hop,hdal,hty,hoc,hcl,hzl⟩
  ·have ha1 := hagree gna
   rw [if_pos (gst_sound hs (by rw [gst_congr ha1]; exact g1))]
   have hop : ∀ t,.tmp t ∈ o.op.operands.toList → G.getD t .any = F.getD t .any := fun t ht=>ha1 t (looks_operand ht)
   have hok' : e.ok H0 (H',nv0) := by
    unfold Eff2.ok at hok ⊢
    split
    ·rename_i c o1 o2 hc
     simp only [hc] at hok
     exact ⟨hok.1,by rw [hlf.h,ovl_not (hnew _ _ hok.2)]; exact hok.2⟩
    ·trivial
    ·rename_i hc; rw [hc] at gc; cases gc
    ·rename_i hc; rw [hc] at gc; cases gc
   have happ : e.e.app o.dst G = setsL L (e.e.app o.dst F) := by
    rw [hlf.g]
    exact setsL_app (fun t ht hm=>((hlone gna) t (hal t hm)).2 ht) (fun s v hv hm=>((hlone gna) s (hal s hm)).1 (tk_looks (gtk s v hv)))
   refine .inl (Oper.wp_mono (fun a2 w2 h2=>?_) (g2 H' hsubr hok' K1 w1 a1 G Q' hs hop hlen))
   obtain ⟨F',H'',K',⟨hF',hH'⟩,q2,q3,q4⟩ := h2
   rw [hF',hH',happ] at q3
   refine wpAny_of_T hL hokall hE fuel S _ _ _ _ _ L K' w2 a2 (Eff2.sub hsub hok) ?_ q3 (hfk.trans q2) (q4.trans hd) hk
   have hdom : (e.ap H).2 = H.2 := by
    unfold Eff2.ap
    split <;> first | rfl | (rename_i hc; rw [hc] at gc; cases gc)
   refine ⟨hlf.n1,hlf.n2,fun p hp=>⟨(hlf.inal p hp).1,by rw [app_len]; exact (hlf.inal p hp).2.1,?_⟩,fun d=>by rw [hdom]; exact hlf.dom d,rfl,?_,fun c=>?_⟩
   ·unfold Eff2.ap
    split <;> first | exact (hlf.inal p hp).2.2 | exact freshH_set.2 (hlf.inal p hp).2.2
   ·unfold Eff2.ap
    split <;> first | exact hlf.nd | (rw [setH_keys]; exact hlf.nd)
   ·unfold Eff2.ok at hok
    rw [hdom]
    unfold Eff2.ap
    split
    ·rename_i b o1 o2 hc
     simp only [hc] at hok
     have hb := hnew _ _ hok.2
     by_cases hcb : c = b
     ·subst hcb
      rw [getH_at (o := o1) (by rw [hlf.h,ovl_not hb]; exact hok.2),ovl_not hb,getH_at hok.2]
     ·rw [getH_other hcb,hlf.h]
      by_cases hm : c ∈ L.map (·.2)
      ·obtain ⟨⟨d,c⟩,hp,rfl⟩ := List.mem_map.1 hm
       rw [ovl_in hlf.n2 hp,ovl_in hlf.n2 hp]
      ·rw [ovl_not hm,ovl_not hm,getH_other hcb]
    ·exact hlf.h c
    ·exact hlf.h c
    ·exact hlf.h c
  ·have hna : isNew al o.op = false := by
    rcases hL i o hin ho with ⟨_,h2,_⟩ | ⟨h1,_⟩
    ·unfold gst at g1; simp [h2] at g1
    ·exact h1
   rw [if_neg (by rw [gst_sound hs (by rw [gst_congr (hagree hna)]; exact g1)]; simp)]
   have hp : putF G o.dst (.tup []) = setsL L (putF F o.dst (.tup [])) := by
    rw [hlf.g,setsL_put (fun t ht hm=>((hlone hna) t (hal t hm)).2 ht)]
   refine wpAny_of_T hL hokall hE fuel S _ _ H _ _ L K1 w1 _ hsub ⟨hlf.n1,hlf.n2,fun p hp=>⟨(hlf.inal p hp).1,?_,(hlf.inal p hp).2.2⟩,hlf.dom,hp,hlf.nd,hlf.h⟩ (st_skip hs o.dst) hfk ((put_defers o.dst undef).trans hd) hk
   have := (hlf.inal p hp).2.1
   show p.1 < (Eff.app ⟨none,.tup []⟩ o.dst F).length
   rw [app_len]
   exact this
  ·have hgs : gst ops.toList G o = some true := by unfold gst; rw [gg]
   rw [if_pos (gst_sound hs hgs)]
   have hn : H.2 d = none := hok
   have hdL : d ∉ L.map (·.1) := fun hm=>by
    have := (hlf.dom d).2 hm
    rw [hn] at this
    cases this
   have hap : aop P ops.toList o G H' (fun F' H''=>∃ b,freshH H' b ∧ F' = G.set d (.ptr b 0) ∧ H'' = (b,.cells z) :: H') := by
    simp only [aop,hop,hz,hdst]
    exact fun b hb=>⟨b,hb,rfl,rfl⟩
   refine .inl (Oper.wp_mono (fun a2 w2 h2=>?_) (aop_sound (Q := Q') hs (by unfold opOk; simp [hop,Op.operands]) hap))
   obtain ⟨F',H'',K',⟨b,hb,hF',hH'⟩,q2,q3,q4⟩ := h2
   rw [hF',hH'] at q3
   have hbn := freshH_no hb
   have hbL : b ∉ L.map (·.2) := fun hm=>by
    obtain ⟨⟨d',c⟩,hp,rfl⟩ := List.mem_map.1 hm
    rw [hlf.h,ovl_in hlf.n2 hp] at hbn
    have := (hlf.dom d').2 (List.mem_map.2 ⟨_,hp,rfl⟩)
    cases hq : H.2 d' with
    | none=>rw [hq] at this; cases this
    | some q=>rw [hq] at hbn; cases hbn
   refine wpAny_of_T hL hokall hE fuel S _ (Eff.app ⟨none,.any⟩ o.dst F) (H.1,upv H.2 d (false,z)) _ _ ((d,b) :: L) K' w2 a2 hsub ⟨?_,?_,fun p hp=>?_,fun c=>?_,?_,hlf.nd,fun c=>?_⟩ q3 (hfk.trans q2) (q4.trans hd) hk
   ·simp only [List.map_cons,List.nodup_cons]; exact ⟨hdL,hlf.n1⟩
   ·simp only [List.map_cons,List.nodup_cons]; exact ⟨hbL,hlf.n2⟩
   ·rw [app_len]
    rcases List.mem_cons.1 hp with rfl | hp
    ·refine ⟨hdal,hdl,freshH_iff ?_⟩
     rw [hlf.h,ovl_not hbL] at hbn
     exact hbn
    ·exact hlf.inal p hp
   ·show (upv H.2 d _ c).isSome = true ↔ _
    simp only [List.map_cons,List.mem_cons]
    by_cases hc : c = d
    ·subst hc; simp [upv_at]
    ·rw [upv_ne hc,hlf.dom c]; simp [hc]
   ·rw [hdst]
    show G.set d (.ptr b 0) = (setsL L (F.set d .any)).set d (.ptr b 0)
    rw [setsL_set hdL,List.set_set,hlf.g]
   ·show getH ((b,.cells z) :: H') c = ovl (upv H.2 d (false,z)) H.1 c ((d,b) :: L)
    unfold getH ovl
    split
    ·rw [upv_at]; rfl
    ·rw [ovl_upv hdL]; exact hlf.h c
  ·have hgs : gst ops.toList G o = some true := by unfold gst; rw [gg]
   rw [if_pos (gst_sound hs hgs)]
   have hn : H.2 d = some (false,z) := hok
   have hdL : d ∈ L.map (·.1) := (hlf.dom d).1 (by rw [hn]; rfl)
   obtain ⟨⟨d',b⟩,hpL,rfl⟩ := List.mem_map.1 hdL
   simp only at hop hn hdal hok hk hsp hdL
   have hst := hL i o hin ho
   have hyd : ∀ d ∈ al,y ≠ .tmp d ∧ o.dst ≠ some d := by
    rcases hst with ⟨_,_,h3⟩ | ⟨h3,_⟩
    ·exact h3 _ _ _ hop
    ·rw [hop] at h3; simp [isNew,hdal] at h3
   have hGd : rv G (.tmp d') = .ptr b 0 := by
    show (G.getD d' .any).view = _
    rw [hlf.g,List.getD_eq_getElem?_getD,setsL_in (hlf.inal _ hpL).2.1 hlf.n1 hpL]
    rfl
   have hGy : rv G y = rv F y := by
    unfold rv
    cases y with
    | tmp s =>
     simp only [ev]
     rw [hlf.g,List.getD_eq_getElem?_getD,setsL_not (fun hm=>(hyd s (hal s hm)).1 rfl),← List.getD_eq_getElem?_getD]
    | _=>rfl
   have hb : getH H' b = some (.cells z) := by rw [hlf.h,ovl_in hlf.n2 hpL,hn]; rfl
   have hap : aop P ops.toList o G H' (fun F' H''=>F' = putF G o.dst (.tup []) ∧ H'' = setH H' b (.cells (cellsOf (rv F y) ++ z.drop m))) := by
    simp only [aop,hop,hty,hGd,hb,hGy]
    exact ⟨hoc,hcl,by omega,by first | rfl | trivial,by simp⟩
   refine .inl (Oper.wp_mono (fun a2 w2 h2=>?_) (aop_sound (Q := Q') hs (hokall i o ho) hap))
   obtain ⟨F',H'',K',⟨hF',hH'⟩,q2,q3,q4⟩ := h2
   rw [hF',hH'] at q3
   refine wpAny_of_T hL hokall hE fuel S _ (Eff.app ⟨none,.tup []⟩ o.dst F) (H.1,upv H.2 d' (true,cellsOf (rv F y) ++ z.drop m)) _ _ L K' w2 a2 hsub ⟨hlf.n1,hlf.n2,fun p hp=>?_,fun c=>?_,?_,hlf.nd,fun c=>?_⟩ q3 (hfk.trans q2) (q4.trans hd) hk
   ·rw [app_len]; exact hlf.inal p hp
   ·by_cases hc : c = d'
    ·subst hc; show (upv H.2 c _ c).isSome = true ↔ _; rw [upv_at]; simp only [Option.isSome_some,true_iff]; exact hdL
    ·show (upv H.2 d' _ c).isSome = true ↔ _; rw [upv_ne hc,hlf.dom c]
   ·show putF G o.dst (.tup []) = setsL L (putF F o.dst (.tup []))
    rw [hlf.g,setsL_put (fun t ht hm=>(hyd t (hal t hm)).2 ht)]
   ·show getH (setH H' b _) c = ovl (upv H.2 d' _) H.1 c L
    by_cases hcb : c = b
    ·subst hcb
     rw [getH_at hb,ovl_in hlf.n2 hpL,upv_at]
     rfl
    ·rw [getH_other hcb,hlf.h]
     by_cases hm : c ∈ L.map (·.2)
     ·obtain ⟨⟨d2,c⟩,hp,rfl⟩ := List.mem_map.1 hm
      rw [ovl_in hlf.n2 hp,ovl_in hlf.n2 hp,upv_ne]
      intro e
      simp only at e hcb
      subst e
      have := nodup_fst hlf.n1 hp hpL
      exact hcb this
     ·rw [ovl_not hm,ovl_not hm]
def splitB (ops : Array Oper) (n : Nat) : Bool := decide (n < ops.size) && (Region.sinkB .any ops n && Region.chainB .any ops n && lexH .any ops (ops.size - n) n 0 (Array.replicate ops.size false))
theorem region_T {T : List D → AH × NV → Prop} {K : Nat → BK} {w : World} {F : List D} {H : AH} {a : Act} {Q' : Exit → Act → World → Prop} {pre suf : List Oper} (hB : splitB ops pre.length = true) (hps : pre ++ suf = ops.toList)
  (hs : St K w F H a.tmps) (hsub : Sub H0 H) (hL : Lone al ops pre.length) (hokall : ∀ o ∈ ops.toList,opOk o = true) (hc : chainT P .any H0 al ops pre 0 [] F (H,nv0) T)
  (hT : ∀ F1 H1 G1 H2 L K1 w1 (a1 : Act),T F1 H1 → Lft al F1 H1 G1 H2 L → St K1 w1 G1 H2 a1.tmps → FK K w K1 w1 → a1.defers = a.defers → wpList P ops Q' suf a1 w1) : wpAny P .any ops Q' ops.size (Array.replicate ops.size false) a { w with drawn := w.drawn + 1 } := by
 obtain ⟨K',hfk,hs'⟩ := hs.drew
 have hlen : pre.length + suf.length = ops.size := by rw [← List.length_append,hps]; simp
 unfold splitB at hB
 simp only [Bool.and_eq_true,decide_eq_true_eq] at hB
 obtain ⟨hne,⟨h1,h2⟩,h3⟩ := hB
 have inv0 : HeadInv .any ops pre.length (Array.replicate ops.size false) :=
  ⟨by simp,fun j oj _ hl=>(by rw [getD_replicate_false] at hl; cases hl),fun t _ ht=>getD_in (by simpa using ht) (getD_replicate_false _ _)⟩
 have hget : ∀ j : Nat,ops.toList[j]? = ops[j]? := fun j=>Array.getElem?_toList
 have hlex := wpAnyT_lex (P := P) (H0 := H0) (al := al) (md := .any) (g := ops.size - pre.length) h1 h2 hne pre 0 [] _ F (H,nv0) (fun j hj=>by
  rw [Nat.zero_add,← hget]; conv=>{ rhs; rw [← hps] }; rw [List.getElem?_append_left hj]) (Nat.zero_add _) inv0 h3 hc
 have hg : suf.length = ops.size - pre.length := by omega
 have := wpAny_of_T (a := a) (Q' := Q') (K := K) (w := w) (g := ops.size - pre.length) hL (fun i o hi=>hokall o (by rw [← Array.getElem?_toList] at hi; exact List.mem_of_getElem? hi)) (fun listed F1 H1 G1 H2 L K1 w1 a1 hE hlf hs1 hfk1 hd1=>by
  have hw : wpList P ops Q' suf a1 w1 := hT F1 H1 G1 H2 L K1 w1 a1 hE.2 hlf hs1 hfk1 hd1
  have := wpAny_of_seq (md := .any) (Q' := Q') suf pre.length listed a1 w1 (fun j=>by
   rw [← hget]; exact (idx2 hps j).symm) (by rw [hg]; exact hE.1) hw
  rwa [hg] at this) _ _ _ F (H,nv0) F H [] K' _ a hsub ⟨.nil,.nil,fun p hp=>(by cases hp),fun d=>(by simp [nv0]),rfl,hs.hrel.nd,fun c=>rfl⟩ hs' hfk rfl hlex
 rw [show pre.length + (ops.size - pre.length) = ops.size by omega] at this
 exact this
theorem region_V {T : List D → Prop} {K : Nat → BK} {w : World} {F : List D} {H : AH} {a : Act} {Q' : Exit → Act → World → Prop} {pre suf : List Oper} (hB : splitB ops pre.length = true) (hps : pre ++ suf = ops.toList)
  (hs : St K w F H a.tmps) (hc : chain P H ops pre F T)
  (hT : ∀ F1 K1 w1 (a1 : Act),T F1 → St K1 w1 F1 H a1.tmps → FK K w K1 w1 → a1.defers = a.defers → wpList P ops Q' suf a1 w1) : wpAny P .any ops Q' ops.size (Array.replicate ops.size false) a { w with drawn := w.drawn + 1 } := by
 obtain ⟨K',hfk,hs'⟩ := hs.drew
 have hlen : pre.length + suf.length = ops.size := by rw [← List.length_append,hps]; simp
 unfold splitB at hB
 simp only [Bool.and_eq_true,decide_eq_true_eq] at hB
 obtain ⟨hne,⟨h1,h2⟩,h3⟩ := hB
 have inv0 : HeadInv .any ops pre.length (Array.replicate ops.size false) :=
  ⟨by simp,fun j oj _ hl=>(by rw [getD_replicate_false] at hl; cases hl),fun t _ ht=>getD_in (by simpa using ht) (getD_replicate_false _ _)⟩
 have hget : ∀ j : Nat,ops.toList[j]? = ops[j]? := fun j=>Array.getElem?_toList
 have hlex := wpAnyE_lex (P := P) (H := H) (md := .any) (g := ops.size - pre.length) h1 h2 hne pre 0 _ F (fun j hj=>by
  rw [Nat.zero_add,← hget]; conv=>{ rhs; rw [← hps] }; rw [List.getElem?_append_left hj]) (Nat.zero_add _) inv0 h3 hc
 have hg : suf.length = ops.size - pre.length := by omega
 have := wpAny_of_E (a := a) (Q' := Q') (K := K) (w := w) (g := ops.size - pre.length) (fun listed F1 K1 w1 a1 hE hs1 hfk1 hd1=>by
  have hw : wpList P ops Q' suf a1 w1 := hT F1 K1 w1 a1 hE.2 hs1 hfk1 hd1
  have := wpAny_of_seq (md := .any) (Q' := Q') suf pre.length listed a1 w1 (fun j=>by
   rw [← hget]; exact (idx2 hps j).symm) (by rw [hg]; exact hE.1) hw
  rwa [hg] at this) _ _ F K' _ a hs' hfk rfl hlex
 rw [show pre.length + (ops.size - pre.length) = ops.size by omega] at this
 exact this
end
section
variable {P : Program} {ops : List Oper} {o : Oper} {F : List D} {H0 : AH} {K : Nat → BK} {w : World} {a : Act}
theorem seffH_of_aop {H H' : AH} {e : Eff} (hok : opOk o = true) (h : ∀ G : List D,(∀ t,.tmp t ∈ o.op.operands.toList → G.getD t .any = F.getD t .any) → G.length = F.length → aop P ops o G H (fun G' H''=>G' = e.app o.dst G ∧ H'' = H')) : SEffH P H H' o F e :=
 fun K w a G Q hs hG hlen=>aop_sound hs hok (h G hG hlen)
theorem seff_valT (hs : St K w F H0 a.tmps) (hok : opOk o = true) {k : List D → Prop} (h : valO P (rv F) H0 o.op fun d=>k (putF F o.dst d)) : ∃ e : Eff,k (e.app o.dst F) ∧ e.tk = none ∧ ∀ H,Sub H0 H → SEffH P H H o F e := by
 have hr := hs.ops (xs := o.op.operands) (by unfold opOk at hok; simp only [Bool.and_eq_true] at hok; exact hok.1)
 obtain ⟨d,hd,hy⟩ := valO_sound h ⟨K,w,a.eval,hs.krel,hs.hrel,hr⟩
 have hn := hs.hrel.nd
 refine ⟨⟨none,d⟩,hd,rfl,fun H hsub K w a G Q hs hG hlen=>?_⟩
 have hr : ∀ x ∈ o.op.operands.toList,RepV K w (rv F x) (a.eval x) := fun x hx=>by
  have := hs.ops (xs := o.op.operands) (by unfold opOk at hok; simp only [Bool.and_eq_true] at hok; exact hok.1) x hx
  unfold rv at this ⊢
  rwa [ev_agree hG hx] at this
 obtain ⟨v,K',w',h1,h2,h3,h4⟩ := hy K w a.eval (o.dst.getD 0) hs.krel (hsub.hrel hn hs.hrel) hr
 exact wp_of_value h1 ⟨_,H,K',⟨rfl,rfl⟩,h2.fk hs.krel,hs.put (h2.keep hs.krel) (fun _ _ h=>h) h3 (hs.hrel.pres hs.krel h2) o.dst (fun i hi=>by rw [hi] at h4; exact h4),put_defers _ _⟩
theorem aopD_effT (hs : St K w F H0 a.tmps) (hok : opOk o = true) {k : List D → Prop} (h : aopD P ops o F H0 k) : ∃ e : Eff,k (e.app o.dst F) ∧ (∀ s v,e.tk = some (s,v) → tk1 ops o = some s) ∧ ∀ H,Sub H0 H → SEffH P H H o F e := by
 have viaVal : ∀ h : valO P (rv F) H0 o.op (fun d=>k (putF F o.dst d)),∃ e : Eff,k (e.app o.dst F) ∧ (∀ s v,e.tk = some (s,v) → tk1 ops o = some s) ∧ ∀ H,Sub H0 H → SEffH P H H o F e := fun h=>by
  obtain ⟨e,h1,h2,h3⟩ := seff_valT hs hok h
  exact ⟨e,h1,fun s v hsv=>(by rw [h2] at hsv; cases hsv),h3⟩
 have evG : ∀ (s : Nat),.tmp s ∈ o.op.operands.toList → ∀ G : List D,(∀ t,.tmp t ∈ o.op.operands.toList → G.getD t .any = F.getD t .any) → ev G (.tmp s) = ev F (.tmp s) := fun s hm G hG=>hG s hm
 cases ho : o.op
 case move x =>
  cases x with
  | tmp s =>
   simp only [aopD,aop,ho] at h
   cases hd : o.dst with
   | none =>
    simp only [hd] at h
    refine ⟨⟨none,.any⟩,h,fun s v hsv=>(by cases hsv),fun H _=>seffH_of_aop (ops := ops) hok fun G hG hlen=>?_⟩
    simp only [aop,ho,hd]
    exact ⟨rfl,by trivial⟩
   | some d =>
    simp only [hd] at h
    by_cases ht : takes ops d = true
    ·rw [if_pos ht] at h
     refine ⟨⟨some (s,rv F (.tmp s)),ev F (.tmp s)⟩,h,fun s' v hsv=>?_,fun H _=>seffH_of_aop (ops := ops) hok fun G hG hlen=>?_⟩
     ·simp only [Option.some.injEq,Prod.mk.injEq] at hsv
      simp [tk1,ho,hd,ht,hsv.1]
     ·have he := evG s (by simp [ho,Op.operands]) G hG
      simp only [aop,ho,hd,if_pos ht,rv,he]
      exact ⟨rfl,by trivial⟩
    ·rw [if_neg ht] at h
     refine ⟨⟨none,rv F (.tmp s)⟩,h,fun s v hsv=>(by cases hsv),fun H _=>seffH_of_aop (ops := ops) hok fun G hG hlen=>?_⟩
     have he := evG s (by simp [ho,Op.operands]) G hG
     simp only [aop,ho,hd,if_neg ht,rv,he]
     exact ⟨rfl,by trivial⟩
  | const c =>
   simp only [aopD,aop,ho] at h
   exact ⟨⟨none,ev F (.const c)⟩,h,fun s v hsv=>(by cases hsv),fun H _=>seffH_of_aop (ops := ops) hok fun G hG hlen=>by simp only [aop,ho]; exact ⟨rfl,by trivial⟩⟩
  | global g =>
   simp only [aopD,aop,ho] at h
   exact ⟨⟨none,ev F (.global g)⟩,h,fun s v hsv=>(by cases hsv),fun H _=>seffH_of_aop (ops := ops) hok fun G hG hlen=>by simp only [aop,ho]; exact ⟨rfl,by trivial⟩⟩
  | func f =>
   simp only [aopD,aop,ho] at h
   exact ⟨⟨none,ev F (.func f)⟩,h,fun s v hsv=>(by cases hsv),fun H _=>seffH_of_aop (ops := ops) hok fun G hG hlen=>by simp only [aop,ho]; exact ⟨rfl,by trivial⟩⟩
 case assign x =>
  cases x with
  | tmp s =>
   simp only [aopD,aop,ho] at h
   cases hd : o.dst with
   | none =>
    simp only [hd] at h
    refine ⟨⟨none,.any⟩,h,fun s v hsv=>(by cases hsv),fun H _=>seffH_of_aop (ops := ops) hok fun G hG hlen=>?_⟩
    simp only [aop,ho,hd]
    exact ⟨rfl,by trivial⟩
   | some d =>
    simp only [hd] at h
    refine ⟨⟨some (s,rv F (.tmp s)),ev F (.tmp s)⟩,h,fun s' v hsv=>?_,fun H _=>seffH_of_aop (ops := ops) hok fun G hG hlen=>?_⟩
    ·simp only [Option.some.injEq,Prod.mk.injEq] at hsv
     simp [tk1,ho,hsv.1]
    ·have he := evG s (by simp [ho,Op.operands]) G hG
     simp only [aop,ho,hd,rv,he]
     exact ⟨rfl,by trivial⟩
  | const c =>
   simp only [aopD,aop,ho] at h
   exact ⟨⟨none,ev F (.const c)⟩,h,fun s v hsv=>(by cases hsv),fun H _=>seffH_of_aop (ops := ops) hok fun G hG hlen=>by simp only [aop,ho]; exact ⟨rfl,by trivial⟩⟩
  | global g =>
   simp only [aopD,aop,ho] at h
   exact ⟨⟨none,ev F (.global g)⟩,h,fun s v hsv=>(by cases hsv),fun H _=>seffH_of_aop (ops := ops) hok fun G hG hlen=>by simp only [aop,ho]; exact ⟨rfl,by trivial⟩⟩
  | func f =>
   simp only [aopD,aop,ho] at h
   exact ⟨⟨none,ev F (.func f)⟩,h,fun s v hsv=>(by cases hsv),fun H _=>seffH_of_aop (ops := ops) hok fun G hG hlen=>by simp only [aop,ho]; exact ⟨rfl,by trivial⟩⟩
 case extract x ix =>
  cases x with
  | tmp s =>
   simp only [aopD,aop,ho] at h
   cases hd : o.dst with
   | none=>simp only [hd] at h
   | some d =>
    simp only [hd] at h
    split at h
    ·rename_i d' ds hdd hev
     simp only [Option.some.injEq] at hdd
     subst hdd
     split at h
     ·rename_i c hc
      obtain ⟨hF,hT⟩ := slot_of hs hev (by simp)
      obtain ⟨vs,hv,hl,hh⟩ := hs.slot s _ _ hF hT
      have hix : ix < vs.size := by rw [hl]; exact (List.getElem?_eq_some_iff.1 hc).1
      have hfact := (hh ix c _ hc (Array.getElem?_eq_getElem hix)).rep.fact
      refine ⟨⟨none,c.view1⟩,h hfact,fun s v hsv=>(by cases hsv),fun H _=>seffH_of_aop (ops := []) hok fun G hG hlen=>?_⟩
      have he := evG s (by simp [ho,Op.operands]) G hG
      rw [hev] at he
      simp only [aop,ho,hd,he,hc,takes,List.any_nil,Bool.false_eq_true,if_false]
      exact fun _=>⟨rfl,by trivial⟩
     ·exact h.elim
    ·exact h.elim
  | _=>exact viaVal (by simpa only [aopD,aop,ho] using h)
 case alloc t=>simp only [aopD,ho] at h
 case box t x=>simp only [aopD,ho] at h
 case store t x y=>simp only [aopD,ho] at h
 case load t x=>exact viaVal (by simpa only [aopD,ho] using h)
 case binOp bo t x y ty=>exact viaVal (by simpa only [aopD,ho] using h)
 case call c =>
  cases hf : c.callee with
  | value f =>
   simp only [aopD,ho,hf] at h
   split at h
   ·rename_i g caps hg
    obtain ⟨d,hc',hk⟩ := h
    have hc := hc' H0 (Sub.refl H0)
    have hops : o.op.operands = #[f] ++ c.args := by simp only [ho,Op.operands,Call.operands,hf]
    have hse : ∀ H,Sub H0 H → SEffH P H H o F ⟨none,d⟩ := fun H hsub=>seffH_of_aop (ops := ops) hok fun G hG hlen=>by
     have h1 : rv G f = .fn g caps := by rw [← hg]; unfold rv; rw [ev_agree hG (by rw [hops]; simp)]
     have h2 : c.args.toList.map (rv G) = c.args.toList.map (rv F) := List.map_congr_left fun x hx=>by
      unfold rv
      rw [ev_agree hG (by rw [hops]; simp; exact .inr (by simpa using hx))]
     simp only [aop,ho,hf,h1,h2]
     exact (hc' H hsub).mono fun d' H' ⟨e1,e2⟩ _=>by subst e1 e2; exact ⟨rfl,by trivial⟩
    refine ⟨⟨none,d⟩,hk ?_,fun s v hsv=>(by cases hsv),hse⟩
    -- what the call hands back obeys its bounds
    have hap : aop P ops o F H0 (fun _ _=>fact d.view) := by
     simp only [aop,ho,hf,hg]
     exact hc.mono fun d' H' ⟨e1,_⟩ hfct=>by subst e1; exact hfct
    obtain ⟨a',w',F',H',K',hfct,_⟩ := wp_some (aop_sound (Q := fun _ _ _=>False) hs hok hap)
    exact hfct
   ·exact h.elim
  | invoke r m=>exact viaVal (by simpa only [aopD,aop,ho,hf] using h)
  | builtin b =>
   cases b
   case append =>
    simp only [aopD,aop,ho,hf] at h
    split at h
    ·rename_i s x t u d hargs htys hd
     split at h
     ·rename_i xs e sz bs hev hap
      have hops : o.op.operands = #[] ++ c.args := by simp only [ho,Op.operands,Call.operands,hf]
      have hms : .tmp s ∈ o.op.operands.toList := by rw [hops,two_of_list hargs]; simp
      have hmx : x ∈ o.op.operands.toList := by rw [hops,two_of_list hargs]; simp
      split at h
      ·rename_i ys hy
       obtain ⟨h1,h2,h3,h4⟩ := h
       refine ⟨⟨some (s,.slc xs),.own (xs ++ ys)⟩,by rw [hd]; exact h4,fun s' v hsv=>?_,fun H _=>seffH_of_aop (ops := ops) hok fun G hG hlen=>?_⟩
       ·simp only [Option.some.injEq,Prod.mk.injEq] at hsv
        simp [tk1,ho,hf,hargs,hsv.1]
       ·have he := evG s hms G hG
        have hx : rv G x = .slc ys := by rw [← hy]; unfold rv; rw [ev_agree hG hmx]
        rw [hev] at he
        simp only [aop,ho,hf,hargs,htys,hd,he,hap,hx]
        exact ⟨h1,h2,h3,rfl,by trivial⟩
      ·rename_i l hy
       obtain ⟨h1,h2,h3,h4⟩ := h
       refine ⟨⟨some (s,.slc xs),.own (xs ++ l.map byteD)⟩,by rw [hd]; exact h4,fun s' v hsv=>?_,fun H _=>seffH_of_aop (ops := ops) hok fun G hG hlen=>?_⟩
       ·simp only [Option.some.injEq,Prod.mk.injEq] at hsv
        simp [tk1,ho,hf,hargs,hsv.1]
       ·have he := evG s hms G hG
        have hx : rv G x = .str l := by rw [← hy]; unfold rv; rw [ev_agree hG hmx]
        rw [hev] at he
        simp only [aop,ho,hf,hargs,htys,hd,he,hap,hx]
        exact ⟨h1,h2,h3,rfl,by trivial⟩
      ·exact h.elim
     ·exact h.elim
    ·exact h.elim
   case clear=>simp only [aopD,ho,hf] at h
   all_goals exact viaVal (by simpa only [aopD,aop,ho,hf] using h)
 case makeMap=>simp only [aopD,ho] at h
 case mapUpdate=>simp only [aopD,ho] at h
 case mapEntry=>simp only [aopD,ho] at h
 case entryStore=>simp only [aopD,ho] at h
 all_goals exact viaVal (by simpa only [aopD,aop,ho] using h)
end
section
variable {P : Program} {ops : Array Oper} {H0 : AH} {al : List Nat}
def Some (F : List D) (H : AH) : Prop := ∃ (K : Nat → BK) (w : World) (a : Act),St K w F H a.tmps
theorem chainT_plain {T : List D → AH × NV → Prop} {k : List D → Prop} (hn : (H0.map (·.1)).Nodup) {H : AH} {b : NV} {S : List (Nat × Nat)} (hsub : Sub H0 H) {r : List Oper} : ∀ (l : List Oper) (n : Nat) (F : List D),(∀ o ∈ l,opOk o = true ∧ isNew al o.op = false) → Some F H → aopsD P ops.toList l F H0 k →
  (∀ F',Some F' H → k F' → chainT P .any H0 al ops r (n + l.length) S F' (H,b) T) → chainT P .any H0 al ops (l ++ r) n S F (H,b) T
 | [],n,F,_,hs,h,hk=>hk F hs h
 | o :: l,n,F,hok,⟨K,w,a,hs⟩,h,hk=>by
  have hs0 : St K w F H0 a.tmps := hsub.st hn hs
  have hk' : ∀ F',Some F' H → k F' → chainT P .any H0 al ops r (n + 1 + l.length) S F' (H,b) T := fun F' h1 h2=>by
   have := hk F' h1 h2
   rwa [List.length_cons,show n + (l.length + 1) = n + 1 + l.length by omega] at this
  have hgo : gst ops.toList F o = some true → aopD P ops.toList o F H0 (fun F'=>aopsD P ops.toList l F' H0 k) → chainT P .any H0 al ops (o :: l ++ r) n S F (H,b) T := fun hg h=>by
   obtain ⟨e,h1,h2,h3⟩ := aopD_effT hs0 (hok o (.head _)).1 h
   refine ⟨⟨e,.no⟩,.inl ⟨hg,rfl,(hok o (.head _)).2,fun H hsub _=>h3 H hsub,h2⟩,trivial,trivial,?_⟩
   obtain ⟨a',w',F',H',K',⟨hF',hH'⟩,_,hs',_⟩ := wp_some (h3 H hsub K w a F (fun _ _ _=>False) hs (fun _ _=>rfl) rfl)
   rw [hF',hH'] at hs'
   exact chainT_plain hn hsub l _ _ (fun o ho=>hok o (.tail _ ho)) ⟨K',w',a',hs'⟩ h1 hk'
  have hskip : gst ops.toList F o = some false → aopsD P ops.toList l (putF F o.dst (.tup [])) H0 k → chainT P .any H0 al ops (o :: l ++ r) n S F (H,b) T := fun hg h =>
   ⟨⟨⟨none,.tup []⟩,.no⟩,.inr (.inl ⟨hg,rfl⟩),trivial,trivial,chainT_plain hn hsub l _ _ (fun o ho=>hok o (.tail _ ho)) ⟨K,w,a.put o.dst undef,st_skip hs o.dst⟩ h hk'⟩
  unfold gst at hgo hskip
  cases hg : o.guard with
  | none =>
   simp only [aopsD,hg] at h hgo
   exact hgo trivial h
  | some g =>
   obtain ⟨j,want⟩ := g
   simp only [aopsD,hg] at h hgo hskip
   cases hdd : (ops.toList[j]?).bind (·.dst) with
   | none =>
    simp only [hdd] at h hskip
    exact hskip trivial h
   | some t =>
    simp only [hdd] at h hgo hskip
    split at h
    ·rename_i b hb
     simp only [hb] at hgo hskip
     by_cases e : b = want
     ·exact hgo (by simp [e]) (h.1 e)
     ·exact hskip (by simp [e]) (h.2 (by cases b <;> cases want <;> simp_all))
    ·rename_i ds hb
     simp only [hb] at hskip
     exact hskip trivial h
    ·exact h.elim
theorem Sub.take {H0 H : AH} {b off : Nat} {cs : List D} {xs : List (List D)} (h : Sub H0 H) (hb : getH H b = some (.cells cs)) (ho : cs[off]? = some (.own xs)) (h0 : getH H0 b = none ∨ getH H0 b = some (wkO (.cells cs))) : Sub H0 (setH H b (.cells (cs.set off (.slc xs)))) := by
 rcases h0 with h0 | h0
 ·exact h.set h0
 ·intro c o hc
  by_cases e : c = b
  ·subst e
   rw [h0] at hc
   injection hc with hc
   refine ⟨_,getH_at hb,.inr ?_⟩
   rw [← hc]
   show AO.cells (cs.map D.view1) = AO.cells ((cs.set off (.slc xs)).map D.view1)
   congr 1
   refine List.ext_getElem? fun i=>?_
   rw [List.getElem?_map,List.getElem?_map,List.getElem?_set]
   split
   ·rename_i e2
    subst e2
    rw [ho]
    split
    ·rfl
    ·rename_i h3
     rw [List.getElem?_eq_none (by omega)] at ho
     cases ho
   ·rfl
  ·obtain ⟨o',h1,h2⟩ := h c o hc
   exact ⟨o',by rw [getH_other e]; exact h1,h2⟩
theorem chainT_one {T : List D → AH × NV → Prop} {F : List D} {H : AH} {dn : NV} {n : Nat} {S : List (Nat × Nat)} {o : Oper} {r : List Oper} {e : Eff} {b : Nat} {ob ob' : AO} (hg : o.guard = none) (hna : isNew al o.op = false) (hb0 : ∀ H',Sub H0 H' → getH H' b = some ob → Sub H0 (setH H' b ob')) (hb : getH H b = some ob) (hS : ∀ q ∈ S,q.2 = b → ordB .any o q.1 = true) (htk : ∀ s v,e.tk = some (s,v) → tk1 ops.toList o = some s) (hsub : Sub H0 H)
  (hse : ∀ H,getH H b = some ob → SEffH P H (setH H b ob') o F e) (hs : Some F H) (h : Some (e.app o.dst F) (setH H b ob') → chainT P .any H0 al ops r (n + 1) ((n,b) :: S) (e.app o.dst F) (setH H b ob',dn) T) : chainT P .any H0 al ops (o :: r) n S F (H,dn) T := by
 refine ⟨⟨e,.blk b ob ob'⟩,.inl ⟨by simp [gst,hg],rfl,hna,fun H hsub hok=>hse H hok.2,htk⟩,⟨hb0,hb⟩,hS,h ?_⟩
 obtain ⟨K,w,a,hs⟩ := hs
 obtain ⟨a',w',F',H',K',⟨hF',hH'⟩,_,hs',_⟩ := wp_some (hse H hb K w a F (fun _ _ _=>False) hs (fun _ _=>rfl) rfl)
 rw [hF',hH'] at hs'
 exact ⟨K',w',a',hs'⟩
theorem chainT_al {T : List D → AH × NV → Prop} {F : List D} {H : AH} {σ : NV} {n : Nat} {S : List (Nat × Nat)} {o : Oper} {r : List Oper} {t : TypeId} {d : Nat} {z : List D} (hg : o.guard = none) (hop : o.op = .alloc t) (hdst : o.dst = some d) (hz : zcI P t = some z) (hal : d ∈ al) (hdl : d < F.length) (hσ : σ d = none) (hs : Some F H)
  (h : Some (F.set d .any) H → chainT P .any H0 al ops r (n + 1) S (F.set d .any) (H,upv σ d (false,z)) T) : chainT P .any H0 al ops (o :: r) n S F (H,σ) T := by
 refine ⟨⟨⟨none,.any⟩,.al d z⟩,.inr (.inr (.inl ⟨hg,t,d,z,rfl,hop,hdst,hz,hal,hdl⟩)),hσ,trivial,?_⟩
 have happ : Eff.app ⟨none,.any⟩ o.dst F = F.set d .any := by rw [hdst]; rfl
 show chainT P .any H0 al ops r (n + 1) S (Eff.app ⟨none,.any⟩ o.dst F) (H,upv σ d (false,z)) T
 rw [happ]
 refine h ?_
 obtain ⟨K,w,a,hs⟩ := hs
 refine ⟨K,w,a,hs.krel,hs.hrel,by simpa using hs.len,fun i dd v hd hv=>?_⟩
 rcases getElem?_set_some hd with ⟨rfl,rfl,_⟩ | ⟨_,hd⟩
 ·exact RepV.viewO (.any _)
 ·exact hs.slot i dd v hd hv
theorem chainT_put {T : List D → AH × NV → Prop} {F : List D} {H : AH} {σ : NV} {n m : Nat} {S : List (Nat × Nat)} {o : Oper} {r : List Oper} {t : TypeId} {d : Nat} {y : Operand} {z : List D} (hg : o.guard = none) (hop : o.op = .store t (.tmp d) y) (hal : d ∈ al) (hty : tyI P t = some (true,m)) (h1 : okc (rv F y) = true) (h2 : (cellsOf (rv F y)).length = m) (h3 : m ≤ z.length) (hσ : σ d = some (false,z)) (hs : Some F H)
  (h : Some (putF F o.dst (.tup [])) H → chainT P .any H0 al ops r (n + 1) S (putF F o.dst (.tup [])) (H,upv σ d (true,cellsOf (rv F y) ++ z.drop m)) T) : chainT P .any H0 al ops (o :: r) n S F (H,σ) T := by
 refine ⟨⟨⟨none,.tup []⟩,.put d z (cellsOf (rv F y) ++ z.drop m)⟩,.inr (.inr (.inr ⟨hg,t,d,y,m,z,rfl,hop,hal,hty,h1,h2,h3⟩)),hσ,trivial,?_⟩
 refine h ?_
 obtain ⟨K,w,a,hs⟩ := hs
 exact ⟨K,w,a.put o.dst undef,st_skip hs o.dst⟩
end
end Go.Aw
end
