/- A part of the proof of what the last text says: AwT. Conditions: those in each theorem. -/
import Derived.Test.YtoeckfegggongaaGreatDoorV6
set_option linter.unusedVariables false
set_option linter.unusedSimpArgs false
set_option maxRecDepth 100000
set_option maxHeartbeats 16000000
open Nat renaming reduceSub → qa,reduceAdd → qb,reduceMul → qc,reduceEqDiff → qd,reduceLeDiff → qe,reduceBEq → qf
section
namespace Go.Aw
open Go Go.RowKit
def Sub (H0 H : AH) : Prop := ∀ b o,qK H0 b = some o → qK H b = some o
theorem vS : ∀ {H : AH},(H.map (·.1)).Nodup → ∀ {b : Nat} {o : AO},(b,o) ∈ H → qK H b = some o
 | [],_,b,o,h=>by simp at h
 | (c,x) :: r,hn,b,o,h=>by
  simp only [List.map_cons,List.nodup_cons] at hn
  unfold qK
  rcases List.mem_cons.1 h with h | h
  ·injection h with h1 h2
   subst h1 h2
   simp
  ·have hne : b ≠ c := fun e=>hn.1 (by rw [← e]; exact List.mem_map.2 ⟨(b,o),h,rfl⟩)
   rw [if_neg hne]
   exact vS hn.2 h
theorem Sub.hrel {K : Nat → BK} {w : World} {H0 H : AH} (hn : (H0.map (·.1)).Nodup) (hs : Sub H0 H) (h : HRel K w H) : HRel K w H0 :=
 ⟨hn,fun b o hm=>h.ok b o (jp (hs b o (vS hn hm)))⟩
theorem Sub.st {K : Nat → BK} {w : World} {F : List D} {t : Array Value} {H0 H : AH} (hn : (H0.map (·.1)).Nodup) (hs : Sub H0 H) (h : St K w F H t) : St K w F H0 t :=
 ⟨h.krel,hs.hrel hn h.hrel,h.len,h.slot⟩
theorem vr {b c : Nat} {x : AO} (hne : c ≠ b) : ∀ {H : AH},qK (qY H b x) c = qK H c
 | []=>rfl
 | (e,o) :: r=>by
  unfold qY
  split
  ·rename_i h
   subst h
   unfold qK
   rw [if_neg hne,if_neg hne]
  ·unfold qK
   rw [vr hne]
theorem Qu {b c : Nat} {x y : AO} (hne : c ≠ b) : ∀ {H : AH},qY (qY H b x) c y = qY (qY H c y) b x
 | []=>rfl
 | (e,o) :: r=>by
  by_cases h1 : b = e
  ·subst h1
   have h2 : c ≠ b := hne
   simp [qY,h2]
  ·by_cases h2 : c = e
   ·subst h2
    simp [qY,h1]
   ·simp [qY,h1,h2,Qu hne]
theorem Sub.set {H0 H : AH} {b : Nat} {x : AO} (h : Sub H0 H) (hb : qK H0 b = none) : Sub H0 (qY H b x) := fun c o hc=>by
 have hne : c ≠ b := fun e=>by subst e; rw [hb] at hc; cases hc
 rw [vr hne]
 exact h c o hc
inductive Ch where
 | no
 | blk (b : Nat) (o o' : AO)
 | al
structure Eff2 where
 e : Eff
 c : Ch
def Eff2.ap (x : Eff2) (H : AH × Bool) : AH × Bool := match x.c with
 | .blk b _ o=>(qY H.1 b o,H.2)
 | .no=>H
 | .al=>(H.1,true)
def Eff2.ok (x : Eff2) (H0 : AH) (H : AH × Bool) : Prop := match x.c with
 | .blk b o _=>qK H0 b = none ∧ qK H.1 b = some o
 | .no=>True
 | .al=>H.2 = false
def K9 (md : Region.Mode) (o : Oper) (i : Nat) : Bool := o.after.any fun e=>Region.binds md e && e.on == i
def Eff2.sep (x : Eff2) (md : Region.Mode) (o : Oper) (S : List (Nat × Nat)) : Prop := match x.c with
 | .blk b _ _=>∀ q ∈ S,q.2 = b → K9 md o q.1 = true
 | _=>True
def Eff2.add (x : Eff2) (k : Nat) (S : List (Nat × Nat)) : List (Nat × Nat) := match x.c with
 | .blk b _ _=>(k,b) :: S
 | _=>S
theorem Eff2.sub {x : Eff2} {H0 : AH} {H : AH × Bool} (h : Sub H0 H.1) (hx : x.ok H0 H) : Sub H0 (x.ap H).1 := by
 unfold Eff2.ap
 unfold Eff2.ok at hx
 split
 ·rename_i b o o' hc
  simp only [hc] at hx
  exact h.set hx.1
 ·exact h
 ·exact h
def zn (P : Program) (H H' : AH) (o : Oper) (F : List D) (e : Eff) : Prop :=
 ∀ (K : Nat → BK) (w : World) (a : Act) (G : List D) (Q : Exit → Act → World → Prop),St K w G H a.tmps → (∀ t,.tmp t ∈ o.op.operands.toList → G.getD t .any = F.getD t .any) → G.length = F.length →
  o.wp P a w (OKd (fun G' H''=>G' = e.app o.dst G ∧ H'' = H') K w a.defers) Q
def yy : Op → Bool
 | .alloc _=>true
 | _=>false
def Ef (P : Program) (H0 : AH) (al : Option (Nat × List D)) (ops : Array Oper) (o : Oper) (F : List D) (x : Eff2) : Prop :=
 (gst ops.toList F o = some true ∧ x.c ≠ .al ∧ yy o.op = false ∧ (∀ H,Sub H0 H → x.ok H0 (H,false) → zn P H (x.ap (H,false)).1 o F x.e) ∧ ∀ s v,x.e.tk = some (s,v) → oQ ops.toList o = some s) ∨
 (gst ops.toList F o = some false ∧ x = ⟨⟨none,.tup []⟩,.no⟩) ∨
 (o.guard = none ∧ x = ⟨⟨none,.any⟩,.al⟩ ∧ ∃ t d z,o.op = .alloc t ∧ o.dst = some d ∧ yF P t = some z ∧ al = some (d,z))
section
variable {P : Program} {ops : Array Oper} {H0 : AH} {al : Option (Nat × List D)} {md : Region.Mode} {o : Oper}
theorem Ef.congr {F G : List D} {e : Eff2} (he : Ef P H0 al ops o F e) (h : ∀ t ∈ o.looksAt ops,G.getD t .any = F.getD t .any) (hl : G.length = F.length) : Ef P H0 al ops o G e := by
 rcases he with ⟨h1,ha,hb,h2,h3⟩ | ⟨h1,h2⟩ | h1
 ·refine .inl ⟨by rw [wx h]; exact h1,ha,hb,fun H q1 q2 K w a G' Q hs hG hlen=>?_,h3⟩
  exact h2 H q1 q2 K w a G' Q hs (fun t ht=>(hG t ht).trans (h t (yV ht))) (hlen.trans hl)
 ·exact .inr (.inl ⟨by rw [wx h]; exact h1,h2⟩)
 ·exact .inr (.inr h1)
theorem Ef.tk {F : List D} {e : Eff2} (he : Ef P H0 al ops o F e) : ∀ s v,e.e.tk = some (s,v) → oQ ops.toList o = some s := by
 rcases he with ⟨_,_,_,_,h⟩ | ⟨_,rfl⟩ | ⟨_,rfl,_⟩
 ·exact h
 ·intro s v h; cases h
 ·intro s v h; cases h
theorem swapT {x y : Oper} {F : List D} {e f : Eff2} (hf : Far ops x y) (hx : Ef P H0 al ops x F e) (hy : Ef P H0 al ops y (e.e.app x.dst F) f) :
  Ef P H0 al ops y F f ∧ Ef P H0 al ops x (f.e.app y.dst F) e ∧ f.e.app y.dst (e.e.app x.dst F) = e.e.app x.dst (f.e.app y.dst F) := by
 have hy' : Ef P H0 al ops y F f := hy.congr (fun t ht=>(o5 (fun h=>(hf.d t h).1 ht) (fun v h=>(hf.t t (hx.tk t v h)).1 ht)).symm) (zH _ _ _).symm
 refine ⟨hy',hx.congr (fun t ht=>o5 (fun h=>hf.d' t h ht) (fun v h=>(hf.t' t (hy.tk t v h)).1 ht)) (zH _ _ _),JG F (fun t h=>(hf.d t h).2) (fun s v h=>(hf.t s (hx.tk s v h)).2) (fun s v h=>(hf.t' s (hy.tk s v h)).2) (fun s v h v' h'=>?_)⟩
 exact (hf.t s (hx.tk s v h)).1 (gG (hy.tk s v' h'))
theorem swapH {e f : Eff2} {H : AH × Bool} {S : List (Nat × Nat)} {i : Nat} {oj : Oper} (he : e.ok H0 H) (hf : f.ok H0 (e.ap H)) (hs : f.sep md oj (e.add i S)) (hn : K9 md oj i = false) : f.sep md oj S ∧ f.ok H0 H ∧ e.ok H0 (f.ap H) ∧ f.ap (e.ap H) = e.ap (f.ap H) := by
 obtain ⟨e0,ec⟩ := e
 obtain ⟨f0,fc⟩ := f
 cases ec with
 | no=>exact ⟨hs,hf,trivial,rfl⟩
 | al =>
  cases fc with
  | no=>exact ⟨trivial,trivial,he,rfl⟩
  | al=>exact absurd hf (by simp [Eff2.ok,Eff2.ap])
  | blk c p1 p2=>exact ⟨hs,hf,he,rfl⟩
 | blk b o1 o2 =>
  cases fc with
  | no=>exact ⟨trivial,trivial,he,rfl⟩
  | al=>exact ⟨trivial,hf,he,rfl⟩
  | blk c p1 p2 =>
   simp only [Eff2.sep,Eff2.add,List.forall_mem_cons] at hs
   obtain ⟨hne,hs⟩ := hs
   have hne : c ≠ b := fun e=>by rw [hne e.symm] at hn; cases hn
   simp only [Eff2.ok,Eff2.ap] at he hf ⊢
   refine ⟨hs,⟨hf.1,?_⟩,⟨he.1,?_⟩,by rw [Qu hne]⟩
   ·rw [← vr (x := o2) hne]; exact hf.2
   ·rw [vr (Ne.symm hne)]; exact he.2
def uB (P : Program) (md : Region.Mode) (ops : Array Oper) (H0 : AH) (al : Option (Nat × List D)) (n : Nat) (E : Array Bool → List D → AH × Bool → Prop) : Nat → List (Nat × Nat) → Array Bool → List D → AH × Bool → Prop
 | 0,_,listed,F,H=>E listed F H
 | fuel + 1,S,listed,F,H=>Region.ready md ops listed ≠ [] ∧ ∀ i ∈ Region.ready md ops listed,i < n ∧ ∃ o x,ops[i]? = some o ∧ Ef P H0 al ops o F x ∧ x.ok H0 H ∧ x.sep md o S ∧ uB P md ops H0 al n E fuel S (listed.setIfInBounds i true) (x.e.app o.dst F) (x.ap H)
theorem zl {n : Nat} {E : Array Bool → List D → AH × Bool → Prop} {S S' : List (Nat × Nat)} (h : ∀ b,b ∈ S → b ∈ S') : ∀ (fuel : Nat) (listed : Array Bool) (F : List D) (H : AH × Bool),uB P md ops H0 al n E fuel S' listed F H → uB P md ops H0 al n E fuel S listed F H
 | 0,_,_,_,hh=>hh
 | fuel + 1,listed,F,H,hh=>⟨hh.1,fun i hi=>by
   obtain ⟨h1,o,x,h2,h3,h4,h5,h6⟩ := hh.2 i hi
   refine ⟨h1,o,x,h2,h3,h4,?_,zl h fuel _ _ _ h6⟩
   unfold Eff2.sep at h5 ⊢
   split
   ·rename_i b _ _ hc
    simp only [hc] at h5
    exact fun q hq=>h5 q (h q hq)
   ·trivial⟩
theorem KH {oj : Oper} {i : Nat} (h : ∀ e ∈ oj.after,Region.binds md e = true → e.on ≠ i) : K9 md oj i = false := by
 unfold K9
 cases hb : oj.after.any fun e=>Region.binds md e && e.on == i with
 | false=>rfl
 | true =>
  obtain ⟨e,he,h2⟩ := Array.any_eq_true'.1 hb
  simp only [Bool.and_eq_true,beq_iff_eq] at h2
  exact (h e he h2.1 h2.2).elim
theorem J3 {n i : Nat} {oi : Oper} {e : Eff2} {E : Array Bool → List D → AH × Bool → Prop} (hi : ops[i]? = some oi) (hs : Region.sinkB md ops n = true) (hc : Region.chainB md ops n = true) (hn : n < ops.size) (hin : i < n)
  (hdone : ∀ listed F H,E listed F H → ∀ j ∈ Region.ready md ops listed,n ≤ j) :
  ∀ (fuel : Nat) (S : List (Nat × Nat)) (listed : Array Bool) (F : List D) (H : AH × Bool),HeadInv md ops n listed →
   (∀ j oj,ops[j]? = some oj → j ≠ i → listed.getD j true = false → (∀ e ∈ oj.after,Region.binds md e = true → e.on ≠ i) → Far ops oi oj) →
   i ∈ Region.ready md ops listed → Ef P H0 al ops oi F e → e.ok H0 H → e.sep md oi S →
   uB P md ops H0 al n E fuel (e.add i S) (listed.setIfInBounds i true) (e.e.app oi.dst F) (e.ap H) → uB P md ops H0 al n E (fuel + 1) S listed F H := by
 intro fuel
 induction fuel with
 | zero =>
  intro S listed F H inv _ hr hy hy1 hy2 Hh
  refine ⟨fun h=>(by rw [h] at hr; cases hr),fun j hj=>?_⟩
  have hjn : j < n := by
   rcases Nat.lt_or_ge j n with h | h
   ·exact h
   ·exact absurd hj (tail_waits hs hc hn inv _ i rfl hin (mem_ready.1 hr).1 j h)
  refine ⟨hjn,?_⟩
  by_cases hji : j = i
  ·subst hji; exact ⟨oi,e,hi,hy,hy1,hy2,Hh⟩
  ·have := hdone _ _ _ Hh j (ready_mono hj hji)
   omega
 | succ fuel ih =>
  intro S listed F H inv hfree hr hy hy1 hy2 Hh
  refine ⟨fun h=>(by rw [h] at hr; cases hr),fun j hj=>?_⟩
  have hjn : j < n := by
   rcases Nat.lt_or_ge j n with h | h
   ·exact h
   ·exact absurd hj (tail_waits hs hc hn inv _ i rfl hin (mem_ready.1 hr).1 j h)
  refine ⟨hjn,?_⟩
  by_cases hji : j = i
  ·subst hji
   refine ⟨oi,e,hi,hy,hy1,hy2,?_⟩
   exact zl (fun b hb=>by unfold Eff2.add; split <;> simp [hb]) _ _ _ _ Hh
  ·obtain ⟨_,oj,f,hoj,hyj,hyj1,hyj2,hk⟩ := Hh.2 j (ready_mono hj hji)
   obtain ⟨hjun,oj',hoj',hall⟩ := mem_ready.1 hj
   obtain rfl : oj = oj' := by rw [hoj] at hoj'; exact Option.some.inj hoj'
   have hnot : ∀ e ∈ oj.after,Region.binds md e = true → e.on ≠ i := fun e he hb heq=>by
    have h1 := hall e he hb
    rw [heq,getD_both (mem_ready.1 hr).1] at h1
    cases h1
   obtain ⟨s1,s2,s3⟩ := swapT (hfree j oj hoj hji hjun hnot) hy hyj
   obtain ⟨q1,q2,q3,q4⟩ := swapH hy1 hyj1 hyj2 (KH hnot)
   refine ⟨oj,f,hoj,s1,q2,q1,ih S _ _ _ (inv.set hj hjn) (fun k ok hk' hki hun hno=>?_) (ready_mono hr (Ne.symm hji)) s2 q3 hy2 ?_⟩
   ·refine hfree k ok hk' hki ?_ hno
    by_cases hjk : j = k
    ·subst hjk; exact hjun
    ·rw [getD_set_ne true hjk] at hun; exact hun
   ·rw [Array.setIfInBounds_comm _ _ hji,← s3,← q4]
    exact hk
def kR (P : Program) (md : Region.Mode) (H0 : AH) (al : Option (Nat × List D)) (ops : Array Oper) : List Oper → Nat → List (Nat × Nat) → List D → AH × Bool → (List D → AH × Bool → Prop) → Prop
 | [],_,_,F,H,k=>k F H
 | o :: r,n,S,F,H,k=>∃ x,Ef P H0 al ops o F x ∧ x.ok H0 H ∧ x.sep md o S ∧ kR P md H0 al ops r (n + 1) (x.add n S) (x.e.app o.dst F) (x.ap H) k
theorem gb {n g : Nat} {T : List D → AH × Bool → Prop} (hs : Region.sinkB md ops n = true) (hc : Region.chainB md ops n = true) (hn : n < ops.size) :
  ∀ (l : List Oper) (k : Nat) (S : List (Nat × Nat)) (listed : Array Bool) (F : List D) (H : AH × Bool),(∀ j,j < l.length → l[j]? = ops[k + j]?) → k + l.length = n → HeadInv md ops n listed → Jr md ops g l.length k listed = true → kR P md H0 al ops l k S F H T →
  uB P md ops H0 al n (fun listed' F' H'=>Region.seqB md ops g n listed' = true ∧ T F' H') l.length S listed F H
 | [],k,S,listed,F,H,_,hk,_,hB,h=>by
  have : k = n := by simpa using hk
  subst this
  exact ⟨by simpa [Jr] using hB,h⟩
 | o :: l,k,S,listed,F,H,hl,hk,inv,hB,h=>by
  have h0 : ops[k]? = some o := by simpa using (hl 0 (by simp)).symm
  simp only [List.length_cons,Jr,Bool.and_eq_true] at hB
  obtain ⟨⟨hr,hf⟩,hB'⟩ := hB
  have hkn : k < n := by simp only [List.length_cons] at hk; omega
  have hr' : k ∈ Region.ready md ops listed := by simpa using hr
  obtain ⟨e,he,he1,he2,hK⟩ := h
  exact J3 h0 hs hc hn hkn (fun listed' F' H' hL=>seqB_ready hL.1) l.length S listed F H inv (uN h0 hf) hr' he he1 he2
   (gb hs hc hn l (k + 1) _ _ _ _ (fun j hj=>by have := hl (j + 1) (by simp; omega); simpa [Nat.add_assoc,Nat.add_comm 1 j] using this) (by simp only [List.length_cons] at hk; omega) (inv.set hr' hkn) hB' hK)
def Lft (al : Option (Nat × List D)) (F : List D) (H : AH × Bool) (G : List D) (H' : AH) : Prop :=
 (H.2 = false ∧ G = F ∧ H' = H.1) ∨ (H.2 = true ∧ ∃ d z b,al = some (d,z) ∧ qZ H.1 b ∧ G = F.set d (.ptr b 0) ∧ H' = (b,.cells z) :: H.1)
def Lone (al : Option (Nat × List D)) (ops : Array Oper) (n : Nat) : Prop :=
 ∀ d z,al = some (d,z) → ∀ j oj,j < n → ops[j]? = some oj → (yy oj.op = true ∧ oj.guard = none) ∨ (yy oj.op = false ∧ d ∉ oj.looksAt ops ∧ oj.dst ≠ some d)
theorem vD {b c : Nat} {o : AO} : ∀ {H : AH},qZ H b → qK H c = some o → c ≠ b
 | [],_,h=>by cases h
 | (e,x) :: r,hf,h=>by
  unfold qK at h
  split at h
  ·rename_i e'
   intro hh
   exact hf.1 (hh.symm.trans e')
  ·exact vD hf.2 h
theorem freshH_set {b c : Nat} {x : AO} : ∀ {H : AH},qZ (qY H c x) b ↔ qZ H b
 | []=>Iff.rfl
 | (e,o) :: r=>by
  unfold qY
  split
  ·rename_i h; subst h; exact Iff.rfl
  ·simp only [qZ,freshH_set]
theorem wJ {n g : Nat} {E : Array Bool → List D → AH × Bool → Prop} {K : Nat → BK} {w : World} {a : Act} {Q' : Exit → Act → World → Prop} (hL : Lone al ops n)
  (hE : ∀ listed F H G H' K1 w1 (a1 : Act),E listed F H → Lft al F H G H' → St K1 w1 G H' a1.tmps → FK K w K1 w1 → a1.defers = a.defers → wpAny P md ops Q' g listed a1 w1) :
  ∀ (fuel : Nat) (S : List (Nat × Nat)) (listed : Array Bool) (F : List D) (H : AH × Bool) (G : List D) (H' : AH) (K1 : Nat → BK) (w1 : World) (a1 : Act),Sub H0 H.1 → Lft al F H G H' → St K1 w1 G H' a1.tmps → FK K w K1 w1 → a1.defers = a.defers → uB P md ops H0 al n E fuel S listed F H → wpAny P md ops Q' (fuel + g) listed a1 w1
 | 0,S,_,F,H,G,H',K1,w1,a1,hsub,hlf,hs,hfk,hd,h=>by rw [Nat.zero_add]; exact hE _ F H G H' K1 w1 a1 h hlf hs hfk hd
 | fuel + 1,S,listed,F,H,G,H',K1,w1,a1,hsub,hlf,hs,hfk,hd,h=>by
  rw [show fuel + 1 + g = (fuel + g) + 1 by omega]
  refine ⟨fun h0=>absurd h0 h.1,fun i hi=>?_⟩
  obtain ⟨hin,o,e,ho,he,hok,hsp,hk⟩ := h.2 i hi
  unfold wpOp
  simp only [ho]
  have hlone : ∀ d z,al = some (d,z) → yy o.op = false → d ∉ o.looksAt ops ∧ o.dst ≠ some d := fun d z hal hna=>by
   rcases hL d z hal i o hin ho with ⟨h1,_⟩ | ⟨_,h2⟩
   ·rw [hna] at h1; cases h1
   ·exact h2
  have hagree : yy o.op = false → (∀ t ∈ o.looksAt ops,G.getD t .any = F.getD t .any) ∧ G.length = F.length := fun hna=>by
   rcases hlf with ⟨_,rfl,_⟩ | ⟨_,d,z,b,hal,_,rfl,_⟩
   ·exact ⟨fun _ _=>rfl,rfl⟩
   ·exact ⟨fun t ht=>gF _ _ _ _ (fun e=>(hlone d z hal hna).1 (by rw [e]; exact ht)),by simp⟩
  rcases he with ⟨g1,gc,gna,g2,gtk⟩ | ⟨g1,rfl⟩ | ⟨gg,rfl,t,d,z,hop,hdst,hz,hal⟩
  ·obtain ⟨ha1,ha2⟩ := hagree gna
   rw [if_pos (y4 hs (by rw [wx ha1]; exact g1))]
   have hop : ∀ t,.tmp t ∈ o.op.operands.toList → G.getD t .any = F.getD t .any := fun t ht=>ha1 t (yV ht)
   rcases hlf with ⟨hn,rfl,rfl⟩ | ⟨hn,d,z,b,hal,hfr,rfl,rfl⟩
   ·have hok' : e.ok H0 (H.1,false) := by unfold Eff2.ok at hok ⊢; split <;> simp_all
    have hap : (e.ap (H.1,false)).1 = (e.ap H).1 := by unfold Eff2.ap; split <;> rfl
    have hap2 : (e.ap H).2 = false := by unfold Eff2.ap; split <;> first | exact hn | exact (gc (by assumption)).elim
    refine .inl (Oper.wp_mono (fun a2 w2 h2=>?_) (g2 H.1 hsub hok' K1 w1 a1 G Q' hs hop ha2))
    obtain ⟨F',H'',K',⟨hF',hH'⟩,q2,q3,q4⟩ := h2
    rw [hF',hH',hap] at q3
    exact wJ hL hE fuel S _ _ _ _ _ K' w2 a2 (Eff2.sub hsub hok) (.inl ⟨hap2,rfl,rfl⟩) q3 (hfk.trans q2) (q4.trans hd) hk
   ·obtain ⟨hl1,hl2⟩ := hlone d z hal gna
    have hsub' : Sub H0 ((b,.cells z) :: H.1) := fun c o' hc=>by
     have h1 := hsub c o' hc
     have hne := vD hfr h1
     unfold qK
     rw [if_neg hne]
     exact h1
    have hok' : e.ok H0 ((b,.cells z) :: H.1,false) := by
     unfold Eff2.ok at hok ⊢
     split
     ·rename_i c o1 o2 hc
      simp only [hc] at hok
      refine ⟨hok.1,?_⟩
      have hne := vD hfr hok.2
      unfold qK
      rw [if_neg hne]
      exact hok.2
     ·trivial
     ·rfl
    have hap : (e.ap ((b,.cells z) :: H.1,false)).1 = (b,.cells z) :: (e.ap H).1 := by
     unfold Eff2.ok at hok
     unfold Eff2.ap
     split
     ·rename_i c o1 o2 hc
      simp only [hc] at hok
      have hne := vD hfr hok.2
      show qY ((b,_) :: H.1) c o2 = _
      rw [qY,if_neg hne]
     ·rfl
     ·rfl
    have hap2 : (e.ap H).2 = true := by unfold Eff2.ap; split <;> first | exact hn | rfl
    have hfr2 : qZ (e.ap H).1 b := by
     unfold Eff2.ap
     split
     ·exact freshH_set.2 hfr
     ·exact hfr
     ·exact hfr
    have happ : e.e.app o.dst (F.set d (.ptr b 0)) = (e.e.app o.dst F).set d (.ptr b 0) := by
     unfold Eff.app j0
     have hd1 : ∀ t,o.dst = some t → d ≠ t := fun t h e=>hl2 (by rw [h,e])
     have hd2 : ∀ s v,e.e.tk = some (s,v) → d ≠ s := fun s v h e'=>hl1 (by rw [e']; exact gG (gtk s v h))
     cases htk : e.e.tk with
     | none=>cases hdd : o.dst with
      | none=>rfl
      | some t=>exact jl _ (hd1 t hdd) _ _
     | some q =>
      obtain ⟨s,v⟩ := q
      cases hdd : o.dst with
      | none=>exact jl _ (hd2 s v htk) _ _
      | some t =>
       simp only []
       rw [jl F (hd2 s v htk),jl _ (hd1 t hdd)]
    refine .inl (Oper.wp_mono (fun a2 w2 h2=>?_) (g2 _ hsub' hok' K1 w1 a1 _ Q' hs hop ha2))
    obtain ⟨F',H'',K',⟨hF',hH'⟩,q2,q3,q4⟩ := h2
    rw [hF',hH',hap,happ] at q3
    exact wJ hL hE fuel S _ _ _ _ _ K' w2 a2 (Eff2.sub hsub hok) (.inr ⟨hap2,d,z,b,hal,hfr2,rfl,rfl⟩) q3 (hfk.trans q2) (q4.trans hd) hk
  ·have hna : ∀ d z,al = some (d,z) → yy o.op = false := fun d z hal=>by
    rcases hL d z hal i o hin ho with ⟨_,h2⟩ | ⟨h1,_⟩
    ·unfold gst at g1; simp [h2] at g1
    ·exact h1
   have hlf' : Lft al (j0 F o.dst (.tup [])) H (j0 G o.dst (.tup [])) H' := by
    rcases hlf with ⟨hn,rfl,rfl⟩ | ⟨hn,d,z,b,hal,hfr,rfl,rfl⟩
    ·exact .inl ⟨hn,rfl,rfl⟩
    ·refine .inr ⟨hn,d,z,b,hal,hfr,?_,rfl⟩
     have hl2 := (hlone d z hal (hna d z hal)).2
     unfold j0
     cases hdd : o.dst with
     | none=>rfl
     | some t=>exact jl _ (fun e=>hl2 (by rw [hdd,e])) _ _
   have hgG : gst ops.toList G o = some false := by
    rcases hlf with ⟨_,rfl,_⟩ | ⟨_,d,z,b,hal,_,_,_⟩
    ·exact g1
    ·rw [wx (hagree (hna d z hal)).1]; exact g1
   rw [if_neg (by rw [y4 hs hgG]; simp)]
   exact wJ hL hE fuel S _ _ _ _ _ K1 w1 _ hsub hlf' (vv hs o.dst) hfk ((qS o.dst undef).trans hd) hk
  ·have hgs : gst ops.toList G o = some true := by unfold gst; rw [gg]
   rw [if_pos (y4 hs hgs)]
   have hn : H.2 = false := hok
   rcases hlf with ⟨_,rfl,rfl⟩ | ⟨hn',_⟩
   ·have hap : aop P ops.toList o G H.1 (fun F' H''=>∃ b,qZ H.1 b ∧ F' = G.set d (.ptr b 0) ∧ H'' = (b,.cells z) :: H.1) := by
     simp only [aop,hop,hz,hdst]
     exact fun b hb=>⟨b,hb,rfl,rfl⟩
    refine .inl (Oper.wp_mono (fun a2 w2 h2=>?_) (yn (Q := Q') hs (by unfold jR; simp [hop,Op.operands]) hap))
    obtain ⟨F',H'',K',⟨b,hb,hF',hH'⟩,q2,q3,q4⟩ := h2
    rw [hF',hH'] at q3
    refine wJ hL hE fuel S _ (Eff.app ⟨none,.any⟩ o.dst G) (H.1,true) _ _ K' w2 a2 hsub (.inr ⟨rfl,d,z,b,hal,hb,?_,rfl⟩) q3 (hfk.trans q2) (q4.trans hd) hk
    show G.set d (.ptr b 0) = (Eff.app ⟨none,.any⟩ o.dst G).set d (.ptr b 0)
    rw [hdst]
    simp [Eff.app,j0]
   ·rw [hn] at hn'; cases hn'
def oH (ops : Array Oper) (n : Nat) : Bool := decide (n < ops.size) && (Region.sinkB .any ops n && Region.chainB .any ops n && Jr .any ops (ops.size - n) n 0 (Array.replicate ops.size false))
theorem V3 {T : List D → AH × Bool → Prop} {K : Nat → BK} {w : World} {F : List D} {H : AH} {a : Act} {Q' : Exit → Act → World → Prop} {pre suf : List Oper} (hB : oH ops pre.length = true) (hps : pre ++ suf = ops.toList)
  (hs : St K w F H a.tmps) (hsub : Sub H0 H) (hL : Lone al ops pre.length) (hc : kR P .any H0 al ops pre 0 [] F (H,false) T)
  (hT : ∀ F1 H1 G1 H2 K1 w1 (a1 : Act),T F1 H1 → Lft al F1 H1 G1 H2 → St K1 w1 G1 H2 a1.tmps → FK K w K1 w1 → a1.defers = a.defers → wpList P ops Q' suf a1 w1) : wpAny P .any ops Q' ops.size (Array.replicate ops.size false) a { w with drawn := w.drawn + 1 } := by
 obtain ⟨K',hfk,hs'⟩ := hs.drew
 have hlen : pre.length + suf.length = ops.size := by rw [← List.length_append,hps]; simp
 unfold oH at hB
 simp only [Bool.and_eq_true,decide_eq_true_eq] at hB
 obtain ⟨hne,⟨h1,h2⟩,h3⟩ := hB
 have inv0 : HeadInv .any ops pre.length (Array.replicate ops.size false) :=
  ⟨by simp,fun j oj _ hl=>(by rw [getD_replicate_false] at hl; cases hl),fun t _ ht=>getD_in (by simpa using ht) (getD_replicate_false _ _)⟩
 have hget : ∀ j : Nat,ops.toList[j]? = ops[j]? := fun j=>Array.getElem?_toList
 have hlex := gb (P := P) (H0 := H0) (al := al) (md := .any) (g := ops.size - pre.length) h1 h2 hne pre 0 [] _ F (H,false) (fun j hj=>by
  rw [Nat.zero_add,← hget]; conv=>{ rhs; rw [← hps] }; rw [List.getElem?_append_left hj]) (Nat.zero_add _) inv0 h3 hc
 have hg : suf.length = ops.size - pre.length := by omega
 have := wJ (a := a) (Q' := Q') (K := K) (w := w) (g := ops.size - pre.length) hL (fun listed F1 H1 G1 H2 K1 w1 a1 hE hlf hs1 hfk1 hd1=>by
  have hw : wpList P ops Q' suf a1 w1 := hT F1 H1 G1 H2 K1 w1 a1 hE.2 hlf hs1 hfk1 hd1
  have := wpAny_of_seq (md := .any) (Q' := Q') suf pre.length listed a1 w1 (fun j=>by
   rw [← hget]; exact (idx2 hps j).symm) (by rw [hg]; exact hE.1) hw
  rwa [hg] at this) _ _ _ F (H,false) F H K' _ a hsub (.inl ⟨rfl,rfl,rfl⟩) hs' hfk rfl hlex
 rw [show pre.length + (ops.size - pre.length) = ops.size by omega] at this
 exact this
theorem UD {T : List D → Prop} {K : Nat → BK} {w : World} {F : List D} {H : AH} {a : Act} {Q' : Exit → Act → World → Prop} {pre suf : List Oper} (hB : oH ops pre.length = true) (hps : pre ++ suf = ops.toList)
  (hs : St K w F H a.tmps) (hc : chain P H ops pre F T)
  (hT : ∀ F1 K1 w1 (a1 : Act),T F1 → St K1 w1 F1 H a1.tmps → FK K w K1 w1 → a1.defers = a.defers → wpList P ops Q' suf a1 w1) : wpAny P .any ops Q' ops.size (Array.replicate ops.size false) a { w with drawn := w.drawn + 1 } := by
 obtain ⟨K',hfk,hs'⟩ := hs.drew
 have hlen : pre.length + suf.length = ops.size := by rw [← List.length_append,hps]; simp
 unfold oH at hB
 simp only [Bool.and_eq_true,decide_eq_true_eq] at hB
 obtain ⟨hne,⟨h1,h2⟩,h3⟩ := hB
 have inv0 : HeadInv .any ops pre.length (Array.replicate ops.size false) :=
  ⟨by simp,fun j oj _ hl=>(by rw [getD_replicate_false] at hl; cases hl),fun t _ ht=>getD_in (by simpa using ht) (getD_replicate_false _ _)⟩
 have hget : ∀ j : Nat,ops.toList[j]? = ops[j]? := fun j=>Array.getElem?_toList
 have hlex := uF (P := P) (H := H) (md := .any) (g := ops.size - pre.length) h1 h2 hne pre 0 _ F (fun j hj=>by
  rw [Nat.zero_add,← hget]; conv=>{ rhs; rw [← hps] }; rw [List.getElem?_append_left hj]) (Nat.zero_add _) inv0 h3 hc
 have hg : suf.length = ops.size - pre.length := by omega
 have := vF (a := a) (Q' := Q') (K := K) (w := w) (g := ops.size - pre.length) (fun listed F1 K1 w1 a1 hE hs1 hfk1 hd1=>by
  have hw : wpList P ops Q' suf a1 w1 := hT F1 K1 w1 a1 hE.2 hs1 hfk1 hd1
  have := wpAny_of_seq (md := .any) (Q' := Q') suf pre.length listed a1 w1 (fun j=>by
   rw [← hget]; exact (idx2 hps j).symm) (by rw [hg]; exact hE.1) hw
  rwa [hg] at this) _ _ F K' _ a hs' hfk rfl hlex
 rw [show pre.length + (ops.size - pre.length) = ops.size by omega] at this
 exact this
end
def Qs : Op → Bool
 | .call c=>match c.callee with
  | .value _=>true
  | _=>false
 | _=>false
section
variable {P : Program} {ops : List Oper} {o : Oper} {F : List D} {H0 : AH} {K : Nat → BK} {w : World} {a : Act}
theorem j3 {H H' : AH} {e : Eff} (hok : jR o = true) (h : ∀ G : List D,(∀ t,.tmp t ∈ o.op.operands.toList → G.getD t .any = F.getD t .any) → G.length = F.length → aop P ops o G H (fun G' H''=>G' = e.app o.dst G ∧ H'' = H')) : zn P H H' o F e :=
 fun K w a G Q hs hG hlen=>yn hs hok (h G hG hlen)
theorem Wl (hs : St K w F H0 a.tmps) (hok : jR o = true) {k : List D → Prop} (h : qW P (rv F) H0 o.op fun d=>k (j0 F o.dst d)) : ∃ e : Eff,k (e.app o.dst F) ∧ e.tk = none ∧ ∀ H,Sub H0 H → zn P H H o F e := by
 have hr := hs.ops (xs := o.op.operands) (by unfold jR at hok; simp only [Bool.and_eq_true] at hok; exact hok.1)
 obtain ⟨d,hd,hy⟩ := uz h ⟨K,w,a.eval,hs.krel,hs.hrel,hr⟩
 have hn := hs.hrel.nd
 refine ⟨⟨none,d⟩,hd,rfl,fun H hsub K w a G Q hs hG hlen=>?_⟩
 have hr : ∀ x ∈ o.op.operands.toList,RepV K w (rv F x) (a.eval x) := fun x hx=>by
  have := hs.ops (xs := o.op.operands) (by unfold jR at hok; simp only [Bool.and_eq_true] at hok; exact hok.1) x hx
  unfold rv at this ⊢
  rwa [jH hG hx] at this
 obtain ⟨v,K',w',h1,h2,h3,h4⟩ := hy K w a.eval (o.dst.getD 0) hs.krel (hsub.hrel hn hs.hrel) hr
 exact j7 h1 ⟨_,H,K',⟨rfl,rfl⟩,h2.fk hs.krel,hs.put (h2.keep hs.krel) (fun _ _ h=>h) h3 (hs.hrel.pres hs.krel h2) o.dst (fun i hi=>by rw [hi] at h4; exact h4),qS _ _⟩
theorem W7 (hs : St K w F H0 a.tmps) (hok : jR o = true) (hnc : Qs o.op = false) {k : List D → Prop} (h : jP P ops o F H0 k) : ∃ e : Eff,k (e.app o.dst F) ∧ (∀ s v,e.tk = some (s,v) → oQ ops o = some s) ∧ ∀ H,Sub H0 H → zn P H H o F e := by
 have viaVal : ∀ h : qW P (rv F) H0 o.op (fun d=>k (j0 F o.dst d)),∃ e : Eff,k (e.app o.dst F) ∧ (∀ s v,e.tk = some (s,v) → oQ ops o = some s) ∧ ∀ H,Sub H0 H → zn P H H o F e := fun h=>by
  obtain ⟨e,h1,h2,h3⟩ := Wl hs hok h
  exact ⟨e,h1,fun s v hsv=>(by rw [h2] at hsv; cases hsv),h3⟩
 have evG : ∀ (s : Nat),.tmp s ∈ o.op.operands.toList → ∀ G : List D,(∀ t,.tmp t ∈ o.op.operands.toList → G.getD t .any = F.getD t .any) → ev G (.tmp s) = ev F (.tmp s) := fun s hm G hG=>hG s hm
 cases ho : o.op
 case move x =>
  cases x with
  | tmp s =>
   simp only [jP,aop,ho] at h
   cases hd : o.dst with
   | none =>
    simp only [hd] at h
    refine ⟨⟨none,.any⟩,h,fun s v hsv=>(by cases hsv),fun H _=>j3 (ops := ops) hok fun G hG hlen=>?_⟩
    simp only [aop,ho,hd]
    exact ⟨rfl,by trivial⟩
   | some d =>
    simp only [hd] at h
    by_cases ht : takes ops d = true
    ·rw [if_pos ht] at h
     refine ⟨⟨some (s,rv F (.tmp s)),ev F (.tmp s)⟩,h,fun s' v hsv=>?_,fun H _=>j3 (ops := ops) hok fun G hG hlen=>?_⟩
     ·simp only [Option.some.injEq,Prod.mk.injEq] at hsv
      simp [oQ,ho,hd,ht,hsv.1]
     ·have he := evG s (by simp [ho,Op.operands]) G hG
      simp only [aop,ho,hd,if_pos ht,rv,he]
      exact ⟨rfl,by trivial⟩
    ·rw [if_neg ht] at h
     refine ⟨⟨none,rv F (.tmp s)⟩,h,fun s v hsv=>(by cases hsv),fun H _=>j3 (ops := ops) hok fun G hG hlen=>?_⟩
     have he := evG s (by simp [ho,Op.operands]) G hG
     simp only [aop,ho,hd,if_neg ht,rv,he]
     exact ⟨rfl,by trivial⟩
  | const c =>
   simp only [jP,aop,ho] at h
   exact ⟨⟨none,ev F (.const c)⟩,h,fun s v hsv=>(by cases hsv),fun H _=>j3 (ops := ops) hok fun G hG hlen=>by simp only [aop,ho]; exact ⟨rfl,by trivial⟩⟩
  | global g =>
   simp only [jP,aop,ho] at h
   exact ⟨⟨none,ev F (.global g)⟩,h,fun s v hsv=>(by cases hsv),fun H _=>j3 (ops := ops) hok fun G hG hlen=>by simp only [aop,ho]; exact ⟨rfl,by trivial⟩⟩
  | func f =>
   simp only [jP,aop,ho] at h
   exact ⟨⟨none,ev F (.func f)⟩,h,fun s v hsv=>(by cases hsv),fun H _=>j3 (ops := ops) hok fun G hG hlen=>by simp only [aop,ho]; exact ⟨rfl,by trivial⟩⟩
 case assign x =>
  cases x with
  | tmp s =>
   simp only [jP,aop,ho] at h
   cases hd : o.dst with
   | none =>
    simp only [hd] at h
    refine ⟨⟨none,.any⟩,h,fun s v hsv=>(by cases hsv),fun H _=>j3 (ops := ops) hok fun G hG hlen=>?_⟩
    simp only [aop,ho,hd]
    exact ⟨rfl,by trivial⟩
   | some d =>
    simp only [hd] at h
    refine ⟨⟨some (s,rv F (.tmp s)),ev F (.tmp s)⟩,h,fun s' v hsv=>?_,fun H _=>j3 (ops := ops) hok fun G hG hlen=>?_⟩
    ·simp only [Option.some.injEq,Prod.mk.injEq] at hsv
     simp [oQ,ho,hsv.1]
    ·have he := evG s (by simp [ho,Op.operands]) G hG
     simp only [aop,ho,hd,rv,he]
     exact ⟨rfl,by trivial⟩
  | const c =>
   simp only [jP,aop,ho] at h
   exact ⟨⟨none,ev F (.const c)⟩,h,fun s v hsv=>(by cases hsv),fun H _=>j3 (ops := ops) hok fun G hG hlen=>by simp only [aop,ho]; exact ⟨rfl,by trivial⟩⟩
  | global g =>
   simp only [jP,aop,ho] at h
   exact ⟨⟨none,ev F (.global g)⟩,h,fun s v hsv=>(by cases hsv),fun H _=>j3 (ops := ops) hok fun G hG hlen=>by simp only [aop,ho]; exact ⟨rfl,by trivial⟩⟩
  | func f =>
   simp only [jP,aop,ho] at h
   exact ⟨⟨none,ev F (.func f)⟩,h,fun s v hsv=>(by cases hsv),fun H _=>j3 (ops := ops) hok fun G hG hlen=>by simp only [aop,ho]; exact ⟨rfl,by trivial⟩⟩
 case extract x ix =>
  cases x with
  | tmp s =>
   simp only [jP,aop,ho] at h
   cases hd : o.dst with
   | none=>simp only [hd] at h
   | some d =>
    simp only [hd] at h
    split at h
    ·rename_i d' ds hdd hev
     simp only [Option.some.injEq] at hdd
     subst hdd
     split at h
     ·rename_i c hc
      obtain ⟨hF,hT⟩ := ov hs hev (by simp)
      obtain ⟨vs,hv,hl,hh⟩ := hs.slot s _ _ hF hT
      have hix : ix < vs.size := by rw [hl]; exact (List.getElem?_eq_some_iff.1 hc).1
      have hfact := (hh ix c _ hc (Array.getElem?_eq_getElem hix)).rep.fact
      by_cases ht : takes ops d = true
      ·rw [if_pos ht] at h
       refine ⟨⟨some (s,.tup (ds.set ix c.view1)),c⟩,h hfact,fun s' v hsv=>?_,fun H _=>j3 (ops := ops) hok fun G hG hlen=>?_⟩
       ·simp only [Option.some.injEq,Prod.mk.injEq] at hsv
        simp [oQ,ho,hd,ht,hsv.1]
       ·have he := evG s (by simp [ho,Op.operands]) G hG
        rw [hev] at he
        simp only [aop,ho,hd,he,hc,if_pos ht]
        exact fun _=>⟨rfl,by trivial⟩
      ·rw [if_neg ht] at h
       refine ⟨⟨none,c.view1⟩,h hfact,fun s v hsv=>(by cases hsv),fun H _=>j3 (ops := ops) hok fun G hG hlen=>?_⟩
       have he := evG s (by simp [ho,Op.operands]) G hG
       rw [hev] at he
       simp only [aop,ho,hd,he,hc,if_neg ht]
       exact fun _=>⟨rfl,by trivial⟩
     ·exact h.elim
    ·exact h.elim
  | _=>exact viaVal (by simpa only [jP,aop,ho] using h)
 case alloc t=>simp only [jP,ho] at h
 case box t x=>simp only [jP,ho] at h
 case store t x y=>simp only [jP,ho] at h
 case load t x=>exact viaVal (by simpa only [jP,ho] using h)
 case binOp bo t x y ty=>exact viaVal (by simpa only [jP,ho] using h)
 case call c =>
  cases hf : c.callee with
  | value f =>
   simp [Qs,ho,hf] at hnc
  | invoke r m=>exact viaVal (by simpa only [jP,aop,ho,hf] using h)
  | builtin b =>
   cases b
   case append =>
    simp only [jP,aop,ho,hf] at h
    split at h
    ·rename_i s x t u d hargs htys hd
     split at h
     ·rename_i xs e sz bs hev hap
      have hops : o.op.operands = #[] ++ c.args := by simp only [ho,Op.operands,Call.operands,hf]
      have hms : .tmp s ∈ o.op.operands.toList := by rw [hops,ky hargs]; simp
      have hmx : x ∈ o.op.operands.toList := by rw [hops,ky hargs]; simp
      split at h
      ·rename_i ys hy
       obtain ⟨h1,h2,h3,h4⟩ := h
       refine ⟨⟨some (s,.slc xs),.own (xs ++ ys)⟩,by rw [hd]; exact h4,fun s' v hsv=>?_,fun H _=>j3 (ops := ops) hok fun G hG hlen=>?_⟩
       ·simp only [Option.some.injEq,Prod.mk.injEq] at hsv
        simp [oQ,ho,hf,hargs,hsv.1]
       ·have he := evG s hms G hG
        have hx : rv G x = .slc ys := by rw [← hy]; unfold rv; rw [jH hG hmx]
        rw [hev] at he
        simp only [aop,ho,hf,hargs,htys,hd,he,hap,hx]
        exact ⟨h1,h2,h3,rfl,by trivial⟩
      ·rename_i l hy
       obtain ⟨h1,h2,h3,h4⟩ := h
       refine ⟨⟨some (s,.slc xs),.own (xs ++ l.map qr)⟩,by rw [hd]; exact h4,fun s' v hsv=>?_,fun H _=>j3 (ops := ops) hok fun G hG hlen=>?_⟩
       ·simp only [Option.some.injEq,Prod.mk.injEq] at hsv
        simp [oQ,ho,hf,hargs,hsv.1]
       ·have he := evG s hms G hG
        have hx : rv G x = .str l := by rw [← hy]; unfold rv; rw [jH hG hmx]
        rw [hev] at he
        simp only [aop,ho,hf,hargs,htys,hd,he,hap,hx]
        exact ⟨h1,h2,h3,rfl,by trivial⟩
      ·exact h.elim
     ·exact h.elim
    ·exact h.elim
   all_goals exact viaVal (by simpa only [jP,aop,ho,hf] using h)
 all_goals exact viaVal (by simpa only [jP,aop,ho] using h)
end
section
variable {P : Program} {ops : Array Oper} {H0 : AH} {al : Option (Nat × List D)}
def Some (F : List D) (H : AH) : Prop := ∃ (K : Nat → BK) (w : World) (a : Act),St K w F H a.tmps
theorem wh {T : List D → AH × Bool → Prop} {k : List D → Prop} (hn : (H0.map (·.1)).Nodup) {H : AH} {b : Bool} {S : List (Nat × Nat)} (hsub : Sub H0 H) {r : List Oper} : ∀ (l : List Oper) (n : Nat) (F : List D),(∀ o ∈ l,jR o = true ∧ Qs o.op = false ∧ yy o.op = false) → Some F H → kQ P ops.toList l F H0 k →
  (∀ F',Some F' H → k F' → kR P .any H0 al ops r (n + l.length) S F' (H,b) T) → kR P .any H0 al ops (l ++ r) n S F (H,b) T
 | [],n,F,_,hs,h,hk=>hk F hs h
 | o :: l,n,F,hok,⟨K,w,a,hs⟩,h,hk=>by
  have hs0 : St K w F H0 a.tmps := hsub.st hn hs
  have hk' : ∀ F',Some F' H → k F' → kR P .any H0 al ops r (n + 1 + l.length) S F' (H,b) T := fun F' h1 h2=>by
   have := hk F' h1 h2
   rwa [List.length_cons,show n + (l.length + 1) = n + 1 + l.length by omega] at this
  have hgo : gst ops.toList F o = some true → jP P ops.toList o F H0 (fun F'=>kQ P ops.toList l F' H0 k) → kR P .any H0 al ops (o :: l ++ r) n S F (H,b) T := fun hg h=>by
   obtain ⟨e,h1,h2,h3⟩ := W7 hs0 (hok o (.head _)).1 (hok o (.head _)).2.1 h
   refine ⟨⟨e,.no⟩,.inl ⟨hg,by simp,(hok o (.head _)).2.2,fun H hsub _=>h3 H hsub,h2⟩,trivial,trivial,?_⟩
   obtain ⟨a',w',F',H',K',⟨hF',hH'⟩,_,hs',_⟩ := uj (h3 H hsub K w a F (fun _ _ _=>False) hs (fun _ _=>rfl) rfl)
   rw [hF',hH'] at hs'
   exact wh hn hsub l _ _ (fun o ho=>hok o (.tail _ ho)) ⟨K',w',a',hs'⟩ h1 hk'
  have hskip : gst ops.toList F o = some false → kQ P ops.toList l (j0 F o.dst (.tup [])) H0 k → kR P .any H0 al ops (o :: l ++ r) n S F (H,b) T := fun hg h =>
   ⟨⟨⟨none,.tup []⟩,.no⟩,.inr (.inl ⟨hg,rfl⟩),trivial,trivial,wh hn hsub l _ _ (fun o ho=>hok o (.tail _ ho)) ⟨K,w,a.put o.dst undef,vv hs o.dst⟩ h hk'⟩
  unfold gst at hgo hskip
  cases hg : o.guard with
  | none =>
   simp only [kQ,hg] at h hgo
   exact hgo trivial h
  | some g =>
   obtain ⟨j,want⟩ := g
   simp only [kQ,hg] at h hgo hskip
   cases hdd : (ops.toList[j]?).bind (·.dst) with
   | none =>
    simp only [hdd] at h hskip
    exact hskip trivial h
   | some t =>
    simp only [hdd] at h hgo hskip
    split at h
    ·rename_i b hb
     simp only [hb] at hgo hskip
     by_cases e : b = want
     ·exact hgo (by simp [e]) (h.1 e)
     ·exact hskip (by simp [e]) (h.2 (by cases b <;> cases want <;> simp_all))
    ·rename_i ds hb
     simp only [hb] at hskip
     exact hskip trivial h
    ·exact h.elim
theorem wI {T : List D → AH × Bool → Prop} {F : List D} {H : AH} {dn : Bool} {n : Nat} {S : List (Nat × Nat)} {o : Oper} {r : List Oper} {e : Eff} {b : Nat} {ob ob' : AO} (hg : o.guard = none) (hna : yy o.op = false) (hb0 : qK H0 b = none) (hb : qK H b = some ob) (hS : ∀ q ∈ S,q.2 = b → K9 .any o q.1 = true) (htk : ∀ s v,e.tk = some (s,v) → oQ ops.toList o = some s) (hsub : Sub H0 H)
  (hse : ∀ H,qK H b = some ob → zn P H (qY H b ob') o F e) (hs : Some F H) (h : Some (e.app o.dst F) (qY H b ob') → kR P .any H0 al ops r (n + 1) ((n,b) :: S) (e.app o.dst F) (qY H b ob',dn) T) : kR P .any H0 al ops (o :: r) n S F (H,dn) T := by
 refine ⟨⟨e,.blk b ob ob'⟩,.inl ⟨by simp [gst,hg],by simp,hna,fun H hsub hok=>hse H hok.2,htk⟩,⟨hb0,hb⟩,hS,h ?_⟩
 obtain ⟨K,w,a,hs⟩ := hs
 obtain ⟨a',w',F',H',K',⟨hF',hH'⟩,_,hs',_⟩ := uj (hse H hb K w a F (fun _ _ _=>False) hs (fun _ _=>rfl) rfl)
 rw [hF',hH'] at hs'
 exact ⟨K',w',a',hs'⟩
theorem Wf {T : List D → AH × Bool → Prop} {F : List D} {H : AH} {n : Nat} {S : List (Nat × Nat)} {o : Oper} {r : List Oper} {t : TypeId} {d : Nat} {z : List D} (hg : o.guard = none) (hop : o.op = .alloc t) (hdst : o.dst = some d) (hz : yF P t = some z) (hal : al = some (d,z)) (hs : Some F H)
  (h : Some (F.set d .any) H → kR P .any H0 al ops r (n + 1) S (F.set d .any) (H,true) T) : kR P .any H0 al ops (o :: r) n S F (H,false) T := by
 refine ⟨⟨⟨none,.any⟩,.al⟩,.inr (.inr ⟨hg,rfl,t,d,z,hop,hdst,hz,hal⟩),rfl,trivial,?_⟩
 have happ : Eff.app ⟨none,.any⟩ o.dst F = F.set d .any := by rw [hdst]; rfl
 show kR P .any H0 al ops r (n + 1) S (Eff.app ⟨none,.any⟩ o.dst F) (H,true) T
 rw [happ]
 refine h ?_
 obtain ⟨K,w,a,hs⟩ := hs
 refine ⟨K,w,a,hs.krel,hs.hrel,by simpa using hs.len,fun i dd v hd hv=>?_⟩
 rcases getElem?_set_some hd with ⟨rfl,rfl,_⟩ | ⟨_,hd⟩
 ·exact RepV.viewO (.any _)
 ·exact hs.slot i dd v hd hv
end
end Go.Aw
end
