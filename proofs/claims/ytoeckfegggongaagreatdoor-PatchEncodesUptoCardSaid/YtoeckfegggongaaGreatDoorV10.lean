/- A part of the proof of what the last text says: AwV. Conditions: those in each theorem. -/
import Derived.Test.YtoeckfegggongaaGreatDoorV9
import Derived.RangeFuncWrites
import Derived.RangeFuncBound
set_option linter.unusedVariables false
set_option linter.unusedSimpArgs false
set_option maxRecDepth 100000
set_option maxHeartbeats 16000000
open Nat renaming reduceSub → qa,reduceAdd → qb,reduceMul → qc,reduceEqDiff → qd,reduceLeDiff → qe,reduceBEq → qf
section
namespace Go.Aw
open Go Go.RowKit
theorem Yi {id : Nat} {ops : Array Oper} {b : Bool} (h : Jg (.region id ops b) = true) : ∀ o ∈ ops.toList,o7 o = true := fun o ho=>by
 have := List.all_eq_true.1 h o ho
 unfold o7
 exact this
theorem vP {P : Program} (hm : P.follows .mixedOrders = true) {l n : Nat} : ∀ (x : XC) (c : Code) (F : List D) (H : AH) (Q : AQ),inB x = true → Jg c = true → cmp c = er x → jD c = true → uP x c = true → (∀ F H,¬ Q .outgrown F H) → xcode P x F H Q →
  ∀ (K : Nat → BK) (w : World) (a : Act),St K w F H a.tmps → c.wpIn (Fence.wide.inRound l) n P (fun e a' w'=>∃ F' H' K',Q e F' H' ∧ FK K w K' w' ∧ St K' w' F' H' a'.tmps) a w
 | .gh x,c,F,H,Q,hb,hd,he,ho,hv,hq,h=>fun K w a hs=>by
   obtain ⟨F',H',K1,hk,h1,h2⟩ := h K w a.tmps hs
   exact wpIn_mono (vP hm x c F' H' Q hb hd he ho (by unfold uP at hv; exact hv) hq hk K1 w a h2) fun e a' w' ⟨F'',H'',K'',g1,g2,g3⟩=>⟨F'',H'',K'',g1,h1.trans g2,g3⟩
 | .skip,c,F,H,Q,hb,hd,he,ho,hv,hq,h=>fun K w a hs=>by
   cases c <;> simp only [cmp,er] at he <;> first | (cases he; done) | (exact absurd (ju he) (by simp [kV])) | (rename_i id ops d; cases d <;> cases he; done) | exact wpIn_skip ⟨F,H,K,h,.refl K w,hs⟩ | exact wpIn_label ⟨F,H,K,h,.refl K w,hs⟩
 | .reg l,c,F,H,Q,hb,hd,he,ho,hv,hq,h=>fun K w a hs=>by
   cases c <;> simp only [cmp,er] at he <;> first | (cases he; done) | (exact absurd (ju he) (by simp [kV])) | skip
   rename_i id ops d
   cases d <;> (try simp only [cmp] at he) <;> first | (cases he; done) | skip
   injection he with he
   simp only [jD] at ho
   simp only [xcode] at h
   exact wpIn_region_list (J6 (fun a w ⟨F',H',K',h1,_⟩=>hq F' H' h1) _ _ _ (Yi hd) (yM (opA := ops) (k := fun F' H'=>Q .normal F' H') (w := w) (a := a) (K := K) (fun a' w' ⟨F',H',K',g1,g2,g3,g4⟩=>⟨F',H',K',g1,g2,g3⟩) l ops.toList F H K w a he.symm (fun o hoo=>(Array.all_eq_true'.1 ho) o (by simpa using hoo)) hs (.refl K w) rfl h))
 | .regT qs segs last tail,c,F,H,Q,hb,hd,he,ho,hv,hq,h=>fun K w a hs=>by
   simp only [er] at he
   split at he
   ·rename_i hall
    cases c <;> (try simp only [cmp] at he) <;> first | (cases he; done) | (exact absurd (ju he) (by simp [kV])) | skip
    rename_i id ops d
    cases d <;> (try simp only [cmp] at he) <;> first | (cases he; done) | skip
    injection he with he
    simp only [jD] at ho
    simp only [xcode] at h
    exact wpIn_region_any hm (UB (fun a w ⟨F',H',K',h1,_⟩=>hq F' H' h1) (Yi hd) _ _ _ _ (JD hall he (fun o hoo=>(Array.all_eq_true'.1 ho) o (by simpa using hoo)) hv hs (fun a' w' ⟨F',H',K',g1,g2,g3,g4⟩=>⟨F',H',K',g1,g2,g3⟩) h))
   ·cases c <;> (try simp only [cmp] at he) <;> first | (cases he; done) | (exact absurd (ju he) (by simp [kV])) | (rename_i id ops d; cases d <;> cases he)
 | .seq x y,c,F,H,Q,hb,hd,he,ho,hv,hq,h=>fun K w a hs=>by
   cases c <;> simp only [cmp,er] at he <;> first | (cases he; done) | (exact absurd (ju he) (by simp [kV])) | (rename_i id ops d; cases d <;> cases he) | skip
   injection he with h1 h2
   simp only [jD,Bool.and_eq_true] at ho
   simp only [uP,Bool.and_eq_true] at hv
   simp only [inB,Bool.and_eq_true] at hb
   simp only [Jg,Bool.and_eq_true] at hd
   simp only [xcode] at h
   refine wpIn_seq (wpIn_mono (vP hm x _ F H (uV (fun F' H'=>xcode P y F' H' Q) Q) hb.1 hd.1 h1 ho.1 hv.1 (fun F H hh=>hq F H hh) h K w a hs) fun e a' w' ⟨F',H',K',g1,g2,g3⟩=>?_)
   cases e with
   | normal=>exact wpIn_mono (vP hm y _ F' H' Q hb.2 hd.2 h2 ho.2 hv.2 hq g1 K' w' a' g3) fun e a'' w'' ⟨F'',H'',K'',q1,q2,q3⟩=>⟨F'',H'',K'',q1,g2.trans q2,q3⟩
   | _=>exact ⟨F',H',K',g1,g2,g3⟩
 | .block id x,c,F,H,Q,hb,hd,he,ho,hv,hq,h=>fun K w a hs=>by
   cases c <;> simp only [cmp,er] at he <;> first | (cases he; done) | (exact absurd (ju he) (by simp [kV])) | (rename_i id ops d; cases d <;> cases he) | skip
   injection he with h0 h1
   subst h0
   rename_i id c
   simp only [jD] at ho
   simp only [inB] at hb
   simp only [Jg] at hd
   simp only [xcode] at h
   refine wpIn_block (wpIn_mono (vP hm x _ F H (kT id Q) hb hd h1 ho (by simpa only [uP] using hv) (fun F H hh=>hq F H hh) h K w a hs) fun e a' w' ⟨F',H',K',g1,g2⟩=>?_)
   cases e with
   | exit id' =>
    simp only [kT] at g1
    simp only [Exit.inBlock]
    split
    ·rename_i e; rw [if_pos e] at g1; exact ⟨F',H',K',g1,g2⟩
    ·rename_i e; rw [if_neg e] at g1; exact ⟨F',H',K',g1,g2⟩
   | _=>exact ⟨F',H',K',g1,g2⟩
theorem Wa (d : D) : d.view.view = d.view := by
 have h1 : ∀ d : D,d.view1.view1 = d.view1 := fun d=>by cases d <;> rfl
 cases d <;> first | rfl | (simp only [D.view,List.map_map]; congr 1; exact List.map_congr_left fun d _=>h1 d)
theorem St.view {K : Nat → BK} {w : World} {F : List D} {H : AH} {t : Array Value} (h : St K w F H t) : St K w (F.map D.view) H t :=
 ⟨h.krel,h.hrel,by simpa using h.len,fun i d v hd hv=>by
  rw [List.getElem?_map,Option.map_eq_some_iff] at hd
  obtain ⟨d0,h1,rfl⟩ := hd
  exact (h.slot i d0 v h1 hv).rep.viewO⟩
theorem St.onward {K K' : Nat → BK} {w w' : World} {F : List D} {H H' : AH} {t : Array Value} (hv : ∀ d ∈ F,d.view = d) (h : St K w F H t) (he : ExtV K w K' w') (hk : KRel K' w') (hh : HRel K' w' H') : St K' w' F H' t :=
 ⟨hk,hh,h.len,fun i d v hd hvv=>by
  have h1 := (h.slot i d v hd hvv).rep
  rw [hv d (List.mem_of_getElem? hd)] at h1
  exact (RepV.mono he h1).viewO⟩
theorem St.setP {K : Nat → BK} {w : World} {F : List D} {H : AH} {t : Array Value} (h : St K w F H t) {p : Nat} {d : D} {v : Value} (hr : RepV K w d v) : St K w (F.set p d) H (t.setIfInBounds p v) := by
 refine ⟨h.krel,h.hrel,by simpa using h.len,fun i d' u hd hu=>?_⟩
 rcases getElem?_set_some hd with ⟨rfl,rfl,hl⟩ | ⟨hne,hd⟩
 ·rw [Array.getElem?_setIfInBounds_self_of_lt (by rw [h.len]; exact hl)] at hu
  obtain rfl := Option.some.inj hu
  exact hr.viewO
 ·rw [Array.getElem?_setIfInBounds_ne hne] at hu
  exact h.slot i d' u hd hu
structure LI (K : Nat → BK) (w : World) (b1 b2 : Nat) (Fv : List D) (t : Array Value) (K1 : Nat → BK) (W : World) (H1 : AH) : Prop where
 ext : ExtV K w K1 W
 own : ∀ b n,K b = .tok n .outer → K1 b = .tok n .outer ∧ W.heap[b]? = w.heap[b]?
 new : ∀ b n,K1 b = .tok n .outer → K b = .tok n .outer ∨ (n = 0 ∧ (b = b1 ∨ b = b2 ∨ w.heap.size ≤ b))
 st : St K1 W Fv H1 t
 s1 : K1 b1 = .tok 0 .outer
 s2 : K1 b2 = .tok 0 .outer
 sealed : ∀ b,w.heap.size ≤ b → b < W.heap.size → isC W b = false → K1 b = .tok 0 .outer
 h1 : W.heap[b1]? = w.heap[b1]?
 h2 : W.heap[b2]? = w.heap[b2]?
def wV (s : Nat) (w : World) (K : Nat → BK) : Nat → BK := fun b=>if s ≤ b ∧ b < w.heap.size ∧ isC w b = false then .tok 0 .outer else K b
theorem Uo {s : Nat} {w : World} {K : Nat → BK} : ReK K (wV s w K) w := fun b hb _ _=>by
 unfold wV
 rw [if_neg]
 rintro ⟨_,_,h⟩
 rw [hb] at h
 cases h
theorem Kt {s : Nat} {w : World} {K : Nat → BK} (hk : KRel K w) : KRel (wV s w K) w := fun b hb=>by
 unfold wV
 rw [if_neg (by omega)]
 exact hk b hb
theorem yo {s : Nat} {w : World} {K : Nat → BK} {b : Nat} (h : b < s) : wV s w K b = K b := by
 unfold wV
 rw [if_neg (by omega)]
theorem St.seal {s : Nat} {w : World} {K : Nat → BK} {F : List D} {H : AH} {t : Array Value} (hs : St K w F H t) : St (wV s w K) w F H t :=
 hs.re Uo (Kt hs.krel) fun b o hm hp=>by
  unfold wV
  rw [if_neg]
  ·exact hp
  ·rintro ⟨_,_,h⟩
   rw [hs.hrel.isC hm] at h
   cases h
theorem ExtV.congrK {K K1 K2 : Nat → BK} {w W : World} (hk : KRel K w) (h : ExtV K w K1 W) (he : ∀ b,b < w.heap.size → K2 b = K1 b) : ExtV K w K2 W := by
 refine ⟨h.os,h.tape,h.output,h.size,fun b hb hi=>?_,fun b n o hb=>?_,fun b hb=>?_⟩
 ·rw [he b hb]; exact h.imm b hb hi
 ·rw [he b (hk.lt_of (by rw [hb]; simp))]; exact h.tok b n o hb
 ·rw [he b (hk.lt_of (by rw [hb]; simp))]; exact h.priv b hb
section
variable {K : Nat → BK} {w : World} {b1 b2 : Nat} {Fv : List D} {t : Array Value} {K1 : Nat → BK} {W : World} {H1 : AH}
theorem LI.start {F : List D} {H : AH} (hs : St K w F H t) {o1 o2 : AO} (e1 : qK H b1 = some o1) (e2 : qK H b2 = some o2) (hp1 : K b1 = .priv) (hp2 : K b2 = .priv) (hsb : Sbn H1 (jB (jB H b1) b2)) : ∃ K1,LI K w b1 b2 (F.map D.view) t K1 w H1 := by
 have hl1 := hs.hrel.lt hs.krel (jp e1)
 have hl2 := hs.hrel.lt hs.krel (jp e2)
 have hn1 : ((jB H b1).map (·.1)).Nodup := (erase_sub.map (·.1)).nodup hs.hrel.nd
 have hn2 : ((jB (jB H b1) b2).map (·.1)).Nodup := (erase_sub.map (·.1)).nodup hn1
 obtain ⟨hnd,hsub⟩ := hsb hn2
 have hmem : ∀ b o,(b,o) ∈ H1 → (b,o) ∈ H ∧ b ≠ b1 ∧ b ≠ b2 := fun b o hm=>by
  have h1 := hsub _ hm
  exact ⟨erase_sub.subset (erase_sub.subset h1),wE hs.hrel.nd (erase_sub.subset h1),wE hn1 h1⟩
 have key : ∀ b,(fun b=>if b = b1 ∨ b = b2 then BK.tok 0 .outer else K b) b = if b = b1 ∨ b = b2 then BK.tok 0 .outer else K b := fun _=>rfl
 refine ⟨fun b=>if b = b1 ∨ b = b2 then .tok 0 .outer else K b,⟨⟨rfl,rfl,rfl,Nat.le_refl _,fun b hb hi=>?_,fun b n o hb=>?_,fun b hb=>.inr (hs.krel.lt_of (by rw [hb]; simp))⟩,fun b n hb=>?_,fun b n hb=>?_,?_,by simp,by simp,fun b h1 h2=>by omega,rfl,rfl⟩⟩
 ·refine ⟨?_,rfl⟩
  try dsimp only
  rw [if_neg]
  ·exact hi
  ·rintro (rfl | rfl)
   ·rw [hp1] at hi; cases hi
   ·rw [hp2] at hi; cases hi
 ·refine ⟨n,o,?_,Nat.le_refl _,fun _ _=>rfl⟩
  try dsimp only
  rw [if_neg]
  ·exact hb
  ·rintro (rfl | rfl)
   ·rw [hp1] at hb; cases hb
   ·rw [hp2] at hb; cases hb
 ·refine ⟨?_,rfl⟩
  try dsimp only
  rw [if_neg]
  ·exact hb
  ·rintro (rfl | rfl)
   ·rw [hp1] at hb; cases hb
   ·rw [hp2] at hb; cases hb
 ·try dsimp only at hb
  split at hb
  ·rename_i h; injection hb with h1; exact .inr ⟨h1.symm,by rcases h with h | h <;> simp [h]⟩
  ·exact .inl hb
 ·have hs1 : St K w (F.map D.view) H1 t := ⟨hs.view.krel,⟨hnd,fun b o hm=>hs.hrel.ok b o (hmem b o hm).1⟩,hs.view.len,hs.view.slot⟩
  refine hs1.re (fun b _ h1 _=>?_) (fun b hb=>?_) fun b o hm hp=>?_
  ·try dsimp only
   rw [if_neg]
   rintro (rfl | rfl)
   ·exact h1 hp1
   ·exact h1 hp2
  ·try dsimp only
   rw [if_neg]
   ·exact hs.krel b hb
   ·rintro (rfl | rfl) <;> omega
  ·try dsimp only
   rw [if_neg]
   ·exact hp
   ·rintro (h | h)
    ·exact (hmem b o hm).2.1 h
    ·exact (hmem b o hm).2.2 h
theorem LI.grow (hk0 : KRel K w) (h : LI K w b1 b2 Fv t K1 W H1) (hb1 : b1 < w.heap.size) (hb2 : b2 < w.heap.size) {W' : World} {row : Option Nat} (hg : W.grownBy W' row) (hr : ∀ r,row = some r → w.heap.size ≤ r ∧ ∃ o : Obj,W.heap[r]? = some o ∧ o.isCells = false) :
  LI K w b1 b2 Fv t (wV w.heap.size W' K1) W' H1 := by
 have hrow : ∀ r,row = some r → w.heap.size ≤ r ∧ r < W.heap.size ∧ K1 r = .tok 0 .outer := fun r e=>by
  obtain ⟨h1,o,h2,h3⟩ := hr r e
  have hlt := (Array.getElem?_eq_some_iff.1 h2).1
  refine ⟨h1,hlt,h.sealed r h1 hlt ?_⟩
  unfold isC
  rw [h2]
  cases o <;> first | rfl | (simp [Obj.isCells] at h3)
 have same : ∀ b,b < W.heap.size → K1 b ≠ .tok 0 .outer → W'.heap[b]? = W.heap[b]? := fun b hb hne=>hg.block b hb fun e=>hne (hrow b e.symm).2.2
 have hext : ExtV K1 W K1 W' := by
  refine ⟨hg.os,hg.tape,hg.output,hg.size,fun b hb hi=>⟨hi,same b hb (by rw [hi]; simp)⟩,fun b n o hb=>⟨n,o,hb,Nat.le_refl _,fun j hj=>?_⟩,fun b hb=>.inl hb⟩
  refine jz (same b (h.st.krel.lt_of (by rw [hb]; simp)) ?_) j
  rw [hb]
  intro e
  injection e with e1 e2
  omega
 have hkr : KRel K1 W' := fun b hb=>h.st.krel b (Nat.le_trans hg.size hb)
 have hkeep : Keep (fun o=>o = .outer) noB K1 W K1 W' := ⟨hext,fun b n o hb ho=>⟨hb,same b (h.st.krel.lt_of (by rw [hb]; simp)) (by rw [hb]; intro e; injection e with e1 e2; exact ho e2)⟩,fun b n hb=>hb,
  fun b hb _=>⟨hb,same b (h.st.krel.lt_of (by rw [hb]; simp)) (by rw [hb]; simp)⟩⟩
 have hst : St K1 W' Fv H1 t := ⟨hkr,h.st.hrel.keep hkeep (fun b o _=>⟨fun h=>h,fun j h=>by cases h⟩),h.st.len,fun i d v hd hv=>(h.st.slot i d v hd hv).keep hkeep (fun j h=>by cases h)⟩
 have hold : ∀ b,b < w.heap.size → W'.heap[b]? = W.heap[b]? := fun b hb=>hg.block b (Nat.lt_of_lt_of_le hb h.ext.size) fun e=>by have := (hrow b e.symm).1; omega
 refine ⟨(h.ext.trans hext).congrK hk0 fun b hb=>yo hb,fun b n hb=>?_,fun b n hb=>?_,hst.seal,(yo hb1).trans h.s1,(yo hb2).trans h.s2,fun b h1 h2 h3=>?_,(hold b1 hb1).trans h.h1,(hold b2 hb2).trans h.h2⟩
 ·have hlt := hk0.lt_of (b := b) (by rw [hb]; simp)
  rw [yo hlt]
  exact ⟨(h.own b n hb).1,(hold b hlt).trans (h.own b n hb).2⟩
 ·unfold wV at hb
  split at hb
  ·rename_i hc
   injection hb with e1
   exact .inr ⟨e1.symm,.inr (.inr hc.1)⟩
  ·exact h.new b n hb
 ·unfold wV
  rw [if_pos ⟨h1,h2,h3⟩]
theorem LI.round (hk0 : KRel K w) (hv : ∀ d ∈ Fv,d.view = d) (h : LI K w b1 b2 Fv t K1 W H1) (hb1 : b1 < w.heap.size) (hb2 : b2 < w.heap.size) {K' : Nat → BK} {W' : World} {F' : List D} {H' H3 : AH} {t' : Array Value} (hf : FK K1 W K' W') (hs : St K' W' F' H' t') (hsb : Sbn H3 H') :
  LI K w b1 b2 Fv t (wV w.heap.size W' K') W' H3 := by
 refine ⟨(h.ext.trans hf.ext).congrK hk0 fun b hb=>yo hb,fun b n hb=>?_,fun b n hb=>?_,(h.st.onward hv hf.ext hs.krel (hs.sb (hsb hs.hrel.nd)).hrel).seal,(yo hb1).trans (hf.own _ _ h.s1).1,(yo hb2).trans (hf.own _ _ h.s2).1,fun b h1 h2 h3=>?_,
  (hf.own _ _ h.s1).2.trans h.h1,(hf.own _ _ h.s2).2.trans h.h2⟩
 ·have hlt := hk0.lt_of (b := b) (by rw [hb]; simp)
  rw [yo hlt]
  have h1 := h.own b n hb
  exact ⟨(hf.own b n h1.1).1,(hf.own b n h1.1).2.trans h1.2⟩
 ·unfold wV at hb
  split at hb
  ·rename_i hc
   injection hb with e1
   exact .inr ⟨e1.symm,.inr (.inr hc.1)⟩
  ·exact h.new b n (hf.new b n hb)
 ·unfold wV
  rw [if_pos ⟨h1,h2,h3⟩]
theorem LI.finish (hk0 : KRel K w) (h : LI K w b1 b2 Fv t K1 W H1) (hb1 : b1 < w.heap.size) (hb2 : b2 < w.heap.size) (hp1 : K b1 = .priv) (hp2 : K b2 = .priv) {s D : Nat} {ds : List Deferred} (hD : w.heap.size ≤ D) (hD2 : W.heap[D]? = some (.deferred (some []))) (hs : s ≤ w.heap.size) (hm : Mk K w s ds) :
  ∃ K',FKm K w K' W ∧ St K' W Fv H1 t ∧ Mk K' W s ({ target := .collected D,args := #[] } :: ds) := by
 have hDl := (Array.getElem?_eq_some_iff.1 hD2).1
 have hDc : isC W D = false := by simp [isC,hD2]
 have old : ∀ b,b < w.heap.size → b ≠ b1 → b ≠ b2 → (if b = D then BK.tok 0 .outer else if b = b1 ∨ b = b2 ∨ (w.heap.size ≤ b ∧ K1 b = .tok 0 .outer) then .priv else K1 b) = K1 b := fun b hb h1 h2=>by
  rw [if_neg (by omega),if_neg]
  rintro (e | e | ⟨e,_⟩)
  ·exact h1 e
  ·exact h2 e
  ·omega
 refine ⟨fun b=>if b = D then .tok 0 .outer else if b = b1 ∨ b = b2 ∨ (w.heap.size ≤ b ∧ K1 b = .tok 0 .outer) then .priv else K1 b,⟨⟨h.ext.os,h.ext.tape,h.ext.output,h.ext.size,fun b hb hi=>?_,fun b n o hb=>?_,fun b hb=>.inr (Nat.lt_of_lt_of_le (hk0.lt_of (by rw [hb]; simp)) h.ext.size)⟩,fun b n hb=>?_,fun b n hb=>?_⟩,?_,?_⟩
 ·try dsimp only
  rw [old b hb (fun e=>by subst e; rw [hp1] at hi; cases hi) (fun e=>by subst e; rw [hp2] at hi; cases hi)]
  exact h.ext.imm b hb hi
 ·try dsimp only
  rw [old b (hk0.lt_of (by rw [hb]; simp)) (fun e=>by subst e; rw [hp1] at hb; cases hb) (fun e=>by subst e; rw [hp2] at hb; cases hb)]
  exact h.ext.tok b n o hb
 ·try dsimp only
  rw [old b (hk0.lt_of (by rw [hb]; simp)) (fun e=>by subst e; rw [hp1] at hb; cases hb) (fun e=>by subst e; rw [hp2] at hb; cases hb)]
  exact h.own b n hb
 ·try dsimp only at hb
  split at hb
  ·rename_i e; subst e; exact .inr ⟨hD,hD2⟩
  ·split at hb
   ·cases hb
   ·rename_i hn
    rcases h.new b n hb with h1 | ⟨rfl,h1⟩
    ·exact .inl h1
    ·refine (hn ?_).elim
     rcases h1 with h1 | h1 | h1
     ·exact .inl h1
     ·exact .inr (.inl h1)
     ·exact .inr (.inr ⟨h1,hb⟩)
 ·refine h.st.re (fun b hc h1 h2=>?_) (fun b hb=>?_) fun b o hm hp=>?_
  ·try dsimp only
   rw [if_neg (fun e=>by subst e; rw [hDc] at hc; cases hc),if_neg]
   rintro (e | e | ⟨_,e⟩)
   ·subst e; exact h2 h.s1
   ·subst e; exact h2 h.s2
   ·exact h2 e
  ·try dsimp only
   have hle := h.ext.size
   rw [if_neg (by omega),if_neg]
   ·exact h.st.krel b hb
   ·rintro (e | e | ⟨_,e⟩)
    ·omega
    ·omega
    ·rw [h.st.krel b hb] at e; cases e
  ·try dsimp only
   rw [if_neg (fun e=>by subst e; rw [h.st.hrel.isC hm] at hDc; cases hDc),if_neg]
   ·exact hp
   ·rintro (e | e | ⟨_,e⟩)
    ·subst e; rw [h.s1] at hp; cases hp
    ·subst e; rw [h.s2] at hp; cases hp
    ·rw [e] at hp; cases hp
 ·obtain ⟨Ds,d1,d2,d3⟩ := hm
  have hlt : ∀ D' ∈ Ds,D' < w.heap.size := fun D' hD'=>(Array.getElem?_eq_some_iff.1 (d3 D' hD').2.2).1
  refine ⟨D :: Ds,List.nodup_cons.2 ⟨fun hm=>by have := hlt D hm; omega,d1⟩,by rw [d2]; rfl,fun D' hD'=>?_⟩
  rcases List.mem_cons.1 hD' with rfl | hD'
  ·exact ⟨Nat.le_trans hs hD,by simp,hD2⟩
  ·obtain ⟨q1,q2,q3⟩ := d3 D' hD'
   refine ⟨q1,?_,(h.own _ _ q2).2.trans q3⟩
   try dsimp only
   rw [old D' (hlt D' hD') (fun e=>by subst e; rw [hp1] at q2; cases q2) (fun e=>by subst e; rw [hp2] at q2; cases q2)]
   exact (h.own _ _ q2).1
end
def wt (len k : Nat) : Nat := (len + k - 1) / k
def w7 (a : Option Addr) (len k j : Nat) : Value := sliced a (j * k) (j * k + min k (len - j * k)) (j * k + min k (len - j * k)) 1
def KpB (b1 b2 : Nat) (W W' : World) : Prop := W'.cell? ⟨b1,0,none⟩ = W.cell? ⟨b1,0,none⟩ ∧ W'.cell? ⟨b2,0,none⟩ = W.cell? ⟨b2,0,none⟩
def ItC (P : Program) (f : FuncId) : Prop := (∀ args w,(callFunc f args).run P w = .ok (.enter f args) w) ∧ ∀ (n : Nat) (a : Option Addr) (len cap k b1 b2 : Nat) (w : World),1 ≤ n → 0 < k → k ≤ 1000 → len ≤ cap → cap ≤ maxLen → len ≤ big →
 b1 < w.heap.size → b2 < w.heap.size → w.cell? ⟨b1,0,none⟩ = some (.slice a len cap) → w.cell? ⟨b2,0,none⟩ = some (.int .i64 k) →
 SeqStopsK Fence.wide n P f #[.pointer (some ⟨b1,0,none⟩),.pointer (some ⟨b2,0,none⟩)] (fun j : Fin (wt len k)=>#[w7 a len k j.val]) (KpB b1 b2) (fun js=>js.map Fin.val = List.range (wt len k)) (fun _=>True) (wt len k) w
def jM (xs : List (List D)) (k j : Nat) : List (List D) := (xs.drop (j * k)).take k
theorem YX {len k j : Nat} (hk : 0 < k) (h : j < wt len k) : j * k < len := by
 unfold wt at h
 have := (Nat.le_div_iff_mul_le hk).1 h
 rw [Nat.succ_mul] at this
 omega
theorem KS {K : Nat → BK} {w : World} {ys : List (List D)} {a : Option Addr} {n c c' : Nat} (h : RepV K w (.slc ys) (.slice a n c)) (h1 : n ≤ c') (h2 : c' ≤ c) : RepV K w (.slc ys) (.slice a n c') := by
 cases h with
 | slcnil a =>
  obtain rfl : c' = 0 := by omega
  exact .slcnil a
 | slc xs b off cap sz f hb hc hm hs hv hcell hone hrep=>exact .slc ys b off c' sz f hb h1 (by omega) hs hv hcell hone hrep
theorem Wh {K : Nat → BK} {w : World} {xs : List (List D)} {a : Option Addr} {len cap k j : Nat} (hr : RepV K w (.slc xs) (.slice a len cap)) (hx : ∀ y ∈ xs,y.length = 1) (hk : 0 < k) (hj : j < wt xs.length k) : RepV K w (.slc (jM xs k j)) (w7 a xs.length k j) := by
 have hlt := YX hk hj
 obtain ⟨e1,e2,h3⟩ := YP hr 1 (fun i x hi=>hx x (List.mem_of_getElem? hi)) (l := j * k) (h := j * k + min k (xs.length - j * k)) (by omega) (by omega)
 unfold sliced at h3
 rw [if_neg (by omega)] at h3
 unfold w7 sliced
 rw [if_neg (by omega)]
 have hl : (xs.take (j * k + min k (xs.length - j * k))).drop (j * k) = jM xs k j := by
  unfold jM
  rw [List.drop_take,List.take_eq_take_iff,List.length_drop]
  omega
 rw [hl] at h3
 exact KS h3 (Nat.le_refl _) (by omega)
theorem asg_in {P : Program} {asg : Code} {p t : Tmp} (h : Kc asg = some (p,t)) {l n : Nat} {a : Act} {W : World} {K : Act → World → Prop} (hK : K (a.put (some t) (a.eval (.tmp p))) W) : asg.wpIn (Fence.wide.inRound l) n P (Exit.then K (fun _ _ _=>False)) a W := by
 unfold Kc at h
 split at h
 ·rename_i id ops
  split at h
  ·rename_i o hops
   split at h
   ·rename_i p' t' ho hd hg
    cases h
    refine wpIn_region_list ?_
    rw [hops]
    unfold wpListIn
    rw [if_pos (by simp [Region.wanted,hg])]
    refine UA (by simp [o7,ho]) ?_
    unfold Oper.wp
    rw [show (execOp a.eval o).run P W = .ok (.value (a.eval (.tmp p))) W by simp [execOp,ho]]
    simp only [Oper.upon,hd]
    exact hK
   ·cases h
  ·cases h
 ·cases h
theorem XRF.chunk {P : Program} (hm : P.follows .mixedOrders = true) {f : FuncId} (hit : ItC P f) {s p t : Tmp} {x : XC} {F : List D} {H : AH} {Q : AQ} {b1 b2 k : Nat} {xs : List (List D)} (hg : rv F (.tmp s) = .fn f [.ptr b1 0,.ptr b2 0]) (hp : p < F.length)
  (e1 : qK H b1 = some (.cells [.slc xs])) (e2 : qK H b2 = some (.cells [.int .i64 k])) (hk : 0 < k) (hk2 : k ≤ 1000) (hx : ∀ y ∈ xs,y.length = 1) (Inv : List Nat → AH → Prop) (H0 : AH) (hsb : Sbn H0 (jB (jB H b1) b2)) (h0 : Inv [] H0)
  (hbody : ∀ (pre : List Nat) (j : Nat) (H' : AH),Inv pre H' → j < wt xs.length k → pre.length < wt xs.length k → fact (.slc (jM xs k j)) → xcode P x (((F.map D.view).set p (.slc (jM xs k j))).set t (.slc (jM xs k j))) H' (uV (fun _ H''=>∃ H3,Sbn H3 H'' ∧ Inv (pre ++ [j]) H3) (fun _ _ _=>False)))
  (hdone : ∀ H',Inv (List.range (wt xs.length k)) H' → Q .normal (F.map D.view) H') : XRF P (.tmp s) p t x F H Q := by
 intro ps asg c hps hasg hc ho hv hib hdb K w a s0 hs hd
 obtain ⟨vs,hev,hsz,hvs⟩ := (hg ▸ hs.rep (x := .tmp s) rfl).fn_inv rfl
 have hvs2 : vs = #[.pointer (some ⟨b1,0,none⟩),.pointer (some ⟨b2,0,none⟩)] := by
  have hz : vs.size = 2 := hsz
  have q0 := (hvs 0 _ _ rfl (Array.getElem?_eq_getElem (show 0 < vs.size by omega))).ptr_inv
  have q1 := (hvs 1 _ _ rfl (Array.getElem?_eq_getElem (show 1 < vs.size by omega))).ptr_inv
  apply Array.ext
  ·simpa using hz
  ·intro i h1 h2
   have h3 : i < 2 := by simpa using h2
   obtain rfl | rfl : i = 0 ∨ i = 1 := by omega
   ·exact q0
   ·exact q1
 obtain ⟨hp1,c1,T1,hh1,hz1,hr1⟩ := hs.hrel.ok b1 _ (jp e1)
 obtain ⟨hp2,c2,T2,hh2,hz2,hr2⟩ := hs.hrel.ok b2 _ (jp e2)
 obtain ⟨u1,hu1,_,hru1⟩ := hr1 0 _ rfl
 obtain ⟨u2,hu2,_,hru2⟩ := hr2 0 _ rfl
 have hru1' : RepV K w (.slc xs) u1 := hru1
 obtain ⟨a0,cap,rfl,hlc,hcm⟩ := hru1'.slc_form
 obtain ⟨rfl,_⟩ := (show RepV K w (.int .i64 k) u2 from hru2).int_inv
 have hb1 := (Array.getElem?_eq_some_iff.1 hh1).1
 have hb2 := (Array.getElem?_eq_some_iff.1 hh2).1
 have hcell1 : w.cell? ⟨b1,0,none⟩ = some (.slice a0 xs.length cap) := by rw [y5 hh1]; exact hu1
 have hcell2 : w.cell? ⟨b2,0,none⟩ = some (.int .i64 k) := by rw [y5 hh2]; exact hu2
 obtain rfl : ps = #[p] := by
  apply Array.ext'
  simpa using hps
 have hvv : ∀ d ∈ F.map D.view,d.view = d := fun d hd=>by
  obtain ⟨d0,_,rfl⟩ := List.mem_map.1 hd
  exact Wa d0
 refine (wpIn_wide (n := 3)).1 (wpIn_rangeFunc_ownG (α := Fin (wt xs.length k)) (by rfl) (by omega) (hev.trans (by rw [hvs2])) trivial hit.1 (hit.2 (3 - 1) a0 xs.length cap k b1 b2 w (by omega) hk hk2 hlc hcm hru1'.slc_big hb1 hb2 hcell1 hcell2)
  (fun h1 h2=>⟨h2.1.trans h1.1,h2.2.trans h1.2⟩) (fun W l o o' hl hW _ _=>⟨jz (World.putObj_heap_other (by omega)) 0,jz (World.putObj_heap_other (by omega)) 0⟩) (Below.refl _ _) (fun _=>rfl)
  (fun (pre : List (Fin (wt xs.length k))) W=>∃ K1 H1,Inv (pre.map Fin.val) H1 ∧ LI K w b1 b2 (F.map D.view) a.tmps K1 W H1) (fun _ _ _=>False)
  (fun pre W W' row ⟨K1,H1,g1,g2⟩ hgr hrow=>⟨_,H1,g1,g2.grow hs.krel hb1 hb2 hgr hrow⟩) (fun _ _ _ _ _ h _ _=>h)
  (let ⟨K1,h⟩ := LI.start hs e1 e2 hp1 hp2 hsb; ⟨K1,H0,h0,h⟩)
  (fun j=>{ tmps := (a.tmps.setIfInBounds p (w7 a0 xs.length k j.val)).setIfInBounds t (w7 a0 xs.length k j.val),defers := [] }) ?_ ?_ ?_ ?_)
 ·intro l j W Kk hK
  refine asg_in hasg ?_
  have he : Act.eval { tmps := a.tmps.setIfInBounds p (w7 a0 xs.length k j.val),defers := [] } (.tmp p) = w7 a0 xs.length k j.val := by
   have hlt : p < a.tmps.size := by rw [hs.len]; exact hp
   simp [Act.eval,hlt]
  have hz : (Array.zip #[p] #[w7 a0 xs.length k j.val]).foldl (fun t (p,v)=>t.setIfInBounds p v) a.tmps = a.tmps.setIfInBounds p (w7 a0 xs.length k j.val) := by simp
  dsimp only
  rw [hz,he]
  exact hK
 ·rintro l pre j W ⟨K1,H1,g1,g2⟩ hlen
  have hrep : RepV K1 W (.slc (jM xs k j.val)) (w7 a0 xs.length k j.val) := Wh (RepV.mono g2.ext hru1') hx hk j.isLt
  refine wpIn_mono (vP hm x c _ H1 _ hib hdb hc ho hv (fun _ _ h=>h) (hbody (pre.map Fin.val) j.val H1 g1 j.isLt (by simpa using hlen) hrep.fact) K1 W _ ((g2.st.setP hrep).setP hrep)) fun e a' W' ⟨F',H',K',q1,q2,q3⟩=>?_
  cases e with
  | normal =>
   obtain ⟨H3,q4,q5⟩ := q1
   refine ⟨⟨q2.ext.size,fun b o hB hb hcl=>?_⟩,⟨jz (q2.own _ _ g2.s1).2 0,jz (q2.own _ _ g2.s2).2 0⟩,_,H3,by simpa using q5,g2.round hs.krel hvv hb1 hb2 q2 q3 q4⟩
   refine (q2.own b 0 (g2.sealed b hB (Array.getElem?_eq_some_iff.1 hb).1 ?_)).2.trans hb
   unfold isC
   rw [hb]
   cases o <;> first | rfl | (simp [Obj.isCells] at hcl)
  | _=>exact q1.elim
 ·rintro D' js W hD hS ⟨K1,H1,g1,g2⟩ hW
  rw [hS] at g1
  obtain ⟨K',q1,q2,q3⟩ := g2.finish hs.krel hb1 hb2 hp1 hp2 hD hW hd.1 hd.2
  exact ⟨_,H1,K',hdone H1 g1,q1,q2,Nat.le_trans hd.1 q1.ext.size,q3⟩
 ·intro D' c' pre W _ _ h
  exact h.elim
theorem XRF.chunkK {P : Program} (hm : P.follows .mixedOrders = true) {f : FuncId} (hit : ItC P f) {s p t : Tmp} {x : XC} {F : List D} {H : AH} {Q : AQ} {b1 b2 k : Nat} {xs : List (List D)} (hg : rv F (.tmp s) = .fn f [.ptr b1 0,.ptr b2 0]) (hp : p < F.length)
  (e1 : qK H b1 = some (.cells [.slc xs])) (e2 : qK H b2 = some (.cells [.int .i64 k])) (hk : 0 < k) (hk2 : k ≤ 1000) (hx : ∀ y ∈ xs,y.length = 1) (Inv : List Nat → AH → Prop) (H0 : AH) (hsb : Sbn H0 (jB (jB H b1) b2)) (h0 : Inv [] H0)
  (hbody : ∀ (pre : List Nat) (j : Nat) (H' : AH),Inv pre H' → j < wt xs.length k → pre.length < wt xs.length k → fact (.slc (jM xs k j)) → ∀ K : AQ,(∀ F' H'' H3,Sbn H3 H'' → Inv (pre ++ [j]) H3 → K .normal F' H'') → xcode P x (((F.map D.view).set p (.slc (jM xs k j))).set t (.slc (jM xs k j))) H' K)
  (hdone : ∀ H',Inv (List.range (wt xs.length k)) H' → Q .normal (F.map D.view) H') : XRF P (.tmp s) p t x F H Q :=
 XRF.chunk hm hit hg hp e1 e2 hk hk2 hx Inv H0 hsb h0 (fun pre j H' h1 h2 h3 h4=>hbody pre j H' h1 h2 h3 h4 _ fun F' H'' H3 g1 g2=>⟨H3,g1,g2⟩) hdone
end Go.Aw
end
