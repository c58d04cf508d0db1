/- A part of the proof of what the last text says: Aw10, AwN. Conditions: those in each theorem. -/
import Derived.Test.YtffbjejmobhpkaaE4
import Derived.RangeFuncRecord
set_option linter.unusedVariables false
set_option linter.unusedSimpArgs false
set_option maxRecDepth 100000
set_option maxHeartbeats 16000000
open Nat renaming reduceSub → qa,reduceAdd → qb,reduceMul → qc,reduceEqDiff → qd,reduceLeDiff → qe,reduceBEq → qf
section
namespace Go.Aw
open Go Go.RowKit
section
variable {P : Program} {ops : List Oper} {o : Oper} {F : List D} {H : AH} {k : List D → AH → Prop} {K : Nat → BK} {w : World} {a : Act} {Q : Exit → Act → World → Prop}
theorem repC_O {i : Nat} {d : D} {v : Value} (h : RepC K w (.slot i 0) d v) : RepO K w i d v := by
  cases d <;> first | exact RepV.viewO h | exact h
theorem run_extract {vs : Array Value} {ix : Nat} {v : Value} (h : vs[ix]? = some v) : (Instr.extract (.tuple vs) ix).run P w = .ok v w := by
  simp [Instr.extract,h]
theorem stp_extract (hs : St K w F H a.tmps) {s ix : Nat} (ho : o.op = .extract (.tmp s) ix) (h : aop P ops o F H k) : o.wp P a w (OKd k K w a.defers) Q := by
  simp only [aop,ho] at h
  split at h
  · rename_i d ds hd hev
    split at h
    · rename_i c hc
      have hlt : s < F.length := by
        rcases Nat.lt_or_ge s F.length with h' | h'
        · exact h'
        · simp [ev,List.getD,List.getElem?_eq_none h'] at hev
      have hF : F[s]? = some (.tup ds) := by
        have : F[s]? = some (ev F (.tmp s)) := by simp [ev,List.getD,List.getElem?_eq_getElem hlt]
        rw [this,hev]
      have hts : s < a.tmps.size := by rw [hs.len]; exact hlt
      have hT : a.tmps[s]? = some (a.eval (.tmp s)) := by simp [Act.eval,Array.getElem?_eq_getElem hts]
      obtain ⟨vs,hv,hl,hh⟩ := hs.slot s _ _ hF hT
      have hix : ix < vs.size := by rw [hl]; exact (List.getElem?_eq_some_iff.1 hc).1
      have hvi : vs[ix]? = some vs[ix] := Array.getElem?_eq_getElem hix
      have hrc := hh ix c _ hc hvi
      have hrun : (execOp a.eval o).run P w = .ok (.value vs[ix]) w := by
        simp only [execOp,ho,hv,Sem.run_bind,run_extract hvi,Result.andThen_ok]
        rfl
      split at h
      · -- what it owns goes along
        let φ := mvφ (.slot s (ix + 1)) (.slot d 0)
        have hfk : FK K w (relab φ K) w := mv_fk (by simp) (by simp)
        refine wp_of_value hrun ⟨_,H,relab φ K,h hrc.rep.fact,hfk,⟨relab_krel hs.krel,mv_hrel (by simp) hs.hrel,by rw [hd]; simpa [Act.put] using hs.len,fun i x v hx hv'=>?_⟩,put_defers _ _⟩
        rw [hd] at hv'
        simp only [Act.put] at hv'
        rcases getElem?_set_some hx with ⟨rfl,rfl,hl'⟩ | ⟨hne,hx⟩
        · rw [Array.getElem?_setIfInBounds_self_of_lt (by rw [hs.len]; simpa using hl')] at hv'
          obtain rfl := Option.some.inj hv'
          have hcv := RepC.conv (o' := .slot d 0) (relab_ext φ K w) (fun b n hb=>by rw [relab_tok hb]; simp [φ,mvφ]) hrc
          exact repC_O hcv
        · rw [Array.getElem?_setIfInBounds_ne hne] at hv'
          rcases getElem?_set_some hx with ⟨rfl,rfl,hl'⟩ | ⟨hne2,hx⟩
          · rw [hT] at hv'
            obtain rfl := Option.some.inj hv'
            refine ⟨vs,hv,by simpa using hl,fun j d' u hd' hu=>?_⟩
            rcases getElem?_set_some hd' with ⟨rfl,rfl,_⟩ | ⟨hne3,hd'⟩
            · rw [hvi] at hu
              obtain rfl := Option.some.inj hu
              exact (RepV.mono (relab_ext φ K w) hrc.rep).repC (fun xs e=>by cases c <;> simp [D.view1] at e)
            · exact (hh j d' u hd' hu).conv (relab_ext φ K w) (fun b n hb=>by
                rw [relab_tok hb]
                simp only [φ,mvφ,BK.tok.injEq,true_and]
                rw [if_neg]
                intro e
                injection e with _ e
                omega)
          · exact (hs.slot i x v hx hv').conv (relab_ext φ K w) (fun b n j hb=>by
              rw [relab_tok hb]
              simp only [φ,mvφ,BK.tok.injEq,true_and]
              rw [if_neg]
              intro e
              injection e with e _
              exact hne2 e.symm)
      · refine wp_of_value hrun ⟨_,H,K,h hrc.rep.fact,.refl K w,?_,put_defers _ _⟩
        rw [hd]
        exact hs.put ((Pres.refl K w).keep hs.krel) (fun _ _ h=>h) hs.krel hs.hrel (some d) (fun i _=>hrc.rep.viewO)
    · exact h.elim
  · exact h.elim
theorem new_box (hs : St K w F H a.tmps) (t : TypeId) (c : Array Value) (cs : List D) (hc : c.size = cs.length)
    (hr : ∀ (j : Nat) (d : D),cs[j]? = some d → ∃ u,c[j]? = some u ∧ u.oneCell' = true ∧ (RepV K w d u ∨ (∃ x,d = .own [] ∧ u = .slice x 0 0))) (dst : Option Tmp) :
    ∃ K',FK K w K' (w.alloc (.cells c t)) ∧ St K' (w.alloc (.cells c t)) (putF F dst (.ptr w.heap.size 0)) ((w.heap.size,.cells cs) :: H) (a.put dst (.pointer (some ⟨w.heap.size,0,none⟩))).tmps := by
  obtain ⟨hp,hk'⟩ := pres_alloc (K := K) (w := w) hs.krel (.cells c t) (x := .priv) (by simp)
  refine ⟨_,hp.fk hs.krel,hs.put (hp.keep hs.krel) (fun _ _ h=>h) hk' ?_ dst (fun i _=>RepV.viewO (.ptr _ _))⟩
  have hold := hs.hrel.pres hs.krel hp
  refine ⟨?_,fun b o hm=>?_⟩
  · simp only [List.map_cons,List.nodup_cons]
    refine ⟨fun hm=>?_,hold.nd⟩
    rw [List.mem_map] at hm
    obtain ⟨⟨b,o⟩,h1,h2⟩ := hm
    have := hs.hrel.lt hs.krel h1
    simp only [] at h2
    omega
  · rcases List.mem_cons.1 hm with h | h
    · injection h with h1 h2
      subst h1 h2
      refine ⟨setK_same _ _ _,c,t,heap_alloc_new w _,hc,fun j d hd=>?_⟩
      obtain ⟨u,e1,e2,e3⟩ := hr j d hd
      refine ⟨u,e1,e2,?_⟩
      rcases e3 with e3 | ⟨x,rfl,rfl⟩
      · exact (RepV.mono (hp.keep hs.krel).ext e3).repC (fun xs e=>by subst e; exact e3.not_own)
      · exact .inl ⟨rfl,x,rfl⟩
    · exact hold.ok b o h
theorem stp_alloc (hs : St K w F H a.tmps) {t : TypeId} (ho : o.op = .alloc t) (h : aop P ops o F H k) : o.wp P a w (OKd k K w a.defers) Q := by
  simp only [aop,ho] at h
  split at h
  · rename_i z hz
    obtain ⟨i,zv,hi,hzv,z1,z2,z3,z4⟩ := zcI_spec hz
    obtain ⟨K',h1,h2⟩ := new_box hs t zv.cells z z1 (fun j d hd=>by
      have hj : j < zv.cells.size := by rw [z1]; exact (List.getElem?_eq_some_iff.1 hd).1
      have hu := Array.getElem?_eq_getElem hj
      obtain ⟨e1,e2⟩ := z3 j _ hu
      refine ⟨_,hu,e1,?_⟩
      have hcd := constD_rep (K := K) (w := w) (o := .outer) e2
      have hd' := z4 j d _ hd hu
      subst hd'
      generalize hcc : constD zv.cells[j] = cc at hcd
      cases cc with
      | own xs =>
        right
        unfold constD at hcc
        split at hcc <;> first
          | (injection hcc with hcc
             subst hcc
             exact ⟨none,rfl,by assumption⟩)
          | (exact absurd hcc (by simp))
      | _=>exact .inl hcd) o.dst
    refine wp_of_value (w' := w.alloc (.cells zv.cells t)) ?_ ⟨_,_,K',h _ (hs.hrel.fresh hs.krel),h1,h2,put_defers _ _⟩
    simp [execOp,ho,Instr.alloc,zeroValue,typeInfo,hi,hzv,newVar,newRow]
  · exact h.elim
theorem stp_box (hs : St K w F H a.tmps) (hok : opOk o = true) {t : TypeId} {x : Operand} (ho : o.op = .box t x) (h : aop P ops o F H k) : o.wp P a w (OKd k K w a.defers) Q := by
  simp only [aop,ho] at h
  obtain ⟨hc,h⟩ := h
  have hx : opndOk x = true := by
    unfold opOk at hok
    simp only [ho,Op.operands,Bool.and_eq_true] at hok
    simpa using hok.1
  obtain ⟨c1,c2,c3⟩ := cells_rep (hs.rep hx) hc
  obtain ⟨K',h1,h2⟩ := new_box hs t (a.eval x).cells _ c1 (fun j d hd=>by
    have hj : j < (a.eval x).cells.size := by rw [c1]; exact (List.getElem?_eq_some_iff.1 hd).1
    have hu := Array.getElem?_eq_getElem hj
    exact ⟨_,hu,c2 j _ hu,.inl (c3 j d _ hd hu)⟩) o.dst
  refine wp_of_value (w' := w.alloc (.cells (a.eval x).cells t)) ?_ ⟨_,_,K',h _ (hs.hrel.fresh hs.krel),h1,h2,put_defers _ _⟩
  simp [execOp,ho,Instr.box,newVar,newRow]
theorem keys_set {b : Nat} {x : AO} : ∀ {H : AH},(setH H b x).map (·.1) = H.map (·.1)
  | []=>rfl
  | (c,o) :: r=>by
    simp only [setH]
    split
    · rfl
    · simp only [List.map_cons,keys_set]
theorem mem_set {b : Nat} {x : AO} : ∀ {H : AH},(H.map (·.1)).Nodup → ∀ {b' : Nat} {o' : AO},(b',o') ∈ setH H b x → (b' = b ∧ o' = x) ∨ (b' ≠ b ∧ (b',o') ∈ H)
  | [],_,b',o',h=>by simp [setH] at h
  | (c,o) :: r,hn,b',o',h=>by
    simp only [List.map_cons,List.nodup_cons] at hn
    simp only [setH] at h
    split at h
    · rename_i e
      subst e
      rcases List.mem_cons.1 h with h' | h'
      · injection h' with h1 h2; exact .inl ⟨h1,h2⟩
      · refine .inr ⟨fun e=>?_,.tail _ h'⟩
        subst e
        exact hn.1 (List.mem_map.2 ⟨_,h',rfl⟩)
    · rename_i e
      rcases List.mem_cons.1 h with h | h
      · injection h with h1 h2; subst h1 h2; exact .inr ⟨Ne.symm e,.head _⟩
      · rcases mem_set hn.2 h with h | ⟨h1,h2⟩
        · exact .inl h
        · exact .inr ⟨h1,.tail _ h2⟩
theorem set_box {b off : Nat} {cs cs' : List D} {vs : List Value} (hk : KRel K w) (hh : HRel K w H) (hg : getH H b = some (.cells cs)) {K' : Nat → BK} (hfk : FK K w K' w) (hK' : KRel K' w) (hpriv : ∀ b',K b' = .priv → K' b' = .priv) (hcell : ∀ b' n c j,K b' = .tok n (.cell c j) → K' b' = .tok n (.cell c j))
    (hfit : off + vs.length ≤ cs.length) (h1 : ∀ v ∈ vs,v.oneCell' = true) (hlen : cs'.length = cs.length)
    (hold : ∀ (j : Nat) (d : D),cs'[j]? = some d → (j < off ∨ off + vs.length ≤ j) → cs[j]? = some d)
    (hnew : ∀ (j : Nat) (d : D) (u : Value),cs'[off + j]? = some d → vs[j]? = some u → RepC K' w (.cell b (off + j)) d u) :
    ∃ c' T,(storeCells ⟨b,off,none⟩ vs).run P w = .ok () (w.setRow b c') ∧ w.heap[b]? ≠ none ∧ FK K w K' (w.setRow b c') ∧ KRel K' (w.setRow b c') ∧ HRel K' (w.setRow b c') (setH H b (.cells cs')) ∧ Keep noE (fun x=>x = b) K' w K' (w.setRow b c') ∧ T = b := by
  obtain ⟨hpb,c,T,hb,hc,hr⟩ := hh.ok b _ (getH_mem hg)
  have hrun := run_storeCells_at P b off T vs 0 c w hb (by simpa [hc] using hfit) h1
  simp only [Nat.add_zero] at hrun
  generalize hcc : (c.toList.take off ++ vs ++ c.toList.drop (off + vs.length)).toArray = c' at hrun
  have hsame := setRow_heap w b c c' T (0,0) hb
  have hoth : ∀ b',b' ≠ b → (w.setRow b c').heap[b']? = w.heap[b']? := fun b' h=>setRow_other w b b' c' h
  have hpb' : K' b = .priv := hpriv b hpb
  have hkeep : Keep noE (fun x=>x = b) K' w K' (w.setRow b c') := by
    refine ⟨⟨rfl,rfl,⟨rfl,Nat.le_refl _⟩,by simp,fun b' _ hi=>⟨hi,hoth b' (fun e=>by subst e; rw [hpb'] at hi; cases hi)⟩,fun b' n o hb' _=>⟨n,o,hb',Nat.le_refl _,fun j _=>cell_of_block (hoth b' (fun e=>by subst e; rw [hpb'] at hb'; cases hb')) j⟩,fun b' h=>.inl h⟩,
      fun b' n o hb' _=>⟨hb',hoth b' (fun e=>by subst e; rw [hpb'] at hb'; cases hb')⟩,fun b' n h=>h,fun b' hb' hne=>⟨hb',hoth b' hne⟩⟩
  have hcs' : c'.size = cs'.length := by
    rw [← hcc,hlen,← hc]
    simp only [List.size_toArray,List.length_append,List.length_take,List.length_drop,Array.length_toList]
    omega
  have hget : ∀ j,c'[j]? = if j < off then c[j]? else if j < off + vs.length then vs[j - off]? else c[j]? := fun j=>by
    rw [← hcc]
    simp only [List.getElem?_toArray]
    have hl1 : (c.toList.take off).length = off := by simp; omega
    by_cases a1 : j < off
    · rw [if_pos a1,List.append_assoc,List.getElem?_append_left (by rw [hl1]; exact a1),List.getElem?_take,if_pos a1]; simp
    · rw [if_neg a1,List.append_assoc,List.getElem?_append_right (by rw [hl1]; omega),hl1]
      by_cases a2 : j < off + vs.length
      · rw [if_pos a2,List.getElem?_append_left (by omega)]
      · rw [if_neg a2,List.getElem?_append_right (by omega),List.getElem?_drop]
        simp only [Array.getElem?_toList]
        congr 1
        omega
  have hhK' : HRel K' w H := hh.conv hfk.ext hpriv hcell
  refine ⟨c',b,hrun,by rw [hb]; simp,hfk.trans (hkeep.fk (fun h=>h)),fun b' hb'=>hK' b' (by simpa using hb'),⟨by rw [keys_set]; exact hh.nd,fun b' o' hm=>?_⟩,hkeep,rfl⟩
  rcases mem_set hh.nd hm with ⟨rfl,rfl⟩ | ⟨hne,hm⟩
  · refine ⟨hpb',c',T,hsame,hcs',fun j d hd=>?_⟩
    by_cases hj : j < off ∨ off + vs.length ≤ j
    · obtain ⟨u,e1,e2,e3⟩ := hr j d (hold j d hd hj)
      refine ⟨u,?_,e2,((e3.conv (o' := .cell b' j) hfk.ext (fun b'' n hb''=>hcell b'' n _ _ hb'')).keep hkeep (fun h=>h))⟩
      rw [hget]
      rcases hj with hj | hj
      · rw [if_pos hj]; exact e1
      · rw [if_neg (by omega),if_neg (by omega)]; exact e1
    · have hj1 : off ≤ j := by omega
      have hj2 : j - off < vs.length := by omega
      have hu := List.getElem?_eq_getElem hj2
      have hd' : cs'[off + (j - off)]? = some d := by rw [show off + (j - off) = j by omega]; exact hd
      have := hnew (j - off) d _ hd' hu
      rw [show off + (j - off) = j by omega] at this
      refine ⟨_,?_,h1 _ (List.mem_of_getElem? hu),this.keep hkeep (fun h=>h)⟩
      rw [hget,if_neg (by omega),if_pos (by omega)]
      exact hu
  · exact (AO.keep hkeep hne (fun _ h=>h) (hhK'.ok b' o' hm))
end
end Go.Aw
end
section
namespace Go.Aw
open Go Go.RowKit
section
variable {P : Program} {ops : List Oper} {o : Oper} {F : List D} {H : AH} {k : List D → AH → Prop} {K : Nat → BK} {w : World} {a : Act} {Q : Exit → Act → World → Prop}
theorem stp_makeMap (hs : St K w F H a.tmps) {t : TypeId} {r : Option Operand} (ho : o.op = .makeMap t r) (h : aop P ops o F H k) : o.wp P a w (OKd k K w a.defers) Q := by
 simp only [aop,ho,mkmO] at h
 obtain ⟨rfl,h⟩ := h
 obtain ⟨hp,hk'⟩ := pres_alloc (K := K) (w := w) hs.krel (.map #[] 0) (x := .priv) (by simp)
 refine wp_of_value (w' := w.alloc (.map #[] 0)) (v := .map (some w.heap.size)) ?_ ⟨_,_,_,h _ (hs.hrel.fresh hs.krel),hp.fk hs.krel,hs.put (hp.keep hs.krel) (fun _ _ h=>h) hk' ?_ o.dst (fun i _=>RepV.viewO (.mp _)),put_defers _ _⟩
 ·simp only [execOp,ho,Option.map_none,Instr.makeMap]
  rfl
 ·have hold := hs.hrel.pres hs.krel hp
  refine ⟨?_,fun b o hm=>?_⟩
  ·simp only [List.map_cons,List.nodup_cons]
   refine ⟨fun hm=>?_,hold.nd⟩
   rw [List.mem_map] at hm
   obtain ⟨⟨b,o⟩,h1,h2⟩ := hm
   have := hs.hrel.lt hs.krel h1
   simp only [] at h2
   omega
  ·rcases List.mem_cons.1 hm with h | h
   ·injection h with h1 h2
    subst h1 h2
    exact ⟨setK_same _ _ _,#[],heap_alloc_new w _,rfl,fun j p hj=>by simp at hj⟩
   ·exact hold.ok b o h
theorem set_map {b : Nat} {es es' : List (D × D)} {c' : Array MapEntry} (hk : KRel K w) (hh : HRel K w H) (hg : getH H b = some (.mp es)) (hlen : c'.size = es'.length)
  (hr : ∀ (j : Nat) (p : D × D),es'[j]? = some p → ∃ e : MapEntry,c'[j]? = some e ∧ e.born = j ∧ RepV K w p.1 e.key ∧ RepV K w p.2 e.val) :
  Keep noE (fun x=>x = b) K w K (w.putObj b (.map c' c'.size)) ∧ KRel K (w.putObj b (.map c' c'.size)) ∧ HRel K (w.putObj b (.map c' c'.size)) (setH H b (.mp es')) := by
 obtain ⟨hpb,c,hb,_,_⟩ := hh.ok b _ (getH_mem hg)
 have hlt : b < w.heap.size := (Array.getElem?_eq_some_iff.1 hb).1
 have hoth : ∀ b',b' ≠ b → (w.putObj b (.map c' c'.size)).heap[b']? = w.heap[b']? := fun b' h=>World.putObj_heap_other h
 have hsz : (w.putObj b (.map c' c'.size)).heap.size = w.heap.size := by simp [World.putObj]
 have hkeep : Keep noE (fun x=>x = b) K w K (w.putObj b (.map c' c'.size)) :=
  ⟨⟨rfl,rfl,⟨rfl,Nat.le_refl _⟩,Nat.le_of_eq hsz.symm,fun b' _ hi=>⟨hi,hoth b' (fun e=>by subst e; rw [hpb] at hi; cases hi)⟩,fun b' n o hb' _=>⟨n,o,hb',Nat.le_refl _,fun j _=>cell_of_block (hoth b' (fun e=>by subst e; rw [hpb] at hb'; cases hb')) j⟩,fun b' h=>.inl h⟩,
   fun b' n o hb' _=>⟨hb',hoth b' (fun e=>by subst e; rw [hpb] at hb'; cases hb')⟩,fun b' n h=>h,fun b' hb' hne=>⟨hb',hoth b' hne⟩⟩
 refine ⟨hkeep,fun b' hb'=>hk b' (by omega),by rw [keys_set]; exact hh.nd,fun b' o' hm=>?_⟩
 rcases mem_set hh.nd hm with ⟨rfl,rfl⟩ | ⟨hne,hm⟩
 ·refine ⟨hpb,c',World.putObj_heap_same hlt,hlen,fun j p hj=>?_⟩
  obtain ⟨e,e1,e2,e3,e4⟩ := hr j p hj
  exact ⟨e,e1,e2,e3.mono hkeep.ext,e4.mono hkeep.ext⟩
 ·exact AO.keep hkeep hne (fun _ h=>h) (hh.ok b' o' hm)
theorem sameBits_flat : ∀ {l : List CT} {us vs : List Value},fitsV l us → fitsV l vs → sameKV us vs → eqVs us vs = true → vs.length = us.length ∧ ∀ n,∀ p ∈ vs.zip us,Instr.sameBits n p.1 p.2 = true
 | [],[],[],_,_,_,_=>⟨rfl,fun n p hp=>by simp at hp⟩
 | c :: l,u :: us,v :: vs,h1,h2,h3,h4=>by
  have go : fitsV l us → fitsV l vs → sameKV us vs → eqVs us vs = true → (∀ n,Instr.sameBits n v u = true) → (v :: vs).length = (u :: us).length ∧ ∀ n,∀ p ∈ (v :: vs).zip (u :: us),Instr.sameBits n p.1 p.2 = true := fun a1 a2 a3 a4 a5=>by
   obtain ⟨g1,g2⟩ := sameBits_flat a1 a2 a3 a4
   refine ⟨by simp [g1],fun n p hp=>?_⟩
   rcases List.mem_cons.1 hp with rfl | hp
   ·exact a5 n
   ·exact g2 n p hp
  simp only [eqVs,Bool.and_eq_true] at h4
  cases c <;> cases u <;> simp only [fitsV] at h1 <;> first | exact h1.elim | skip
  all_goals (cases v <;> simp only [fitsV] at h2 <;> first | exact h2.elim | skip)
  ·simp only [sameKV] at h3
   refine go h1 h2 h3.2 h4.2 fun n=>?_
   have := h4.1
   simp only [eqV] at this
   rw [beq_iff_eq] at this
   cases n <;> simp [Instr.sameBits,h3.1,this]
  ·refine go h1 h2 h3 h4.2 fun n=>?_
   have := h4.1
   simp only [eqV,beq_iff_eq] at this
   cases n <;> simp [Instr.sameBits,this]
  ·refine go h1 h2 h3 h4.2 fun n=>?_
   have := h4.1
   simp only [eqV,beq_iff_eq] at this
   cases n <;> simp [Instr.sameBits,beq_toListBytes,this]
 | [],[],_ :: _,_,h,_,_=>by simp [fitsV] at h
 | [],_ :: _,_,h,_,_,_=>by simp [fitsV] at h
 | c :: _,[],_,h,_,_,_=>by cases c <;> simp [fitsV] at h
 | c :: _,_ :: _,[],_,h,_,_=>by cases c <;> simp [fitsV] at h
theorem idxD_hit : ∀ {es : List (D × D)} {k : List D} {i : Nat},idxD es k = some i → ∃ p,es[i]? = some p ∧ eqCells k (cellsOf p.1) = true
 | p :: r,k,i,h=>by
  simp only [idxD] at h
  split at h
  ·rename_i hc
   cases h; exact ⟨p,rfl,hc⟩
  ·obtain ⟨j,h1,rfl⟩ := Option.map_eq_some_iff.1 h
   obtain ⟨q,g1,g2⟩ := idxD_hit h1
   exact ⟨q,by simpa using g1,g2⟩
theorem updD_idx : ∀ (es : List (D × D)) (d v : D),updD es d v = match idxD es (cellsOf d) with
  | some i=>es.set i (d,v)
  | none=>es ++ [(d,v)]
 | [],d,v=>rfl
 | p :: r,d,v=>by
  simp only [updD,idxD]
  split
  ·rfl
  ·rw [updD_idx r d v]
   cases idxD r (cellsOf d) <;> rfl
theorem run_find {t : TypeId} {ag : Bool} {l : List CT} {z : D} (hm : mpI P t = some (ag,l,z)) {es : List (D × D)} {c : Array MapEntry} {d : D} {v : Value} {b n : Nat}
  (hb : w.heap[b]? = some (.map c n)) (hlen : c.size = es.length) (hr : RepV K w d v) (hk : keysOk ag l es d) (hc : ∀ (j : Nat) (p : D × D),es[j]? = some p → ∃ e : MapEntry,c[j]? = some e ∧ e.born = j ∧ RepV K w p.1 e.key ∧ RepV K w p.2 e.val) :
  ∃ kt et,P.underlying t = some (.map kt et) ∧ zD P et = some z ∧ (getObj b).run P w = .ok (.map c n) w ∧ (Instr.checkKey false 10000 kt v).run P w = .ok () w ∧
   (Instr.findKey kt v c.toList).run P w = .ok ((idxD es (cellsOf d)).bind fun j=>(c[j]?).map fun e=>(j,e.val)) w ∧
   ∀ j,idxD es (cellsOf d) = some j → ∃ e p,c[j]? = some e ∧ es[j]? = some p ∧ e.born = j ∧ RepV K w p.2 e.val ∧ (Instr.keyThatStays e.key v).run P w = .ok v w := by
 obtain ⟨kt,et,hu,hl,hz,rfl⟩ := mpI_spec hm
 obtain ⟨k1,k2,k3⟩ := hk
 obtain ⟨vs,h1,h2,h3,h4⟩ := val_mkV (P := P) (t := kt) hr k1 k2 (flat_one hl)
 have hkey : ∀ (j : Nat) (p : D × D) (e : MapEntry),es[j]? = some p → c[j]? = some e → RepV K w p.1 e.key := fun j p e hp he=>by
  obtain ⟨e',g1,_,g3,_⟩ := hc j p hp
  rw [he] at g1; cases g1; exact g3
 have hfk := run_findKey_flat hl hr k1 k2 es c.toList (by simpa using hlen) k3 (fun j p e hj he=>hkey j p e hj (by simpa using he))
 refine ⟨kt,et,hu,hz,?_,by rw [h1]; exact run_checkKey_flat false 8 10000 kt l hl (by decide) vs w h3,?_,fun j hj=>?_⟩
 ·unfold getObj
  simp only [Sem.run,hb]
 ·rw [hfk]; simp
 ·obtain ⟨p,hp,hq⟩ := idxD_hit hj
  obtain ⟨e,g1,g2,g3,g4⟩ := hc j p hp
  refine ⟨e,p,g1,hp,g2,g4,?_⟩
  obtain ⟨b1,b2,b3⟩ := k3 p (List.mem_of_getElem? hp)
  obtain ⟨us,q1,q2,q3,q4⟩ := val_mkV (P := P) (t := kt) g3 b1 b2 (flat_one hl)
  obtain ⟨hev,hsk⟩ := eqVs_of k2 b2 b3 h2 q2 h4 q4
  obtain ⟨s1,s2⟩ := sameBits_flat h3 q3 hsk (hev.trans hq)
  have hsb : Instr.sameBits 10000 e.key v = true := by
   rw [h1,q1]
   cases ha : isAggB P kt
   ·have hl1 := flat_one hl ha
    have e1 := fitsV_len h3
    have e2 := fitsV_len q3
    match vs,us,(e1.trans hl1),(e2.trans hl1),s2 with
    | [x],[y],_,_,s2=>simpa [mkV,ha] using s2 10000 (y,x) (.head _)
   ·simp only [mkV,ha,if_true,Instr.sameBits,List.size_toArray,Bool.and_eq_true,beq_iff_eq]
    exact ⟨s1,List.all_eq_true.2 fun x hx=>s2 _ x hx⟩
  simp [Instr.keyThatStays,hsb]
theorem run_setMap {b n m : Nat} {c c' : Array MapEntry} (hb : w.heap[b]? = some (.map c n)) : (setObj b (.map c' m)).run P w = .ok () (w.putObj b (.map c' m)) := by
 simp [setObj,Sem.run,hb,World.putObj]
theorem upd_rep {es : List (D × D)} {c : Array MapEntry} {d x : D} {v u : Value} (hlen : c.size = es.length) (hc : ∀ (j : Nat) (p : D × D),es[j]? = some p → ∃ e : MapEntry,c[j]? = some e ∧ e.born = j ∧ RepV K w p.1 e.key ∧ RepV K w p.2 e.val)
  (hd : RepV K w d v) (hx : RepV K w x u) :
  (∀ i,idxD es (cellsOf d) = some i → ∀ e,c[i]? = some e → ∀ c' : Array MapEntry,c'.size = c.size → (∀ j,c'[j]? = if j = i then some { e with key := v,val := u } else c[j]?) →
   c'.size = (updD es d x).length ∧ ∀ (j : Nat) (p : D × D),(updD es d x)[j]? = some p → ∃ e : MapEntry,c'[j]? = some e ∧ e.born = j ∧ RepV K w p.1 e.key ∧ RepV K w p.2 e.val) ∧
  (idxD es (cellsOf d) = none → (c.push { key := v,val := u,born := c.size }).size = (updD es d x).length ∧ ∀ (j : Nat) (p : D × D),(updD es d x)[j]? = some p → ∃ e : MapEntry,(c.push { key := v,val := u,born := c.size })[j]? = some e ∧ e.born = j ∧ RepV K w p.1 e.key ∧ RepV K w p.2 e.val) := by
 constructor
 ·intro i hi e he c' hs hg
  rw [updD_idx,hi]
  refine ⟨by simp [hs,hlen],fun j p hj=>?_⟩
  rw [List.getElem?_set] at hj
  rw [hg]
  split at hj
  ·rename_i hij
   split at hj
   ·cases hj
    obtain ⟨p,hp,_⟩ := idxD_hit hi
    obtain ⟨e',g1,g2,_⟩ := hc i p hp
    rw [he] at g1; cases g1
    exact ⟨_,by rw [if_pos hij.symm],by rw [← hij]; exact g2,hd,hx⟩
   ·cases hj
  ·rename_i hij
   rw [if_neg (Ne.symm hij)]
   exact hc j p hj
 ·intro hn
  rw [updD_idx,hn]
  refine ⟨by simp [hlen],fun j p hj=>?_⟩
  rw [List.getElem?_append] at hj
  rw [Array.getElem?_push]
  split at hj
  ·rename_i hlt
   rw [if_neg (by omega)]
   exact hc j p hj
  ·rename_i hge
   have hj0 : j - es.length = 0 := by
    have := (List.getElem?_eq_some_iff.1 hj).1
    simp at this
    omega
   rw [hj0] at hj
   cases hj
   rw [if_pos (by omega)]
   exact ⟨_,rfl,by simp only []; omega,hd,hx⟩
theorem opnd3 {o : Oper} {x y z : Operand} (hok : opOk o = true) (h : o.op.operands = #[x,y,z]) : opndOk x = true ∧ opndOk y = true ∧ opndOk z = true := by
 unfold opOk at hok
 simp only [h,Bool.and_eq_true] at hok
 simpa using hok.1
theorem opnd2 {o : Oper} {x y : Operand} (hok : opOk o = true) (h : o.op.operands = #[x,y]) : opndOk x = true ∧ opndOk y = true := by
 unfold opOk at hok
 simp only [h,Bool.and_eq_true] at hok
 simpa using hok.1
theorem stp_mapUpdate (hs : St K w F H a.tmps) (hok : opOk o = true) {t : TypeId} {m i v : Operand} (ho : o.op = .mapUpdate t m i v) (h : aop P ops o F H k) : o.wp P a w (OKd k K w a.defers) Q := by
 simp only [aop,ho,mupO] at h
 obtain ⟨om,oi,ov⟩ := opnd3 hok (show o.op.operands = #[m,i,v] by rw [ho]; rfl)
 split at h
 ·rename_i ag l z b hm hmp
  split at h
  ·rename_i es hg
   obtain ⟨hko,h⟩ := h
   have hmv : a.eval m = .map (some b) := (hmp ▸ hs.rep om).mp_inv
   obtain ⟨_,c,hb,hlen,hc⟩ := hs.hrel.ok b _ (getH_mem hg)
   obtain ⟨kt,et,hu,hz,q1,q2,q3,q4⟩ := run_find (P := P) hm hb hlen (hs.rep oi) hko hc
   obtain ⟨u1,u2⟩ := upd_rep (x := rv F v) hlen hc (hs.rep oi) (hs.rep ov)
   have fin : ∀ c' : Array MapEntry,(Instr.mapUpdate t (a.eval m) (a.eval i) (a.eval v)).run P w = .ok () (w.putObj b (.map c' c'.size)) → c'.size = (updD es (rv F i) (rv F v)).length ∧ (∀ (j : Nat) (p : D × D),(updD es (rv F i) (rv F v))[j]? = some p → ∃ e : MapEntry,c'[j]? = some e ∧ e.born = j ∧ RepV K w p.1 e.key ∧ RepV K w p.2 e.val) →
     o.wp P a w (OKd k K w a.defers) Q := fun c' hrun ⟨r1,r2⟩=>by
    obtain ⟨s1,s2,s3⟩ := set_map hs.krel hs.hrel hg r1 r2
    refine wp_of_skip (w' := w.putObj b (.map c' c'.size)) ?_ ⟨_,_,K,h,s1.fk (fun h=>h),hs.put s1 (fun _ _ h=>h) s2 s3 o.dst (fun i _=>RepV.viewO (.tup [] #[] rfl (fun j d u hd=>by simp at hd))),put_defers _ _⟩
    simp only [execOp,ho,Sem.run_bind,hrun,Result.andThen_ok]
    rfl
   cases hix : idxD es (cellsOf (rv F i)) with
   | some j =>
    obtain ⟨e,p,p1,p2,p3,p4,p5⟩ := q4 j hix
    refine fin (c.modify j fun _=>{ e with key := a.eval i,val := a.eval v }) ?_ (u1 j hix e p1 _ (by simp) (fun q=>?_))
    ·unfold Instr.mapUpdate
     simp only [hmv,Sem.run_bind,run_underlying hu,Result.andThen_ok,q1,q2,q3,hix,Option.bind_some,p1,Option.map_some,Option.getD_some,p5]
     rw [run_setMap hb]
     have : (c.modify j fun e=>{ e with key := a.eval i,val := a.eval v }) = c.modify j fun _=>{ e with key := a.eval i,val := a.eval v } := by
      apply Array.ext
      ·simp
      ·intro q h1 h2
       simp only [Array.getElem_modify]
       split
       ·rename_i hq
        subst hq
        have := (Array.getElem?_eq_some_iff.1 p1).2
        rw [this]
       ·rfl
     rw [this]
     simp
    ·rw [Array.getElem?_modify]
     by_cases hq : j = q
     ·subst hq; simp [p1]
     ·rw [if_neg hq,if_neg (Ne.symm hq)]
   | none =>
    refine fin (c.push { key := a.eval i,val := a.eval v,born := c.size }) ?_ (u2 hix)
    unfold Instr.mapUpdate
    simp only [hmv,Sem.run_bind,run_underlying hu,Result.andThen_ok,q1,q2,q3,hix,Option.bind_none]
    rw [run_setMap hb]
    simp
  ·exact h.elim
 ·exact h.elim
theorem stp_mapEntry (hs : St K w F H a.tmps) (hok : opOk o = true) {t : TypeId} {m i : Operand} (ho : o.op = .mapEntry t m i) (h : aop P ops o F H k) : o.wp P a w (OKd k K w a.defers) Q := by
 simp only [aop,ho,menO] at h
 obtain ⟨om,oi⟩ := opnd2 hok (show o.op.operands = #[m,i] by rw [ho]; rfl)
 split at h
 ·rename_i ag l z b hm hmp
  split at h
  ·rename_i es hg
   obtain ⟨hko,hbg,h⟩ := h
   have hmv : a.eval m = .map (some b) := (hmp ▸ hs.rep om).mp_inv
   obtain ⟨_,c,hb,hlen,hc⟩ := hs.hrel.ok b _ (getH_mem hg)
   obtain ⟨kt,et,hu,hz,q1,q2,q3,q4⟩ := run_find (P := P) hm hb hlen (hs.rep oi) hko hc
   obtain ⟨inf,zv,hi,hzv,hzr⟩ := zD_spec hz
   have hzero : (zeroValue et).run P w = .ok zv w := by simp [zeroValue,typeInfo,hi,hzv]
   have fin : ∀ (c' : Array MapEntry) (d : D) (x : Value) (n : Nat),RepV K w d x → (lookD es (cellsOf (rv F i))).getD z = d → (idxD es (cellsOf (rv F i))).getD es.length = n → inR .i64 n →
     (Instr.mapEntry t (a.eval m) (a.eval i)).run P w = .ok (.tuple #[x,.int .i64 n]) (w.putObj b (.map c' c'.size)) → c'.size = (updD es (rv F i) d).length ∧ (∀ (j : Nat) (p : D × D),(updD es (rv F i) d)[j]? = some p → ∃ e : MapEntry,c'[j]? = some e ∧ e.born = j ∧ RepV K w p.1 e.key ∧ RepV K w p.2 e.val) →
     o.wp P a w (OKd k K w a.defers) Q := fun c' d x n hx hd hn hin hrun ⟨r1,r2⟩=>by
    rw [hd,hn] at h
    obtain ⟨s1,s2,s3⟩ := set_map hs.krel hs.hrel hg r1 r2
    refine wp_of_value (w' := w.putObj b (.map c' c'.size)) (v := .tuple #[x,.int .i64 n]) ?_ ⟨_,_,K,h,s1.fk (fun h=>h),hs.put s1 (fun _ _ h=>h) s2 s3 o.dst (fun i _=>RepV.viewO (RepV.tup [d,.int .i64 n] #[x,.int .i64 n] rfl (fun j d' u hd' hu'=>?_))),put_defers _ _⟩
    ·simp only [execOp,ho,Sem.run_bind,hrun,Result.andThen_ok]
     rfl
    ·match j with
     | 0=>simp at hd' hu'; subst hd' hu'; exact hx.mono s1.ext
     | 1=>simp at hd' hu'; subst hd' hu'; exact .int _ _ hin
     | j + 2=>simp at hd'
   have hin : ∀ n,n ≤ c.size → inR .i64 n := fun n hn=>by
    unfold inR
    simp only [Lit.wf,IntKind.min,IntKind.max,IntKind.signed,IntKind.bits,Bool.and_eq_true,decide_eq_true_eq]
    simp
    omega
   cases hix : idxD es (cellsOf (rv F i)) with
   | some j =>
    obtain ⟨e,p,p1,p2,p3,p4,p5⟩ := q4 j hix
    have hl : (lookD es (cellsOf (rv F i))).getD z = p.2 := by rw [lookD_idx,hix]; simp [p2]
    have hjc := (Array.getElem?_eq_some_iff.1 p1).1
    refine fin (c.modify j fun _=>{ e with key := a.eval i,val := e.val }) p.2 e.val j p4 hl (by rw [hix]; rfl) (hin j (by omega)) ?_ ((upd_rep hlen hc (hs.rep oi) p4).1 j hix e p1 _ (by simp) (fun q=>?_))
    ·unfold Instr.mapEntry
     simp only [hmv,Sem.run_bind,run_underlying hu,Result.andThen_ok,q1,q2,q3,hix,Option.bind_some,p1,Option.map_some,Option.getD_some,p5]
     rw [run_setMap hb]
     have : (c.modify j fun e=>{ e with key := a.eval i }) = c.modify j fun _=>{ e with key := a.eval i,val := e.val } := by
      apply Array.ext
      ·simp
      ·intro q h1 h2
       simp only [Array.getElem_modify]
       split
       ·rename_i hq
        subst hq
        have := (Array.getElem?_eq_some_iff.1 p1).2
        rw [this]
       ·rfl
     rw [this]
     simp [goInt,p3]
    ·rw [Array.getElem?_modify]
     by_cases hq : j = q
     ·subst hq; simp [p1]
     ·rw [if_neg hq,if_neg (Ne.symm hq)]
   | none =>
    refine fin (c.push { key := a.eval i,val := zv,born := c.size }) z zv es.length (hzr K w) (by rw [lookD_idx,hix]; rfl) (by rw [hix]; rfl) (hin _ (by omega)) ?_ ((upd_rep hlen hc (hs.rep oi) (hzr K w)).2 hix)
    unfold Instr.mapEntry
    simp only [hmv,Sem.run_bind,run_underlying hu,Result.andThen_ok,q1,q2,q3,hix,Option.bind_none,hzero]
    rw [run_setMap hb]
    simp [goInt,hlen]
  ·exact h.elim
 ·exact h.elim
theorem stp_lookS (hs : St K w F H a.tmps) (hok : opOk o = true) {t : TypeId} {m i : Operand} {ok : Bool} (ho : o.op = .lookup t m i ok) (h : lookO P false t H (rv F m) (rv F i) ok fun d=>k (putF F o.dst d) H) : o.wp P a w (OKd k K w a.defers) Q := by
 obtain ⟨om,oi⟩ := opnd2 hok (show o.op.operands = #[m,i] by rw [ho]; rfl)
 obtain ⟨d,hd,hrun⟩ := look_any h hs.krel hs.hrel (hs.rep om) (hs.rep oi)
 obtain ⟨u,h1,h2⟩ := hrun K w _ _ hs.hrel (hs.rep om) (hs.rep oi)
 refine wp_of_value (w' := w) (v := u) ?_ ⟨_,_,K,hd,.refl K w,hs.put ((Pres.refl K w).keep hs.krel) (fun _ _ h=>h) hs.krel hs.hrel o.dst (fun i _=>h2.viewO),put_defers _ _⟩
 simp only [execOp,ho,Sem.run_bind,h1,Result.andThen_ok]
 rfl
theorem stp_entryStore (hs : St K w F H a.tmps) (hok : opOk o = true) {t : TypeId} {m s v : Operand} (ho : o.op = .entryStore t m s v) (h : aop P ops o F H k) : o.wp P a w (OKd k K w a.defers) Q := by
 simp only [aop,ho,mesO] at h
 obtain ⟨om,oi,ov⟩ := opnd3 hok (show o.op.operands = #[m,s,v] by rw [ho]; rfl)
 split at h
 ·rename_i b n hmp hsp
  split at h
  ·rename_i es hg
   obtain ⟨h0,h1,h⟩ := h
   obtain ⟨j,rfl⟩ : ∃ j : Nat,n = j := ⟨n.toNat,by omega⟩
   rw [Int.toNat_natCast] at h
   have hmv : a.eval m = .map (some b) := (hmp ▸ hs.rep om).mp_inv
   have hsv := (hsp ▸ hs.rep oi).int_inv.1
   obtain ⟨_,c,hb,hlen,hc⟩ := hs.hrel.ok b _ (getH_mem hg)
   have hjl : j < es.length := by omega
   have hgo : (getObj b).run P w = .ok (.map c c.size) w := by
    unfold getObj
    simp only [Sem.run,hb]
   have hfind : c.findIdx? (fun e=>(e.born : Int) == (j : Int)) = some j := by
    rw [Array.findIdx?_eq_some_iff_getElem]
    refine ⟨by omega,?_,fun q hq=>?_⟩
    ·obtain ⟨e,e1,e2,_⟩ := hc j _ (List.getElem?_eq_getElem hjl)
     rw [(Array.getElem?_eq_some_iff.1 e1).2,e2]
     simp
    ·obtain ⟨e,e1,e2,_⟩ := hc q _ (List.getElem?_eq_getElem (by omega))
     rw [(Array.getElem?_eq_some_iff.1 e1).2,e2]
     simp
     omega
   obtain ⟨s1,s2,s3⟩ := set_map (c' := c.modify j fun e=>{ e with val := a.eval v }) (es' := setV es j (rv F v)) hs.krel hs.hrel hg (by simp [setV,hlen]) (fun q p hp=>by
    unfold setV at hp
    rw [List.getElem?_modify] at hp
    obtain ⟨p',hp1,hp2⟩ := Option.map_eq_some_iff.1 hp
    obtain ⟨e,e1,e2,e3,e4⟩ := hc q p' hp1
    rw [Array.getElem?_modify]
    by_cases hq : j = q
    ·subst hq
     simp only [if_true] at hp2
     subst hp2
     exact ⟨{ e with val := a.eval v },by rw [if_pos rfl,e1]; rfl,e2,e3,hs.rep ov⟩
    ·rw [if_neg hq]
     simp only [if_neg hq,id_eq] at hp2
     subst hp2
     exact ⟨e,e1,e2,e3,e4⟩)
   refine wp_of_skip (w' := w.putObj b (.map (c.modify j fun e=>{ e with val := a.eval v }) (c.modify j fun e=>{ e with val := a.eval v }).size)) ?_ ⟨_,_,K,h,s1.fk (fun h=>h),hs.put s1 (fun _ _ h=>h) s2 s3 o.dst (fun i _=>RepV.viewO (.tup [] #[] rfl (fun j d u hd=>by simp at hd))),put_defers _ _⟩
   have hrun : (Instr.entryStore t (a.eval m) (a.eval s) (a.eval v)).run P w = .ok () (w.putObj b (.map (c.modify j fun e=>{ e with val := a.eval v }) c.size)) := by
    unfold Instr.entryStore
    simp only [hmv,hsv,Sem.run_bind,hgo,Result.andThen_ok,asInt,asIntOf,Sem.run_pure,hfind]
    exact run_setMap hb
   simp only [execOp,ho,Sem.run_bind,hrun,Result.andThen_ok,Array.size_modify]
   rfl
  ·exact h.elim
 ·exact h.elim
theorem zc_get {z : Array Value} {n sz j : Nat} (hz : z.size = sz) (hp : 0 < sz) (h : j < n * sz) : (Builtin.zeroCells z n)[j]? = z[j % sz]? := by
 have hm : j % sz < z.size := by rw [hz]; exact Nat.mod_lt _ hp
 unfold Builtin.zeroCells
 rw [Array.getElem?_map,Array.getElem?_range,hz,if_pos h,Option.map_some,getElem!_pos z _ hm]
 exact (Array.getElem?_eq_getElem hm).symm
theorem flat_rep {α : Type} {l : List α} (hp : 0 < l.length) : ∀ (n j : Nat),j < n * l.length → (List.replicate n l).flatten[j]? = l[j % l.length]?
 | 0,j,h=>by simp at h
 | n + 1,j,h=>by
  rw [List.replicate_succ,List.flatten_cons,List.getElem?_append]
  split
  ·rename_i hlt
   rw [Nat.mod_eq_of_lt hlt]
  ·rename_i hge
   have hj : j - l.length < n * l.length := by rw [Nat.succ_mul] at h; omega
   rw [flat_rep hp n (j - l.length) hj,Nat.mod_eq_sub_mod (a := j) (b := l.length) (by omega)]
theorem stp_clear (hs : St K w F H a.tmps) (hok : opOk o = true) {c : Call} (ho : o.op = .call c) (hf : c.callee = .builtin .clear) (h : aop P ops o F H k) : o.wp P a w (OKd k K w a.defers) Q := by
 simp only [aop,ho,hf,clrO] at h
 split at h
 ·rename_i b off n t ha ht
  split at h
  ·rename_i e sz hsl
   split at h
   ·rename_i z cs hz hg
    obtain ⟨hzl,hfit,h⟩ := h
    obtain ⟨hu,hpos,i,hi,his⟩ := slI_spec hsl
    obtain ⟨x,hx,hxd⟩ : ∃ x,c.args = #[x] ∧ rv F x = .hso b off n := by
     obtain ⟨x,h1,h2⟩ := List.map_eq_singleton_iff.1 ha
     exact ⟨x,by apply Array.ext'; simpa using h1,h2⟩
    have hox : opndOk x = true := by
     unfold opOk at hok
     simp only [ho,hx,Bool.and_eq_true] at hok
     simpa using hok.2
    obtain ⟨cap,hv,hp,_,_,_⟩ := (hxd ▸ hs.rep hox).hso_inv
    obtain ⟨i',zv,hi',hzv,z1,z2,z3,z4⟩ := zcI_spec hz
    have htt : c.argTypes = #[t] := one_type ht
    have hzs : zv.cells.size = sz := by omega
    have hlen : (Builtin.zeroCells zv.cells n).toList.length = n * sz := by rw [Array.length_toList,size_zeroCells,hzs]
    have hget : ∀ (j : Nat) (u : Value),(Builtin.zeroCells zv.cells n).toList[j]? = some u → j < n * sz ∧ zv.cells[j % sz]? = some u := fun j u hu=>by
     have hj : j < n * sz := by rw [← hlen]; exact (List.getElem?_eq_some_iff.1 hu).1
     refine ⟨hj,?_⟩
     rw [← zc_get hzs hpos hj,← Array.getElem?_toList]
     exact hu
    obtain ⟨c',T,q1,q2,q3,q4,q5,q6,_⟩ := set_box (cs' := cs.take off ++ ((List.replicate n (z.map D.view1)).flatten ++ cs.drop (off + n * sz))) (vs := (Builtin.zeroCells zv.cells n).toList) (P := P) (off := off) hs.krel hs.hrel hg (K' := K) (.refl K w) hs.krel (fun _ h=>h) (fun _ _ _ _ h=>h)
     (by rw [hlen]; exact hfit) (fun v hv=>by
      obtain ⟨j,hj⟩ := List.mem_iff_getElem?.1 hv
      exact (z3 _ _ (hget j v hj).2).1)
     (by simp [hzl]; omega) (fun j d hd hj=>by
      rw [hlen] at hj
      rw [List.getElem?_append] at hd
      have hto : (cs.take off).length = off := by simp; omega
      split at hd
      ·rename_i hlt
       rw [List.getElem?_take] at hd
       split at hd
       ·exact hd
       ·cases hd
      ·rename_i hge
       rw [hto] at hge hd
       rw [List.getElem?_append_right (by simp [hzl]; omega)] at hd
       rw [List.getElem?_drop] at hd
       simp only [List.length_flatten,List.map_replicate,List.length_map,List.sum_replicate_nat,hzl] at hd
       rw [show off + n * sz + (j - off - n * sz) = j by omega] at hd
       exact hd)
     (fun j d u hd hu=>by
      obtain ⟨hj,hu'⟩ := hget j u hu
      have hto : (cs.take off).length = off := by simp; omega
      rw [List.getElem?_append_right (by omega),hto,show off + j - off = j by omega,List.getElem?_append_left (by simp [hzl]; omega)] at hd
      rw [flat_rep (by simp; omega) n j (by simp [hzl]; exact hj)] at hd
      simp only [List.length_map,hzl,List.getElem?_map] at hd
      obtain ⟨d',hd',rfl⟩ := Option.map_eq_some_iff.1 hd
      obtain rfl := z4 _ d' u hd' hu'
      have hr := (constD_rep (K := K) (w := w) (o := .outer) (z3 _ _ hu').2).rep
      exact hr.repC (fun xs e=>by rw [e] at hr; exact hr.not_own))
    have hzero : (zeroValue e).run P w = .ok zv w := by
     rw [hi] at hi'; cases hi'
     simp [zeroValue,typeInfo,hi,hzv]
    refine wp_of_value (w' := w.setRow b c') (v := .tuple #[]) ?_ ⟨_,_,K,h,q3,hs.put (q6) (fun _ _ h=>h) q4 q5 o.dst (fun i _=>RepV.viewO (.tup [] #[] rfl (fun j d u hd=>by simp at hd))),put_defers _ _⟩
    have hrun : (Builtin.clear_ #[t] o.type #[.slice (some ⟨b,off,none⟩) n cap]).run P w = .ok (.tuple #[]) (w.setRow b c') := by
     have hn : n ≠ 0 := by omega
     unfold Builtin.clear_
     simp only [List.getElem?_toArray,List.getElem?_cons_zero,Sem.run_bind,run_underlying hu,Result.andThen_ok]
     obtain ⟨n',rfl⟩ : ∃ n',n = n' + 1 := ⟨n - 1,by omega⟩
     simp only [Sem.run_bind,hzero,Result.andThen_ok,q1,Sem.run_pure]
    simp only [execOp,ho,resolve,hf,hx,htt,Sem.run_bind,Sem.run_pure,Result.andThen_ok,invoke,builtin,List.map_toArray,List.map_cons,List.map_nil,hv,hrun]
   ·exact h.elim
  ·exact h.elim
 ·exact h.elim
end
end Go.Aw
end
