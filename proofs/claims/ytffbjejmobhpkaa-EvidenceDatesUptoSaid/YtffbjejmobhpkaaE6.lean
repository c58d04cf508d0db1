/- A part of the proof of what the last text says: Aw11, Aw12. Conditions: those in each theorem. -/
import Derived.Test.YtffbjejmobhpkaaE5
import Derived.Still
set_option linter.unusedVariables false
set_option linter.unusedSimpArgs false
set_option maxRecDepth 100000
set_option maxHeartbeats 16000000
open Nat renaming reduceSub → qa,reduceAdd → qb,reduceMul → qc,reduceEqDiff → qd,reduceLeDiff → qe,reduceBEq → qf
section
namespace Go.Aw
open Go Go.RowKit
section
variable {P : Program} {ops : List Oper} {o : Oper} {F : List D} {H : AH} {k : List D → AH → Prop} {K : Nat → BK} {w : World} {a : Act} {Q : Exit → Act → World → Prop}
theorem run_store_agg {t : TypeId} {n b off : Nat} {ag : Bool} (ht : tyI P t = some (ag,n)) {v : Value} (hn : v.cells.size = n) {w' : World} (h : (storeCells ⟨b,off,none⟩ v.cells.toList).run P w = .ok () w') :
  (Instr.storeAt t (.pointer (some ⟨b,off,none⟩)) v).run P w = .ok () w' := by
 obtain ⟨h1,h2⟩ := tyI_spec ht
 simp [Instr.storeAt,Instr.sureAddr,storeVar,h2,hn,h]
theorem rep_one {d : D} {v : Value} {i : Nat} (h : RepO K w i d v) (h1 : one1 d = true) : v.oneCell' = true ∧ v.cells = #[v] := by
 cases d <;> simp [one1] at h1
 case own xs=>rcases h with ⟨_,a,rfl⟩ | ⟨_,_,_,_,_,rfl,_⟩ <;> exact ⟨rfl,rfl⟩
 all_goals (cases h <;> exact ⟨rfl,rfl⟩)
theorem repO_C {i : Nat} {d : D} {v : Value} (h : RepO K w i d v) (h1 : one1 d = true) : RepC K w (.slot i 0) d v := by
 cases d <;> simp [one1] at h1 <;> exact h
theorem slot_of (hs : St K w F H a.tmps) {s : Nat} {d : D} (hev : ev F (.tmp s) = d) (hd : d ≠ .any) : F[s]? = some d ∧ a.tmps[s]? = some (a.eval (.tmp s)) := by
 have hlt : s < F.length := by
  rcases Nat.lt_or_ge s F.length with h' | h'
  ·exact h'
  ·simp [ev,List.getD,List.getElem?_eq_none h'] at hev
   exact (hd hev.symm).elim
 have hts : s < a.tmps.size := by rw [hs.len]; exact hlt
 refine ⟨?_,by simp [Act.eval,Array.getElem?_eq_getElem hts]⟩
 have : F[s]? = some (ev F (.tmp s)) := by simp [ev,List.getD,List.getElem?_eq_getElem hlt]
 rw [this,hev]
theorem stp_store (hs : St K w F H a.tmps) (hok : opOk o = true) {t : TypeId} {x y : Operand} (ho : o.op = .store t x y) (h : aop P ops o F H k) : o.wp P a w (OKd k K w a.defers) Q := by
 simp only [aop,ho] at h
 have hx : opndOk x = true ∧ opndOk y = true := by
  unfold opOk at hok
  simp only [ho,Op.operands,Bool.and_eq_true] at hok
  simpa using hok.1
 split at h
 ·rename_i n b off ht hp
  split at h
  ·rename_i cs hg
   obtain ⟨hc,hn,hfit,h⟩ := h
   have hv := (hp ▸ hs.rep hx.1).ptr_inv
   obtain ⟨c1,c2,c3⟩ := cells_rep (hs.rep hx.2) hc
   have hsz : (a.eval y).cells.size = n := by rw [c1,hn]
   obtain ⟨c',T,hrun,_,hfk,hk',hh',hkeep,_⟩ := set_box (P := P) (off := off) (cs' := cs.take off ++ (cellsOf (rv F y) ++ cs.drop (off + n))) (vs := (a.eval y).cells.toList) hs.krel hs.hrel hg (.refl K w) hs.krel (fun _ h=>h) (fun _ _ _ _ h=>h)
    (by simp; omega) (fun v hm=>by
     obtain ⟨j,hj,he⟩ := List.mem_iff_getElem.1 hm
     exact c2 j v (by rw [← he]; simp at hj ⊢)) (by simp; omega)
    (fun j d hd hj=>by
     simp only [Array.length_toList,hsz] at hj
     rcases hj with hj | hj
     ·rw [List.getElem?_append_left (by simp; omega),List.getElem?_take,if_pos hj] at hd; exact hd
     ·have hl1 : (cs.take off).length = off := by simp; omega
      rw [List.getElem?_append_right (by rw [hl1]; omega),hl1,List.getElem?_append_right (by omega),List.getElem?_drop] at hd
      rw [← hd]; congr 1; omega)
    (fun j d u hd hu=>by
     have hj : j < n := by rw [← hsz]; simpa using (List.getElem?_eq_some_iff.1 hu).1
     have hl1 : (cs.take off).length = off := by simp; omega
     rw [List.getElem?_append_right (by rw [hl1]; omega),hl1,show off + j - off = j by omega,List.getElem?_append_left (by omega)] at hd
     exact (c3 j d u hd (by simpa using hu)).repC (fun xs e=>by subst e; exact (c3 j _ u hd (by simpa using hu)).not_own))
   have hst := run_store_agg (P := P) ht hsz hrun
   refine wp_of_skip (w' := w.setRow b c') ?_ ⟨_,_,K,h,hfk,hs.put (E := noE) (B := fun x=>x = b) hkeep (fun _ _ h=>h) hk' hh' o.dst (fun i _=>RepV.viewO (.tup [] #[] rfl (fun j d u hd=>by simp at hd))),put_defers _ _⟩
   simp only [execOp,ho,hv,Sem.run_bind,hst,Result.andThen_ok]
   rfl
  ·exact h.elim
 ·rename_i n b off ht hp
  split at h
  ·rename_i cs hg
   obtain ⟨rfl,hoff,h1,hdst,h⟩ := h
   have hv := (hp ▸ hs.rep hx.1).ptr_inv
   have main : ∃ K',FK K w K' w ∧ KRel K' w ∧ (∀ b',K b' = .priv → K' b' = .priv) ∧ (∀ b' n c j,K b' = .tok n (.cell c j) → K' b' = .tok n (.cell c j)) ∧ RepC K' w (.cell b off) (ev F y) (a.eval y) ∧ (a.eval y).oneCell' = true ∧ (a.eval y).cells = #[a.eval y] ∧
     ∃ F',(∀ H',(match y with | .tmp s=>k (F.set s (rv F y)) H' | _=>k F H') → k F' H') ∧ F'.length = F.length ∧ ∀ (i : Nat) (d : D) (v : Value),F'[i]? = some d → a.tmps[i]? = some v → RepO K' w i d v := by
    cases y with
    | tmp s =>
     obtain ⟨hF,hT⟩ := slot_of hs (s := s) rfl (fun e=>by rw [e] at h1; simp [one1] at h1)
     have hr := hs.slot s _ _ hF hT
     obtain ⟨o1,o2⟩ := rep_one hr h1
     let φ := mvφ (.slot s 0) (.cell b off)
     have hcv := RepC.conv (o' := .cell b off) (relab_ext φ K w) (fun b' n hb'=>by rw [relab_tok hb']; simp [φ,mvφ]) (repO_C hr h1)
     refine ⟨relab φ K,mv_fk (by simp) (by simp),relab_krel hs.krel,fun b' h=>relab_priv.2 h,fun b' n c j hb'=>by rw [relab_tok hb']; simp [φ,mvφ],hcv,o1,o2,F.set s (rv F (.tmp s)),fun H' h=>h,by simp,fun i d v hd hv=>?_⟩
     rcases getElem?_set_some hd with ⟨rfl,rfl,_⟩ | ⟨hne,hd⟩
     ·rw [hT] at hv
      obtain rfl := Option.some.inj hv
      exact (RepV.mono (relab_ext φ K w) hr.rep).viewO
     ·exact mv_repO (fun j e=>by injection e with e _; exact hne e) (hs.slot i d v hd hv)
    | const c =>
     have hr := constD_rep (K := K) (w := w) (o := .cell b off) hx.2
     have hr0 := constD_repO (K := K) (w := w) c hx.2 0
     obtain ⟨o1,o2⟩ := rep_one hr0 h1
     exact ⟨K,.refl K w,hs.krel,fun _ h=>h,fun _ _ _ _ h=>h,hr,o1,o2,F,fun H' h=>h,rfl,hs.slot⟩
    | global g=>exact ⟨K,.refl K w,hs.krel,fun _ h=>h,fun _ _ _ _ h=>h,.ptr g 0,rfl,rfl,F,fun H' h=>h,rfl,hs.slot⟩
    | func f=>exact ⟨K,.refl K w,hs.krel,fun _ h=>h,fun _ _ _ _ h=>h,hs.rep (x := .func f) rfl,rfl,rfl,F,fun H' h=>h,rfl,hs.slot⟩
   obtain ⟨K',hfk0,hk0,hpriv0,hcell,hrc,ho1,ho2,F',hF',hlen',hslots⟩ := main
   obtain ⟨c',T,hrun,_,hfk,hk',hh',hkeep,_⟩ := set_box (P := P) (off := off) (cs' := cs.set off (ev F y)) (vs := [a.eval y]) hs.krel hs.hrel hg hfk0 hk0 hpriv0 hcell
    (by simp; omega) (fun v hm=>by simp at hm; subst hm; exact ho1) (by simp)
    (fun j d hd hj=>by
     rcases getElem?_set_some hd with ⟨rfl,_,_⟩ | ⟨_,hd⟩
     ·simp only [List.length_cons,List.length_nil] at hj; omega
     ·exact hd)
    (fun j d u hd hu=>by
     cases j with
     | zero =>
      simp only [List.getElem?_cons_zero,Option.some.injEq] at hu
      subst hu
      rcases getElem?_set_some hd with ⟨_,rfl,_⟩ | ⟨hne,_⟩
      ·exact hrc
      ·exact (hne rfl).elim
     | succ j=>simp at hu)
   have hst := run_store_agg (P := P) ht (v := a.eval y) (by rw [ho2]; rfl) (w' := w.setRow b c') (by rw [ho2]; exact hrun)
   have hdef : (a.put o.dst undef) = a := by rw [hdst]; rfl
   refine wp_of_skip (w' := w.setRow b c') ?_ ⟨F',_,K',hF' _ (by cases y <;> exact h),hfk,⟨hk',hh',by rw [hdef,hlen']; exact hs.len,fun i d v hd hv'=>?_⟩,put_defers _ _⟩
   ·simp only [execOp,ho,hv,Sem.run_bind,hst,Result.andThen_ok]
    rfl
   ·rw [hdef] at hv'
    exact (hslots i d v hd hv').keep hkeep (fun _ h=>h)
  ·exact h.elim
 ·exact h.elim
theorem stp_call (hs : St K w F H a.tmps) (hok : opOk o = true) {c : Call} {f : Operand} (ho : o.op = .call c) (hf : c.callee = .value f) (h : aop P ops o F H k) : o.wp P a w (OKd k K w a.defers) Q := by
 simp only [aop,ho,hf] at h
 split at h
 ·rename_i g caps hg
  have hall : opndOk f = true ∧ c.args.all opndOk = true := by
   unfold opOk at hok
   simp only [ho,Op.operands,Call.operands,hf,Bool.and_eq_true] at hok
   exact ⟨(Array.all_eq_true'.1 hok.1) f (by simp),hok.2⟩
  obtain ⟨fs,vs,hv,hcap⟩ := (hg ▸ hs.rep hall.1).fn_call
  obtain ⟨hcall,hR⟩ := h
  unfold callOk at hcall
  split at hcall
  ·rename_i fn hfn
   simp only [Bool.and_eq_true,Bool.not_eq_true'] at hcall
   have hrun : (execOp a.eval o).run P w = .ok (.enter g (fs ++ c.args.map a.eval ++ vs)) w := by
    have hb : fn.body.isNone = false := by cases hbb : fn.body <;> simp_all
    simp only [execOp,ho,resolve,hf,hv,Deferred.ofValue,Sem.run_bind,Sem.run_pure,Result.andThen_ok,invoke,callFunc,run_program,hfn,hcall.2,hb,Bool.false_eq_true,if_false]
   obtain ⟨hl,hcap⟩ := hcap (c.args.toList.map (rv F)) (c.args.map a.eval) (by simp) (fun j d v hd hv'=>by
    rw [List.getElem?_map,Option.map_eq_some_iff] at hd
    rw [Array.getElem?_map,Option.map_eq_some_iff] at hv'
    obtain ⟨x,h1,rfl⟩ := hd
    obtain ⟨y,h2,rfl⟩ := hv'
    rw [Array.getElem?_toList,h2] at h1
    obtain rfl := Option.some.inj h1
    exact hs.rep ((Array.all_eq_true'.1 hall.2) _ (Array.mem_of_getElem? h2)))
   have hc := hR (relab outerize K) w (fs ++ c.args.map a.eval ++ vs) (relab_krel hs.krel) (noslot_outer K) (relab_hrel ⟨fun _ _=>rfl,rfl⟩ hs.hrel) hl (fun j d v hd hv'=>(hcap j d v hd hv').mono (relab_ext outerize K w))
   unfold Oper.wp
   rw [hrun,Oper.upon_enter]
   refine hc.mono fun e w' ⟨v,d,H',K',he,hk,hfk,hk',hh',hr⟩=>?_
   subst he
   have key : ∀ dst,(∀ i,o.dst = some i → i = dst) → St (backK K K' dst) w' (putF F o.dst d) H' (a.put o.dst v).tmps := by
    intro dst hd
    obtain ⟨hkeep,hext⟩ := back_keep hfk dst
    have hkr : KRel (backK K K' dst) w' := fun b hb=>by simp [backK,hk' b hb]
    have hhr : HRel (backK K K' dst) w' H' := hh'.conv hext (fun b h=>by simp [backK,h]) (fun b n c j hb=>by simp [backK,hb])
    exact hs.put hkeep (fun _ _ h=>h) hkr hhr o.dst (fun i hi=>by
      obtain rfl := hd i hi
      exact hr.conv hext (fun b n j hb=>by simp [backK,hb]))
   have hkk := hk hr.rep.fact
   cases hd : o.dst with
   | none=>exact ⟨_,H',_,hkk,(back_keep hfk 0).1.fk (fun h=>h),hd ▸ key 0 (fun i hi=>by rw [hd] at hi; cases hi),put_defers _ _⟩
   | some t=>exact ⟨_,H',_,hkk,(back_keep hfk t).1.fk (fun h=>h),hd ▸ key t (fun i hi=>by rw [hd] at hi; exact (Option.some.inj hi).symm),put_defers _ _⟩
  ·cases hcall
 ·exact h.elim
theorem two_of_list {α : Type} {xs : Array α} {x y : α} (h : xs.toList = [x,y]) : xs = #[x,y] := by
 obtain ⟨l⟩ := xs
 simp at h
 simp [h]
theorem stp_append (hs : St K w F H a.tmps) (hok : opOk o = true) {c : Call} (ho : o.op = .call c) (hf : c.callee = .builtin .append) (h : aop P ops o F H k) : o.wp P a w (OKd k K w a.defers) Q := by
 simp only [aop,ho,hf] at h
 split at h
 ·rename_i s x t u d hargs htys hd
  split at h
  ·rename_i xs e sz bs hev hap
   obtain ⟨hF,hT⟩ := slot_of hs hev (by simp)
   have hown : OwnAt K w (.slot s 0) xs (a.eval (.tmp s)) := hs.slot s _ _ hF hT
   have hx : opndOk x = true := by
    unfold opOk at hok
    simp only [ho,Op.operands,Call.operands,hf,Bool.and_eq_true] at hok
    exact (Array.all_eq_true'.1 hok.2) x (by rw [two_of_list hargs]; simp)
   have fin : ∀ ys : List (List D),(∀ y ∈ xs,y.length = sz) → Src P w K sz ys (a.eval x) → (xs.length + ys.length) * bs ≤ 140737488355328 → k ((F.set s (.slc xs)).set d (.own (xs ++ ys))) H → o.wp P a w (OKd k K w a.defers) Q := by
    intro ys hxs hsrc hb hk
    obtain ⟨r,K',w',hrun,hkeep,hk',hh',hown'⟩ := app_sound (P := P) (ty := o.type) hs.krel hs.hrel hap (s := .slot s 0) (d := .slot d 0) (by simp) (by simp) (by simp) hown hxs hsrc hb
    refine wp_of_value (v := r) (w' := w') ?_ ⟨_,H,K',hk,hkeep.fk (by simp),⟨hk',hh',by rw [hd]; simpa [Act.put] using hs.len,fun i dd v hdd hv=>?_⟩,put_defers _ _⟩
    ·simp only [execOp,ho,resolve,hf,Sem.run_bind,Sem.run_pure,Result.andThen_ok,invoke,builtin,two_of_list hargs,two_of_list htys]
     simp [hrun]
    ·rw [hd] at hv
     simp only [Act.put] at hv
     rcases getElem?_set_some hdd with ⟨rfl,rfl,hl⟩ | ⟨hne,hdd⟩
     ·rw [Array.getElem?_setIfInBounds_self_of_lt (by rw [hs.len]; simpa using hl)] at hv
      obtain rfl := Option.some.inj hv
      exact hown'
     ·rw [Array.getElem?_setIfInBounds_ne hne] at hv
      rcases getElem?_set_some hdd with ⟨rfl,rfl,_⟩ | ⟨hne2,hdd⟩
      ·rw [hT] at hv
       obtain rfl := Option.some.inj hv
       exact (RepV.mono hkeep.ext hown.rep).viewO
      ·exact (hs.slot i dd v hdd hv).keep hkeep (fun j e=>by injection e with e _; exact hne2 e.symm)
   split at h
   ·rename_i ys hy
    obtain ⟨h1,h2,h3,h4⟩ := h
    have hpos : 0 < sz := (slI_spec (apI_spec hap).1).2.1
    exact fin ys h1 (src_of_slc (hy ▸ hs.rep hx) h2 hpos) h3 h4
   ·rename_i l hy
    obtain ⟨rfl,h2,h3,h4⟩ := h
    exact fin _ h2 (src_of_str (hy ▸ hs.rep hx)) (by simpa using h3) h4
   ·exact h.elim
  ·exact h.elim
 ·exact h.elim
theorem stp_load (hs : St K w F H a.tmps) (hok : opOk o = true) {t : TypeId} {s : Nat} (ho : o.op = .load t (.tmp s)) (h : aop P ops o F H k) : o.wp P a w (OKd k K w a.defers) Q := by
 simp only [aop,ho] at h
 split at h
 ·rename_i d hd
  split at h
  ·split at h
   ·rename_i n b off ht hp
    split at h
    ·rename_i cs hg
     split at h
     ·rename_i xs hc
      have hv := (hp ▸ hs.rep (x := .tmp s) rfl).ptr_inv
      obtain ⟨hpb,c,T,hb,hcs,hr⟩ := hs.hrel.ok b _ (getH_mem hg)
      obtain ⟨u,e1,e2,e3⟩ := hr off _ hc
      have hcell : w.cell? ⟨b,off,none⟩ = some u := by rw [cell_at hb]; exact e1
      let φ := mvφ (.cell b off) (.slot d 0)
      have hfk : FK K w (relab φ K) w := mv_fk (by simp) (by simp)
      have hcv : OwnAt (relab φ K) w (.slot d 0) xs u := OwnAt.conv (relab_ext φ K w) (fun b' n hb'=>by rw [relab_tok hb']; simp [φ,mvφ]) e3
      refine wp_of_value (v := u) (w' := w) ?_ ⟨_,_,relab φ K,h,hfk,⟨relab_krel hs.krel,⟨by rw [keys_set]; exact hs.hrel.nd,fun b' o' hm=>?_⟩,by rw [hd]; simpa [Act.put] using hs.len,fun i dd v hdd hv'=>?_⟩,put_defers _ _⟩
      ·simp only [execOp,ho,hv,Sem.run_bind,run_loadOne ht b off u hcell,Result.andThen_ok]
       rfl
      ·have conv : ∀ (b' : Nat) (cs' : List D),b' ≠ b → AO.at_ K w b' (.cells cs') → AO.at_ (relab φ K) w b' (.cells cs') := by
        rintro b' cs' hne ⟨g1,c',T',g2,g3,g4⟩
        refine ⟨relab_priv.2 g1,c',T',g2,g3,fun j d' hd'=>?_⟩
        obtain ⟨u',q1,q2,q3⟩ := g4 j d' hd'
        exact ⟨u',q1,q2,q3.conv (relab_ext φ K w) (fun b'' n hb''=>by
         rw [relab_tok hb'']
         simp only [φ,mvφ,BK.tok.injEq,true_and]
         rw [if_neg]
         intro e
         injection e with e _
         exact hne e)⟩
       rcases mem_set hs.hrel.nd hm with ⟨rfl,rfl⟩ | ⟨hne,hm⟩
       ·refine ⟨relab_priv.2 hpb,c,T,hb,by simpa using hcs,fun j d' hd'=>?_⟩
        rcases getElem?_set_some hd' with ⟨rfl,rfl,_⟩ | ⟨hnej,hd'⟩
        ·exact ⟨u,e1,e2,RepV.mono (relab_ext φ K w) (OwnAt.rep e3)⟩
        ·obtain ⟨u',q1,q2,q3⟩ := hr j d' hd'
         exact ⟨u',q1,q2,q3.conv (relab_ext φ K w) (fun b'' n hb''=>by
          rw [relab_tok hb'']
          simp only [φ,mvφ,BK.tok.injEq,true_and]
          rw [if_neg]
          intro e
          injection e with _ e
          exact hnej e.symm)⟩
       ·cases o' with
        | cells cs'=>exact conv b' cs' hne (hs.hrel.ok b' _ hm)
        | room cap' xs' =>
         have hro := hs.hrel.ok b' _ hm
         exact ⟨hro.1,hro.2.conv (relab_ext φ K w) (fun b'' n hb''=>by
          rw [relab_tok hb'']
          simp only [φ,mvφ,BK.tok.injEq,true_and]
          rw [if_neg]
          intro e
          injection e with e _
          exact hne e)⟩
        | mp es' =>
         have hro := hs.hrel.ok b' _ hm
         exact ⟨relab_priv.2 hro.1,hro.2.ext (relab_ext φ K w) rfl⟩
        | lp J pre =>
         have hc : ∀ c n j,K c = .tok n (.cell b' j) → relab φ K c = .tok n (.cell b' j) := fun c n j hb''=>by
          rw [relab_tok hb'']
          simp only [φ,mvφ,BK.tok.injEq,true_and]
          rw [if_neg]
          intro e
          injection e with e _
          exact hne e
         obtain ⟨⟨n,j,h1⟩,h2,h3⟩ := hs.hrel.ok b' _ hm
         exact ⟨⟨n,j,hc _ _ _ h1⟩,h3 pre K w _ w h2 fun c n j h=>⟨hc c n j h,rfl⟩,h3⟩
      ·rw [hd] at hv'
       simp only [Act.put] at hv'
       rcases getElem?_set_some hdd with ⟨rfl,rfl,hl⟩ | ⟨hne,hdd⟩
       ·rw [Array.getElem?_setIfInBounds_self_of_lt (by rw [hs.len]; exact hl)] at hv'
        obtain rfl := Option.some.inj hv'
        exact hcv
       ·rw [Array.getElem?_setIfInBounds_ne hne] at hv'
        exact mv_repO (fun j e=>by cases e) (hs.slot i dd v hdd hv')
     ·rename_i b' n' c' hc
      exact stp_val hs hok (by rw [ho,hd]; simp only [valO,ht,hp,hg,hc]; exact fun _=>h)
     ·exact h.elim
    ·exact h.elim
   ·exact h.elim
  ·exact stp_val hs hok (by simpa only [ho,hd] using h)
 ·rename_i hd
  exact stp_val hs hok (by simpa only [ho,hd] using h)
theorem run_equal_nil {t e : TypeId} (ht : P.underlying t = some (.slice e)) (w : World) (ad : Option Addr) (n c d : Nat) : (Op.equalIn (d + 1) t (.slice ad n c) (.slice none 0 0)).run P w = .ok ad.isNone w := by
 cases ad <;> simp [Op.equalIn,run_underlying ht]
theorem run_eqnil {t e : TypeId} (ht : P.underlying t = some (.slice e)) (w : World) (ad : Option Addr) (n c : Nat) : (binOp .eql t (.slice ad n c) (.slice none 0 0)).run P w = .ok (.bool ad.isNone) w := by
 have : binOp .eql t (.slice ad n c) (.slice none 0 0) = (do pure (.bool (← Op.equal t (.slice ad n c) (.slice none 0 0)))) := rfl
 rw [this,Sem.run_bind,show Op.equal t (.slice ad n c) (.slice none 0 0) = Op.equalIn (9999 + 1) t (.slice ad n c) (.slice none 0 0) from rfl,run_equal_nil ht]
 rfl
theorem run_nenil {t e : TypeId} (ht : P.underlying t = some (.slice e)) (w : World) (ad : Option Addr) (n c : Nat) : (binOp .neq t (.slice ad n c) (.slice none 0 0)).run P w = .ok (.bool (!ad.isNone)) w := by
 have : binOp .neq t (.slice ad n c) (.slice none 0 0) = (do pure (.bool (!(← Op.equal t (.slice ad n c) (.slice none 0 0))))) := rfl
 rw [this,Sem.run_bind,show Op.equal t (.slice ad n c) (.slice none 0 0) = Op.equalIn (9999 + 1) t (.slice ad n c) (.slice none 0 0) from rfl,run_equal_nil ht]
 rfl
theorem stp_bin (hs : St K w F H a.tmps) (hok : opOk o = true) {bo : BinOp} {t ty : TypeId} {x y : Operand} (ho : o.op = .binOp bo t x y ty) (h : aop P ops o F H k) : o.wp P a w (OKd k K w a.defers) Q := by
 simp only [aop,ho] at h
 split at h
 ·rename_i hn
  obtain rfl : y = .const (.slice none 0 0) := by
   unfold isNilS at hn
   split at hn
   ·rfl
   ·cases hn
  have hx : opndOk x = true := by
   unfold opOk at hok
   simp only [ho,Op.operands,Bool.and_eq_true] at hok
   have := hok.1
   simp at this
   exact this.1
  have hr := hs.rep hx
  unfold nilcmp at h
  split at h
  ·rename_i xs hxs
   rw [hxs] at hr
   obtain ⟨hsl,h⟩ := h
   obtain ⟨⟨e,sz⟩,hsl⟩ := Option.isSome_iff_exists.1 hsl
   obtain ⟨ht,_⟩ := slI_spec hsl
   have hform : ∃ ad n c,a.eval x = .slice ad n c ∧ (ad = none → xs = []) := by
    rcases hr.slc_inv with ⟨rfl,ad,hv⟩ | ⟨b,off,cap,sz',f,hv,_⟩
    ·exact ⟨_,_,_,hv,fun _=>rfl⟩
    ·exact ⟨_,_,_,hv,fun e=>by cases e⟩
   obtain ⟨ad,n,c,hv,hne⟩ := hform
   have put : ∀ (b : Bool),k (putF F o.dst (.bool b)) H → (execOp a.eval o).run P w = .ok (.value (.bool b)) w → o.wp P a w (OKd k K w a.defers) Q := fun b hk hrun =>
    wp_of_value hrun ⟨_,H,K,hk,.refl K w,hs.put ((Pres.refl K w).keep hs.krel) (fun _ _ h=>h) hs.krel hs.hrel o.dst (fun i _=>RepV.viewO (.bool b)),put_defers _ _⟩
   have hrun : ∀ v,(binOp bo t (.slice ad n c) (.slice none 0 0)).run P w = .ok v w → (execOp a.eval o).run P w = .ok (.value v) w := fun v hv'=>by
    have hy : a.eval (.const (.slice none 0 0)) = .slice none 0 0 := rfl
    have hg : eqGuard bo t x (.const (.slice none 0 0)) (.slice ad n c) (.slice none 0 0) = pure () := by cases bo <;> rfl
    simp only [execOp,ho]
    rw [hv,hy,hg,Sem.run_bind,Sem.run_bind,Sem.run_pure,Result.andThen_ok,hv']
    rfl
   split at h
   ·cases ad with
    | none=>exact put true (h.1 (hne rfl)) (hrun _ (run_eqnil ht _ _ _ _))
    | some ad=>exact put false h.2 (hrun _ (run_eqnil ht _ _ _ _))
   ·cases ad with
    | none=>exact put false (h.1 (hne rfl)) (hrun _ (run_nenil ht _ _ _ _))
    | some ad=>exact put true h.2 (hrun _ (run_nenil ht _ _ _ _))
   ·exact h.elim
  ·exact h.elim
 ·exact stp_val hs hok (by simpa only [ho] using h)
theorem aop_sound (hs : St K w F H a.tmps) (hok : opOk o = true) (h : aop P ops o F H k) : o.wp P a w (OKd k K w a.defers) Q := by
 have hopnd : ∀ x,o.op.operands = #[x] → opndOk x = true := fun x hx=>by
  unfold opOk at hok
  simp only [hx,Bool.and_eq_true] at hok
  simpa using hok.1
 cases ho : o.op
 case move x =>
  cases x with
  | tmp s=>exact stp_move hs ho h
  | _=>exact stp_const hs (hopnd _ (by rw [ho]; rfl)) (fun s e=>by cases e) (by simp [execOp,ho]) (by simpa only [aop,ho] using h)
 case assign x =>
  cases x with
  | tmp s=>exact stp_assign hs ho h
  | _=>exact stp_const hs (hopnd _ (by rw [ho]; rfl)) (fun s e=>by cases e) (by simp [execOp,ho]) (by simpa only [aop,ho] using h)
 case extract x ix =>
  cases x with
  | tmp s=>exact stp_extract hs ho h
  | _=>exact stp_val hs hok (by simpa only [aop,ho] using h)
 case alloc t=>exact stp_alloc hs ho h
 case box t x=>exact stp_box hs hok ho h
 case makeMap t r=>exact stp_makeMap hs ho h
 case mapUpdate t m i v=>exact stp_mapUpdate hs hok ho h
 case mapEntry t m i=>exact stp_mapEntry hs hok ho h
 case entryStore t m s v=>exact stp_entryStore hs hok ho h
 case store t x y=>exact stp_store hs hok ho h
 case binOp bo t x y ty=>exact stp_bin hs hok ho h
 case load t x =>
  cases x with
  | tmp s=>exact stp_load hs hok ho h
  | _=>exact stp_val hs hok (by simpa only [aop,ho] using h)
 case call c =>
  cases hf : c.callee with
  | value f=>exact stp_call hs hok ho hf h
  | invoke r m=>exact stp_val hs hok (by simpa only [aop,ho,hf] using h)
  | builtin b =>
   cases b
   case append=>exact stp_append hs hok ho hf h
   case clear=>exact stp_clear hs hok ho hf h
   all_goals exact stp_val hs hok (by simpa only [aop,ho,hf] using h)
 all_goals exact stp_val hs hok (by simpa only [aop,ho] using h)
end
end Go.Aw
end
section
namespace Go.Aw
open Go Go.RowKit
def gst (ops : List Oper) (F : List D) (o : Oper) : Option Bool :=
  match o.guard with
  | none=>some true
  | some (j,want)=>match (ops[j]?).bind (·.dst) with
    | some t=>match F.getD t .any with
      | .bool b=>some (b == want)
      | .tup _=>some false
      | _=>none
    | none=>some false
def aops (P : Program) (ops : List Oper) : List Oper → List D → AH → (List D → AH → Prop) → Prop
  | [],F,H,k=>k F H
  | o :: r,F,H,k=>match o.guard with
    | none=>aop P ops o F H fun F' H'=>aops P ops r F' H' k
    | some (j,want)=>match (ops[j]?).bind (·.dst) with
      | some t=>match F.getD t .any with
        | .bool b=>(b = want → aop P ops o F H fun F' H'=>aops P ops r F' H' k) ∧ (b = (!want) → aops P ops r (putF F o.dst (.tup [])) H k)
        | .tup _=>aops P ops r (putF F o.dst (.tup [])) H k
        | _=>False
      | none=>aops P ops r (putF F o.dst (.tup [])) H k
section
variable {P : Program} {ops : Array Oper} {o : Oper} {F : List D} {H : AH} {k : List D → AH → Prop} {K : Nat → BK} {w : World} {a : Act} {Q : Exit → Act → World → Prop}
theorem gst_sound (hs : St K w F H a.tmps) {b : Bool} (h : gst ops.toList F o = some b) : Region.wanted o (yielded ops a.tmps) = b := by
  unfold gst at h
  unfold Region.wanted
  cases hg : o.guard with
  | none=>simp only [hg,Option.some.injEq] at h; exact h
  | some g =>
    obtain ⟨j,want⟩ := g
    simp only [hg] at h ⊢
    unfold yielded
    simp only [Array.getElem?_toList] at h
    cases hd : (ops[j]?).bind (·.dst) with
    | none=>simp only [hd,Option.some.injEq] at h; subst h; rfl
    | some t =>
      simp only [hd] at h
      simp only [Option.bind_some]
      have key : ∀ d : D,F.getD t .any = d → d ≠ .any → ∃ v,a.tmps[t]? = some v ∧ RepO K w t d v := by
        intro d h1 h2
        have hlt : t < F.length := by
          rcases Nat.lt_or_ge t F.length with h' | h'
          · exact h'
          · simp [List.getD,List.getElem?_eq_none h'] at h1; exact (h2 h1.symm).elim
        have hF : F[t]? = some d := by rw [← h1]; simp [List.getD,List.getElem?_eq_getElem hlt]
        have hts : t < a.tmps.size := by rw [hs.len]; exact hlt
        exact ⟨_,Array.getElem?_eq_getElem hts,hs.slot t d _ hF (Array.getElem?_eq_getElem hts)⟩
      split at h
      · rename_i bb hb
        obtain ⟨v,h1,h2⟩ := key _ hb (by simp)
        rw [h1,RepV.bool_inv h2]
        simp only [Option.some.injEq] at h
        simp only [← h]
        cases bb <;> cases want <;> rfl
      · rename_i ds hb
        obtain ⟨v,h1,vs,rfl,_⟩ := key _ hb (by simp)
        rw [h1]
        simp only [Option.some.injEq] at h
        subst h
        rfl
      · cases h
theorem undef_rep : RepV K w (.tup []) undef := .tup [] #[] rfl (fun j d u hd=>by simp at hd)
theorem st_skip (hs : St K w F H a.tmps) (dst : Option Tmp) : St K w (putF F dst (.tup [])) H (a.put dst undef).tmps :=
  hs.put ((Pres.refl K w).keep hs.krel) (fun _ _ h=>h) hs.krel hs.hrel dst (fun i _=>undef_rep.viewO)
theorem OKd.trans {k' : List D → AH → Prop} {ds : List Deferred} {K0 : Nat → BK} {w0 : World} {F' : List D} {H' : AH} (h : OKd k K w ds a w0) : OKd k K w ds a w0 := h
theorem aops_sound (hQ : ∀ a' w',OKd k K w a.defers a' w' → Q .normal a' w') : ∀ (l : List Oper) (F : List D) (H : AH) (K1 : Nat → BK) (w1 : World) (a1 : Act),(∀ o ∈ l,opOk o = true) → St K1 w1 F H a1.tmps → FK K w K1 w1 → a1.defers = a.defers →
    aops P ops.toList l F H k → wpList P ops Q l a1 w1
  | [],F,H,K1,w1,a1,_,hs,hfk,hd,h=>wpList_nil (hQ a1 w1 ⟨F,H,K1,h,hfk,hs,hd⟩)
  | o :: r,F,H,K1,w1,a1,hok,hs,hfk,hd,h=>by
    have hgo : aop P ops.toList o F H (fun F' H'=>aops P ops.toList r F' H' k) → o.wp P a1 w1 (wpList P ops Q r) Q := fun h=>by
      refine Oper.wp_mono (fun a2 w2 h2=>?_) (aop_sound (Q := Q) hs (hok o (.head _)) h)
      obtain ⟨F',H',K',g1,g2,g3,g4⟩ := h2
      exact aops_sound hQ r F' H' K' w2 a2 (fun o ho=>hok o (.tail _ ho)) g3 (hfk.trans g2) (g4.trans hd) g1
    have hskip : aops P ops.toList r (putF F o.dst (.tup [])) H k → wpList P ops Q r (a1.put o.dst undef) w1 := fun h =>
      aops_sound hQ r _ H K1 w1 _ (fun o ho=>hok o (.tail _ ho)) (st_skip hs o.dst) hfk ((put_defers o.dst undef).trans hd) h
    have hw := fun b=>gst_sound (ops := ops) (o := o) hs (b := b)
    unfold gst at hw
    unfold wpList
    cases hg : o.guard with
    | none =>
      simp only [aops,hg] at h
      simp only [hg] at hw
      rw [if_pos (hw true rfl)]
      exact .inl (hgo h)
    | some g =>
      obtain ⟨j,want⟩ := g
      simp only [aops,hg] at h
      simp only [hg] at hw
      cases hdd : (ops.toList[j]?).bind (·.dst) with
      | none =>
        simp only [hdd] at h hw
        rw [if_neg (by rw [hw false rfl]; simp)]
        exact hskip h
      | some t =>
        simp only [hdd] at h hw
        split at h
        · rename_i b hb
          simp only [hb] at hw
          by_cases e : b = want
          · rw [if_pos (by rw [hw true (by simp [e])])]
            exact .inl (hgo (h.1 e))
          · rw [if_neg (by rw [hw false (by simp [e])]; simp)]
            exact hskip (h.2 (by cases b <;> cases want <;> simp_all))
        · rename_i ds hb
          simp only [hb] at hw
          rw [if_neg (by rw [hw false rfl]; simp)]
          exact hskip h
        · exact h.elim
end
structure Eff where
  tk : Option (Nat × D)
  d : D
def Eff.app (e : Eff) (dst : Option Tmp) (G : List D) : List D := putF (match e.tk with | some (s,v)=>G.set s v | none=>G) dst e.d
def tk1 (ops : List Oper) (o : Oper) : Option Nat :=
  match o.op with
  | .move (.tmp s)=>match o.dst with
    | some d=>if takes ops d = true then some s else none
    | none=>none
  | .assign (.tmp s)=>some s
  | .call c=>match c.callee with
    | .builtin .append=>match c.args.toList with
      | [.tmp s,_]=>some s
      | _=>none
    | _=>none
  | .store _ _ (.tmp s)=>some s
  | _=>none
def tapart (ops : Array Oper) (x y : Oper) : Bool :=
  (match tk1 ops.toList x with
   | some s=>!(y.looksAt ops).contains s && y.dst != some s
   | none=>true) &&
  (match tk1 ops.toList y with
   | some s=>!(x.looksAt ops).contains s && x.dst != some s
   | none=>true)
def wkO : AO → AO
  | .cells cs=>.cells (cs.map D.view1)
  | o=>o
def Sub (H0 H : AH) : Prop := ∀ b o,getH H0 b = some o → ∃ o',getH H b = some o' ∧ (o = o' ∨ o = wkO o')
theorem Sub.refl (H : AH) : Sub H H := fun _ o h=>⟨o,h,.inl rfl⟩
theorem Sub.of {H0 H : AH} (h : ∀ b o,getH H0 b = some o → getH H b = some o) : Sub H0 H := fun b o hb=>⟨o,h b o hb,.inl rfl⟩
def aopD (P : Program) (ops : List Oper) (o : Oper) (F : List D) (H : AH) (k : List D → Prop) : Prop :=
  match o.op with
  | .alloc _=>False
  | .box _ _=>False
  | .store _ _ _=>False
  | .makeMap _ _=>False
  | .mapUpdate _ _ _ _=>False
  | .mapEntry _ _ _=>False
  | .entryStore _ _ _ _=>False
  | .extract (.tmp s) ix=>match o.dst,ev F (.tmp s) with
    | some d,.tup ds=>match ds[ix]? with
      | some c=>fact c.view1 → k (F.set d c.view1)
      | none=>False
    | _,_=>False
  | .load _ _=>valO P (rv F) H o.op fun d=>k (putF F o.dst d)
  | .binOp _ _ _ _ _=>valO P (rv F) H o.op fun d=>k (putF F o.dst d)
  | .call c=>match c.callee with
    | .value f=>match rv F f with
      | .fn g caps=>∃ d,(∀ H1,Sub H H1 → ACall P g (capA (c.args.toList.map (rv F)) caps) H1 (fun d' H'=>d' = d ∧ H' = H1)) ∧ (fact d.view → k (putF F o.dst d))
      | _=>False
    | .builtin .clear=>False
    | _=>aop P ops o F H fun F' _=>k F'
  | _=>aop P ops o F H fun F' _=>k F'
def aopsD (P : Program) (ops : List Oper) : List Oper → List D → AH → (List D → Prop) → Prop
  | [],F,_,k=>k F
  | o :: r,F,H,k=>match o.guard with
    | none=>aopD P ops o F H fun F'=>aopsD P ops r F' H k
    | some (j,want)=>match (ops[j]?).bind (·.dst) with
      | some t=>match F.getD t .any with
        | .bool b=>(b = want → aopD P ops o F H fun F'=>aopsD P ops r F' H k) ∧ (b = (!want) → aopsD P ops r (putF F o.dst (.tup [])) H k)
        | .tup _=>aopsD P ops r (putF F o.dst (.tup [])) H k
        | _=>False
      | none=>aopsD P ops r (putF F o.dst (.tup [])) H k
def SEff (P : Program) (H : AH) (o : Oper) (F : List D) (e : Eff) : Prop :=
  ∀ (K : Nat → BK) (w : World) (a : Act) (G : List D) (Q : Exit → Act → World → Prop),St K w G H a.tmps → (∀ t,.tmp t ∈ o.op.operands.toList → G.getD t .any = F.getD t .any) → G.length = F.length →
    o.wp P a w (OKd (fun G' H'=>G' = e.app o.dst G ∧ H' = H) K w a.defers) Q
section
variable {P : Program} {ops : List Oper} {o : Oper} {F : List D} {H : AH} {K : Nat → BK} {w : World} {a : Act}
theorem ev_agree {G : List D} {xs : List Operand} (h : ∀ t,.tmp t ∈ xs → G.getD t .any = F.getD t .any) {x : Operand} (hx : x ∈ xs) : ev G x = ev F x := by
  cases x <;> first | rfl | exact h _ hx
theorem seff_val (hs : St K w F H a.tmps) (hok : opOk o = true) {k : List D → Prop} (h : valO P (rv F) H o.op fun d=>k (putF F o.dst d)) : ∃ e : Eff,k (e.app o.dst F) ∧ e.tk = none ∧ SEff P H o F e := by
  have hr := hs.ops (xs := o.op.operands) (by unfold opOk at hok; simp only [Bool.and_eq_true] at hok; exact hok.1)
  obtain ⟨d,hd,hy⟩ := valO_sound h ⟨K,w,a.eval,hs.krel,hs.hrel,hr⟩
  refine ⟨⟨none,d⟩,hd,rfl,fun K w a G Q hs hG hlen=>?_⟩
  have hr : ∀ x ∈ o.op.operands.toList,RepV K w (rv F x) (a.eval x) := fun x hx=>by
    have := hs.ops (xs := o.op.operands) (by unfold opOk at hok; simp only [Bool.and_eq_true] at hok; exact hok.1) x hx
    unfold rv at this ⊢
    rwa [ev_agree hG hx] at this
  obtain ⟨v,K',w',h1,h2,h3,h4⟩ := hy K w a.eval (o.dst.getD 0) hs.krel hs.hrel hr
  exact wp_of_value h1 ⟨_,H,K',⟨rfl,rfl⟩,h2.fk hs.krel,hs.put (h2.keep hs.krel) (fun _ _ h=>h) h3 (hs.hrel.pres hs.krel h2) o.dst (fun i hi=>by rw [hi] at h4; exact h4),put_defers _ _⟩
theorem wp_some {next : Act → World → Prop} (h : o.wp P a w next (fun _ _ _=>False)) : ∃ a' w',next a' w' := by
  unfold Oper.wp at h
  generalize (execOp a.eval o).run P w = r at h
  cases r with
  | ok n w' =>
    cases n <;> simp only [Oper.upon] at h <;> first
      | exact ⟨_,_,h⟩
      | exact h.elim
      | skip
    · obtain ⟨e,w'',fr,hR,_⟩ := h []
      cases e with
      | returned v=>exact ⟨_,_,hR⟩
      | panicked c=>exact hR.elim
      | outgrown=>obtain ⟨_,_,h⟩ := hR; exact h.elim
    · obtain ⟨v,w'',hR,_⟩ := h (default : Frame) []
      exact ⟨_,_,hR⟩
  | halt x w'=>cases x <;> simp only [Oper.upon] at h
theorem OKd.eq {k k' : List D → AH → Prop} {ds : List Deferred} (h : ∀ F H,k F H → k' F H) {a' : Act} {w' : World} (hh : OKd k K w ds a' w') : OKd k' K w ds a' w' :=
  let ⟨F',H',K',g1,g2⟩ := hh
  ⟨F',H',K',h _ _ g1,g2⟩
theorem seff_of_aop {e : Eff} (hok : opOk o = true) (h : ∀ G : List D,(∀ t,.tmp t ∈ o.op.operands.toList → G.getD t .any = F.getD t .any) → G.length = F.length → aop P ops o G H (fun G' H'=>G' = e.app o.dst G ∧ H' = H)) : SEff P H o F e :=
  fun K w a G Q hs hG hlen=>aop_sound hs hok (h G hG hlen)
theorem aopD_eff (hs : St K w F H a.tmps) (hok : opOk o = true) {k : List D → Prop} (h : aopD P ops o F H k) : ∃ e : Eff,k (e.app o.dst F) ∧ (∀ s v,e.tk = some (s,v) → tk1 ops o = some s) ∧ SEff P H o F e := by
  have viaVal : ∀ h : valO P (rv F) H o.op (fun d=>k (putF F o.dst d)),∃ e : Eff,k (e.app o.dst F) ∧ (∀ s v,e.tk = some (s,v) → tk1 ops o = some s) ∧ SEff P H o F e := fun h=>by
    obtain ⟨e,h1,h2,h3⟩ := seff_val hs hok h
    exact ⟨e,h1,fun s v hsv=>(by rw [h2] at hsv; cases hsv),h3⟩
  have evG : ∀ (s : Nat),.tmp s ∈ o.op.operands.toList → ∀ G : List D,(∀ t,.tmp t ∈ o.op.operands.toList → G.getD t .any = F.getD t .any) → ev G (.tmp s) = ev F (.tmp s) := fun s hm G hG=>hG s hm
  cases ho : o.op
  case move x =>
    cases x with
    | tmp s =>
      simp only [aopD,aop,ho] at h
      cases hd : o.dst with
      | none =>
        simp only [hd] at h
        refine ⟨⟨none,.any⟩,h,fun s v hsv=>(by cases hsv),seff_of_aop (ops := ops) hok fun G hG hlen=>?_⟩
        simp only [aop,ho,hd]
        exact ⟨rfl,by trivial⟩
      | some d =>
        simp only [hd] at h
        by_cases ht : takes ops d = true
        · rw [if_pos ht] at h
          refine ⟨⟨some (s,rv F (.tmp s)),ev F (.tmp s)⟩,h,fun s' v hsv=>?_,seff_of_aop (ops := ops) hok fun G hG hlen=>?_⟩
          · simp only [Option.some.injEq,Prod.mk.injEq] at hsv
            simp [tk1,ho,hd,ht,hsv.1]
          · have he := evG s (by simp [ho,Op.operands]) G hG
            simp only [aop,ho,hd,if_pos ht,rv,he]
            exact ⟨rfl,by trivial⟩
        · rw [if_neg ht] at h
          refine ⟨⟨none,rv F (.tmp s)⟩,h,fun s v hsv=>(by cases hsv),seff_of_aop (ops := ops) hok fun G hG hlen=>?_⟩
          have he := evG s (by simp [ho,Op.operands]) G hG
          simp only [aop,ho,hd,if_neg ht,rv,he]
          exact ⟨rfl,by trivial⟩
    | const c =>
      simp only [aopD,aop,ho] at h
      exact ⟨⟨none,ev F (.const c)⟩,h,fun s v hsv=>(by cases hsv),seff_of_aop (ops := ops) hok fun G hG hlen=>by simp only [aop,ho]; exact ⟨rfl,by trivial⟩⟩
    | global g =>
      simp only [aopD,aop,ho] at h
      exact ⟨⟨none,ev F (.global g)⟩,h,fun s v hsv=>(by cases hsv),seff_of_aop (ops := ops) hok fun G hG hlen=>by simp only [aop,ho]; exact ⟨rfl,by trivial⟩⟩
    | func f =>
      simp only [aopD,aop,ho] at h
      exact ⟨⟨none,ev F (.func f)⟩,h,fun s v hsv=>(by cases hsv),seff_of_aop (ops := ops) hok fun G hG hlen=>by simp only [aop,ho]; exact ⟨rfl,by trivial⟩⟩
  case assign x =>
    cases x with
    | tmp s =>
      simp only [aopD,aop,ho] at h
      cases hd : o.dst with
      | none =>
        simp only [hd] at h
        refine ⟨⟨none,.any⟩,h,fun s v hsv=>(by cases hsv),seff_of_aop (ops := ops) hok fun G hG hlen=>?_⟩
        simp only [aop,ho,hd]
        exact ⟨rfl,by trivial⟩
      | some d =>
        simp only [hd] at h
        refine ⟨⟨some (s,rv F (.tmp s)),ev F (.tmp s)⟩,h,fun s' v hsv=>?_,seff_of_aop (ops := ops) hok fun G hG hlen=>?_⟩
        · simp only [Option.some.injEq,Prod.mk.injEq] at hsv
          simp [tk1,ho,hsv.1]
        · have he := evG s (by simp [ho,Op.operands]) G hG
          simp only [aop,ho,hd,rv,he]
          exact ⟨rfl,by trivial⟩
    | const c =>
      simp only [aopD,aop,ho] at h
      exact ⟨⟨none,ev F (.const c)⟩,h,fun s v hsv=>(by cases hsv),seff_of_aop (ops := ops) hok fun G hG hlen=>by simp only [aop,ho]; exact ⟨rfl,by trivial⟩⟩
    | global g =>
      simp only [aopD,aop,ho] at h
      exact ⟨⟨none,ev F (.global g)⟩,h,fun s v hsv=>(by cases hsv),seff_of_aop (ops := ops) hok fun G hG hlen=>by simp only [aop,ho]; exact ⟨rfl,by trivial⟩⟩
    | func f =>
      simp only [aopD,aop,ho] at h
      exact ⟨⟨none,ev F (.func f)⟩,h,fun s v hsv=>(by cases hsv),seff_of_aop (ops := ops) hok fun G hG hlen=>by simp only [aop,ho]; exact ⟨rfl,by trivial⟩⟩
  case extract x ix =>
    cases x with
    | tmp s =>
      simp only [aopD,aop,ho] at h
      cases hd : o.dst with
      | none=>simp only [hd] at h
      | some d =>
        simp only [hd] at h
        split at h
        · rename_i d' ds hdd hev
          simp only [Option.some.injEq] at hdd
          subst hdd
          split at h
          · rename_i c hc
            obtain ⟨hF,hT⟩ := slot_of hs hev (by simp)
            obtain ⟨vs,hv,hl,hh⟩ := hs.slot s _ _ hF hT
            have hix : ix < vs.size := by rw [hl]; exact (List.getElem?_eq_some_iff.1 hc).1
            have hfact := (hh ix c _ hc (Array.getElem?_eq_getElem hix)).rep.fact
            refine ⟨⟨none,c.view1⟩,h hfact,fun s v hsv=>(by cases hsv),seff_of_aop (ops := []) hok fun G hG hlen=>?_⟩
            have he := evG s (by simp [ho,Op.operands]) G hG
            rw [hev] at he
            simp only [aop,ho,hd,he,hc,takes,List.any_nil,Bool.false_eq_true,if_false]
            exact fun _=>⟨rfl,by trivial⟩
          · exact h.elim
        · exact h.elim
    | _=>exact viaVal (by simpa only [aopD,aop,ho] using h)
  case alloc t=>simp only [aopD,ho] at h
  case box t x=>simp only [aopD,ho] at h
  case store t x y=>simp only [aopD,ho] at h
  case load t x=>exact viaVal (by simpa only [aopD,ho] using h)
  case binOp bo t x y ty=>exact viaVal (by simpa only [aopD,ho] using h)
  case call c =>
    cases hf : c.callee with
    | value f =>
      simp only [aopD,ho,hf] at h
      split at h
      · rename_i g caps hg
        obtain ⟨d,hc',hk⟩ := h
        have hc := hc' H (Sub.refl H)
        have hops : o.op.operands = #[f] ++ c.args := by simp only [ho,Op.operands,Call.operands,hf]
        have hse : SEff P H o F ⟨none,d⟩ := seff_of_aop (ops := ops) hok fun G hG hlen=>by
          have h1 : rv G f = .fn g caps := by rw [← hg]; unfold rv; rw [ev_agree hG (by rw [hops]; simp)]
          have h2 : c.args.toList.map (rv G) = c.args.toList.map (rv F) := List.map_congr_left fun x hx=>by
            unfold rv
            rw [ev_agree hG (by rw [hops]; simp; exact .inr (by simpa using hx))]
          simp only [aop,ho,hf,h1,h2]
          exact hc.mono fun d' H' ⟨e1,e2⟩ _=>by subst e1 e2; exact ⟨rfl,by trivial⟩
        refine ⟨⟨none,d⟩,hk ?_,fun s v hsv=>(by cases hsv),hse⟩
        -- what the call hands back obeys its bounds
        have hap : aop P ops o F H (fun _ _=>fact d.view) := by
          simp only [aop,ho,hf,hg]
          exact hc.mono fun d' H' ⟨e1,_⟩ hfct=>by subst e1; exact hfct
        obtain ⟨a',w',F',H',K',hfct,_⟩ := wp_some (aop_sound (Q := fun _ _ _=>False) hs hok hap)
        exact hfct
      · exact h.elim
    | invoke r m=>exact viaVal (by simpa only [aopD,aop,ho,hf] using h)
    | builtin b =>
      cases b
      case append =>
        simp only [aopD,aop,ho,hf] at h
        split at h
        · rename_i s x t u d hargs htys hd
          split at h
          · rename_i xs e sz bs hev hap
            have hops : o.op.operands = #[] ++ c.args := by simp only [ho,Op.operands,Call.operands,hf]
            have hms : .tmp s ∈ o.op.operands.toList := by rw [hops,two_of_list hargs]; simp
            have hmx : x ∈ o.op.operands.toList := by rw [hops,two_of_list hargs]; simp
            split at h
            · rename_i ys hy
              obtain ⟨h1,h2,h3,h4⟩ := h
              refine ⟨⟨some (s,.slc xs),.own (xs ++ ys)⟩,by rw [hd]; exact h4,fun s' v hsv=>?_,seff_of_aop (ops := ops) hok fun G hG hlen=>?_⟩
              · simp only [Option.some.injEq,Prod.mk.injEq] at hsv
                simp [tk1,ho,hf,hargs,hsv.1]
              · have he := evG s hms G hG
                have hx : rv G x = .slc ys := by rw [← hy]; unfold rv; rw [ev_agree hG hmx]
                rw [hev] at he
                simp only [aop,ho,hf,hargs,htys,hd,he,hap,hx]
                exact ⟨h1,h2,h3,rfl,by trivial⟩
            · rename_i l hy
              obtain ⟨h1,h2,h3,h4⟩ := h
              refine ⟨⟨some (s,.slc xs),.own (xs ++ l.map byteD)⟩,by rw [hd]; exact h4,fun s' v hsv=>?_,seff_of_aop (ops := ops) hok fun G hG hlen=>?_⟩
              · simp only [Option.some.injEq,Prod.mk.injEq] at hsv
                simp [tk1,ho,hf,hargs,hsv.1]
              · have he := evG s hms G hG
                have hx : rv G x = .str l := by rw [← hy]; unfold rv; rw [ev_agree hG hmx]
                rw [hev] at he
                simp only [aop,ho,hf,hargs,htys,hd,he,hap,hx]
                exact ⟨h1,h2,h3,rfl,by trivial⟩
            · exact h.elim
          · exact h.elim
        · exact h.elim
      case clear=>simp only [aopD,ho,hf] at h
      all_goals exact viaVal (by simpa only [aopD,aop,ho,hf] using h)
  case makeMap=>simp only [aopD,ho] at h
  case mapUpdate=>simp only [aopD,ho] at h
  case mapEntry=>simp only [aopD,ho] at h
  case entryStore=>simp only [aopD,ho] at h
  all_goals exact viaVal (by simpa only [aopD,aop,ho] using h)
end
end Go.Aw
end
