/- A part of the proof of what the last text says: Aw13, Aw14, Aw15. Conditions: those in each theorem. -/
import Derived.Test.YtffbjejmobhpkaaE6
import Derived.StillTail
set_option linter.unusedVariables false
set_option linter.unusedSimpArgs false
set_option maxRecDepth 100000
set_option maxHeartbeats 16000000
open Nat renaming reduceSub → qa,reduceAdd → qb,reduceMul → qc,reduceEqDiff → qd,reduceLeDiff → qe,reduceBEq → qf
section
namespace Go.Aw
open Go Go.RowKit
section
variable {P : Program} {ops : Array Oper} {H : AH} {md : Region.Mode} {Q : List D → Prop}
def EffOf (P : Program) (H : AH) (ops : Array Oper) (o : Oper) (F : List D) (e : Eff) : Prop :=
 (gst ops.toList F o = some true ∧ SEff P H o F e ∧ ∀ s v,e.tk = some (s,v) → tk1 ops.toList o = some s) ∨ (gst ops.toList F o = some false ∧ e = ⟨none,.tup []⟩)
theorem looks_operand {o : Oper} {t : Nat} (h : .tmp t ∈ o.op.operands.toList) : t ∈ o.looksAt ops := by
 unfold Oper.looksAt
 exact List.mem_append_left _ (List.mem_filterMap.2 ⟨.tmp t,h,rfl⟩)
theorem gst_congr {o : Oper} {F G : List D} (h : ∀ t ∈ o.looksAt ops,G.getD t .any = F.getD t .any) : gst ops.toList G o = gst ops.toList F o := by
 unfold gst
 cases hg : o.guard with
 | none=>rfl
 | some g =>
  obtain ⟨j,want⟩ := g
  simp only [Array.getElem?_toList]
  cases hd : (ops[j]?).bind (·.dst) with
  | none=>rfl
  | some t =>
   have : t ∈ o.looksAt ops := by
    unfold Oper.looksAt
    simp only [hg]
    exact List.mem_append_right _ (by rw [hd]; simp)
   simp only [h t this]
theorem EffOf.congr {o : Oper} {F G : List D} {e : Eff} (he : EffOf P H ops o F e) (h : ∀ t ∈ o.looksAt ops,G.getD t .any = F.getD t .any) (hl : G.length = F.length) : EffOf P H ops o G e := by
 rcases he with ⟨h1,h2,h3⟩ | ⟨h1,h2⟩
 ·refine .inl ⟨by rw [gst_congr h]; exact h1,fun K w a G' Q hs hG hlen=>?_,h3⟩
  exact h2 K w a G' Q hs (fun t ht=>(hG t ht).trans (h t (looks_operand ht))) (hlen.trans hl)
 ·exact .inr ⟨by rw [gst_congr h]; exact h1,h2⟩
theorem putF_len (F : List D) (dst : Option Tmp) (d : D) : (putF F dst d).length = F.length := by cases dst <;> simp [putF]
theorem app_len (e : Eff) (dst : Option Tmp) (F : List D) : (e.app dst F).length = F.length := by
 unfold Eff.app
 rw [putF_len]
 split <;> simp
theorem getD_set (F : List D) (i t : Nat) (d : D) (h : i ≠ t) : (F.set i d).getD t .any = F.getD t .any := by
 simp [List.getD,List.getElem?_set_ne h]
theorem app_getD {e : Eff} {dst : Option Tmp} {F : List D} {t : Nat} (h1 : dst ≠ some t) (h2 : ∀ v,e.tk ≠ some (t,v)) : (e.app dst F).getD t .any = F.getD t .any := by
 unfold Eff.app
 have key : ∀ G : List D,(putF G dst e.d).getD t .any = G.getD t .any := fun G=>by
  cases dst with
  | none=>rfl
  | some d=>exact getD_set _ _ _ _ (fun e=>h1 (by rw [e]))
 rw [key]
 split
 ·rename_i s v hs
  exact getD_set _ _ _ _ (fun e=>h2 v (by rw [hs,e]))
 ·rfl
theorem set_comm' (F : List D) {i j : Nat} (h : i ≠ j) (x y : D) : (F.set i x).set j y = (F.set j y).set i x := List.set_comm x y h
theorem app_comm {e f : Eff} {d1 d2 : Option Tmp} (F : List D) (h1 : ∀ t,d1 = some t → d2 ≠ some t) (h2 : ∀ s v,e.tk = some (s,v) → d2 ≠ some s) (h3 : ∀ s v,f.tk = some (s,v) → d1 ≠ some s)
  (h4 : ∀ s v,e.tk = some (s,v) → ∀ v',f.tk ≠ some (s,v')) : f.app d2 (e.app d1 F) = e.app d1 (f.app d2 F) := by
 obtain ⟨tk,x⟩ := e
 obtain ⟨tk',y⟩ := f
 unfold Eff.app putF
 cases tk with
 | none=>cases tk' with
  | none=>cases d1 <;> cases d2 <;> simp only [] <;> first | rfl | (exact set_comm' _ (fun e=>h1 _ rfl (by rw [e])) _ _)
  | some p =>
   obtain ⟨s',v'⟩ := p
   cases d1 <;> cases d2 <;> simp only []
   ·rw [set_comm' F (fun e=>h3 s' v' rfl (by rw [e]))]
   ·rename_i a b
    rw [set_comm' F (i := a) (j := s') (fun e=>h3 s' v' rfl (by rw [e])),set_comm' _ (i := a) (j := b) (fun e=>h1 _ rfl (by rw [e]))]
 | some p =>
  obtain ⟨s,v⟩ := p
  cases tk' with
  | none =>
   cases d1 <;> cases d2 <;> simp only []
   ·rw [set_comm' F (fun e=>h2 s v rfl (by rw [e]))]
   ·rename_i a b
    rw [set_comm' _ (i := a) (j := b) (fun e=>h1 _ rfl (by rw [e])),set_comm' F (i := s) (j := b) (fun e=>h2 s v rfl (by rw [e]))]
  | some q =>
   obtain ⟨s',v'⟩ := q
   have hss : s ≠ s' := fun e=>h4 s v rfl v' (by rw [e])
   cases d1 <;> cases d2 <;> simp only []
   ·rw [set_comm' F hss]
   ·rename_i b
    rw [set_comm' F hss,set_comm' _ (i := s) (j := b) (fun e=>h2 s v rfl (by rw [e]))]
   ·rename_i a
    rw [set_comm' _ (i := a) (j := s') (fun e=>h3 s' v' rfl (by rw [e])),set_comm' F hss]
   ·rename_i a b
    rw [set_comm' _ (i := a) (j := s') (fun e=>h3 s' v' rfl (by rw [e])),set_comm' F hss,set_comm' _ (i := a) (j := b) (fun e=>h1 _ rfl (by rw [e])),set_comm' _ (i := s) (j := b) (fun e=>h2 s v rfl (by rw [e]))]
theorem tk_looks {o : Oper} {s : Nat} (h : tk1 ops.toList o = some s) : s ∈ o.looksAt ops := by
 apply looks_operand
 unfold tk1 at h
 split at h
 ·rename_i x ho
  split at h
  ·split at h <;> first | (simp only [Option.some.injEq] at h; subst h; simp [ho,Op.operands]) | cases h
  ·cases h
 ·rename_i x ho
  simp only [Option.some.injEq] at h
  subst h
  simp [ho,Op.operands]
 ·rename_i c ho
  split at h
  ·rename_i hf
   split at h
   ·rename_i x y hargs
    simp only [Option.some.injEq] at h
    subst h
    simp only [ho,Op.operands,Call.operands,hf]
    rw [two_of_list hargs]
    simp
   ·cases h
  ·cases h
 ·rename_i t a x ho
  simp only [Option.some.injEq] at h
  subst h
  simp [ho,Op.operands]
 ·cases h
structure Far (ops : Array Oper) (x y : Oper) : Prop where
 d : ∀ t,x.dst = some t → t ∉ y.looksAt ops ∧ y.dst ≠ some t
 d' : ∀ t,y.dst = some t → t ∉ x.looksAt ops
 t : ∀ s,tk1 ops.toList x = some s → s ∉ y.looksAt ops ∧ y.dst ≠ some s
 t' : ∀ s,tk1 ops.toList y = some s → s ∉ x.looksAt ops ∧ x.dst ≠ some s
theorem far_of {x y : Oper} (h : x.apart ops y = true) (h' : tapart ops x y = true) : Far ops x y := by
 obtain ⟨a1,a2,a3⟩ := Oper.apart_spec h
 unfold tapart at h'
 simp only [Bool.and_eq_true] at h'
 refine ⟨fun t ht=>⟨a1 t ht,a2 t ht⟩,a3,fun s hs=>?_,fun s hs=>?_⟩
 ·have := h'.1
  simp only [hs,Bool.and_eq_true,Bool.not_eq_true',bne_iff_ne,ne_eq] at this
  exact ⟨by simpa using this.1,this.2⟩
 ·have := h'.2
  simp only [hs,Bool.and_eq_true,Bool.not_eq_true',bne_iff_ne,ne_eq] at this
  exact ⟨by simpa using this.1,this.2⟩
theorem EffOf.tk {o : Oper} {F : List D} {e : Eff} (he : EffOf P H ops o F e) : ∀ s v,e.tk = some (s,v) → tk1 ops.toList o = some s := by
 rcases he with ⟨_,_,h⟩ | ⟨_,rfl⟩
 ·exact h
 ·intro s v h; cases h
theorem swap {x y : Oper} {F : List D} {e f : Eff} (hf : Far ops x y) (hx : EffOf P H ops x F e) (hy : EffOf P H ops y (e.app x.dst F) f) :
  EffOf P H ops y F f ∧ EffOf P H ops x (f.app y.dst F) e ∧ f.app y.dst (e.app x.dst F) = e.app x.dst (f.app y.dst F) := by
 have hy' : EffOf P H ops y F f := hy.congr (fun t ht=>(app_getD (fun h=>(hf.d t h).1 ht) (fun v h=>(hf.t t (hx.tk t v h)).1 ht)).symm) (app_len _ _ _).symm
 refine ⟨hy',hx.congr (fun t ht=>app_getD (fun h=>hf.d' t h ht) (fun v h=>(hf.t' t (hy.tk t v h)).1 ht)) (app_len _ _ _),app_comm F (fun t h=>(hf.d t h).2) (fun s v h=>(hf.t s (hx.tk s v h)).2) (fun s v h=>(hf.t' s (hy.tk s v h)).2) (fun s v h v' h'=>?_)⟩
 exact (hf.t s (hx.tk s v h)).1 (tk_looks (hy.tk s v' h'))
def wpAnyD (P : Program) (md : Region.Mode) (ops : Array Oper) (H : AH) (Q : List D → Prop) : Nat → Array Bool → List D → Prop
 | 0,listed,F=>Region.ready md ops listed = [] ∧ Q F
 | fuel + 1,listed,F=>(Region.ready md ops listed = [] → Q F) ∧ ∀ i ∈ Region.ready md ops listed,∃ o e,ops[i]? = some o ∧ EffOf P H ops o F e ∧ wpAnyD P md ops H Q fuel (listed.setIfInBounds i true) (e.app o.dst F)
theorem wpAnyD_first {i : Nat} {oi : Oper} {e : Eff} (hi : ops[i]? = some oi) :
  ∀ (fuel : Nat) (listed : Array Bool) (F : List D),
   (∀ j oj,ops[j]? = some oj → j ≠ i → listed.getD j true = false → (∀ e ∈ oj.after,Region.binds md e = true → e.on ≠ i) → Far ops oi oj) →
   i ∈ Region.ready md ops listed → EffOf P H ops oi F e →
   wpAnyD P md ops H Q fuel (listed.setIfInBounds i true) (e.app oi.dst F) → wpAnyD P md ops H Q (fuel + 1) listed F := by
 intro fuel
 induction fuel with
 | zero =>
  intro listed F _ hr hy Hh
  refine ⟨fun h=>(by rw [h] at hr; cases hr),fun j hj=>?_⟩
  by_cases hji : j = i
  ·subst hji; exact ⟨oi,e,hi,hy,Hh⟩
  ·have := ready_mono hj hji
   rw [Hh.1] at this
   cases this
 | succ fuel ih =>
  intro listed F hfree hr hy Hh
  refine ⟨fun h=>(by rw [h] at hr; cases hr),fun j hj=>?_⟩
  by_cases hji : j = i
  ·subst hji; exact ⟨oi,e,hi,hy,Hh⟩
  ·obtain ⟨oj,f,hoj,hyj,hk⟩ := Hh.2 j (ready_mono hj hji)
   obtain ⟨hjun,oj',hoj',hall⟩ := mem_ready.1 hj
   obtain rfl : oj = oj' := by rw [hoj] at hoj'; exact Option.some.inj hoj'
   have hnot : ∀ e ∈ oj.after,Region.binds md e = true → e.on ≠ i := fun e he hb heq=>by
    have h1 := hall e he hb
    have h0 := (mem_ready.1 hr).1
    rw [heq] at h1
    rcases Nat.lt_or_ge i listed.size with h' | h'
    ·simp [h'] at h0 h1; rw [h0] at h1; cases h1
    ·simp [Array.getElem?_eq_none h'] at h1
   obtain ⟨s1,s2,s3⟩ := swap (hfree j oj hoj hji hjun hnot) hy hyj
   refine ⟨oj,f,hoj,s1,ih _ _ (fun k ok hk' hki hun hno=>?_) (ready_mono hr (Ne.symm hji)) s2 ?_⟩
   ·refine hfree k ok hk' hki ?_ hno
    by_cases hjk : j = k
    ·subst hjk; exact hjun
    ·rw [getD_set_ne true hjk] at hun; exact hun
   ·rw [Array.setIfInBounds_comm _ _ hji,← s3]
    exact hk
def freeT (md : Region.Mode) (ops : Array Oper) (listed : Array Bool) (i : Nat) : Bool :=
 match ops[i]? with
 | none=>false
 | some oi=>(List.range ops.size).all fun j=>j == i || listed.getD j true || match ops[j]? with
   | some oj=>oj.after.any (fun e=>Region.binds md e && e.on == i) || (oi.apart ops oj && tapart ops oi oj)
   | none=>true
theorem freeT_spec {i : Nat} {oi : Oper} {listed : Array Bool} (hi : ops[i]? = some oi) (h : freeT md ops listed i = true) (j : Nat) (oj : Oper)
  (hj : ops[j]? = some oj) (hne : j ≠ i) (hun : listed.getD j true = false) (hno : ∀ e ∈ oj.after,Region.binds md e = true → e.on ≠ i) : Far ops oi oj := by
 simp only [freeT,hi,List.all_eq_true,List.mem_range] at h
 have h1 := h j (Array.getElem?_eq_some_iff.1 hj).1
 simp only [hj,Bool.or_eq_true,beq_iff_eq,hne,false_or,hun,Bool.false_eq_true] at h1
 rcases h1 with h1 | h1
 ·obtain ⟨e,he,hb⟩ := Array.any_eq_true'.1 h1
  simp only [Bool.and_eq_true,beq_iff_eq] at hb
  exact (hno e he hb.1 hb.2).elim
 ·simp only [Bool.and_eq_true] at h1
  exact far_of h1.1 h1.2
def lexT (md : Region.Mode) (ops : Array Oper) : Nat → Nat → Array Bool → Bool
 | 0,_,listed=>(Region.ready md ops listed).isEmpty
 | fuel + 1,k,listed=>(Region.ready md ops listed).contains k && freeT md ops listed k && lexT md ops fuel (k + 1) (listed.setIfInBounds k true)
def chain (P : Program) (H : AH) (ops : Array Oper) : List Oper → List D → (List D → Prop) → Prop
 | [],F,k=>k F
 | o :: r,F,k=>∃ e,EffOf P H ops o F e ∧ chain P H ops r (e.app o.dst F) k
theorem wpAnyD_lex : ∀ (l : List Oper) (k : Nat) (listed : Array Bool) (F : List D),(∀ j,l[j]? = ops[k + j]?) → lexT md ops l.length k listed = true → chain P H ops l F Q → wpAnyD P md ops H Q l.length listed F
 | [],_,_,_,_,hB,h=>⟨by simpa [lexT] using hB,h⟩
 | o :: l,k,listed,F,hl,hB,h=>by
  have h0 : ops[k]? = some o := by simpa using (hl 0).symm
  simp only [List.length_cons,lexT,Bool.and_eq_true] at hB
  obtain ⟨⟨hr,hf⟩,hB'⟩ := hB
  obtain ⟨e,he,hk⟩ := h
  exact wpAnyD_first h0 l.length listed F (freeT_spec h0 hf) (by simpa using hr) he
   (wpAnyD_lex l (k + 1) _ _ (fun j=>by have := hl (j + 1); simpa [Nat.add_assoc,Nat.add_comm 1 j] using this) hB' hk)
theorem chain_of {k : List D → Prop} : ∀ (l : List Oper) (F : List D) (K : Nat → BK) (w : World) (a : Act),(∀ o ∈ l,opOk o = true) → St K w F H a.tmps → aopsD P ops.toList l F H k → chain P H ops l F k
 | [],F,K,w,a,_,_,h=>h
 | o :: r,F,K,w,a,hok,hs,h=>by
  have hgo : gst ops.toList F o = some true → aopD P ops.toList o F H (fun F'=>aopsD P ops.toList r F' H k) → chain P H ops (o :: r) F k := fun hg h=>by
   obtain ⟨e,h1,h2,h3⟩ := aopD_eff hs (hok o (.head _)) h
   refine ⟨e,.inl ⟨hg,h3,h2⟩,?_⟩
   obtain ⟨a',w',F',H',K',⟨hF',hH'⟩,_,hs',_⟩ := wp_some (h3 K w a F (fun _ _ _=>False) hs (fun _ _=>rfl) rfl)
   rw [hF',hH'] at hs'
   exact chain_of r _ K' w' a' (fun o ho=>hok o (.tail _ ho)) hs' h1
  have hskip : gst ops.toList F o = some false → aopsD P ops.toList r (putF F o.dst (.tup [])) H k → chain P H ops (o :: r) F k := fun hg h =>
   ⟨⟨none,.tup []⟩,.inr ⟨hg,rfl⟩,chain_of r _ K w _ (fun o ho=>hok o (.tail _ ho)) (st_skip hs o.dst) h⟩
  unfold gst at hgo hskip
  cases hg : o.guard with
  | none =>
   simp only [aopsD,hg] at h hgo
   exact hgo trivial h
  | some g =>
   obtain ⟨j,want⟩ := g
   simp only [aopsD,hg] at h hgo hskip
   cases hdd : (ops.toList[j]?).bind (·.dst) with
   | none =>
    simp only [hdd] at h hskip
    exact hskip trivial h
   | some t =>
    simp only [hdd] at h hgo hskip
    split at h
    ·rename_i b hb
     simp only [hb] at hgo hskip
     by_cases e : b = want
     ·exact hgo (by simp [e]) (h.1 e)
     ·exact hskip (by simp [e]) (h.2 (by cases b <;> cases want <;> simp_all))
    ·rename_i ds hb
     simp only [hb] at hskip
     exact hskip trivial h
    ·exact h.elim
theorem wpAny_of_D {K : Nat → BK} {w : World} {a : Act} {Q' : Exit → Act → World → Prop} (hQ : ∀ a' w',OKd (fun F' H'=>Q F' ∧ H' = H) K w a.defers a' w' → Q' .normal a' w') :
  ∀ (fuel : Nat) (listed : Array Bool) (F : List D) (K1 : Nat → BK) (w1 : World) (a1 : Act),St K1 w1 F H a1.tmps → FK K w K1 w1 → a1.defers = a.defers → wpAnyD P md ops H Q fuel listed F → wpAny P md ops Q' fuel listed a1 w1
 | 0,_,F,K1,w1,a1,hs,hfk,hd,h=>⟨h.1,hQ a1 w1 ⟨F,H,K1,⟨h.2,rfl⟩,hfk,hs,hd⟩⟩
 | fuel + 1,listed,F,K1,w1,a1,hs,hfk,hd,h=>⟨fun h0=>hQ a1 w1 ⟨F,H,K1,⟨h.1 h0,rfl⟩,hfk,hs,hd⟩,fun i hi=>by
   obtain ⟨o,e,ho,he,hk⟩ := h.2 i hi
   unfold wpOp
   simp only [ho]
   rcases he with ⟨g1,g2,_⟩ | ⟨g1,rfl⟩
   ·rw [if_pos (gst_sound hs g1)]
    refine .inl (Oper.wp_mono (fun a2 w2 h2=>?_) (g2 K1 w1 a1 F Q' hs (fun _ _=>rfl) rfl))
    obtain ⟨F',H',K',⟨hF',hH'⟩,q2,q3,q4⟩ := h2
    rw [hF',hH'] at q3
    exact wpAny_of_D hQ fuel _ _ K' w2 a2 q3 (hfk.trans q2) (q4.trans hd) hk
   ·rw [if_neg (by rw [gst_sound hs g1]; simp)]
    exact wpAny_of_D hQ fuel _ _ K1 w1 _ (st_skip hs o.dst) hfk ((put_defers o.dst undef).trans hd) hk⟩
theorem St.drew {K : Nat → BK} {w : World} {F : List D} {t : Array Value} (h : St K w F H t) : ∃ K',FK K w K' { w with drawn := w.drawn + 1 } ∧ St K' { w with drawn := w.drawn + 1 } F H t := by
 have hp : Pres K w K { w with drawn := w.drawn + 1 } := ⟨rfl,rfl,⟨rfl,Nat.le_succ _⟩,Nat.le_refl _,fun _ _=>⟨rfl,rfl⟩,fun _ _ h=>h⟩
 exact ⟨K,hp.fk h.krel,⟨h.krel,h.hrel.pres h.krel hp,h.len,fun i d v hd hv=>(h.slot i d v hd hv).keep (hp.keep h.krel) (fun _ h=>h)⟩⟩
def hpO : Op → Bool
 | .store _ _ _=>true
 | .alloc _=>true
 | .box _ _=>true
 | .makeMap _ _=>true
 | .mapUpdate _ _ _ _=>true
 | .mapEntry _ _ _=>true
 | .entryStore _ _ _ _=>true
 | .call ⟨.builtin .clear,_,_⟩=>true
 | _=>false
def preL (l : List Oper) : List Oper := l.takeWhile fun o=>!hpO o.op
def sufL (l : List Oper) : List Oper := l.dropWhile fun o=>!hpO o.op
def wpAnyE (P : Program) (md : Region.Mode) (ops : Array Oper) (H : AH) (n : Nat) (E : Array Bool → List D → Prop) : Nat → Array Bool → List D → Prop
 | 0,listed,F=>E listed F
 | fuel + 1,listed,F=>Region.ready md ops listed ≠ [] ∧ ∀ i ∈ Region.ready md ops listed,i < n ∧ ∃ o e,ops[i]? = some o ∧ EffOf P H ops o F e ∧ wpAnyE P md ops H n E fuel (listed.setIfInBounds i true) (e.app o.dst F)
theorem wpAnyE_first {n i : Nat} {oi : Oper} {e : Eff} {E : Array Bool → List D → Prop} (hi : ops[i]? = some oi) (hs : Region.sinkB md ops n = true) (hc : Region.chainB md ops n = true) (hn : n < ops.size) (hin : i < n)
  (hdone : ∀ listed F,E listed F → ∀ j ∈ Region.ready md ops listed,n ≤ j) :
  ∀ (fuel : Nat) (listed : Array Bool) (F : List D),HeadInv md ops n listed →
   (∀ j oj,ops[j]? = some oj → j ≠ i → listed.getD j true = false → (∀ e ∈ oj.after,Region.binds md e = true → e.on ≠ i) → Far ops oi oj) →
   i ∈ Region.ready md ops listed → EffOf P H ops oi F e →
   wpAnyE P md ops H n E fuel (listed.setIfInBounds i true) (e.app oi.dst F) → wpAnyE P md ops H n E (fuel + 1) listed F := by
 intro fuel
 induction fuel with
 | zero =>
  intro listed F inv _ hr hy Hh
  refine ⟨fun h=>(by rw [h] at hr; cases hr),fun j hj=>?_⟩
  have hjn : j < n := by
   rcases Nat.lt_or_ge j n with h | h
   ·exact h
   ·exact absurd hj (tail_waits hs hc hn inv _ i rfl hin (mem_ready.1 hr).1 j h)
  refine ⟨hjn,?_⟩
  by_cases hji : j = i
  ·subst hji; exact ⟨oi,e,hi,hy,Hh⟩
  ·have := hdone _ _ Hh j (ready_mono hj hji)
   omega
 | succ fuel ih =>
  intro listed F inv hfree hr hy Hh
  refine ⟨fun h=>(by rw [h] at hr; cases hr),fun j hj=>?_⟩
  have hjn : j < n := by
   rcases Nat.lt_or_ge j n with h | h
   ·exact h
   ·exact absurd hj (tail_waits hs hc hn inv _ i rfl hin (mem_ready.1 hr).1 j h)
  refine ⟨hjn,?_⟩
  by_cases hji : j = i
  ·subst hji; exact ⟨oi,e,hi,hy,Hh⟩
  ·obtain ⟨_,oj,f,hoj,hyj,hk⟩ := Hh.2 j (ready_mono hj hji)
   obtain ⟨hjun,oj',hoj',hall⟩ := mem_ready.1 hj
   obtain rfl : oj = oj' := by rw [hoj] at hoj'; exact Option.some.inj hoj'
   have hnot : ∀ e ∈ oj.after,Region.binds md e = true → e.on ≠ i := fun e he hb heq=>by
    have h1 := hall e he hb
    rw [heq,getD_both (mem_ready.1 hr).1] at h1
    cases h1
   obtain ⟨s1,s2,s3⟩ := swap (hfree j oj hoj hji hjun hnot) hy hyj
   refine ⟨oj,f,hoj,s1,ih _ _ (inv.set hj hjn) (fun k ok hk' hki hun hno=>?_) (ready_mono hr (Ne.symm hji)) s2 ?_⟩
   ·refine hfree k ok hk' hki ?_ hno
    by_cases hjk : j = k
    ·subst hjk; exact hjun
    ·rw [getD_set_ne true hjk] at hun; exact hun
   ·rw [Array.setIfInBounds_comm _ _ hji,← s3]
    exact hk
def lexH (md : Region.Mode) (ops : Array Oper) (g : Nat) : Nat → Nat → Array Bool → Bool
 | 0,k,listed=>Region.seqB md ops g k listed
 | f + 1,k,listed=>(Region.ready md ops listed).contains k && freeT md ops listed k && lexH md ops g f (k + 1) (listed.setIfInBounds k true)
theorem wpAnyE_lex {n g : Nat} {T : List D → Prop} (hs : Region.sinkB md ops n = true) (hc : Region.chainB md ops n = true) (hn : n < ops.size) :
  ∀ (l : List Oper) (k : Nat) (listed : Array Bool) (F : List D),(∀ j,j < l.length → l[j]? = ops[k + j]?) → k + l.length = n → HeadInv md ops n listed → lexH md ops g l.length k listed = true → chain P H ops l F T →
  wpAnyE P md ops H n (fun listed' F'=>Region.seqB md ops g n listed' = true ∧ T F') l.length listed F
 | [],k,listed,F,_,hk,_,hB,h=>by
  have : k = n := by simpa using hk
  subst this
  exact ⟨by simpa [lexH] using hB,h⟩
 | o :: l,k,listed,F,hl,hk,inv,hB,h=>by
  have h0 : ops[k]? = some o := by simpa using (hl 0 (by simp)).symm
  simp only [List.length_cons,lexH,Bool.and_eq_true] at hB
  obtain ⟨⟨hr,hf⟩,hB'⟩ := hB
  have hkn : k < n := by simp only [List.length_cons] at hk; omega
  have hr' : k ∈ Region.ready md ops listed := by simpa using hr
  obtain ⟨e,he,hK⟩ := h
  exact wpAnyE_first h0 hs hc hn hkn (fun listed' F' hL=>seqB_ready hL.1) l.length listed F inv (freeT_spec h0 hf) hr' he
   (wpAnyE_lex hs hc hn l (k + 1) _ _ (fun j hj=>by have := hl (j + 1) (by simp; omega); simpa [Nat.add_assoc,Nat.add_comm 1 j] using this) (by simp only [List.length_cons] at hk; omega) (inv.set hr' hkn) hB' hK)
theorem wpAny_of_E {n g : Nat} {E : Array Bool → List D → Prop} {K : Nat → BK} {w : World} {a : Act} {Q' : Exit → Act → World → Prop}
  (hE : ∀ listed F K1 w1 (a1 : Act),E listed F → St K1 w1 F H a1.tmps → FK K w K1 w1 → a1.defers = a.defers → wpAny P md ops Q' g listed a1 w1) :
  ∀ (fuel : Nat) (listed : Array Bool) (F : List D) (K1 : Nat → BK) (w1 : World) (a1 : Act),St K1 w1 F H a1.tmps → FK K w K1 w1 → a1.defers = a.defers → wpAnyE P md ops H n E fuel listed F → wpAny P md ops Q' (fuel + g) listed a1 w1
 | 0,listed,F,K1,w1,a1,hs,hfk,hd,h=>by rw [Nat.zero_add]; exact hE listed F K1 w1 a1 h hs hfk hd
 | fuel + 1,listed,F,K1,w1,a1,hs,hfk,hd,h=>by
  rw [show fuel + 1 + g = (fuel + g) + 1 by omega]
  refine ⟨fun h0=>absurd h0 h.1,fun i hi=>?_⟩
  obtain ⟨_,o,e,ho,he,hk⟩ := h.2 i hi
  unfold wpOp
  simp only [ho]
  rcases he with ⟨g1,g2,_⟩ | ⟨g1,rfl⟩
  ·rw [if_pos (gst_sound hs g1)]
   refine .inl (Oper.wp_mono (fun a2 w2 h2=>?_) (g2 K1 w1 a1 F Q' hs (fun _ _=>rfl) rfl))
   obtain ⟨F',H',K',⟨hF',hH'⟩,q2,q3,q4⟩ := h2
   rw [hF',hH'] at q3
   exact wpAny_of_E hE fuel _ _ K' w2 a2 q3 (hfk.trans q2) (q4.trans hd) hk
  ·rw [if_neg (by rw [gst_sound hs g1]; simp)]
   exact wpAny_of_E hE fuel _ _ K1 w1 _ (st_skip hs o.dst) hfk ((put_defers o.dst undef).trans hd) hk
def regOk (ops : Array Oper) : Bool := (ops.toList.all fun o=>!hpO o.op || o.guard.isNone) &&
 if (preL ops.toList).length < ops.size then Region.sinkB .any ops (preL ops.toList).length && Region.chainB .any ops (preL ops.toList).length && lexH .any ops (ops.size - (preL ops.toList).length) (preL ops.toList).length 0 (Array.replicate ops.size false)
 else lexT .any ops ops.size 0 (Array.replicate ops.size false)
theorem idx2 {p q l : List Oper} (h : p ++ q = l) (j : Nat) : l[p.length + j]? = q[j]? := by
 subst h
 rw [List.getElem?_append_right (by omega)]
 congr 1
 omega
theorem pre_suf (l : List Oper) : preL l ++ sufL l = l := List.takeWhile_append_dropWhile
theorem region_tail {k : List D → AH → Prop} {K : Nat → BK} {w : World} {F : List D} {a : Act} {Q' : Exit → Act → World → Prop} {id : Nat} (hm : P.follows .mixedOrders = true) (hB : regOk ops = true) (hok : ∀ o ∈ ops.toList,opOk o = true)
  (hs : St K w F H a.tmps) (hQ : ∀ a' w',OKd k K w a.defers a' w' → Q' .normal a' w') (h : aopsD P ops.toList (preL ops.toList) F H (fun F'=>aops P ops.toList (sufL ops.toList) F' H k)) : (Code.region id ops true).wp P Q' a w := by
 have hps := pre_suf ops.toList
 have hpre : ∀ o ∈ preL ops.toList,opOk o = true := fun o ho=>hok o (by rw [← hps]; exact List.mem_append_left _ ho)
 have hsuf : ∀ o ∈ sufL ops.toList,opOk o = true := fun o ho=>hok o (by rw [← hps]; exact List.mem_append_right _ ho)
 have hc := chain_of (ops := ops) (preL ops.toList) F K w a hpre hs h
 obtain ⟨K',hfk,hs'⟩ := hs.drew
 have hlen : (preL ops.toList).length + (sufL ops.toList).length = ops.size := by rw [← List.length_append,hps]; simp
 unfold regOk at hB
 rw [Bool.and_eq_true] at hB
 replace hB := hB.2
 refine wp_region_any hm ?_
 split at hB
 ·rename_i hn
  simp only [Bool.and_eq_true] at hB
  obtain ⟨⟨h1,h2⟩,h3⟩ := hB
  have inv0 : HeadInv .any ops (preL ops.toList).length (Array.replicate ops.size false) :=
   ⟨by simp,fun j oj _ hl=>(by rw [getD_replicate_false] at hl; cases hl),fun t _ ht=>getD_in (by simpa using ht) (getD_replicate_false _ _)⟩
  have hget : ∀ j : Nat,ops.toList[j]? = ops[j]? := fun j=>Array.getElem?_toList
  have hlex := wpAnyE_lex (P := P) (H := H) (md := .any) (g := ops.size - (preL ops.toList).length) h1 h2 hn (preL ops.toList) 0 _ F (fun j hj=>by
   rw [Nat.zero_add,← hget]; conv=>{ rhs; rw [← hps] }; rw [List.getElem?_append_left hj]) (Nat.zero_add _) inv0 h3 hc
  have hg : (sufL ops.toList).length = ops.size - (preL ops.toList).length := by omega
  have := wpAny_of_E (a := a) (Q' := Q') (K := K) (w := w) (g := ops.size - (preL ops.toList).length) (fun listed F1 K1 w1 a1 hE hs1 hfk1 hd1=>by
   have hw : wpList P ops Q' (sufL ops.toList) a1 w1 := aops_sound (ops := ops) (k := k) (K := K) (w := w) (a := a) hQ (sufL ops.toList) F1 H K1 w1 a1 hsuf hs1 hfk1 hd1 hE.2
   have := wpAny_of_seq (md := .any) (Q' := Q') (sufL ops.toList) (preL ops.toList).length listed a1 w1 (fun j=>by
    rw [← hget]; exact (idx2 hps j).symm) (by rw [hg]; exact hE.1) hw
   rwa [hg] at this) _ _ F K' _ a hs' hfk rfl hlex
  rw [show (preL ops.toList).length + (ops.size - (preL ops.toList).length) = ops.size by omega] at this
  exact this
 ·rename_i hn
  have hse : sufL ops.toList = [] := List.eq_nil_of_length_eq_zero (by omega)
  have hpe : preL ops.toList = ops.toList := by rw [hse,List.append_nil] at hps; exact hps
  rw [hpe,hse] at hc
  refine wpAny_of_D (Q := fun F'=>k F' H) (a := a) (fun a' w' ⟨F',H',K',⟨g1,g1'⟩,g2⟩=>hQ a' w' ⟨F',H',K',by rw [g1']; exact g1,g2⟩) ops.size _ F K' _ a hs' hfk rfl ?_
  have := wpAnyD_lex (P := P) (H := H) (md := .any) (Q := fun F'=>k F' H) ops.toList 0 (Array.replicate ops.size false) F (by simp) (by simpa using hB) hc
  simpa using this
end
end Go.Aw
end
section
namespace Go.Aw
open Go Go.RowKit
abbrev AQ := Exit → List D → AH → Prop
structure FKm (K : Nat → BK) (w : World) (K' : Nat → BK) (w' : World) : Prop where
 ext : ExtV K w K' w'
 own : ∀ b n,K b = .tok n .outer → K' b = .tok n .outer ∧ w'.heap[b]? = w.heap[b]?
 new : ∀ b n,K' b = .tok n .outer → K b = .tok n .outer ∨ (w.heap.size ≤ b ∧ w'.heap[b]? = some (.deferred (some [])))
theorem FK.m {K : Nat → BK} {w : World} {K' : Nat → BK} {w' : World} (h : FK K w K' w') : FKm K w K' w' := ⟨h.ext,h.own,fun b n hb=>.inl (h.new b n hb)⟩
theorem FKm.refl (K : Nat → BK) (w : World) : FKm K w K w := (FK.refl K w).m
theorem FKm.trans {K K' K'' : Nat → BK} {w w' w'' : World} (h : FKm K w K' w') (g : FKm K' w' K'' w'') : FKm K w K'' w'' :=
 ⟨h.ext.trans g.ext,fun b n hb=>⟨(g.own b n (h.own b n hb).1).1,(g.own b n (h.own b n hb).1).2.trans (h.own b n hb).2⟩,fun b n hb=>by
  rcases g.new b n hb with h1 | ⟨h1,h2⟩
  ·rcases h.new b n h1 with h3 | ⟨h3,h4⟩
   ·exact .inl h3
   ·exact .inr ⟨h3,(g.own b n h1).2.trans h4⟩
  ·exact .inr ⟨Nat.le_trans h.ext.size h1,h2⟩⟩
def Mk (K : Nat → BK) (w : World) (s : Nat) (ds : List Deferred) : Prop := ∃ Ds : List Nat,Ds.Nodup ∧ ds = Ds.map (fun D=>{ target := .collected D,args := #[] }) ∧ ∀ D ∈ Ds,s ≤ D ∧ K D = .tok 0 .outer ∧ w.heap[D]? = some (.deferred (some []))
theorem Mk.nil (K : Nat → BK) (w : World) (s : Nat) : Mk K w s [] := ⟨[],.nil,rfl,fun D h=>by cases h⟩
theorem Mk.keep {K : Nat → BK} {w : World} {K' : Nat → BK} {w' : World} {s : Nat} {ds : List Deferred} (h : Mk K w s ds) (hk : FKm K w K' w') : Mk K' w' s ds := by
 obtain ⟨Ds,h1,h2,h3⟩ := h
 exact ⟨Ds,h1,h2,fun D hD=>⟨(h3 D hD).1,(hk.own D _ (h3 D hD).2.1).1,(hk.own D _ (h3 D hD).2.1).2.trans (h3 D hD).2.2⟩⟩
theorem Mk.step {K : Nat → BK} {w : World} {K' : Nat → BK} {w' : World} {s : Nat} {a a' : Act} (h : Mk K w s a.defers) (hk : FK K w K' w') (hd : a'.defers = a.defers) : Mk K' w' s a'.defers := hd ▸ h.keep hk.m
def AW (P : Program) (c : Code) (F : List D) (H : AH) (Q : AQ) : Prop :=
 ∀ (K : Nat → BK) (w : World) (a : Act) (s : Nat),St K w F H a.tmps → s ≤ w.heap.size ∧ Mk K w s a.defers →
  c.wp P (fun e a' w'=>∃ F' H' K',Q e F' H' ∧ FKm K w K' w' ∧ St K' w' F' H' a'.tmps ∧ s ≤ w'.heap.size ∧ Mk K' w' s a'.defers) a w
def nextQ (k : List D → AH → Prop) (Q : AQ) : AQ
 | .normal=>k
 | e=>Q e
def blockQ (id : Nat) (Q : AQ) : AQ
 | .exit id'=>if id' = id then Q .normal else Q (.exit id')
 | e=>Q e
def acode (P : Program) : Code → List D → AH → AQ → Prop
 | .skip,F,H,Q=>Q .normal F H
 | .region _ ops false,F,H,Q=>aops P ops.toList ops.toList F H fun F' H'=>Q .normal F' H'
 | .region _ ops true,F,H,Q=>aopsD P ops.toList (preL ops.toList) F H fun F'=>aops P ops.toList (sufL ops.toList) F' H fun F'' H''=>Q .normal F'' H''
 | .seq x y,F,H,Q=>acode P x F H (nextQ (fun F' H'=>acode P y F' H' Q) Q)
 | .cond c x y,F,H,Q=>match rv F c with
  | .bool b=>(b = true → acode P x F H Q) ∧ (b = false → acode P y F H Q)
  | _=>False
 | .block id c,F,H,Q=>acode P c F H (blockQ id Q)
 | .exit id,F,H,Q=>Q (.exit id) F H
 | .ret,F,H,Q=>Q .ret F H
 | .label _,F,H,Q=>Q .normal F H
 | .loop c,F,H,Q=>AW P (.loop c) F H Q
 | _,_,_,_=>False
def codeOk : Code → Bool
 | .region _ ops false=>ops.all opOk
 | .region _ ops true=>ops.all opOk && regOk ops
 | .seq x y=>codeOk x && codeOk y
 | .cond c x y=>opndOk c && codeOk x && codeOk y
 | .block _ c=>codeOk c
 | .loop c=>codeOk c
 | _=>true
theorem AW.mono {P : Program} {c : Code} {F : List D} {H : AH} {Q Q' : AQ} (h : AW P c F H Q) (hq : ∀ e F H,Q e F H → Q' e F H) : AW P c F H Q' :=
 fun K w a s hs hd=>wp_mono (h K w a s hs hd) fun e a' w' ⟨F',H',K',g1,g2⟩=>⟨F',H',K',hq _ _ _ g1,g2⟩
theorem AW.and_then {P : Program} {x y : Code} {F : List D} {H : AH} {Q : AQ} (h : AW P x F H (nextQ (fun F' H'=>AW P y F' H' Q) Q)) : AW P (.seq x y) F H Q := by
 intro K w a s hs hd
 refine wp_seq (wp_mono (h K w a s hs hd) fun e a' w' ⟨F',H',K',g1,g2,g3,g4⟩=>?_)
 cases e with
 | normal =>
  refine wp_mono (g1 K' w' a' s g3 g4) fun e' a'' w'' ⟨F'',H'',K'',q1,q2,q3,q4⟩=>⟨F'',H'',K'',q1,g2.trans q2,q3,q4⟩
 | _=>exact ⟨F',H',K',g1,g2,g3,g4⟩
theorem acode_sound {P : Program} (hm : P.follows .mixedOrders = true) : ∀ (c : Code) (F : List D) (H : AH) (Q : AQ),codeOk c = true → acode P c F H Q → AW P c F H Q
 | .skip,F,H,Q,_,h=>fun K w a s hs hd=>wp_skip ⟨F,H,K,h,.refl K w,hs,hd⟩
 | .label l,F,H,Q,_,h=>fun K w a s hs hd=>wp_label ⟨F,H,K,h,.refl K w,hs,hd⟩
 | .exit id,F,H,Q,_,h=>fun K w a s hs hd=>wp_exit ⟨F,H,K,h,.refl K w,hs,hd⟩
 | .ret,F,H,Q,_,h=>fun K w a s hs hd=>wp_ret ⟨F,H,K,h,.refl K w,hs,hd⟩
 | .loop c,F,H,Q,_,h=>h
 | .region id ops false,F,H,Q,hok,h=>fun K w a s hs hd=>by
   simp only [codeOk] at hok
   refine wp_region_list (aops_sound (ops := ops) (k := fun F' H'=>Q .normal F' H') (w := w) (a := a) (K := K) (fun a' w' ⟨F',H',K',g1,g2,g3,g4⟩=>⟨F',H',K',g1,g2.m,g3,Nat.le_trans hd.1 g2.ext.size,hd.2.step g2 g4⟩) ops.toList F H K w a (fun o ho=>(Array.all_eq_true'.1 hok) o (by simpa using ho)) hs (.refl K w) rfl h)
 | .region id ops true,F,H,Q,hok,h=>fun K w a s hs hd=>by
   simp only [codeOk,Bool.and_eq_true] at hok
   exact region_tail (k := fun F' H'=>Q .normal F' H') hm hok.2 (fun o ho=>(Array.all_eq_true'.1 hok.1) o (by simpa using ho)) hs (fun a' w' ⟨F',H',K',g1,g2,g3,g4⟩=>⟨F',H',K',g1,g2.m,g3,Nat.le_trans hd.1 g2.ext.size,hd.2.step g2 g4⟩) h
 | .seq x y,F,H,Q,hok,h=>by
   simp only [codeOk,Bool.and_eq_true] at hok
   refine AW.and_then ((acode_sound hm x F H _ hok.1 h).mono fun e F' H' hq=>?_)
   cases e with
   | normal=>exact acode_sound hm y F' H' Q hok.2 hq
   | _=>exact hq
 | .cond c x y,F,H,Q,hok,h=>fun K w a s hs hd=>by
   simp only [codeOk,Bool.and_eq_true] at hok
   simp only [acode] at h
   split at h
   ·rename_i b hb
    have hv := (hb ▸ hs.rep hok.1.1).bool_inv
    cases b with
    | true=>exact wp_cond_true hv (acode_sound hm x F H Q hok.1.2 (h.1 rfl) K w a s hs hd)
    | false=>exact wp_cond_false hv (acode_sound hm y F H Q hok.2 (h.2 rfl) K w a s hs hd)
   ·exact h.elim
 | .block id c,F,H,Q,hok,h=>fun K w a s hs hd=>by
   simp only [codeOk] at hok
   refine wp_block (wp_mono (acode_sound hm c F H _ hok h K w a s hs hd) fun e a' w' ⟨F',H',K',g1,g2⟩=>?_)
   cases e with
   | exit id' =>
    simp only [blockQ] at g1
    simp only [Exit.inBlock]
    split
    ·rename_i e; rw [if_pos e] at g1; exact ⟨F',H',K',g1,g2⟩
    ·rename_i e; rw [if_neg e] at g1; exact ⟨F',H',K',g1,g2⟩
   | _=>exact ⟨F',H',K',g1,g2⟩
theorem least (R : Nat → Prop) (n : Nat) (h : R n) : ∃ m,R m ∧ ∀ k,k < m → ¬ R k := by
 induction n using Nat.strongRecOn with
 | _ n ih =>
  by_cases hh : ∃ k,k < n ∧ R k
  ·obtain ⟨k,hk,hr⟩ := hh
   exact ih k hk hr
  ·exact ⟨n,h,fun k hk hr=>hh ⟨k,hk,hr⟩⟩
def back (n : Nat) (H : AH) : AH := H.drop (H.length - n)
theorem back_self (H : AH) : back H.length H = H := by simp [back]
theorem back_cons {n : Nat} {x : Nat × AO} {H : AH} (h : n ≤ H.length) : back n (x :: H) = back n H := by
 unfold back
 rw [List.length_cons,show H.length + 1 - n = (H.length - n) + 1 by omega,List.drop_succ_cons]
theorem setH_len {b : Nat} {o : AO} : ∀ {H : AH},(setH H b o).length = H.length
 | []=>rfl
 | (c,x) :: r=>by
  simp only [setH]
  split
  ·rfl
  ·simp only [List.length_cons,setH_len]
theorem St.sub {K : Nat → BK} {w : World} {F : List D} {H H' : AH} {t : Array Value} (h : St K w F H t) (hs : H'.Sublist H) : St K w F H' t :=
 ⟨h.krel,⟨(hs.map (·.1)).nodup h.hrel.nd,fun b o hm=>h.hrel.ok b o (hs.subset hm)⟩,h.len,h.slot⟩
theorem back_sub (n : Nat) (H : AH) : (back n H).Sublist H := List.drop_sublist _ _
theorem AW.loop {P : Program} (hm : P.follows .mixedOrders = true) {c : Code} {F : List D} {H : AH} {Q : AQ} (hok : codeOk c = true) (I : List D → AH → Prop) (μ : List D → AH → Nat) (h0 : I F H)
  (round : ∀ F H,I F H → acode P c F H (nextQ (fun F' H'=>I F' (back H.length H') ∧ μ F' (back H.length H') < μ F H) Q)) : AW P (.loop c) F H Q := by
 intro K0 w0 a0 s0 hs0 hd0
 let R : Act → World → Nat → Prop := fun a w n=>∃ F H K,I F H ∧ μ F H = n ∧ FKm K0 w0 K w ∧ St K w F H a.tmps ∧ s0 ≤ w.heap.size ∧ Mk K w s0 a.defers
 refine wp_loop (fun a w=>∃ n,R a w n) (fun a w=>open Classical in if h : ∃ n,R a w n then Classical.choose (least (R a w) h.choose h.choose_spec) else 0) ⟨_,F,H,K0,h0,rfl,.refl K0 w0,hs0,hd0⟩ ?_
 intro a w hR
 have hmin := Classical.choose_spec (least (R a w) hR.choose hR.choose_spec)
 simp only [dif_pos hR]
 generalize Classical.choose (least (R a w) hR.choose hR.choose_spec) = m at hmin
 obtain ⟨⟨F1,H1,K1,i1,i2,i3,i4,i5⟩,hleast⟩ := hmin
 refine wp_mono (acode_sound hm c F1 H1 _ hok (round F1 H1 i1) K1 w a s0 i4 i5) fun e a' w' ⟨F',H',K',g1,g2,g3,g4⟩=>?_
 cases e with
 | normal =>
  obtain ⟨q1,q2⟩ := g1
  have hR' : R a' w' (μ F' (back H1.length H')) := ⟨F',_,K',q1,rfl,i3.trans g2,g3.sub (back_sub _ _),g4⟩
  have hex : ∃ n,R a' w' n := ⟨_,hR'⟩
  refine ⟨hex,?_⟩
  simp only [dif_pos hex]
  have hmin' := Classical.choose_spec (least (R a' w') hex.choose hex.choose_spec)
  generalize Classical.choose (least (R a' w') hex.choose hex.choose_spec) = m' at hmin'
  have : m' ≤ μ F' (back H1.length H') := Nat.le_of_not_lt fun hlt=>hmin'.2 _ hlt hR'
  omega
 | _=>exact ⟨F',H',K',g1,i3.trans g2,g3,g4⟩
def resOne (P : Program) (F : List D) (H : AH) : ResultVar → Option D
 | .tmp t=>match F.getD t .any with
  | .tup _=>none
  | d=>some d
 | .cell x t=>match tyI P t,rv F (.tmp x) with
  | some (true,n),.ptr b off=>match getH H b with
   | some (.cells cs)=>if off + n ≤ cs.length then some (.agg (((cs.drop off).take n).map D.view1)) else none
   | _=>none
  | some (false,_),.ptr b off=>match getH H b with
   | some (.cells cs)=>match cs[off]? with
    | some c=>some c.view1
    | none=>none
   | _=>none
  | _,_=>none
def resAll (P : Program) (F : List D) (H : AH) : List ResultVar → Option (List D)
 | []=>some []
 | r :: rs=>match resOne P F H r with
  | some d=>match resAll P F H rs with
   | some ds=>some (d :: ds)
   | none=>none
  | none=>none
def resD (P : Program) (rs : List ResultVar) (F : List D) (H : AH) (k : D → Prop) : Prop :=
 match rs with
 | [r]=>match resOne P F H r with
  | some d=>k d
  | none=>False
 | rs=>match resAll P F H rs with
  | some ds=>k (.tup ds)
  | none=>False
def retQ (P : Program) (rs : List ResultVar) (n : Nat) (R : D → AH → Prop) : AQ
 | .normal,F,H=>resD P rs F H fun d=>R d (back n H)
 | .ret,F,H=>resD P rs F H fun d=>R d (back n H)
 | _,_,_=>False
def facts : List D → Prop
 | []=>True
 | d :: r=>fact d ∧ facts r
section
variable {P : Program} {K : Nat → BK} {w : World} {F : List D} {H : AH} {a : Act}
def resRun (tmps : Array Value) : ResultVar → Sem Value
 | .tmp t=>pure (tmps.getD t undef)
 | .cell x t=>do loadVar t (← asAddr (tmps.getD x undef))
theorem resOne_run (hs : St K w F H a.tmps) {r : ResultVar} {d : D} (h : resOne P F H r = some d) : ∃ v,(resRun a.tmps r).run P w = .ok v w ∧
  ((∃ t,r = .tmp t ∧ RepC K w (.slot t 0) d v) ∨ ((∀ t,r ≠ .tmp t) ∧ RepV K w d v)) := by
 cases r with
 | tmp t =>
  simp only [resOne] at h
  have hd : d = F.getD t .any ∧ ∀ ds,F.getD t .any ≠ .tup ds := by
   split at h
   ·cases h
   ·rename_i hn; simp only [Option.some.injEq] at h; exact ⟨h.symm,hn⟩
  refine ⟨a.tmps.getD t undef,rfl,.inl ⟨t,rfl,?_⟩⟩
  rcases Nat.lt_or_ge t F.length with hlt | hge
  ·have h1 : F[t]? = some d := by rw [hd.1]; simp [List.getD,List.getElem?_eq_getElem hlt]
   have h2 : a.tmps[t]? = some (a.tmps.getD t undef) := by
    have : t < a.tmps.size := by rw [hs.len]; exact hlt
    simp [Array.getElem?_eq_getElem this]
   have hr := hs.slot t d _ h1 h2
   have hnt := hd.2
   rw [← hd.1] at hnt
   cases d <;> first | exact hr | exact (hnt _ rfl).elim
  ·rw [hd.1]
   simp only [List.getD,List.getElem?_eq_none hge]
   exact .any _
 | cell x t =>
  simp only [resOne] at h
  have hx := hs.rep (x := .tmp x) rfl
  split at h
  ·rename_i n b off ht hp
   split at h
   ·rename_i cs hg
    split at h
    ·rename_i hle
     simp only [Option.some.injEq] at h
     subst h
     have hv := (hp ▸ hx).ptr_inv
     obtain ⟨_,c,T,hb,hcs,hr⟩ := hs.hrel.ok b _ (getH_mem hg)
     have hl := run_loadAgg (P := P) ht b off ((c.toList.drop off).take n) (by simp; omega) (fun j v hv'=>by
      rw [cell_at hb]
      rw [List.getElem?_take] at hv'
      split at hv'
      ·simpa using hv'
      ·cases hv')
     refine ⟨.agg ((c.toList.drop off).take n).toArray,?_,.inr ⟨fun t e=>(by cases e),agg_of_list _ _ (by simp; omega) (fun j u hu=>?_) (fun j d u hd hu=>?_)⟩⟩
     ·have he : a.tmps.getD x undef = .pointer (some ⟨b,off,none⟩) := hv
      simp only [resRun,he,asAddr,Sem.run_bind,Sem.run_pure,Result.andThen_ok]
      simpa [Instr.loadAt,Instr.sureAddr] using hl
     ·rw [List.getElem?_take] at hu
      split at hu
      ·rename_i hj
       obtain ⟨u',e1,e2,_⟩ := hr (off + j) _ (List.getElem?_eq_getElem (show off + j < cs.length by omega))
       simp only [List.getElem?_drop,Array.getElem?_toList,e1,Option.some.injEq] at hu
       exact hu ▸ e2
      ·cases hu
     ·rw [List.getElem?_take] at hu
      split at hu
      ·rename_i hj
       rw [List.getElem?_map,List.getElem?_take,if_pos hj,List.getElem?_drop,Option.map_eq_some_iff] at hd
       obtain ⟨d',hd',rfl⟩ := hd
       obtain ⟨u',e1,e2,e3⟩ := hr (off + j) _ hd'
       simp only [List.getElem?_drop,Array.getElem?_toList,e1,Option.some.injEq] at hu
       exact hu ▸ e3.rep
      ·cases hu
    ·cases h
   ·cases h
  ·rename_i n b off ht hp
   split at h
   ·rename_i cs hg
    split at h
    ·rename_i c hc
     simp only [Option.some.injEq] at h
     subst h
     have hv := (hp ▸ hx).ptr_inv
     obtain ⟨_,c',T,hb,hcs,hr⟩ := hs.hrel.ok b _ (getH_mem hg)
     obtain ⟨u,e1,e2,e3⟩ := hr off _ hc
     have hl := run_loadOne (P := P) ht b off u (by rw [cell_at hb]; exact e1)
     refine ⟨u,?_,.inr ⟨fun t e=>(by cases e),e3.rep⟩⟩
     have he : a.tmps.getD x undef = .pointer (some ⟨b,off,none⟩) := hv
     simp only [resRun,he,asAddr,Sem.run_bind,Sem.run_pure,Result.andThen_ok]
     simpa [Instr.loadAt,Instr.sureAddr] using hl
    ·cases h
   ·cases h
  ·cases h
theorem resAll_run (hs : St K w F H a.tmps) : ∀ (rs : List ResultVar) (ds : List D),resAll P F H rs = some ds → ∃ vs,(rs.mapM (resRun a.tmps)).run P w = .ok vs w ∧ vs.length = ds.length ∧ rs.length = ds.length ∧
  ∀ (j : Nat) (r : ResultVar) (d : D) (v : Value),rs[j]? = some r → ds[j]? = some d → vs[j]? = some v → ((∃ t,r = .tmp t ∧ RepC K w (.slot t 0) d v) ∨ ((∀ t,r ≠ .tmp t) ∧ RepV K w d v))
 | [],ds,h=>by
  simp only [resAll,Option.some.injEq] at h
  subst h
  exact ⟨[],by simp,rfl,rfl,fun j r d v h=>by simp at h⟩
 | r :: rs,ds,h=>by
  simp only [resAll] at h
  split at h
  ·rename_i d hd
   split at h
   ·rename_i ds' hds
    simp only [Option.some.injEq] at h
    subst h
    obtain ⟨v,h1,h2⟩ := resOne_run hs hd
    obtain ⟨vs,g1,g2,g3,g4⟩ := resAll_run hs rs ds' hds
    refine ⟨v :: vs,by simp only [List.mapM_cons,Sem.run_bind,h1,Result.andThen_ok,g1,Sem.run_pure],by simp [g2],by simp [g3],fun j r' d' v' e1 e2 e3=>?_⟩
    cases j with
    | zero =>
     simp only [List.getElem?_cons_zero,Option.some.injEq] at e1 e2 e3
     subst e1 e2 e3
     exact h2
    | succ j=>exact g4 j r' d' v' e1 e2 e3
   ·cases h
  ·cases h
end
end Go.Aw
end
section
namespace Go.Aw
open Go Go.RowKit
def rOk : List ResultVar → Bool
 | []=>true
 | .tmp t :: r=>r.all (fun x=>match x with | .tmp t'=>t' != t | _=>true) && rOk r
 | .cell _ _ :: r=>rOk r
def posW : List ResultVar → Nat → Nat → Who
 | [],_,_=>.slot 1 0
 | .tmp t' :: rs,q,t=>if t' = t then .slot 0 (q + 1) else posW rs (q + 1) t
 | .cell _ _ :: rs,q,t=>posW rs (q + 1) t
theorem posW_slot : ∀ (rs : List ResultVar) (q t : Nat),∃ i j,posW rs q t = .slot i j
 | [],q,t=>⟨1,0,rfl⟩
 | .tmp t' :: rs,q,t=>by
  simp only [posW]
  split
  ·exact ⟨_,_,rfl⟩
  ·exact posW_slot rs _ _
 | .cell _ _ :: rs,q,t=>posW_slot rs _ _
theorem posW_at : ∀ (rs : List ResultVar) (q j t : Nat),rOk rs = true → rs[j]? = some (.tmp t) → posW rs q t = .slot 0 (q + j + 1)
 | [],q,j,t,_,h=>by simp at h
 | .tmp t' :: rs,q,0,t,_,h=>by
  simp only [List.getElem?_cons_zero,Option.some.injEq,ResultVar.tmp.injEq] at h
  simp [posW,h]
 | .tmp t' :: rs,q,j + 1,t,hk,h=>by
  simp only [rOk,Bool.and_eq_true] at hk
  simp only [List.getElem?_cons_succ] at h
  have hne : t' ≠ t := fun e=>by
   have := (List.all_eq_true.1 hk.1) _ (List.mem_of_getElem? h)
   simp [e] at this
  simp only [posW,if_neg hne]
  rw [posW_at rs (q + 1) j t hk.2 h]
  congr 1
  omega
 | .cell _ _ :: rs,q,0,t,_,h=>by simp at h
 | .cell _ _ :: rs,q,j + 1,t,hk,h=>by
  simp only [rOk] at hk
  simp only [List.getElem?_cons_succ] at h
  simp only [posW]
  rw [posW_at rs (q + 1) j t hk h]
  congr 1
  omega
section
variable {P : Program}
theorem facts_of {K : Nat → BK} {w : World} : ∀ (args : List D) (vs : List Value),vs.length = args.length → (∀ (j : Nat) (d : D) (v : Value),args[j]? = some d → vs[j]? = some v → RepV K w d v) → facts args
 | [],_,_,_=>trivial
 | d :: r,[],h,_=>by simp at h
 | d :: r,v :: vs,h,hr=>⟨(hr 0 d v rfl rfl).fact,facts_of r vs (Nat.succ.inj h) (fun j d v h1 h2=>hr (j + 1) d v h1 h2)⟩
theorem slotφ_fk {K : Nat → BK} {w : World} {φ : Who → Who} (h1 : φ .outer = .outer) (h2 : ∀ b j,φ (.cell b j) = .cell b j) (h3 : ∀ i j,∃ i' j',φ (.slot i j) = .slot i' j') : FK K w (relab φ K) w := by
 refine ⟨relab_ext φ K w,fun b n h=>⟨by rw [relab_tok h,h1],rfl⟩,fun b n h=>?_⟩
 obtain ⟨o',e1,e2⟩ := relab_tok_inv h
 cases o' with
 | slot i j=>obtain ⟨i',j',h'⟩ := h3 i j; rw [h'] at e2; cases e2
 | cell c j=>rw [h2] at e2; cases e2
 | outer=>exact e1
theorem end_state {fn : Func} {K : Nat → BK} {w : World} {F : List D} {H : AH} {a : Act} {n : Nat} {R : D → AH → Prop} (hk : rOk fn.results.toList = true) (hs : St K w F H a.tmps) (h : resD P fn.results.toList F H fun d=>R d (back n H)) :
  ∃ v d H' K',(results fn a.tmps).run P w = .ok v w ∧ R d H' ∧ FK K w K' w ∧ KRel K' w ∧ HRel K' w H' ∧ RepO K' w 0 d v := by
 have hres : ∀ vs : List Value,(fn.results.toList.mapM (resRun a.tmps)).run P w = .ok vs w → (results fn a.tmps).run P w = .ok (if h : vs.length = 1 then vs[0] else .tuple vs.toArray) w := fun vs hv=>by
  have he : results fn a.tmps = (fn.results.mapM (resRun a.tmps) >>= fun vs=>pure (if h : vs.size = 1 then vs[0] else .tuple vs)) := by
   unfold results
   congr 2
  rw [he,Array.mapM_eq_mapM_toList,Sem.run_bind,Sem.run_map,hv]
  simp only [Result.andThen_ok,Sem.run_pure,List.size_toArray]
  split <;> simp
 have hsub : HRel K w (back n H) := (hs.sub (back_sub n H)).hrel
 unfold resD at h
 split at h
 ·rename_i r hr
  split at h
  ·rename_i d hd
   obtain ⟨v,h1,h2⟩ := resOne_run (P := P) hs hd
   have hrun := hres [v] (by rw [hr]; simp [h1])
   simp only [List.length_cons,List.length_nil,Nat.zero_add,dite_true,List.getElem_cons_zero] at hrun
   rcases h2 with ⟨t,rfl,h2⟩ | ⟨_,h2⟩
   ·let φ : Who → Who := fun o=>match o with
     | .slot i j=>if i = t then .slot 0 j else .slot 1 j
     | x=>x
    refine ⟨v,d,back n H,relab φ K,hrun,h,slotφ_fk rfl (fun _ _=>rfl) (fun i j=>?_),relab_krel hs.krel,relab_hrel ⟨fun _ _=>rfl,rfl⟩ hsub,repC_O (h2.conv (relab_ext φ K w) (fun b m hb=>by rw [relab_tok hb]; simp [φ]))⟩
    simp only [φ]
    split
    ·exact ⟨_,_,rfl⟩
    ·exact ⟨_,_,rfl⟩
   ·exact ⟨v,d,back n H,K,hrun,h,.refl K w,hs.krel,hsub,h2.viewO⟩
  ·exact h.elim
 ·rename_i rs hnr
  split at h
  ·rename_i ds hds
   obtain ⟨vs,g1,g2,g3,g4⟩ := resAll_run (P := P) hs _ _ hds
   have hrun := hres vs g1
   have hl1 : vs.length ≠ 1 := fun e=>by
    have hl : fn.results.toList.length = 1 := by omega
    match hq : fn.results.toList,hl with
    | [r],_=>exact hnr r hq
   rw [dif_neg hl1] at hrun
   let φ : Who → Who := fun o=>match o with
    | .slot i j=>posW fn.results.toList 0 i
    | x=>x
   refine ⟨.tuple vs.toArray,.tup ds,back n H,relab φ K,hrun,h,slotφ_fk rfl (fun _ _=>rfl) (fun i j=>posW_slot _ _ _),relab_krel hs.krel,relab_hrel ⟨fun _ _=>rfl,rfl⟩ hsub,vs.toArray,rfl,by simp [g2],fun j d u hd hu=>?_⟩
   have hu' : vs[j]? = some u := by simpa using hu
   have hj : j < fn.results.toList.length := by rw [g3]; exact (List.getElem?_eq_some_iff.1 hd).1
   rcases g4 j _ d u (List.getElem?_eq_getElem hj) hd hu' with ⟨t,ht,hc⟩ | ⟨_,hc⟩
   ·refine hc.conv (relab_ext φ K w) (fun b m hb=>?_)
    rw [relab_tok hb]
    have hp := posW_at fn.results.toList 0 j t hk (by rw [List.getElem?_eq_getElem hj,ht])
    simp [φ,hp]
   ·exact (RepV.mono (relab_ext φ K w) hc).repC (fun xs e=>by subst e; exact hc.not_own)
  ·exact h.elim
theorem ACall.calls {f : FuncId} {args : List D} {R : D → AH → Prop} (h : ACall P f args [] R) (w : World) (vs : Array Value) (hl : vs.size = args.length)
  (hr : ∀ (j : Nat) (d : D) (v : Value),args[j]? = some d → vs[j]? = some v → RepV (fun _=>.imm) w d v) :
  Calls P f vs w fun e w'=>∃ v d H' K',e = .returned v ∧ R d H' ∧ Below w.heap.size w w' ∧ RepO K' w' 0 d v := by
 refine (h.2 (fun _=>.imm) w vs (fun _ _=>rfl) (fun _ _ _ _ h=>by cases h) ⟨by simp,fun b o hm=>by simp at hm⟩ hl hr).mono fun e w' ⟨v,d,H',K',g1,g2,g3,g4,g5,g6⟩=>⟨v,d,H',K',g1,g2,?_,g6⟩
 exact ⟨g3.ext.os,g3.ext.tape,g3.ext.output.1,g3.ext.size,fun b hb=>(g3.ext.imm b hb rfl).2⟩
end
end Go.Aw
end
