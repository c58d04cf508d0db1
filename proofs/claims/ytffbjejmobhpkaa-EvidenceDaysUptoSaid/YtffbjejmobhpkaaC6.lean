/- A part of the proof of what the last text says: Aw12, Aw13. Conditions: those in each theorem. -/
import Derived.Test.YtffbjejmobhpkaaC5
import Derived.Still
import Derived.StillTail
set_option linter.unusedVariables false
set_option linter.unusedSimpArgs false
set_option maxRecDepth 100000
set_option maxHeartbeats 16000000
open Nat renaming reduceSub → qa,reduceAdd → qb,reduceMul → qc,reduceEqDiff → qd,reduceLeDiff → qe,reduceBEq → qf
section
namespace Go.Aw
open Go Go.RowKit
def gst (ops : List Oper) (F : List D) (o : Oper) : Option Bool :=
  match o.guard with
  | none=>some true
  | some (j,want)=>match (ops[j]?).bind (·.dst) with
    | some t=>match F.getD t .any with
      | .bool b=>some (b == want)
      | .tup _=>some false
      | _=>none
    | none=>some false
def aops (P : Program) (ops : List Oper) : List Oper → List D → AH → (List D → AH → Prop) → Prop
  | [],F,H,k=>k F H
  | o :: r,F,H,k=>match o.guard with
    | none=>aop P ops o F H fun F' H'=>aops P ops r F' H' k
    | some (j,want)=>match (ops[j]?).bind (·.dst) with
      | some t=>match F.getD t .any with
        | .bool b=>(b = want → aop P ops o F H fun F' H'=>aops P ops r F' H' k) ∧ (b = (!want) → aops P ops r (putF F o.dst (.tup [])) H k)
        | .tup _=>aops P ops r (putF F o.dst (.tup [])) H k
        | _=>False
      | none=>aops P ops r (putF F o.dst (.tup [])) H k
section
variable {P : Program} {ops : Array Oper} {o : Oper} {F : List D} {H : AH} {k : List D → AH → Prop} {K : Nat → BK} {w : World} {a : Act} {Q : Exit → Act → World → Prop}
theorem gst_sound (hs : St K w F H a.tmps) {b : Bool} (h : gst ops.toList F o = some b) : Region.wanted o (yielded ops a.tmps) = b := by
  unfold gst at h
  unfold Region.wanted
  cases hg : o.guard with
  | none=>simp only [hg,Option.some.injEq] at h; exact h
  | some g =>
    obtain ⟨j,want⟩ := g
    simp only [hg] at h ⊢
    unfold yielded
    simp only [Array.getElem?_toList] at h
    cases hd : (ops[j]?).bind (·.dst) with
    | none=>simp only [hd,Option.some.injEq] at h; subst h; rfl
    | some t =>
      simp only [hd] at h
      simp only [Option.bind_some]
      have key : ∀ d : D,F.getD t .any = d → d ≠ .any → ∃ v,a.tmps[t]? = some v ∧ RepO K w t d v := by
        intro d h1 h2
        have hlt : t < F.length := by
          rcases Nat.lt_or_ge t F.length with h' | h'
          · exact h'
          · simp [List.getD,List.getElem?_eq_none h'] at h1; exact (h2 h1.symm).elim
        have hF : F[t]? = some d := by rw [← h1]; simp [List.getD,List.getElem?_eq_getElem hlt]
        have hts : t < a.tmps.size := by rw [hs.len]; exact hlt
        exact ⟨_,Array.getElem?_eq_getElem hts,hs.slot t d _ hF (Array.getElem?_eq_getElem hts)⟩
      split at h
      · rename_i bb hb
        obtain ⟨v,h1,h2⟩ := key _ hb (by simp)
        rw [h1,RepV.bool_inv h2]
        simp only [Option.some.injEq] at h
        simp only [← h]
        cases bb <;> cases want <;> rfl
      · rename_i ds hb
        obtain ⟨v,h1,vs,rfl,_⟩ := key _ hb (by simp)
        rw [h1]
        simp only [Option.some.injEq] at h
        subst h
        rfl
      · cases h
theorem undef_rep : RepV K w (.tup []) undef := .tup [] #[] rfl (fun j d u hd=>by simp at hd)
theorem st_skip (hs : St K w F H a.tmps) (dst : Option Tmp) : St K w (putF F dst (.tup [])) H (a.put dst undef).tmps :=
  hs.put ((Pres.refl K w).keep hs.krel) (fun _ _ h=>h) hs.krel hs.hrel dst (fun i _=>undef_rep.viewO)
theorem OKd.trans {k' : List D → AH → Prop} {ds : List Deferred} {K0 : Nat → BK} {w0 : World} {F' : List D} {H' : AH} (h : OKd k K w ds a w0) : OKd k K w ds a w0 := h
theorem aops_sound (hQ : ∀ a' w',OKd k K w a.defers a' w' → Q .normal a' w') : ∀ (l : List Oper) (F : List D) (H : AH) (K1 : Nat → BK) (w1 : World) (a1 : Act),(∀ o ∈ l,opOk o = true) → St K1 w1 F H a1.tmps → FK K w K1 w1 → a1.defers = a.defers →
    aops P ops.toList l F H k → wpList P ops Q l a1 w1
  | [],F,H,K1,w1,a1,_,hs,hfk,hd,h=>wpList_nil (hQ a1 w1 ⟨F,H,K1,h,hfk,hs,hd⟩)
  | o :: r,F,H,K1,w1,a1,hok,hs,hfk,hd,h=>by
    have hgo : aop P ops.toList o F H (fun F' H'=>aops P ops.toList r F' H' k) → o.wp P a1 w1 (wpList P ops Q r) Q := fun h=>by
      refine Oper.wp_mono (fun a2 w2 h2=>?_) (aop_sound (Q := Q) hs (hok o (.head _)) h)
      obtain ⟨F',H',K',g1,g2,g3,g4⟩ := h2
      exact aops_sound hQ r F' H' K' w2 a2 (fun o ho=>hok o (.tail _ ho)) g3 (hfk.trans g2) (g4.trans hd) g1
    have hskip : aops P ops.toList r (putF F o.dst (.tup [])) H k → wpList P ops Q r (a1.put o.dst undef) w1 := fun h =>
      aops_sound hQ r _ H K1 w1 _ (fun o ho=>hok o (.tail _ ho)) (st_skip hs o.dst) hfk ((put_defers o.dst undef).trans hd) h
    have hw := fun b=>gst_sound (ops := ops) (o := o) hs (b := b)
    unfold gst at hw
    unfold wpList
    cases hg : o.guard with
    | none =>
      simp only [aops,hg] at h
      simp only [hg] at hw
      rw [if_pos (hw true rfl)]
      exact .inl (hgo h)
    | some g =>
      obtain ⟨j,want⟩ := g
      simp only [aops,hg] at h
      simp only [hg] at hw
      cases hdd : (ops.toList[j]?).bind (·.dst) with
      | none =>
        simp only [hdd] at h hw
        rw [if_neg (by rw [hw false rfl]; simp)]
        exact hskip h
      | some t =>
        simp only [hdd] at h hw
        split at h
        · rename_i b hb
          simp only [hb] at hw
          by_cases e : b = want
          · rw [if_pos (by rw [hw true (by simp [e])])]
            exact .inl (hgo (h.1 e))
          · rw [if_neg (by rw [hw false (by simp [e])]; simp)]
            exact hskip (h.2 (by cases b <;> cases want <;> simp_all))
        · rename_i ds hb
          simp only [hb] at hw
          rw [if_neg (by rw [hw false rfl]; simp)]
          exact hskip h
        · exact h.elim
end
structure Eff where
  tk : Option (Nat × D)
  d : D
def Eff.app (e : Eff) (dst : Option Tmp) (G : List D) : List D := putF (match e.tk with | some (s,v)=>G.set s v | none=>G) dst e.d
def tk1 (ops : List Oper) (o : Oper) : Option Nat :=
  match o.op with
  | .move (.tmp s)=>match o.dst with
    | some d=>if takes ops d = true then some s else none
    | none=>none
  | .assign (.tmp s)=>some s
  | .call c=>match c.callee with
    | .builtin .append=>match c.args.toList with
      | [.tmp s,_]=>some s
      | _=>none
    | _=>none
  | .store _ _ (.tmp s)=>some s
  | _=>none
def tapart (ops : Array Oper) (x y : Oper) : Bool :=
  (match tk1 ops.toList x with
   | some s=>!(y.looksAt ops).contains s && y.dst != some s
   | none=>true) &&
  (match tk1 ops.toList y with
   | some s=>!(x.looksAt ops).contains s && x.dst != some s
   | none=>true)
def Sub (H0 H : AH) : Prop := ∀ b o,getH H0 b = some o → getH H b = some o
theorem Sub.refl (H : AH) : Sub H H := fun _ _ h=>h
def aopD (P : Program) (ops : List Oper) (o : Oper) (F : List D) (H : AH) (k : List D → Prop) : Prop :=
  match o.op with
  | .alloc _=>False
  | .box _ _=>False
  | .store _ _ _=>False
  | .makeMap _ _=>False
  | .mapUpdate _ _ _ _=>False
  | .mapEntry _ _ _=>False
  | .entryStore _ _ _ _=>False
  | .extract (.tmp s) ix=>match o.dst,ev F (.tmp s) with
    | some d,.tup ds=>match ds[ix]? with
      | some c=>fact c.view1 → k (F.set d c.view1)
      | none=>False
    | _,_=>False
  | .load _ _=>valO P (rv F) H o.op fun d=>k (putF F o.dst d)
  | .binOp _ _ _ _ _=>valO P (rv F) H o.op fun d=>k (putF F o.dst d)
  | .call c=>match c.callee with
    | .value f=>match rv F f with
      | .fn g caps=>∃ d,(∀ H1,Sub H H1 → ACall P g (capA (c.args.toList.map (rv F)) caps) H1 (fun d' H'=>d' = d ∧ H' = H1)) ∧ (fact d.view → k (putF F o.dst d))
      | _=>False
    | .builtin .clear=>False
    | _=>aop P ops o F H fun F' _=>k F'
  | _=>aop P ops o F H fun F' _=>k F'
def aopsD (P : Program) (ops : List Oper) : List Oper → List D → AH → (List D → Prop) → Prop
  | [],F,_,k=>k F
  | o :: r,F,H,k=>match o.guard with
    | none=>aopD P ops o F H fun F'=>aopsD P ops r F' H k
    | some (j,want)=>match (ops[j]?).bind (·.dst) with
      | some t=>match F.getD t .any with
        | .bool b=>(b = want → aopD P ops o F H fun F'=>aopsD P ops r F' H k) ∧ (b = (!want) → aopsD P ops r (putF F o.dst (.tup [])) H k)
        | .tup _=>aopsD P ops r (putF F o.dst (.tup [])) H k
        | _=>False
      | none=>aopsD P ops r (putF F o.dst (.tup [])) H k
def SEff (P : Program) (H : AH) (o : Oper) (F : List D) (e : Eff) : Prop :=
  ∀ (K : Nat → BK) (w : World) (a : Act) (G : List D) (Q : Exit → Act → World → Prop),St K w G H a.tmps → (∀ t,.tmp t ∈ o.op.operands.toList → G.getD t .any = F.getD t .any) → G.length = F.length →
    o.wp P a w (OKd (fun G' H'=>G' = e.app o.dst G ∧ H' = H) K w a.defers) Q
section
variable {P : Program} {ops : List Oper} {o : Oper} {F : List D} {H : AH} {K : Nat → BK} {w : World} {a : Act}
theorem ev_agree {G : List D} {xs : List Operand} (h : ∀ t,.tmp t ∈ xs → G.getD t .any = F.getD t .any) {x : Operand} (hx : x ∈ xs) : ev G x = ev F x := by
  cases x <;> first | rfl | exact h _ hx
theorem seff_val (hs : St K w F H a.tmps) (hok : opOk o = true) {k : List D → Prop} (h : valO P (rv F) H o.op fun d=>k (putF F o.dst d)) : ∃ e : Eff,k (e.app o.dst F) ∧ e.tk = none ∧ SEff P H o F e := by
  have hr := hs.ops (xs := o.op.operands) (by unfold opOk at hok; simp only [Bool.and_eq_true] at hok; exact hok.1)
  obtain ⟨d,hd,hy⟩ := valO_sound h ⟨K,w,a.eval,hs.krel,hs.hrel,hr⟩
  refine ⟨⟨none,d⟩,hd,rfl,fun K w a G Q hs hG hlen=>?_⟩
  have hr : ∀ x ∈ o.op.operands.toList,RepV K w (rv F x) (a.eval x) := fun x hx=>by
    have := hs.ops (xs := o.op.operands) (by unfold opOk at hok; simp only [Bool.and_eq_true] at hok; exact hok.1) x hx
    unfold rv at this ⊢
    rwa [ev_agree hG hx] at this
  obtain ⟨v,K',w',h1,h2,h3,h4⟩ := hy K w a.eval (o.dst.getD 0) hs.krel hs.hrel hr
  exact wp_of_value h1 ⟨_,H,K',⟨rfl,rfl⟩,h2.fk hs.krel,hs.put (h2.keep hs.krel) (fun _ _ h=>h) h3 (hs.hrel.pres hs.krel h2) o.dst (fun i hi=>by rw [hi] at h4; exact h4),put_defers _ _⟩
theorem wp_some {next : Act → World → Prop} (h : o.wp P a w next (fun _ _ _=>False)) : ∃ a' w',next a' w' := by
  unfold Oper.wp at h
  generalize (execOp a.eval o).run P w = r at h
  cases r with
  | ok n w' =>
    cases n <;> simp only [Oper.upon] at h <;> first
      | exact ⟨_,_,h⟩
      | exact h.elim
      | skip
    · obtain ⟨e,w'',fr,hR,_⟩ := h []
      cases e with
      | returned v=>exact ⟨_,_,hR⟩
      | panicked c=>exact hR.elim
      | outgrown=>obtain ⟨_,_,h⟩ := hR; exact h.elim
    · obtain ⟨v,w'',hR,_⟩ := h (default : Frame) []
      exact ⟨_,_,hR⟩
  | halt x w'=>cases x <;> simp only [Oper.upon] at h
theorem OKd.eq {k k' : List D → AH → Prop} {ds : List Deferred} (h : ∀ F H,k F H → k' F H) {a' : Act} {w' : World} (hh : OKd k K w ds a' w') : OKd k' K w ds a' w' :=
  let ⟨F',H',K',g1,g2⟩ := hh
  ⟨F',H',K',h _ _ g1,g2⟩
theorem seff_of_aop {e : Eff} (hok : opOk o = true) (h : ∀ G : List D,(∀ t,.tmp t ∈ o.op.operands.toList → G.getD t .any = F.getD t .any) → G.length = F.length → aop P ops o G H (fun G' H'=>G' = e.app o.dst G ∧ H' = H)) : SEff P H o F e :=
  fun K w a G Q hs hG hlen=>aop_sound hs hok (h G hG hlen)
theorem aopD_eff (hs : St K w F H a.tmps) (hok : opOk o = true) {k : List D → Prop} (h : aopD P ops o F H k) : ∃ e : Eff,k (e.app o.dst F) ∧ (∀ s v,e.tk = some (s,v) → tk1 ops o = some s) ∧ SEff P H o F e := by
  have viaVal : ∀ h : valO P (rv F) H o.op (fun d=>k (putF F o.dst d)),∃ e : Eff,k (e.app o.dst F) ∧ (∀ s v,e.tk = some (s,v) → tk1 ops o = some s) ∧ SEff P H o F e := fun h=>by
    obtain ⟨e,h1,h2,h3⟩ := seff_val hs hok h
    exact ⟨e,h1,fun s v hsv=>(by rw [h2] at hsv; cases hsv),h3⟩
  have evG : ∀ (s : Nat),.tmp s ∈ o.op.operands.toList → ∀ G : List D,(∀ t,.tmp t ∈ o.op.operands.toList → G.getD t .any = F.getD t .any) → ev G (.tmp s) = ev F (.tmp s) := fun s hm G hG=>hG s hm
  cases ho : o.op
  case move x =>
    cases x with
    | tmp s =>
      simp only [aopD,aop,ho] at h
      cases hd : o.dst with
      | none =>
        simp only [hd] at h
        refine ⟨⟨none,.any⟩,h,fun s v hsv=>(by cases hsv),seff_of_aop (ops := ops) hok fun G hG hlen=>?_⟩
        simp only [aop,ho,hd]
        exact ⟨rfl,by trivial⟩
      | some d =>
        simp only [hd] at h
        by_cases ht : takes ops d = true
        · rw [if_pos ht] at h
          refine ⟨⟨some (s,rv F (.tmp s)),ev F (.tmp s)⟩,h,fun s' v hsv=>?_,seff_of_aop (ops := ops) hok fun G hG hlen=>?_⟩
          · simp only [Option.some.injEq,Prod.mk.injEq] at hsv
            simp [tk1,ho,hd,ht,hsv.1]
          · have he := evG s (by simp [ho,Op.operands]) G hG
            simp only [aop,ho,hd,if_pos ht,rv,he]
            exact ⟨rfl,by trivial⟩
        · rw [if_neg ht] at h
          refine ⟨⟨none,rv F (.tmp s)⟩,h,fun s v hsv=>(by cases hsv),seff_of_aop (ops := ops) hok fun G hG hlen=>?_⟩
          have he := evG s (by simp [ho,Op.operands]) G hG
          simp only [aop,ho,hd,if_neg ht,rv,he]
          exact ⟨rfl,by trivial⟩
    | const c =>
      simp only [aopD,aop,ho] at h
      exact ⟨⟨none,ev F (.const c)⟩,h,fun s v hsv=>(by cases hsv),seff_of_aop (ops := ops) hok fun G hG hlen=>by simp only [aop,ho]; exact ⟨rfl,by trivial⟩⟩
    | global g =>
      simp only [aopD,aop,ho] at h
      exact ⟨⟨none,ev F (.global g)⟩,h,fun s v hsv=>(by cases hsv),seff_of_aop (ops := ops) hok fun G hG hlen=>by simp only [aop,ho]; exact ⟨rfl,by trivial⟩⟩
    | func f =>
      simp only [aopD,aop,ho] at h
      exact ⟨⟨none,ev F (.func f)⟩,h,fun s v hsv=>(by cases hsv),seff_of_aop (ops := ops) hok fun G hG hlen=>by simp only [aop,ho]; exact ⟨rfl,by trivial⟩⟩
  case assign x =>
    cases x with
    | tmp s =>
      simp only [aopD,aop,ho] at h
      cases hd : o.dst with
      | none =>
        simp only [hd] at h
        refine ⟨⟨none,.any⟩,h,fun s v hsv=>(by cases hsv),seff_of_aop (ops := ops) hok fun G hG hlen=>?_⟩
        simp only [aop,ho,hd]
        exact ⟨rfl,by trivial⟩
      | some d =>
        simp only [hd] at h
        refine ⟨⟨some (s,rv F (.tmp s)),ev F (.tmp s)⟩,h,fun s' v hsv=>?_,seff_of_aop (ops := ops) hok fun G hG hlen=>?_⟩
        · simp only [Option.some.injEq,Prod.mk.injEq] at hsv
          simp [tk1,ho,hsv.1]
        · have he := evG s (by simp [ho,Op.operands]) G hG
          simp only [aop,ho,hd,rv,he]
          exact ⟨rfl,by trivial⟩
    | const c =>
      simp only [aopD,aop,ho] at h
      exact ⟨⟨none,ev F (.const c)⟩,h,fun s v hsv=>(by cases hsv),seff_of_aop (ops := ops) hok fun G hG hlen=>by simp only [aop,ho]; exact ⟨rfl,by trivial⟩⟩
    | global g =>
      simp only [aopD,aop,ho] at h
      exact ⟨⟨none,ev F (.global g)⟩,h,fun s v hsv=>(by cases hsv),seff_of_aop (ops := ops) hok fun G hG hlen=>by simp only [aop,ho]; exact ⟨rfl,by trivial⟩⟩
    | func f =>
      simp only [aopD,aop,ho] at h
      exact ⟨⟨none,ev F (.func f)⟩,h,fun s v hsv=>(by cases hsv),seff_of_aop (ops := ops) hok fun G hG hlen=>by simp only [aop,ho]; exact ⟨rfl,by trivial⟩⟩
  case extract x ix =>
    cases x with
    | tmp s =>
      simp only [aopD,aop,ho] at h
      cases hd : o.dst with
      | none=>simp only [hd] at h
      | some d =>
        simp only [hd] at h
        split at h
        · rename_i d' ds hdd hev
          simp only [Option.some.injEq] at hdd
          subst hdd
          split at h
          · rename_i c hc
            obtain ⟨hF,hT⟩ := slot_of hs hev (by simp)
            obtain ⟨vs,hv,hl,hh⟩ := hs.slot s _ _ hF hT
            have hix : ix < vs.size := by rw [hl]; exact (List.getElem?_eq_some_iff.1 hc).1
            have hfact := (hh ix c _ hc (Array.getElem?_eq_getElem hix)).rep.fact
            refine ⟨⟨none,c.view1⟩,h hfact,fun s v hsv=>(by cases hsv),seff_of_aop (ops := []) hok fun G hG hlen=>?_⟩
            have he := evG s (by simp [ho,Op.operands]) G hG
            rw [hev] at he
            simp only [aop,ho,hd,he,hc,takes,List.any_nil,Bool.false_eq_true,if_false]
            exact fun _=>⟨rfl,by trivial⟩
          · exact h.elim
        · exact h.elim
    | _=>exact viaVal (by simpa only [aopD,aop,ho] using h)
  case alloc t=>simp only [aopD,ho] at h
  case box t x=>simp only [aopD,ho] at h
  case store t x y=>simp only [aopD,ho] at h
  case load t x=>exact viaVal (by simpa only [aopD,ho] using h)
  case binOp bo t x y ty=>exact viaVal (by simpa only [aopD,ho] using h)
  case call c =>
    cases hf : c.callee with
    | value f =>
      simp only [aopD,ho,hf] at h
      split at h
      · rename_i g caps hg
        obtain ⟨d,hc',hk⟩ := h
        have hc := hc' H (Sub.refl H)
        have hops : o.op.operands = #[f] ++ c.args := by simp only [ho,Op.operands,Call.operands,hf]
        have hse : SEff P H o F ⟨none,d⟩ := seff_of_aop (ops := ops) hok fun G hG hlen=>by
          have h1 : rv G f = .fn g caps := by rw [← hg]; unfold rv; rw [ev_agree hG (by rw [hops]; simp)]
          have h2 : c.args.toList.map (rv G) = c.args.toList.map (rv F) := List.map_congr_left fun x hx=>by
            unfold rv
            rw [ev_agree hG (by rw [hops]; simp; exact .inr (by simpa using hx))]
          simp only [aop,ho,hf,h1,h2]
          exact hc.mono fun d' H' ⟨e1,e2⟩ _=>by subst e1 e2; exact ⟨rfl,by trivial⟩
        refine ⟨⟨none,d⟩,hk ?_,fun s v hsv=>(by cases hsv),hse⟩
        -- what the call hands back obeys its bounds
        have hap : aop P ops o F H (fun _ _=>fact d.view) := by
          simp only [aop,ho,hf,hg]
          exact hc.mono fun d' H' ⟨e1,_⟩ hfct=>by subst e1; exact hfct
        obtain ⟨a',w',F',H',K',hfct,_⟩ := wp_some (aop_sound (Q := fun _ _ _=>False) hs hok hap)
        exact hfct
      · exact h.elim
    | invoke r m=>exact viaVal (by simpa only [aopD,aop,ho,hf] using h)
    | builtin b =>
      cases b
      case append =>
        simp only [aopD,aop,ho,hf] at h
        split at h
        · rename_i s x t u d hargs htys hd
          split at h
          · rename_i xs e sz bs hev hap
            have hops : o.op.operands = #[] ++ c.args := by simp only [ho,Op.operands,Call.operands,hf]
            have hms : .tmp s ∈ o.op.operands.toList := by rw [hops,two_of_list hargs]; simp
            have hmx : x ∈ o.op.operands.toList := by rw [hops,two_of_list hargs]; simp
            split at h
            · rename_i ys hy
              obtain ⟨h1,h2,h3,h4⟩ := h
              refine ⟨⟨some (s,.slc xs),.own (xs ++ ys)⟩,by rw [hd]; exact h4,fun s' v hsv=>?_,seff_of_aop (ops := ops) hok fun G hG hlen=>?_⟩
              · simp only [Option.some.injEq,Prod.mk.injEq] at hsv
                simp [tk1,ho,hf,hargs,hsv.1]
              · have he := evG s hms G hG
                have hx : rv G x = .slc ys := by rw [← hy]; unfold rv; rw [ev_agree hG hmx]
                rw [hev] at he
                simp only [aop,ho,hf,hargs,htys,hd,he,hap,hx]
                exact ⟨h1,h2,h3,rfl,by trivial⟩
            · rename_i l hy
              obtain ⟨h1,h2,h3,h4⟩ := h
              refine ⟨⟨some (s,.slc xs),.own (xs ++ l.map byteD)⟩,by rw [hd]; exact h4,fun s' v hsv=>?_,seff_of_aop (ops := ops) hok fun G hG hlen=>?_⟩
              · simp only [Option.some.injEq,Prod.mk.injEq] at hsv
                simp [tk1,ho,hf,hargs,hsv.1]
              · have he := evG s hms G hG
                have hx : rv G x = .str l := by rw [← hy]; unfold rv; rw [ev_agree hG hmx]
                rw [hev] at he
                simp only [aop,ho,hf,hargs,htys,hd,he,hap,hx]
                exact ⟨h1,h2,h3,rfl,by trivial⟩
            · exact h.elim
          · exact h.elim
        · exact h.elim
      case clear=>simp only [aopD,ho,hf] at h
      all_goals exact viaVal (by simpa only [aopD,aop,ho,hf] using h)
  case makeMap=>simp only [aopD,ho] at h
  case mapUpdate=>simp only [aopD,ho] at h
  case mapEntry=>simp only [aopD,ho] at h
  case entryStore=>simp only [aopD,ho] at h
  all_goals exact viaVal (by simpa only [aopD,aop,ho] using h)
end
end Go.Aw
end
section
namespace Go.Aw
open Go Go.RowKit
section
variable {P : Program} {ops : Array Oper} {H : AH} {md : Region.Mode} {Q : List D → Prop}
def EffOf (P : Program) (H : AH) (ops : Array Oper) (o : Oper) (F : List D) (e : Eff) : Prop :=
 (gst ops.toList F o = some true ∧ SEff P H o F e ∧ ∀ s v,e.tk = some (s,v) → tk1 ops.toList o = some s) ∨ (gst ops.toList F o = some false ∧ e = ⟨none,.tup []⟩)
theorem looks_operand {o : Oper} {t : Nat} (h : .tmp t ∈ o.op.operands.toList) : t ∈ o.looksAt ops := by
 unfold Oper.looksAt
 exact List.mem_append_left _ (List.mem_filterMap.2 ⟨.tmp t,h,rfl⟩)
theorem gst_congr {o : Oper} {F G : List D} (h : ∀ t ∈ o.looksAt ops,G.getD t .any = F.getD t .any) : gst ops.toList G o = gst ops.toList F o := by
 unfold gst
 cases hg : o.guard with
 | none=>rfl
 | some g =>
  obtain ⟨j,want⟩ := g
  simp only [Array.getElem?_toList]
  cases hd : (ops[j]?).bind (·.dst) with
  | none=>rfl
  | some t =>
   have : t ∈ o.looksAt ops := by
    unfold Oper.looksAt
    simp only [hg]
    exact List.mem_append_right _ (by rw [hd]; simp)
   simp only [h t this]
theorem EffOf.congr {o : Oper} {F G : List D} {e : Eff} (he : EffOf P H ops o F e) (h : ∀ t ∈ o.looksAt ops,G.getD t .any = F.getD t .any) (hl : G.length = F.length) : EffOf P H ops o G e := by
 rcases he with ⟨h1,h2,h3⟩ | ⟨h1,h2⟩
 ·refine .inl ⟨by rw [gst_congr h]; exact h1,fun K w a G' Q hs hG hlen=>?_,h3⟩
  exact h2 K w a G' Q hs (fun t ht=>(hG t ht).trans (h t (looks_operand ht))) (hlen.trans hl)
 ·exact .inr ⟨by rw [gst_congr h]; exact h1,h2⟩
theorem putF_len (F : List D) (dst : Option Tmp) (d : D) : (putF F dst d).length = F.length := by cases dst <;> simp [putF]
theorem app_len (e : Eff) (dst : Option Tmp) (F : List D) : (e.app dst F).length = F.length := by
 unfold Eff.app
 rw [putF_len]
 split <;> simp
theorem getD_set (F : List D) (i t : Nat) (d : D) (h : i ≠ t) : (F.set i d).getD t .any = F.getD t .any := by
 simp [List.getD,List.getElem?_set_ne h]
theorem app_getD {e : Eff} {dst : Option Tmp} {F : List D} {t : Nat} (h1 : dst ≠ some t) (h2 : ∀ v,e.tk ≠ some (t,v)) : (e.app dst F).getD t .any = F.getD t .any := by
 unfold Eff.app
 have key : ∀ G : List D,(putF G dst e.d).getD t .any = G.getD t .any := fun G=>by
  cases dst with
  | none=>rfl
  | some d=>exact getD_set _ _ _ _ (fun e=>h1 (by rw [e]))
 rw [key]
 split
 ·rename_i s v hs
  exact getD_set _ _ _ _ (fun e=>h2 v (by rw [hs,e]))
 ·rfl
theorem set_comm' (F : List D) {i j : Nat} (h : i ≠ j) (x y : D) : (F.set i x).set j y = (F.set j y).set i x := List.set_comm x y h
theorem app_comm {e f : Eff} {d1 d2 : Option Tmp} (F : List D) (h1 : ∀ t,d1 = some t → d2 ≠ some t) (h2 : ∀ s v,e.tk = some (s,v) → d2 ≠ some s) (h3 : ∀ s v,f.tk = some (s,v) → d1 ≠ some s)
  (h4 : ∀ s v,e.tk = some (s,v) → ∀ v',f.tk ≠ some (s,v')) : f.app d2 (e.app d1 F) = e.app d1 (f.app d2 F) := by
 obtain ⟨tk,x⟩ := e
 obtain ⟨tk',y⟩ := f
 unfold Eff.app putF
 cases tk with
 | none=>cases tk' with
  | none=>cases d1 <;> cases d2 <;> simp only [] <;> first | rfl | (exact set_comm' _ (fun e=>h1 _ rfl (by rw [e])) _ _)
  | some p =>
   obtain ⟨s',v'⟩ := p
   cases d1 <;> cases d2 <;> simp only []
   ·rw [set_comm' F (fun e=>h3 s' v' rfl (by rw [e]))]
   ·rename_i a b
    rw [set_comm' F (i := a) (j := s') (fun e=>h3 s' v' rfl (by rw [e])),set_comm' _ (i := a) (j := b) (fun e=>h1 _ rfl (by rw [e]))]
 | some p =>
  obtain ⟨s,v⟩ := p
  cases tk' with
  | none =>
   cases d1 <;> cases d2 <;> simp only []
   ·rw [set_comm' F (fun e=>h2 s v rfl (by rw [e]))]
   ·rename_i a b
    rw [set_comm' _ (i := a) (j := b) (fun e=>h1 _ rfl (by rw [e])),set_comm' F (i := s) (j := b) (fun e=>h2 s v rfl (by rw [e]))]
  | some q =>
   obtain ⟨s',v'⟩ := q
   have hss : s ≠ s' := fun e=>h4 s v rfl v' (by rw [e])
   cases d1 <;> cases d2 <;> simp only []
   ·rw [set_comm' F hss]
   ·rename_i b
    rw [set_comm' F hss,set_comm' _ (i := s) (j := b) (fun e=>h2 s v rfl (by rw [e]))]
   ·rename_i a
    rw [set_comm' _ (i := a) (j := s') (fun e=>h3 s' v' rfl (by rw [e])),set_comm' F hss]
   ·rename_i a b
    rw [set_comm' _ (i := a) (j := s') (fun e=>h3 s' v' rfl (by rw [e])),set_comm' F hss,set_comm' _ (i := a) (j := b) (fun e=>h1 _ rfl (by rw [e])),set_comm' _ (i := s) (j := b) (fun e=>h2 s v rfl (by rw [e]))]
theorem tk_looks {o : Oper} {s : Nat} (h : tk1 ops.toList o = some s) : s ∈ o.looksAt ops := by
 apply looks_operand
 unfold tk1 at h
 split at h
 ·rename_i x ho
  split at h
  ·split at h <;> first | (simp only [Option.some.injEq] at h; subst h; simp [ho,Op.operands]) | cases h
  ·cases h
 ·rename_i x ho
  simp only [Option.some.injEq] at h
  subst h
  simp [ho,Op.operands]
 ·rename_i c ho
  split at h
  ·rename_i hf
   split at h
   ·rename_i x y hargs
    simp only [Option.some.injEq] at h
    subst h
    simp only [ho,Op.operands,Call.operands,hf]
    rw [two_of_list hargs]
    simp
   ·cases h
  ·cases h
 ·rename_i t a x ho
  simp only [Option.some.injEq] at h
  subst h
  simp [ho,Op.operands]
 ·cases h
structure Far (ops : Array Oper) (x y : Oper) : Prop where
 d : ∀ t,x.dst = some t → t ∉ y.looksAt ops ∧ y.dst ≠ some t
 d' : ∀ t,y.dst = some t → t ∉ x.looksAt ops
 t : ∀ s,tk1 ops.toList x = some s → s ∉ y.looksAt ops ∧ y.dst ≠ some s
 t' : ∀ s,tk1 ops.toList y = some s → s ∉ x.looksAt ops ∧ x.dst ≠ some s
theorem far_of {x y : Oper} (h : x.apart ops y = true) (h' : tapart ops x y = true) : Far ops x y := by
 obtain ⟨a1,a2,a3⟩ := Oper.apart_spec h
 unfold tapart at h'
 simp only [Bool.and_eq_true] at h'
 refine ⟨fun t ht=>⟨a1 t ht,a2 t ht⟩,a3,fun s hs=>?_,fun s hs=>?_⟩
 ·have := h'.1
  simp only [hs,Bool.and_eq_true,Bool.not_eq_true',bne_iff_ne,ne_eq] at this
  exact ⟨by simpa using this.1,this.2⟩
 ·have := h'.2
  simp only [hs,Bool.and_eq_true,Bool.not_eq_true',bne_iff_ne,ne_eq] at this
  exact ⟨by simpa using this.1,this.2⟩
theorem EffOf.tk {o : Oper} {F : List D} {e : Eff} (he : EffOf P H ops o F e) : ∀ s v,e.tk = some (s,v) → tk1 ops.toList o = some s := by
 rcases he with ⟨_,_,h⟩ | ⟨_,rfl⟩
 ·exact h
 ·intro s v h; cases h
theorem swap {x y : Oper} {F : List D} {e f : Eff} (hf : Far ops x y) (hx : EffOf P H ops x F e) (hy : EffOf P H ops y (e.app x.dst F) f) :
  EffOf P H ops y F f ∧ EffOf P H ops x (f.app y.dst F) e ∧ f.app y.dst (e.app x.dst F) = e.app x.dst (f.app y.dst F) := by
 have hy' : EffOf P H ops y F f := hy.congr (fun t ht=>(app_getD (fun h=>(hf.d t h).1 ht) (fun v h=>(hf.t t (hx.tk t v h)).1 ht)).symm) (app_len _ _ _).symm
 refine ⟨hy',hx.congr (fun t ht=>app_getD (fun h=>hf.d' t h ht) (fun v h=>(hf.t' t (hy.tk t v h)).1 ht)) (app_len _ _ _),app_comm F (fun t h=>(hf.d t h).2) (fun s v h=>(hf.t s (hx.tk s v h)).2) (fun s v h=>(hf.t' s (hy.tk s v h)).2) (fun s v h v' h'=>?_)⟩
 exact (hf.t s (hx.tk s v h)).1 (tk_looks (hy.tk s v' h'))
def wpAnyD (P : Program) (md : Region.Mode) (ops : Array Oper) (H : AH) (Q : List D → Prop) : Nat → Array Bool → List D → Prop
 | 0,listed,F=>Region.ready md ops listed = [] ∧ Q F
 | fuel + 1,listed,F=>(Region.ready md ops listed = [] → Q F) ∧ ∀ i ∈ Region.ready md ops listed,∃ o e,ops[i]? = some o ∧ EffOf P H ops o F e ∧ wpAnyD P md ops H Q fuel (listed.setIfInBounds i true) (e.app o.dst F)
theorem wpAnyD_first {i : Nat} {oi : Oper} {e : Eff} (hi : ops[i]? = some oi) :
  ∀ (fuel : Nat) (listed : Array Bool) (F : List D),
   (∀ j oj,ops[j]? = some oj → j ≠ i → listed.getD j true = false → (∀ e ∈ oj.after,Region.binds md e = true → e.on ≠ i) → Far ops oi oj) →
   i ∈ Region.ready md ops listed → EffOf P H ops oi F e →
   wpAnyD P md ops H Q fuel (listed.setIfInBounds i true) (e.app oi.dst F) → wpAnyD P md ops H Q (fuel + 1) listed F := by
 intro fuel
 induction fuel with
 | zero =>
  intro listed F _ hr hy Hh
  refine ⟨fun h=>(by rw [h] at hr; cases hr),fun j hj=>?_⟩
  by_cases hji : j = i
  ·subst hji; exact ⟨oi,e,hi,hy,Hh⟩
  ·have := ready_mono hj hji
   rw [Hh.1] at this
   cases this
 | succ fuel ih =>
  intro listed F hfree hr hy Hh
  refine ⟨fun h=>(by rw [h] at hr; cases hr),fun j hj=>?_⟩
  by_cases hji : j = i
  ·subst hji; exact ⟨oi,e,hi,hy,Hh⟩
  ·obtain ⟨oj,f,hoj,hyj,hk⟩ := Hh.2 j (ready_mono hj hji)
   obtain ⟨hjun,oj',hoj',hall⟩ := mem_ready.1 hj
   obtain rfl : oj = oj' := by rw [hoj] at hoj'; exact Option.some.inj hoj'
   have hnot : ∀ e ∈ oj.after,Region.binds md e = true → e.on ≠ i := fun e he hb heq=>by
    have h1 := hall e he hb
    have h0 := (mem_ready.1 hr).1
    rw [heq] at h1
    rcases Nat.lt_or_ge i listed.size with h' | h'
    ·simp [h'] at h0 h1; rw [h0] at h1; cases h1
    ·simp [Array.getElem?_eq_none h'] at h1
   obtain ⟨s1,s2,s3⟩ := swap (hfree j oj hoj hji hjun hnot) hy hyj
   refine ⟨oj,f,hoj,s1,ih _ _ (fun k ok hk' hki hun hno=>?_) (ready_mono hr (Ne.symm hji)) s2 ?_⟩
   ·refine hfree k ok hk' hki ?_ hno
    by_cases hjk : j = k
    ·subst hjk; exact hjun
    ·rw [getD_set_ne true hjk] at hun; exact hun
   ·rw [Array.setIfInBounds_comm _ _ hji,← s3]
    exact hk
def freeT (md : Region.Mode) (ops : Array Oper) (listed : Array Bool) (i : Nat) : Bool :=
 match ops[i]? with
 | none=>false
 | some oi=>(List.range ops.size).all fun j=>j == i || listed.getD j true || match ops[j]? with
   | some oj=>oj.after.any (fun e=>Region.binds md e && e.on == i) || (oi.apart ops oj && tapart ops oi oj)
   | none=>true
theorem freeT_spec {i : Nat} {oi : Oper} {listed : Array Bool} (hi : ops[i]? = some oi) (h : freeT md ops listed i = true) (j : Nat) (oj : Oper)
  (hj : ops[j]? = some oj) (hne : j ≠ i) (hun : listed.getD j true = false) (hno : ∀ e ∈ oj.after,Region.binds md e = true → e.on ≠ i) : Far ops oi oj := by
 simp only [freeT,hi,List.all_eq_true,List.mem_range] at h
 have h1 := h j (Array.getElem?_eq_some_iff.1 hj).1
 simp only [hj,Bool.or_eq_true,beq_iff_eq,hne,false_or,hun,Bool.false_eq_true] at h1
 rcases h1 with h1 | h1
 ·obtain ⟨e,he,hb⟩ := Array.any_eq_true'.1 h1
  simp only [Bool.and_eq_true,beq_iff_eq] at hb
  exact (hno e he hb.1 hb.2).elim
 ·simp only [Bool.and_eq_true] at h1
  exact far_of h1.1 h1.2
def lexT (md : Region.Mode) (ops : Array Oper) : Nat → Nat → Array Bool → Bool
 | 0,_,listed=>(Region.ready md ops listed).isEmpty
 | fuel + 1,k,listed=>(Region.ready md ops listed).contains k && freeT md ops listed k && lexT md ops fuel (k + 1) (listed.setIfInBounds k true)
def chain (P : Program) (H : AH) (ops : Array Oper) : List Oper → List D → (List D → Prop) → Prop
 | [],F,k=>k F
 | o :: r,F,k=>∃ e,EffOf P H ops o F e ∧ chain P H ops r (e.app o.dst F) k
theorem wpAnyD_lex : ∀ (l : List Oper) (k : Nat) (listed : Array Bool) (F : List D),(∀ j,l[j]? = ops[k + j]?) → lexT md ops l.length k listed = true → chain P H ops l F Q → wpAnyD P md ops H Q l.length listed F
 | [],_,_,_,_,hB,h=>⟨by simpa [lexT] using hB,h⟩
 | o :: l,k,listed,F,hl,hB,h=>by
  have h0 : ops[k]? = some o := by simpa using (hl 0).symm
  simp only [List.length_cons,lexT,Bool.and_eq_true] at hB
  obtain ⟨⟨hr,hf⟩,hB'⟩ := hB
  obtain ⟨e,he,hk⟩ := h
  exact wpAnyD_first h0 l.length listed F (freeT_spec h0 hf) (by simpa using hr) he
   (wpAnyD_lex l (k + 1) _ _ (fun j=>by have := hl (j + 1); simpa [Nat.add_assoc,Nat.add_comm 1 j] using this) hB' hk)
theorem chain_of {k : List D → Prop} : ∀ (l : List Oper) (F : List D) (K : Nat → BK) (w : World) (a : Act),(∀ o ∈ l,opOk o = true) → St K w F H a.tmps → aopsD P ops.toList l F H k → chain P H ops l F k
 | [],F,K,w,a,_,_,h=>h
 | o :: r,F,K,w,a,hok,hs,h=>by
  have hgo : gst ops.toList F o = some true → aopD P ops.toList o F H (fun F'=>aopsD P ops.toList r F' H k) → chain P H ops (o :: r) F k := fun hg h=>by
   obtain ⟨e,h1,h2,h3⟩ := aopD_eff hs (hok o (.head _)) h
   refine ⟨e,.inl ⟨hg,h3,h2⟩,?_⟩
   obtain ⟨a',w',F',H',K',⟨hF',hH'⟩,_,hs',_⟩ := wp_some (h3 K w a F (fun _ _ _=>False) hs (fun _ _=>rfl) rfl)
   rw [hF',hH'] at hs'
   exact chain_of r _ K' w' a' (fun o ho=>hok o (.tail _ ho)) hs' h1
  have hskip : gst ops.toList F o = some false → aopsD P ops.toList r (putF F o.dst (.tup [])) H k → chain P H ops (o :: r) F k := fun hg h =>
   ⟨⟨none,.tup []⟩,.inr ⟨hg,rfl⟩,chain_of r _ K w _ (fun o ho=>hok o (.tail _ ho)) (st_skip hs o.dst) h⟩
  unfold gst at hgo hskip
  cases hg : o.guard with
  | none =>
   simp only [aopsD,hg] at h hgo
   exact hgo trivial h
  | some g =>
   obtain ⟨j,want⟩ := g
   simp only [aopsD,hg] at h hgo hskip
   cases hdd : (ops.toList[j]?).bind (·.dst) with
   | none =>
    simp only [hdd] at h hskip
    exact hskip trivial h
   | some t =>
    simp only [hdd] at h hgo hskip
    split at h
    ·rename_i b hb
     simp only [hb] at hgo hskip
     by_cases e : b = want
     ·exact hgo (by simp [e]) (h.1 e)
     ·exact hskip (by simp [e]) (h.2 (by cases b <;> cases want <;> simp_all))
    ·rename_i ds hb
     simp only [hb] at hskip
     exact hskip trivial h
    ·exact h.elim
theorem wpAny_of_D {K : Nat → BK} {w : World} {a : Act} {Q' : Exit → Act → World → Prop} (hQ : ∀ a' w',OKd (fun F' H'=>Q F' ∧ H' = H) K w a.defers a' w' → Q' .normal a' w') :
  ∀ (fuel : Nat) (listed : Array Bool) (F : List D) (K1 : Nat → BK) (w1 : World) (a1 : Act),St K1 w1 F H a1.tmps → FK K w K1 w1 → a1.defers = a.defers → wpAnyD P md ops H Q fuel listed F → wpAny P md ops Q' fuel listed a1 w1
 | 0,_,F,K1,w1,a1,hs,hfk,hd,h=>⟨h.1,hQ a1 w1 ⟨F,H,K1,⟨h.2,rfl⟩,hfk,hs,hd⟩⟩
 | fuel + 1,listed,F,K1,w1,a1,hs,hfk,hd,h=>⟨fun h0=>hQ a1 w1 ⟨F,H,K1,⟨h.1 h0,rfl⟩,hfk,hs,hd⟩,fun i hi=>by
   obtain ⟨o,e,ho,he,hk⟩ := h.2 i hi
   unfold wpOp
   simp only [ho]
   rcases he with ⟨g1,g2,_⟩ | ⟨g1,rfl⟩
   ·rw [if_pos (gst_sound hs g1)]
    refine .inl (Oper.wp_mono (fun a2 w2 h2=>?_) (g2 K1 w1 a1 F Q' hs (fun _ _=>rfl) rfl))
    obtain ⟨F',H',K',⟨hF',hH'⟩,q2,q3,q4⟩ := h2
    rw [hF',hH'] at q3
    exact wpAny_of_D hQ fuel _ _ K' w2 a2 q3 (hfk.trans q2) (q4.trans hd) hk
   ·rw [if_neg (by rw [gst_sound hs g1]; simp)]
    exact wpAny_of_D hQ fuel _ _ K1 w1 _ (st_skip hs o.dst) hfk ((put_defers o.dst undef).trans hd) hk⟩
theorem St.drew {K : Nat → BK} {w : World} {F : List D} {t : Array Value} (h : St K w F H t) : ∃ K',FK K w K' { w with drawn := w.drawn + 1 } ∧ St K' { w with drawn := w.drawn + 1 } F H t := by
 have hp : Pres K w K { w with drawn := w.drawn + 1 } := ⟨rfl,rfl,⟨rfl,Nat.le_succ _⟩,Nat.le_refl _,fun _ _=>⟨rfl,rfl⟩,fun _ _ h=>h⟩
 exact ⟨K,hp.fk h.krel,⟨h.krel,h.hrel.pres h.krel hp,h.len,fun i d v hd hv=>(h.slot i d v hd hv).keep (hp.keep h.krel) (fun _ h=>h)⟩⟩
def hpO : Op → Bool
 | .store _ _ _=>true
 | .alloc _=>true
 | .box _ _=>true
 | .makeMap _ _=>true
 | .mapUpdate _ _ _ _=>true
 | .mapEntry _ _ _=>true
 | .entryStore _ _ _ _=>true
 | .call ⟨.builtin .clear,_,_⟩=>true
 | _=>false
def preL (l : List Oper) : List Oper := l.takeWhile fun o=>!hpO o.op
def sufL (l : List Oper) : List Oper := l.dropWhile fun o=>!hpO o.op
def wpAnyE (P : Program) (md : Region.Mode) (ops : Array Oper) (H : AH) (n : Nat) (E : Array Bool → List D → Prop) : Nat → Array Bool → List D → Prop
 | 0,listed,F=>E listed F
 | fuel + 1,listed,F=>Region.ready md ops listed ≠ [] ∧ ∀ i ∈ Region.ready md ops listed,i < n ∧ ∃ o e,ops[i]? = some o ∧ EffOf P H ops o F e ∧ wpAnyE P md ops H n E fuel (listed.setIfInBounds i true) (e.app o.dst F)
theorem wpAnyE_first {n i : Nat} {oi : Oper} {e : Eff} {E : Array Bool → List D → Prop} (hi : ops[i]? = some oi) (hs : Region.sinkB md ops n = true) (hc : Region.chainB md ops n = true) (hn : n < ops.size) (hin : i < n)
  (hdone : ∀ listed F,E listed F → ∀ j ∈ Region.ready md ops listed,n ≤ j) :
  ∀ (fuel : Nat) (listed : Array Bool) (F : List D),HeadInv md ops n listed →
   (∀ j oj,ops[j]? = some oj → j ≠ i → listed.getD j true = false → (∀ e ∈ oj.after,Region.binds md e = true → e.on ≠ i) → Far ops oi oj) →
   i ∈ Region.ready md ops listed → EffOf P H ops oi F e →
   wpAnyE P md ops H n E fuel (listed.setIfInBounds i true) (e.app oi.dst F) → wpAnyE P md ops H n E (fuel + 1) listed F := by
 intro fuel
 induction fuel with
 | zero =>
  intro listed F inv _ hr hy Hh
  refine ⟨fun h=>(by rw [h] at hr; cases hr),fun j hj=>?_⟩
  have hjn : j < n := by
   rcases Nat.lt_or_ge j n with h | h
   ·exact h
   ·exact absurd hj (tail_waits hs hc hn inv _ i rfl hin (mem_ready.1 hr).1 j h)
  refine ⟨hjn,?_⟩
  by_cases hji : j = i
  ·subst hji; exact ⟨oi,e,hi,hy,Hh⟩
  ·have := hdone _ _ Hh j (ready_mono hj hji)
   omega
 | succ fuel ih =>
  intro listed F inv hfree hr hy Hh
  refine ⟨fun h=>(by rw [h] at hr; cases hr),fun j hj=>?_⟩
  have hjn : j < n := by
   rcases Nat.lt_or_ge j n with h | h
   ·exact h
   ·exact absurd hj (tail_waits hs hc hn inv _ i rfl hin (mem_ready.1 hr).1 j h)
  refine ⟨hjn,?_⟩
  by_cases hji : j = i
  ·subst hji; exact ⟨oi,e,hi,hy,Hh⟩
  ·obtain ⟨_,oj,f,hoj,hyj,hk⟩ := Hh.2 j (ready_mono hj hji)
   obtain ⟨hjun,oj',hoj',hall⟩ := mem_ready.1 hj
   obtain rfl : oj = oj' := by rw [hoj] at hoj'; exact Option.some.inj hoj'
   have hnot : ∀ e ∈ oj.after,Region.binds md e = true → e.on ≠ i := fun e he hb heq=>by
    have h1 := hall e he hb
    rw [heq,getD_both (mem_ready.1 hr).1] at h1
    cases h1
   obtain ⟨s1,s2,s3⟩ := swap (hfree j oj hoj hji hjun hnot) hy hyj
   refine ⟨oj,f,hoj,s1,ih _ _ (inv.set hj hjn) (fun k ok hk' hki hun hno=>?_) (ready_mono hr (Ne.symm hji)) s2 ?_⟩
   ·refine hfree k ok hk' hki ?_ hno
    by_cases hjk : j = k
    ·subst hjk; exact hjun
    ·rw [getD_set_ne true hjk] at hun; exact hun
   ·rw [Array.setIfInBounds_comm _ _ hji,← s3]
    exact hk
def lexH (md : Region.Mode) (ops : Array Oper) (g : Nat) : Nat → Nat → Array Bool → Bool
 | 0,k,listed=>Region.seqB md ops g k listed
 | f + 1,k,listed=>(Region.ready md ops listed).contains k && freeT md ops listed k && lexH md ops g f (k + 1) (listed.setIfInBounds k true)
theorem wpAnyE_lex {n g : Nat} {T : List D → Prop} (hs : Region.sinkB md ops n = true) (hc : Region.chainB md ops n = true) (hn : n < ops.size) :
  ∀ (l : List Oper) (k : Nat) (listed : Array Bool) (F : List D),(∀ j,j < l.length → l[j]? = ops[k + j]?) → k + l.length = n → HeadInv md ops n listed → lexH md ops g l.length k listed = true → chain P H ops l F T →
  wpAnyE P md ops H n (fun listed' F'=>Region.seqB md ops g n listed' = true ∧ T F') l.length listed F
 | [],k,listed,F,_,hk,_,hB,h=>by
  have : k = n := by simpa using hk
  subst this
  exact ⟨by simpa [lexH] using hB,h⟩
 | o :: l,k,listed,F,hl,hk,inv,hB,h=>by
  have h0 : ops[k]? = some o := by simpa using (hl 0 (by simp)).symm
  simp only [List.length_cons,lexH,Bool.and_eq_true] at hB
  obtain ⟨⟨hr,hf⟩,hB'⟩ := hB
  have hkn : k < n := by simp only [List.length_cons] at hk; omega
  have hr' : k ∈ Region.ready md ops listed := by simpa using hr
  obtain ⟨e,he,hK⟩ := h
  exact wpAnyE_first h0 hs hc hn hkn (fun listed' F' hL=>seqB_ready hL.1) l.length listed F inv (freeT_spec h0 hf) hr' he
   (wpAnyE_lex hs hc hn l (k + 1) _ _ (fun j hj=>by have := hl (j + 1) (by simp; omega); simpa [Nat.add_assoc,Nat.add_comm 1 j] using this) (by simp only [List.length_cons] at hk; omega) (inv.set hr' hkn) hB' hK)
theorem wpAny_of_E {n g : Nat} {E : Array Bool → List D → Prop} {K : Nat → BK} {w : World} {a : Act} {Q' : Exit → Act → World → Prop}
  (hE : ∀ listed F K1 w1 (a1 : Act),E listed F → St K1 w1 F H a1.tmps → FK K w K1 w1 → a1.defers = a.defers → wpAny P md ops Q' g listed a1 w1) :
  ∀ (fuel : Nat) (listed : Array Bool) (F : List D) (K1 : Nat → BK) (w1 : World) (a1 : Act),St K1 w1 F H a1.tmps → FK K w K1 w1 → a1.defers = a.defers → wpAnyE P md ops H n E fuel listed F → wpAny P md ops Q' (fuel + g) listed a1 w1
 | 0,listed,F,K1,w1,a1,hs,hfk,hd,h=>by rw [Nat.zero_add]; exact hE listed F K1 w1 a1 h hs hfk hd
 | fuel + 1,listed,F,K1,w1,a1,hs,hfk,hd,h=>by
  rw [show fuel + 1 + g = (fuel + g) + 1 by omega]
  refine ⟨fun h0=>absurd h0 h.1,fun i hi=>?_⟩
  obtain ⟨_,o,e,ho,he,hk⟩ := h.2 i hi
  unfold wpOp
  simp only [ho]
  rcases he with ⟨g1,g2,_⟩ | ⟨g1,rfl⟩
  ·rw [if_pos (gst_sound hs g1)]
   refine .inl (Oper.wp_mono (fun a2 w2 h2=>?_) (g2 K1 w1 a1 F Q' hs (fun _ _=>rfl) rfl))
   obtain ⟨F',H',K',⟨hF',hH'⟩,q2,q3,q4⟩ := h2
   rw [hF',hH'] at q3
   exact wpAny_of_E hE fuel _ _ K' w2 a2 q3 (hfk.trans q2) (q4.trans hd) hk
  ·rw [if_neg (by rw [gst_sound hs g1]; simp)]
   exact wpAny_of_E hE fuel _ _ K1 w1 _ (st_skip hs o.dst) hfk ((put_defers o.dst undef).trans hd) hk
def regOk (ops : Array Oper) : Bool := (ops.toList.all fun o=>!hpO o.op || o.guard.isNone) &&
 if (preL ops.toList).length < ops.size then Region.sinkB .any ops (preL ops.toList).length && Region.chainB .any ops (preL ops.toList).length && lexH .any ops (ops.size - (preL ops.toList).length) (preL ops.toList).length 0 (Array.replicate ops.size false)
 else lexT .any ops ops.size 0 (Array.replicate ops.size false)
theorem idx2 {p q l : List Oper} (h : p ++ q = l) (j : Nat) : l[p.length + j]? = q[j]? := by
 subst h
 rw [List.getElem?_append_right (by omega)]
 congr 1
 omega
theorem pre_suf (l : List Oper) : preL l ++ sufL l = l := List.takeWhile_append_dropWhile
theorem region_tail {k : List D → AH → Prop} {K : Nat → BK} {w : World} {F : List D} {a : Act} {Q' : Exit → Act → World → Prop} {id : Nat} (hm : P.follows .mixedOrders = true) (hB : regOk ops = true) (hok : ∀ o ∈ ops.toList,opOk o = true)
  (hs : St K w F H a.tmps) (hQ : ∀ a' w',OKd k K w a.defers a' w' → Q' .normal a' w') (h : aopsD P ops.toList (preL ops.toList) F H (fun F'=>aops P ops.toList (sufL ops.toList) F' H k)) : (Code.region id ops true).wp P Q' a w := by
 have hps := pre_suf ops.toList
 have hpre : ∀ o ∈ preL ops.toList,opOk o = true := fun o ho=>hok o (by rw [← hps]; exact List.mem_append_left _ ho)
 have hsuf : ∀ o ∈ sufL ops.toList,opOk o = true := fun o ho=>hok o (by rw [← hps]; exact List.mem_append_right _ ho)
 have hc := chain_of (ops := ops) (preL ops.toList) F K w a hpre hs h
 obtain ⟨K',hfk,hs'⟩ := hs.drew
 have hlen : (preL ops.toList).length + (sufL ops.toList).length = ops.size := by rw [← List.length_append,hps]; simp
 unfold regOk at hB
 rw [Bool.and_eq_true] at hB
 replace hB := hB.2
 refine wp_region_any hm ?_
 split at hB
 ·rename_i hn
  simp only [Bool.and_eq_true] at hB
  obtain ⟨⟨h1,h2⟩,h3⟩ := hB
  have inv0 : HeadInv .any ops (preL ops.toList).length (Array.replicate ops.size false) :=
   ⟨by simp,fun j oj _ hl=>(by rw [getD_replicate_false] at hl; cases hl),fun t _ ht=>getD_in (by simpa using ht) (getD_replicate_false _ _)⟩
  have hget : ∀ j : Nat,ops.toList[j]? = ops[j]? := fun j=>Array.getElem?_toList
  have hlex := wpAnyE_lex (P := P) (H := H) (md := .any) (g := ops.size - (preL ops.toList).length) h1 h2 hn (preL ops.toList) 0 _ F (fun j hj=>by
   rw [Nat.zero_add,← hget]; conv=>{ rhs; rw [← hps] }; rw [List.getElem?_append_left hj]) (Nat.zero_add _) inv0 h3 hc
  have hg : (sufL ops.toList).length = ops.size - (preL ops.toList).length := by omega
  have := wpAny_of_E (a := a) (Q' := Q') (K := K) (w := w) (g := ops.size - (preL ops.toList).length) (fun listed F1 K1 w1 a1 hE hs1 hfk1 hd1=>by
   have hw : wpList P ops Q' (sufL ops.toList) a1 w1 := aops_sound (ops := ops) (k := k) (K := K) (w := w) (a := a) hQ (sufL ops.toList) F1 H K1 w1 a1 hsuf hs1 hfk1 hd1 hE.2
   have := wpAny_of_seq (md := .any) (Q' := Q') (sufL ops.toList) (preL ops.toList).length listed a1 w1 (fun j=>by
    rw [← hget]; exact (idx2 hps j).symm) (by rw [hg]; exact hE.1) hw
   rwa [hg] at this) _ _ F K' _ a hs' hfk rfl hlex
  rw [show (preL ops.toList).length + (ops.size - (preL ops.toList).length) = ops.size by omega] at this
  exact this
 ·rename_i hn
  have hse : sufL ops.toList = [] := List.eq_nil_of_length_eq_zero (by omega)
  have hpe : preL ops.toList = ops.toList := by rw [hse,List.append_nil] at hps; exact hps
  rw [hpe,hse] at hc
  refine wpAny_of_D (Q := fun F'=>k F' H) (a := a) (fun a' w' ⟨F',H',K',⟨g1,g1'⟩,g2⟩=>hQ a' w' ⟨F',H',K',by rw [g1']; exact g1,g2⟩) ops.size _ F K' _ a hs' hfk rfl ?_
  have := wpAnyD_lex (P := P) (H := H) (md := .any) (Q := fun F'=>k F' H) ops.toList 0 (Array.replicate ops.size false) F (by simp) (by simpa using hB) hc
  simpa using this
end
end Go.Aw
end
