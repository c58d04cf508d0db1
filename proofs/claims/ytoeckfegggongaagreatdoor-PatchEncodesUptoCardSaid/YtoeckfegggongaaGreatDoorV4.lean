/- A part of the proof of what the last text says: Aw9, Aw10, Aw11. Conditions: those in each theorem. -/
import Derived.Test.YtoeckfegggongaaGreatDoorV3
set_option linter.unusedVariables false
set_option linter.unusedSimpArgs false
set_option maxRecDepth 100000
set_option maxHeartbeats 16000000
open Nat renaming reduceSub → qa,reduceAdd → qb,reduceMul → qc,reduceEqDiff → qd,reduceLeDiff → qe,reduceBEq → qf
section
namespace Go.Aw
open Go Go.RowKit
section
variable {K K' : Nat → BK} {w : World}
theorem OwnAt.conv {o o' : Who} (h : ExtV K w K' w) (ho : ∀ b n,K b = .tok n o → K' b = .tok n o') {xs : List (List D)} {v : Value} (hr : OwnAt K w o xs v) : OwnAt K' w o' xs v := by
  rcases hr with hr | ⟨b,cap,sz,c,T,hv,hk,hh,hcs,hp,hl,hm,hb,hs,hrep⟩
  · exact .inl hr
  · refine .inr ⟨b,cap,sz,c,T,hv,ho b _ hk,hh,hcs,hp,hl,hm,hb,hs,fun i x hi j d hj=>?_⟩
    obtain ⟨u,e1,e2,e3⟩ := hrep i x hi j d hj
    exact ⟨u,e1,e2,e3.mono h⟩
theorem RepC.conv {o o' : Who} (h : ExtV K w K' w) (ho : ∀ b n,K b = .tok n o → K' b = .tok n o') {d : D} {v : Value} (hr : RepC K w o d v) : RepC K' w o' d v := by
  cases d <;> first | exact OwnAt.conv h ho hr | exact RepV.mono h hr
theorem RepO.conv {i i' : Nat} (h : ExtV K w K' w) (ho : ∀ b n j,K b = .tok n (.slot i j) → K' b = .tok n (.slot i' j)) {d : D} {v : Value} (hr : RepO K w i d v) : RepO K' w i' d v := by
  cases d <;> first
    | exact OwnAt.conv h (fun b n hb=>ho b n 0 hb) hr
    | exact RepV.mono h hr
    | (obtain ⟨vs,hv,hl,hh⟩ := hr
       exact ⟨vs,hv,hl,fun j d u hd hu=>(hh j d u hd hu).conv h (fun b n hb=>ho b n _ hb)⟩)
theorem HRel.conv {H : AH} (h : ExtV K w K' w) (hp : ∀ b,K b = .priv → K' b = .priv) (ho : ∀ b n c j,K b = .tok n (.cell c j) → K' b = .tok n (.cell c j)) (hr : HRel K w H) : HRel K' w H := by
  refine ⟨hr.nd,fun b o hbo=>?_⟩
  have := hr.ok b o hbo
  cases o with
  | cells cs =>
    obtain ⟨hk,c,T,hh,hc,hh2⟩ := this
    refine ⟨hp b hk,c,T,hh,hc,fun j d hd=>?_⟩
    obtain ⟨u,e1,e2,e3⟩ := hh2 j d hd
    exact ⟨u,e1,e2,e3.conv h (fun b' n hb'=>ho b' n b j hb')⟩
  | room cap xs=>exact ⟨this.1,this.2.conv h (fun b' n hb'=>ho b' n b 0 hb')⟩
end
def WQ (K : Nat → BK) : Prop := ∀ b n i j,K b ≠ .tok n (.slot i j)
def gV (P : Program) (f : FuncId) : Bool := match P.funcs[f]? with
  | some fn=>fn.body.isSome && !(fn.name == "runtime.NumGoroutine")
  | none=>false
def ACall (P : Program) (f : FuncId) (args : List D) (H : AH) (R : D → AH → Prop) : Prop :=
  gV P f = true ∧ ∀ (K : Nat → BK) (w : World) (vs : Array Value),KRel K w → WQ K → HRel K w H → vs.size = args.length → (∀ (j : Nat) (d : D) (v : Value),args[j]? = some d → vs[j]? = some v → RepV K w d v) →
    Calls P f vs w fun e w'=>∃ v d H' K',e = .returned v ∧ R d H' ∧ FK K w K' w' ∧ KRel K' w' ∧ HRel K' w' H' ∧ RepO K' w' 0 d v
theorem ACall.mono {P : Program} {f : FuncId} {args : List D} {H : AH} {R R' : D → AH → Prop} (h : ACall P f args H R) (hr : ∀ d H',R d H' → R' d H') : ACall P f args H R' :=
  ⟨h.1,fun K w vs h1 h2 h3 h4 h5=>(h.2 K w vs h1 h2 h3 h4 h5).mono fun e w' ⟨v,d,H',K',g1,g2,g3⟩=>⟨v,d,H',K',g1,hr d H' g2,g3⟩⟩
def outerize : Who → Who
  | .slot _ _=>.outer
  | o=>o
def Ecell : Who → Prop
  | .cell _ _=>True
  | _=>False
def yt (K K' : Nat → BK) (dst : Nat) : Nat → BK := fun b=>match K' b with
  | .tok n (.slot _ j)=>.tok n (.slot dst j)
  | .tok n .outer=>K b
  | x=>x
theorem relab_outer {K : Nat → BK} {b n : Nat} : relab outerize K b = .tok n .outer ↔ (K b = .tok n .outer ∨ ∃ i j,K b = .tok n (.slot i j)) := by
  constructor
  · intro h
    obtain ⟨o',h1,h2⟩ := ye h
    cases o' with
    | slot i j=>exact .inr ⟨i,j,h1⟩
    | cell b j=>simp [outerize] at h2
    | outer=>exact .inl h1
  · rintro (h | ⟨i,j,h⟩) <;> rw [j4 h] <;> rfl
theorem z6 {K K' : Nat → BK} {w w' : World} (hfk : FK (relab outerize K) w K' w') (dst : Nat) : Keep Ecell (fun _=>True) K w (yt K K' dst) w' ∧ ExtV K' w' (yt K K' dst) w' := by
  have hout : ∀ b n,K' b = .tok n .outer → ∃ o,K b = .tok n o ∧ (o = .outer ∨ ∃ i j,o = .slot i j) := fun b n h=>by
    rcases relab_outer.1 (hfk.new b n h) with h1 | ⟨i,j,h1⟩
    · exact ⟨_,h1,.inl rfl⟩
    · exact ⟨_,h1,.inr ⟨i,j,rfl⟩⟩
  have htok : ∀ b m o',K' b = .tok m o' → ∃ o'',yt K K' dst b = .tok m o'' := fun b m o' h=>by
    cases o' with
    | slot i j=>exact ⟨_,by simp [yt,h]; rfl⟩
    | cell c j=>exact ⟨_,by simp [yt,h]; rfl⟩
    | outer =>
      obtain ⟨o,h1,_⟩ := hout b m h
      exact ⟨o,by simp [yt,h,h1]⟩
  have hext : ExtV K' w' (yt K K' dst) w' :=
    ⟨rfl,rfl,rfl,Nat.le_refl _,fun b _ h=>⟨by simp [yt,h],rfl⟩,fun b n o h=>by
      obtain ⟨o'',h1⟩ := htok b n o h
      exact ⟨n,o'',h1,Nat.le_refl _,fun _ _=>rfl⟩,fun b h=>.inl (by simp [yt,h])⟩
  have hfull : ExtV K w (yt K K' dst) w' := ((qL outerize K w).trans hfk.ext).trans hext
  refine ⟨⟨hfull,fun b n o hb ho=>?_,fun b n hb=>?_,fun b _ h=>(h trivial).elim⟩,hext⟩
  · have ho1 : relab outerize K b = .tok n .outer := by
      cases o with
      | slot i j=>exact relab_outer.2 (.inr ⟨i,j,hb⟩)
      | cell c j=>exact (ho trivial).elim
      | outer=>exact relab_outer.2 (.inl hb)
    obtain ⟨h1,h2⟩ := hfk.own b n ho1
    exact ⟨by simp [yt,h1,hb],h2⟩
  · unfold yt at hb
    split at hb
    · injection hb with _ h; cases h
    · exact hb
    · rename_i x h1 h2
      exact (h2 n hb).elim
theorem QN (K : Nat → BK) : WQ (relab outerize K) := fun b n i j h=>by
  obtain ⟨o',_,h2⟩ := ye h
  cases o' <;> simp [outerize] at h2
def OKd (k : List D → AH → Prop) (K : Nat → BK) (w : World) (ds : List Deferred) : Act → World → Prop :=
  fun a' w'=>∃ F' H' K',k F' H' ∧ FK K w K' w' ∧ St K' w' F' H' a'.tmps ∧ a'.defers = ds
def YC (x : Option Operand) (d : Nat) : Bool := match x with | some (.tmp t)=>t == d | _=>false
def takes (ops : List Oper) (d : Nat) : Bool := ops.any fun o=>match o.op with
  | .call c=>(match c.callee with | .builtin .append=>YC c.args[0]? d | _=>false)
  | .assign x=>YC (some x) d
  | .store _ _ x=>YC (some x) d
  | _=>false
def Y3 (ops : List Oper) (d : Nat) : Bool := ops.any fun o=>match o.op with
  | .call c=>(match c.callee with | .builtin .append=>YC c.args[0]? d | _=>false)
  | _=>false
def qZ : AH → Nat → Prop
  | [],_=>True
  | (c,_) :: r,b=>b ≠ c ∧ qZ r b
def one1 : D → Bool
  | .tup _=>false
  | .agg _=>false
  | .any=>false
  | _=>true
def gZ : Operand → Bool
  | .const (.slice none 0 0)=>true
  | _=>false
def nilcmp (P : Program) (op : BinOp) (t : TypeId) (x : D) (k : D → Prop) : Prop := match x with
  | .slc xs=>(yE P t).isSome = true ∧ (match op with
    | .eql=>(xs = [] → k (.bool true)) ∧ k (.bool false)
    | .neq=>(xs = [] → k (.bool false)) ∧ k (.bool true)
    | _=>False)
  | _=>False
def aop (P : Program) (ops : List Oper) (o : Oper) (F : List D) (H : AH) (k : List D → AH → Prop) : Prop :=
  match o.op with
  | .move (.tmp s)=>match o.dst with
    | some d=>if takes ops d = true then k ((F.set s (rv F (.tmp s))).set d (ev F (.tmp s))) H else k (F.set d (rv F (.tmp s))) H
    | none=>k F H
  | .assign (.tmp s)=>match o.dst with
    | some d=>k ((F.set s (rv F (.tmp s))).set d (ev F (.tmp s))) H
    | none=>k F H
  | .move x=>k (j0 F o.dst (ev F x)) H
  | .assign x=>k (j0 F o.dst (ev F x)) H
  | .extract (.tmp s) ix=>match o.dst,ev F (.tmp s) with
    | some d,.tup ds=>match ds[ix]? with
      | some c=>if takes ops d = true then fact c.view1 → k ((F.set s (.tup (ds.set ix c.view1))).set d c) H else fact c.view1 → k (F.set d c.view1) H
      | none=>False
    | _,_=>False
  | .alloc t=>match yF P t with
    | some z=>∀ b,qZ H b → k (j0 F o.dst (.ptr b 0)) ((b,.cells z) :: H)
    | none=>False
  | .box t x=>okc (rv F x) = true ∧ ∀ b,qZ H b → k (j0 F o.dst (.ptr b 0)) ((b,.cells (cellsOf (rv F x))) :: H)
  | .store t a x=>match wi P t,rv F a with
    | some (true,n),.ptr b off=>match qK H b with
      | some (.cells cs)=>okc (rv F x) = true ∧ (cellsOf (rv F x)).length = n ∧ off + n ≤ cs.length ∧ k (j0 F o.dst (.tup [])) (qY H b (.cells (cs.take off ++ (cellsOf (rv F x) ++ cs.drop (off + n)))))
      | _=>False
    | some (false,n),.ptr b off=>match qK H b with
      | some (.cells cs)=>n = 1 ∧ off < cs.length ∧ one1 (ev F x) = true ∧ o.dst = none ∧ (match x with
        | .tmp s=>k (F.set s (rv F x)) (qY H b (.cells (cs.set off (ev F x))))
        | _=>k F (qY H b (.cells (cs.set off (ev F x)))))
      | _=>False
    | _,_=>False
  | .call c=>match c.callee with
    | .value f=>match rv F f with
      | .fn g caps=>ACall P g (vN (c.args.toList.map (rv F)) caps) H fun d H'=>fact d.view → k (j0 F o.dst d) H'
      | _=>False
    | .builtin .append=>match c.args.toList,c.argTypes.toList,o.dst with
      | [.tmp s,x],[t,u],some d=>match ev F (.tmp s),Ju P t u with
        | .own xs,some (_,sz,bs)=>match rv F x with
          | .slc ys=>(∀ y ∈ xs,y.length = sz) ∧ (∀ y ∈ ys,y.length = sz) ∧ (xs.length + ys.length) * bs ≤ 140737488355328 ∧ k ((F.set s (.slc xs)).set d (.own (xs ++ ys))) H
          | .str l=>sz = 1 ∧ (∀ y ∈ xs,y.length = 1) ∧ (xs.length + l.length) * bs ≤ 140737488355328 ∧ k ((F.set s (.slc xs)).set d (.own (xs ++ l.map qr))) H
          | _=>False
        | _,_=>False
      | _,_,_=>False
    | _=>qW P (rv F) H o.op fun d=>k (j0 F o.dst d) H
  | .binOp bo t x y _=>if gZ y = true then nilcmp P bo t (rv F x) fun d=>k (j0 F o.dst d) H else qW P (rv F) H o.op fun d=>k (j0 F o.dst d) H
  | .load t (.tmp s)=>match o.dst with
    | some d=>if Y3 ops d = true then (match wi P t,rv F (.tmp s) with
        | some (false,_),.ptr b off=>match qK H b with
          | some (.cells cs)=>match cs[off]? with
            | some (.own xs)=>k (F.set d (.own xs)) (qY H b (.cells (cs.set off (.slc xs))))
            | _=>False
          | _=>False
        | _,_=>False)
      else qW P (rv F) H o.op fun c=>k (j0 F o.dst c) H
    | none=>qW P (rv F) H o.op fun c=>k (j0 F o.dst c) H
  | _=>qW P (rv F) H o.op fun d=>k (j0 F o.dst d) H
def jR (o : Oper) : Bool := o.op.operands.all y9 && (match o.op with | .call c=>c.args.all y9 | _=>true)
section
variable {P : Program} {ops : List Oper} {o : Oper} {F : List D} {H : AH} {k : List D → AH → Prop} {K : Nat → BK} {w : World} {a : Act} {Q : Exit → Act → World → Prop}
theorem uf {b : Nat} : ∀ {H : AH},(∀ x ∈ H,x.1 ≠ b) → qZ H b
  | [],_=>trivial
  | (c,_) :: r,h=>⟨fun e=>h (c,_) (.head _) e.symm,uf (fun x hx=>h x (.tail _ hx))⟩
theorem HRel.lt (hk : KRel K w) (hh : HRel K w H) {b : Nat} {o : AO} (hm : (b,o) ∈ H) : b < w.heap.size := by
  have := hh.ok b o hm
  cases o with
  | cells cs =>
    obtain ⟨h1,_⟩ := this
    exact hk.lt_of (by rw [h1]; simp)
  | room cap xs =>
    rcases this.2 with ⟨h1,_⟩ | ⟨b',cap',sz,c,T,h1,h2,_⟩
    · have := this.1; rw [h1] at this; simp at this
    · injection h1 with h1; injection h1 with h1; injection h1 with h1; subst h1
      exact hk.lt_of (by rw [h2]; simp)
theorem HRel.fresh (hk : KRel K w) (hh : HRel K w H) : qZ H w.heap.size :=
  uf fun x hx e=>by have := hh.lt hk (b := x.1) (o := x.2) hx; omega
theorem j7 {v : Value} {w' : World} (hrun : (execOp a.eval o).run P w = .ok (.value v) w') {next : Act → World → Prop} (h : next (a.put o.dst v) w') : o.wp P a w next Q := by
  unfold Oper.wp
  rw [hrun,Oper.upon_value]
  exact h
theorem gI {w' : World} (hrun : (execOp a.eval o).run P w = .ok .skip w') {next : Act → World → Prop} (h : next (a.put o.dst undef) w') : o.wp P a w next Q := by
  unfold Oper.wp
  rw [hrun,Oper.upon_skip]
  exact h
theorem qS (dst : Option Tmp) (v : Value) : (a.put dst v).defers = a.defers := by cases dst <;> rfl
theorem Pres.fk {K' : Nat → BK} {w' : World} (hk : KRel K w) (h : Pres K w K' w') : FK K w K' w' := (h.keep hk).fk (fun h=>h)
theorem wQ (hs : St K w F H a.tmps) (hok : jR o = true) (h : qW P (rv F) H o.op fun d=>k (j0 F o.dst d) H) : o.wp P a w (OKd k K w a.defers) Q := by
  have hr := hs.ops (xs := o.op.operands) (by unfold jR at hok; simp only [Bool.and_eq_true] at hok; exact hok.1)
  obtain ⟨d,hd,hy⟩ := uz h ⟨K,w,a.eval,hs.krel,hs.hrel,hr⟩
  cases hdst : o.dst with
  | none =>
    obtain ⟨v,K',w',h1,h2,h3,h4⟩ := hy K w a.eval 0 hs.krel hs.hrel hr
    exact j7 h1 ⟨_,H,K',hd,h2.fk hs.krel,hs.put (h2.keep hs.krel) (fun _ _ h=>h) h3 (hs.hrel.pres hs.krel h2) o.dst (fun i hi=>by rw [hdst] at hi; cases hi),qS _ _⟩
  | some t =>
    obtain ⟨v,K',w',h1,h2,h3,h4⟩ := hy K w a.eval t hs.krel hs.hrel hr
    exact j7 h1 ⟨_,H,K',hd,h2.fk hs.krel,hs.put (h2.keep hs.krel) (fun _ _ h=>h) h3 (hs.hrel.pres hs.krel h2) o.dst (fun i hi=>by rw [hdst] at hi; obtain rfl := Option.some.inj hi; exact h4),qS _ _⟩
def mvφ (s d : Who) : Who → Who := fun o=>if o = s then d else o
theorem gp {s d : Who} (hs : s ≠ .outer) (hd : d ≠ .outer) : FK K w (relab (mvφ s d) K) w := by
  refine ⟨qL _ K w,fun b n h=>⟨?_,rfl⟩,fun b n h=>?_⟩
  · rw [j4 h]
    simp [mvφ,Ne.symm hs]
  · obtain ⟨o',h1,h2⟩ := ye h
    unfold mvφ at h2
    split at h2
    · exact (hd h2).elim
    · rw [h1,h2]
theorem mv_hrel {s d : Who} (hs : ∀ b j,s ≠ .cell b j) (hh : HRel K w H) : HRel (relab (mvφ s d) K) w H :=
  hh.conv (qL _ K w) (fun b h=>relab_priv.2 h) (fun b n c j h=>by rw [j4 h]; simp [mvφ,Ne.symm (hs c j)])
theorem ue {s d : Who} {i : Nat} (hi : ∀ j,s ≠ .slot i j) {x : D} {v : Value} (h : RepO K w i x v) : RepO (relab (mvφ s d) K) w i x v :=
  h.conv (qL _ K w) (fun b n j hb=>by rw [j4 hb]; simp [mvφ,Ne.symm (hi j)])
theorem St.mv (hs : St K w F H a.tmps) (s d : Nat) : ∃ K',FK K w K' w ∧ St K' w ((F.set s (rv F (.tmp s))).set d (ev F (.tmp s))) H (a.put (some d) (a.eval (.tmp s))).tmps := by
  by_cases hlt : s < F.length
  · have hF : F[s]? = some (ev F (.tmp s)) := by simp [ev,List.getD,List.getElem?_eq_getElem hlt]
    have hts : s < a.tmps.size := by rw [hs.len]; exact hlt
    have hT : a.tmps[s]? = some (a.eval (.tmp s)) := by simp [Act.eval,Array.getElem?_eq_getElem hts]
    have hr := hs.slot s _ _ hF hT
    -- all the tokens of slot s go to slot d
    let φ : Who → Who := fun o=>match o with
      | .slot i j=>if i = s then .slot d j else .slot i j
      | x=>x
    have hφ : Nice φ := ⟨fun _ _=>rfl,rfl⟩
    have hfk : FK K w (relab φ K) w := by
      refine ⟨qL _ K w,fun b n h=>⟨j4 h,rfl⟩,fun b n h=>?_⟩
      obtain ⟨o',h1,h2⟩ := ye h
      cases o' with
      | slot i j=>simp only [φ] at h2; split at h2 <;> cases h2
      | cell c j=>cases h2
      | outer=>exact h1
    refine ⟨relab φ K,hfk,jI hs.krel,yG hφ hs.hrel,by simpa [Act.put] using hs.len,fun i x v hx hv=>?_⟩
    simp only [Act.put] at hv
    rcases getElem?_set_some hx with ⟨rfl,rfl,hl⟩ | ⟨hne,hx⟩
    · rw [Array.getElem?_setIfInBounds_self_of_lt (by rw [hs.len]; simpa using hl)] at hv
      obtain rfl := Option.some.inj hv
      exact gj (fun j=>by simp [φ]) hr
    · rw [Array.getElem?_setIfInBounds_ne hne] at hv
      rcases getElem?_set_some hx with ⟨rfl,rfl,hl⟩ | ⟨hne2,hx⟩
      · rw [hT] at hv
        obtain rfl := Option.some.inj hv
        exact (RepV.mono (qL φ K w) hr.rep).viewO
      · exact gj (fun j=>by simp [φ,Ne.symm hne2]) (hs.slot i x v hx hv)
  · have hge : F.length ≤ s := Nat.le_of_not_lt hlt
    have hev : ev F (.tmp s) = .any := by simp [ev,List.getD,List.getElem?_eq_none hge]
    refine ⟨K,.refl K w,?_⟩
    rw [List.set_eq_of_length_le hge,hev]
    exact hs.put (d := .any) ((Pres.refl K w).keep hs.krel) (fun _ _ h=>h) hs.krel hs.hrel (some d) (fun i _=>RepV.viewO (.any _))
theorem Vw (hs : St K w F H a.tmps) {s : Nat} (ho : o.op = .move (.tmp s)) (h : aop P ops o F H k) : o.wp P a w (OKd k K w a.defers) Q := by
  simp only [aop,ho] at h
  have hrun : (execOp a.eval o).run P w = .ok (.value (a.eval (.tmp s))) w := by simp [execOp,ho]
  cases hd : o.dst with
  | none =>
    simp only [hd] at h
    exact j7 hrun ⟨F,H,K,h,.refl K w,by rw [hd]; exact hs,qS _ _⟩
  | some d =>
    simp only [hd] at h
    split at h
    · obtain ⟨K',h1,h2⟩ := hs.mv s d
      exact j7 hrun ⟨_,H,K',h,h1,by rw [hd]; exact h2,qS _ _⟩
    · refine j7 hrun ⟨_,H,K,h,.refl K w,?_,qS _ _⟩
      rw [hd]
      exact hs.put ((Pres.refl K w).keep hs.krel) (fun _ _ h=>h) hs.krel hs.hrel (some d) (fun i _=>(hs.rep (x := .tmp s) rfl).viewO)
theorem KG (hs : St K w F H a.tmps) {s : Nat} (ho : o.op = .assign (.tmp s)) (h : aop P ops o F H k) : o.wp P a w (OKd k K w a.defers) Q := by
  simp only [aop,ho] at h
  have hrun : (execOp a.eval o).run P w = .ok (.value (a.eval (.tmp s))) w := by simp [execOp,ho]
  cases hd : o.dst with
  | none =>
    simp only [hd] at h
    exact j7 hrun ⟨F,H,K,h,.refl K w,by rw [hd]; exact hs,qS _ _⟩
  | some d =>
    simp only [hd] at h
    obtain ⟨K',h1,h2⟩ := hs.mv s d
    exact j7 hrun ⟨_,H,K',h,h1,by rw [hd]; exact h2,qS _ _⟩
theorem zt (v : Value) (hv : wY v = true) (i : Nat) : RepO K w i (jx v) v := by
  have h := yL (K := K) (w := w) (o := .slot i 0) hv
  generalize jx v = d at h
  cases d <;> first | exact h | exact RepV.viewO h
theorem QG (hs : St K w F H a.tmps) {x : Operand} (hx : y9 x = true) (hn : ∀ s,x ≠ .tmp s) (hrun : (execOp a.eval o).run P w = .ok (.value (a.eval x)) w) (h : k (j0 F o.dst (ev F x)) H) : o.wp P a w (OKd k K w a.defers) Q := by
  refine j7 hrun ⟨_,H,K,h,.refl K w,hs.put ((Pres.refl K w).keep hs.krel) (fun _ _ h=>h) hs.krel hs.hrel o.dst (fun i _=>?_),qS _ _⟩
  cases x with
  | tmp s=>exact (hn s rfl).elim
  | const v=>exact zt v hx i
  | global g=>exact RepV.viewO (.ptr g 0)
  | func f=>exact RepV.viewO (hs.rep (x := .func f) rfl)
end
end Go.Aw
end
section
namespace Go.Aw
open Go Go.RowKit
section
variable {P : Program} {ops : List Oper} {o : Oper} {F : List D} {H : AH} {k : List D → AH → Prop} {K : Nat → BK} {w : World} {a : Act} {Q : Exit → Act → World → Prop}
theorem KA {i : Nat} {d : D} {v : Value} (h : RepC K w (.slot i 0) d v) : RepO K w i d v := by
  cases d <;> first | exact RepV.viewO h | exact h
theorem JX {vs : Array Value} {ix : Nat} {v : Value} (h : vs[ix]? = some v) : (Instr.extract (.tuple vs) ix).run P w = .ok v w := by
  simp [Instr.extract,h]
theorem JB (hs : St K w F H a.tmps) {s ix : Nat} (ho : o.op = .extract (.tmp s) ix) (h : aop P ops o F H k) : o.wp P a w (OKd k K w a.defers) Q := by
  simp only [aop,ho] at h
  split at h
  · rename_i d ds hd hev
    split at h
    · rename_i c hc
      have hlt : s < F.length := by
        rcases Nat.lt_or_ge s F.length with h' | h'
        · exact h'
        · simp [ev,List.getD,List.getElem?_eq_none h'] at hev
      have hF : F[s]? = some (.tup ds) := by
        have : F[s]? = some (ev F (.tmp s)) := by simp [ev,List.getD,List.getElem?_eq_getElem hlt]
        rw [this,hev]
      have hts : s < a.tmps.size := by rw [hs.len]; exact hlt
      have hT : a.tmps[s]? = some (a.eval (.tmp s)) := by simp [Act.eval,Array.getElem?_eq_getElem hts]
      obtain ⟨vs,hv,hl,hh⟩ := hs.slot s _ _ hF hT
      have hix : ix < vs.size := by rw [hl]; exact (List.getElem?_eq_some_iff.1 hc).1
      have hvi : vs[ix]? = some vs[ix] := Array.getElem?_eq_getElem hix
      have hrc := hh ix c _ hc hvi
      have hrun : (execOp a.eval o).run P w = .ok (.value vs[ix]) w := by
        simp only [execOp,ho,hv,Sem.run_bind,JX hvi,Result.andThen_ok]
        rfl
      split at h
      · -- what it owns goes along
        let φ := mvφ (.slot s (ix + 1)) (.slot d 0)
        have hfk : FK K w (relab φ K) w := gp (by simp) (by simp)
        refine j7 hrun ⟨_,H,relab φ K,h hrc.rep.fact,hfk,⟨jI hs.krel,mv_hrel (by simp) hs.hrel,by rw [hd]; simpa [Act.put] using hs.len,fun i x v hx hv'=>?_⟩,qS _ _⟩
        rw [hd] at hv'
        simp only [Act.put] at hv'
        rcases getElem?_set_some hx with ⟨rfl,rfl,hl'⟩ | ⟨hne,hx⟩
        · rw [Array.getElem?_setIfInBounds_self_of_lt (by rw [hs.len]; simpa using hl')] at hv'
          obtain rfl := Option.some.inj hv'
          have hcv := RepC.conv (o' := .slot d 0) (qL φ K w) (fun b n hb=>by rw [j4 hb]; simp [φ,mvφ]) hrc
          exact KA hcv
        · rw [Array.getElem?_setIfInBounds_ne hne] at hv'
          rcases getElem?_set_some hx with ⟨rfl,rfl,hl'⟩ | ⟨hne2,hx⟩
          · rw [hT] at hv'
            obtain rfl := Option.some.inj hv'
            refine ⟨vs,hv,by simpa using hl,fun j d' u hd' hu=>?_⟩
            rcases getElem?_set_some hd' with ⟨rfl,rfl,_⟩ | ⟨hne3,hd'⟩
            · rw [hvi] at hu
              obtain rfl := Option.some.inj hu
              exact (RepV.mono (qL φ K w) hrc.rep).repC (fun xs e=>by cases c <;> simp [D.view1] at e)
            · exact (hh j d' u hd' hu).conv (qL φ K w) (fun b n hb=>by
                rw [j4 hb]
                simp only [φ,mvφ,BK.tok.injEq,true_and]
                rw [if_neg]
                intro e
                injection e with _ e
                omega)
          · exact (hs.slot i x v hx hv').conv (qL φ K w) (fun b n j hb=>by
              rw [j4 hb]
              simp only [φ,mvφ,BK.tok.injEq,true_and]
              rw [if_neg]
              intro e
              injection e with e _
              exact hne2 e.symm)
      · refine j7 hrun ⟨_,H,K,h hrc.rep.fact,.refl K w,?_,qS _ _⟩
        rw [hd]
        exact hs.put ((Pres.refl K w).keep hs.krel) (fun _ _ h=>h) hs.krel hs.hrel (some d) (fun i _=>hrc.rep.viewO)
    · exact h.elim
  · exact h.elim
theorem YN (hs : St K w F H a.tmps) (t : TypeId) (c : Array Value) (cs : List D) (hc : c.size = cs.length)
    (hr : ∀ (j : Nat) (d : D),cs[j]? = some d → ∃ u,c[j]? = some u ∧ u.oneCell' = true ∧ (RepV K w d u ∨ (∃ x,d = .own [] ∧ u = .slice x 0 0))) (dst : Option Tmp) :
    ∃ K',FK K w K' (w.alloc (.cells c t)) ∧ St K' (w.alloc (.cells c t)) (j0 F dst (.ptr w.heap.size 0)) ((w.heap.size,.cells cs) :: H) (a.put dst (.pointer (some ⟨w.heap.size,0,none⟩))).tmps := by
  obtain ⟨hp,hk'⟩ := wM (K := K) (w := w) hs.krel (.cells c t) (x := .priv) (by simp)
  refine ⟨_,hp.fk hs.krel,hs.put (hp.keep hs.krel) (fun _ _ h=>h) hk' ?_ dst (fun i _=>RepV.viewO (.ptr _ _))⟩
  have hold := hs.hrel.pres hs.krel hp
  refine ⟨?_,fun b o hm=>?_⟩
  · simp only [List.map_cons,List.nodup_cons]
    refine ⟨fun hm=>?_,hold.nd⟩
    rw [List.mem_map] at hm
    obtain ⟨⟨b,o⟩,h1,h2⟩ := hm
    have := hs.hrel.lt hs.krel h1
    simp only [] at h2
    omega
  · rcases List.mem_cons.1 hm with h | h
    · injection h with h1 h2
      subst h1 h2
      refine ⟨kf _ _ _,c,t,heap_alloc_new w _,hc,fun j d hd=>?_⟩
      obtain ⟨u,e1,e2,e3⟩ := hr j d hd
      refine ⟨u,e1,e2,?_⟩
      rcases e3 with e3 | ⟨x,rfl,rfl⟩
      · exact (RepV.mono (hp.keep hs.krel).ext e3).repC (fun xs e=>by subst e; exact e3.not_own)
      · exact .inl ⟨rfl,x,rfl⟩
    · exact hold.ok b o h
theorem Wq (hs : St K w F H a.tmps) {t : TypeId} (ho : o.op = .alloc t) (h : aop P ops o F H k) : o.wp P a w (OKd k K w a.defers) Q := by
  simp only [aop,ho] at h
  split at h
  · rename_i z hz
    obtain ⟨i,zv,hi,hzv,z1,z2,z3,z4⟩ := yx hz
    obtain ⟨K',h1,h2⟩ := YN hs t zv.cells z z1 (fun j d hd=>by
      have hj : j < zv.cells.size := by rw [z1]; exact (List.getElem?_eq_some_iff.1 hd).1
      have hu := Array.getElem?_eq_getElem hj
      obtain ⟨e1,e2⟩ := z3 j _ hu
      refine ⟨_,hu,e1,?_⟩
      have hcd := yL (K := K) (w := w) (o := .outer) e2
      have hd' := z4 j d _ hd hu
      subst hd'
      generalize hcc : jx zv.cells[j] = cc at hcd
      cases cc with
      | own xs =>
        right
        unfold jx at hcc
        split at hcc <;> first
          | (injection hcc with hcc
             subst hcc
             exact ⟨none,rfl,by assumption⟩)
          | (exact absurd hcc (by simp))
      | _=>exact .inl hcd) o.dst
    refine j7 (w' := w.alloc (.cells zv.cells t)) ?_ ⟨_,_,K',h _ (hs.hrel.fresh hs.krel),h1,h2,qS _ _⟩
    simp [execOp,ho,Instr.alloc,zeroValue,typeInfo,hi,hzv,newVar,newRow]
  · exact h.elim
theorem stp_box (hs : St K w F H a.tmps) (hok : jR o = true) {t : TypeId} {x : Operand} (ho : o.op = .box t x) (h : aop P ops o F H k) : o.wp P a w (OKd k K w a.defers) Q := by
  simp only [aop,ho] at h
  obtain ⟨hc,h⟩ := h
  have hx : y9 x = true := by
    unfold jR at hok
    simp only [ho,Op.operands,Bool.and_eq_true] at hok
    simpa using hok.1
  obtain ⟨c1,c2,c3⟩ := va (hs.rep hx) hc
  obtain ⟨K',h1,h2⟩ := YN hs t (a.eval x).cells _ c1 (fun j d hd=>by
    have hj : j < (a.eval x).cells.size := by rw [c1]; exact (List.getElem?_eq_some_iff.1 hd).1
    have hu := Array.getElem?_eq_getElem hj
    exact ⟨_,hu,c2 j _ hu,.inl (c3 j d _ hd hu)⟩) o.dst
  refine j7 (w' := w.alloc (.cells (a.eval x).cells t)) ?_ ⟨_,_,K',h _ (hs.hrel.fresh hs.krel),h1,h2,qS _ _⟩
  simp [execOp,ho,Instr.box,newVar,newRow]
theorem yf {b : Nat} {x : AO} : ∀ {H : AH},(qY H b x).map (·.1) = H.map (·.1)
  | []=>rfl
  | (c,o) :: r=>by
    simp only [qY]
    split
    · rfl
    · simp only [List.map_cons,yf]
theorem wo {b : Nat} {x : AO} : ∀ {H : AH},(H.map (·.1)).Nodup → ∀ {b' : Nat} {o' : AO},(b',o') ∈ qY H b x → (b' = b ∧ o' = x) ∨ (b' ≠ b ∧ (b',o') ∈ H)
  | [],_,b',o',h=>by simp [qY] at h
  | (c,o) :: r,hn,b',o',h=>by
    simp only [List.map_cons,List.nodup_cons] at hn
    simp only [qY] at h
    split at h
    · rename_i e
      subst e
      rcases List.mem_cons.1 h with h' | h'
      · injection h' with h1 h2; exact .inl ⟨h1,h2⟩
      · refine .inr ⟨fun e=>?_,.tail _ h'⟩
        subst e
        exact hn.1 (List.mem_map.2 ⟨_,h',rfl⟩)
    · rename_i e
      rcases List.mem_cons.1 h with h | h
      · injection h with h1 h2; subst h1 h2; exact .inr ⟨Ne.symm e,.head _⟩
      · rcases wo hn.2 h with h | ⟨h1,h2⟩
        · exact .inl h
        · exact .inr ⟨h1,.tail _ h2⟩
theorem YG {b off : Nat} {cs cs' : List D} {vs : List Value} (hk : KRel K w) (hh : HRel K w H) (hg : qK H b = some (.cells cs)) {K' : Nat → BK} (hfk : FK K w K' w) (hK' : KRel K' w) (hpriv : ∀ b',K b' = .priv → K' b' = .priv) (hcell : ∀ b' n c j,K b' = .tok n (.cell c j) → K' b' = .tok n (.cell c j))
    (hfit : off + vs.length ≤ cs.length) (h1 : ∀ v ∈ vs,v.oneCell' = true) (hlen : cs'.length = cs.length)
    (hold : ∀ (j : Nat) (d : D),cs'[j]? = some d → (j < off ∨ off + vs.length ≤ j) → cs[j]? = some d)
    (hnew : ∀ (j : Nat) (d : D) (u : Value),cs'[off + j]? = some d → vs[j]? = some u → RepC K' w (.cell b (off + j)) d u) :
    ∃ c' T,(storeCells ⟨b,off,none⟩ vs).run P w = .ok () (w.setRow b c') ∧ w.heap[b]? ≠ none ∧ FK K w K' (w.setRow b c') ∧ KRel K' (w.setRow b c') ∧ HRel K' (w.setRow b c') (qY H b (.cells cs')) ∧ Keep noE (fun x=>x = b) K' w K' (w.setRow b c') ∧ T = b := by
  obtain ⟨hpb,c,T,hb,hc,hr⟩ := hh.ok b _ (jp hg)
  have hrun := run_storeCells_at P b off T vs 0 c w hb (by simpa [hc] using hfit) h1
  simp only [Nat.add_zero] at hrun
  generalize hcc : (c.toList.take off ++ vs ++ c.toList.drop (off + vs.length)).toArray = c' at hrun
  have hsame := setRow_heap w b c c' T (0,0) hb
  have hoth : ∀ b',b' ≠ b → (w.setRow b c').heap[b']? = w.heap[b']? := fun b' h=>setRow_other w b b' c' h
  have hpb' : K' b = .priv := hpriv b hpb
  have hkeep : Keep noE (fun x=>x = b) K' w K' (w.setRow b c') := by
    refine ⟨⟨rfl,rfl,rfl,by simp,fun b' _ hi=>⟨hi,hoth b' (fun e=>by subst e; rw [hpb'] at hi; cases hi)⟩,fun b' n o hb'=>⟨n,o,hb',Nat.le_refl _,fun j _=>jz (hoth b' (fun e=>by subst e; rw [hpb'] at hb'; cases hb')) j⟩,fun b' h=>.inl h⟩,
      fun b' n o hb' _=>⟨hb',hoth b' (fun e=>by subst e; rw [hpb'] at hb'; cases hb')⟩,fun b' n h=>h,fun b' hb' hne=>⟨hb',hoth b' hne⟩⟩
  have hcs' : c'.size = cs'.length := by
    rw [← hcc,hlen,← hc]
    simp only [List.size_toArray,List.length_append,List.length_take,List.length_drop,Array.length_toList]
    omega
  have hget : ∀ j,c'[j]? = if j < off then c[j]? else if j < off + vs.length then vs[j - off]? else c[j]? := fun j=>by
    rw [← hcc]
    simp only [List.getElem?_toArray]
    have hl1 : (c.toList.take off).length = off := by simp; omega
    by_cases a1 : j < off
    · rw [if_pos a1,List.append_assoc,List.getElem?_append_left (by rw [hl1]; exact a1),List.getElem?_take,if_pos a1]; simp
    · rw [if_neg a1,List.append_assoc,List.getElem?_append_right (by rw [hl1]; omega),hl1]
      by_cases a2 : j < off + vs.length
      · rw [if_pos a2,List.getElem?_append_left (by omega)]
      · rw [if_neg a2,List.getElem?_append_right (by omega),List.getElem?_drop]
        simp only [Array.getElem?_toList]
        congr 1
        omega
  have hhK' : HRel K' w H := hh.conv hfk.ext hpriv hcell
  refine ⟨c',b,hrun,by rw [hb]; simp,hfk.trans (hkeep.fk (fun h=>h)),fun b' hb'=>hK' b' (by simpa using hb'),⟨by rw [yf]; exact hh.nd,fun b' o' hm=>?_⟩,hkeep,rfl⟩
  rcases wo hh.nd hm with ⟨rfl,rfl⟩ | ⟨hne,hm⟩
  · refine ⟨hpb',c',T,hsame,hcs',fun j d hd=>?_⟩
    by_cases hj : j < off ∨ off + vs.length ≤ j
    · obtain ⟨u,e1,e2,e3⟩ := hr j d (hold j d hd hj)
      refine ⟨u,?_,e2,((e3.conv (o' := .cell b' j) hfk.ext (fun b'' n hb''=>hcell b'' n _ _ hb'')).keep hkeep (fun h=>h))⟩
      rw [hget]
      rcases hj with hj | hj
      · rw [if_pos hj]; exact e1
      · rw [if_neg (by omega),if_neg (by omega)]; exact e1
    · have hj1 : off ≤ j := by omega
      have hj2 : j - off < vs.length := by omega
      have hu := List.getElem?_eq_getElem hj2
      have hd' : cs'[off + (j - off)]? = some d := by rw [show off + (j - off) = j by omega]; exact hd
      have := hnew (j - off) d _ hd' hu
      rw [show off + (j - off) = j by omega] at this
      refine ⟨_,?_,h1 _ (List.mem_of_getElem? hu),this.keep hkeep (fun h=>h)⟩
      rw [hget,if_neg (by omega),if_pos (by omega)]
      exact hu
  · exact (AO.keep hkeep hne (fun _ h=>h) (hhK'.ok b' o' hm))
end
end Go.Aw
end
section
namespace Go.Aw
open Go Go.RowKit
section
variable {P : Program} {ops : List Oper} {o : Oper} {F : List D} {H : AH} {k : List D → AH → Prop} {K : Nat → BK} {w : World} {a : Act} {Q : Exit → Act → World → Prop}
theorem uw {t : TypeId} {n b off : Nat} {ag : Bool} (ht : wi P t = some (ag,n)) {v : Value} (hn : v.cells.size = n) {w' : World} (h : (storeCells ⟨b,off,none⟩ v.cells.toList).run P w = .ok () w') :
  (Instr.storeAt t (.pointer (some ⟨b,off,none⟩)) v).run P w = .ok () w' := by
 obtain ⟨h1,h2⟩ := wK ht
 simp [Instr.storeAt,Instr.sureAddr,storeVar,h2,hn,h]
theorem YH {d : D} {v : Value} {i : Nat} (h : RepO K w i d v) (h1 : one1 d = true) : v.oneCell' = true ∧ v.cells = #[v] := by
 cases d <;> simp [one1] at h1
 case own xs=>rcases h with ⟨_,a,rfl⟩ | ⟨_,_,_,_,_,rfl,_⟩ <;> exact ⟨rfl,rfl⟩
 all_goals (cases h <;> exact ⟨rfl,rfl⟩)
theorem repO_C {i : Nat} {d : D} {v : Value} (h : RepO K w i d v) (h1 : one1 d = true) : RepC K w (.slot i 0) d v := by
 cases d <;> simp [one1] at h1 <;> exact h
theorem ov (hs : St K w F H a.tmps) {s : Nat} {d : D} (hev : ev F (.tmp s) = d) (hd : d ≠ .any) : F[s]? = some d ∧ a.tmps[s]? = some (a.eval (.tmp s)) := by
 have hlt : s < F.length := by
  rcases Nat.lt_or_ge s F.length with h' | h'
  ·exact h'
  ·simp [ev,List.getD,List.getElem?_eq_none h'] at hev
   exact (hd hev.symm).elim
 have hts : s < a.tmps.size := by rw [hs.len]; exact hlt
 refine ⟨?_,by simp [Act.eval,Array.getElem?_eq_getElem hts]⟩
 have : F[s]? = some (ev F (.tmp s)) := by simp [ev,List.getD,List.getElem?_eq_getElem hlt]
 rw [this,hev]
theorem WD (hs : St K w F H a.tmps) (hok : jR o = true) {t : TypeId} {x y : Operand} (ho : o.op = .store t x y) (h : aop P ops o F H k) : o.wp P a w (OKd k K w a.defers) Q := by
 simp only [aop,ho] at h
 have hx : y9 x = true ∧ y9 y = true := by
  unfold jR at hok
  simp only [ho,Op.operands,Bool.and_eq_true] at hok
  simpa using hok.1
 split at h
 ·rename_i n b off ht hp
  split at h
  ·rename_i cs hg
   obtain ⟨hc,hn,hfit,h⟩ := h
   have hv := (hp ▸ hs.rep hx.1).ptr_inv
   obtain ⟨c1,c2,c3⟩ := va (hs.rep hx.2) hc
   have hsz : (a.eval y).cells.size = n := by rw [c1,hn]
   obtain ⟨c',T,hrun,_,hfk,hk',hh',hkeep,_⟩ := YG (P := P) (off := off) (cs' := cs.take off ++ (cellsOf (rv F y) ++ cs.drop (off + n))) (vs := (a.eval y).cells.toList) hs.krel hs.hrel hg (.refl K w) hs.krel (fun _ h=>h) (fun _ _ _ _ h=>h)
    (by simp; omega) (fun v hm=>by
     obtain ⟨j,hj,he⟩ := List.mem_iff_getElem.1 hm
     exact c2 j v (by rw [← he]; simp at hj ⊢)) (by simp; omega)
    (fun j d hd hj=>by
     simp only [Array.length_toList,hsz] at hj
     rcases hj with hj | hj
     ·rw [List.getElem?_append_left (by simp; omega),List.getElem?_take,if_pos hj] at hd; exact hd
     ·have hl1 : (cs.take off).length = off := by simp; omega
      rw [List.getElem?_append_right (by rw [hl1]; omega),hl1,List.getElem?_append_right (by omega),List.getElem?_drop] at hd
      rw [← hd]; congr 1; omega)
    (fun j d u hd hu=>by
     have hj : j < n := by rw [← hsz]; simpa using (List.getElem?_eq_some_iff.1 hu).1
     have hl1 : (cs.take off).length = off := by simp; omega
     rw [List.getElem?_append_right (by rw [hl1]; omega),hl1,show off + j - off = j by omega,List.getElem?_append_left (by omega)] at hd
     exact (c3 j d u hd (by simpa using hu)).repC (fun xs e=>by subst e; exact (c3 j _ u hd (by simpa using hu)).not_own))
   have hst := uw (P := P) ht hsz hrun
   refine gI (w' := w.setRow b c') ?_ ⟨_,_,K,h,hfk,hs.put (E := noE) (B := fun x=>x = b) hkeep (fun _ _ h=>h) hk' hh' o.dst (fun i _=>RepV.viewO (.tup [] #[] rfl (fun j d u hd=>by simp at hd))),qS _ _⟩
   simp only [execOp,ho,hv,Sem.run_bind,hst,Result.andThen_ok]
   rfl
  ·exact h.elim
 ·rename_i n b off ht hp
  split at h
  ·rename_i cs hg
   obtain ⟨rfl,hoff,h1,hdst,h⟩ := h
   have hv := (hp ▸ hs.rep hx.1).ptr_inv
   have main : ∃ K',FK K w K' w ∧ KRel K' w ∧ (∀ b',K b' = .priv → K' b' = .priv) ∧ (∀ b' n c j,K b' = .tok n (.cell c j) → K' b' = .tok n (.cell c j)) ∧ RepC K' w (.cell b off) (ev F y) (a.eval y) ∧ (a.eval y).oneCell' = true ∧ (a.eval y).cells = #[a.eval y] ∧
     ∃ F',(∀ H',(match y with | .tmp s=>k (F.set s (rv F y)) H' | _=>k F H') → k F' H') ∧ F'.length = F.length ∧ ∀ (i : Nat) (d : D) (v : Value),F'[i]? = some d → a.tmps[i]? = some v → RepO K' w i d v := by
    cases y with
    | tmp s =>
     obtain ⟨hF,hT⟩ := ov hs (s := s) rfl (fun e=>by rw [e] at h1; simp [one1] at h1)
     have hr := hs.slot s _ _ hF hT
     obtain ⟨o1,o2⟩ := YH hr h1
     let φ := mvφ (.slot s 0) (.cell b off)
     have hcv := RepC.conv (o' := .cell b off) (qL φ K w) (fun b' n hb'=>by rw [j4 hb']; simp [φ,mvφ]) (repO_C hr h1)
     refine ⟨relab φ K,gp (by simp) (by simp),jI hs.krel,fun b' h=>relab_priv.2 h,fun b' n c j hb'=>by rw [j4 hb']; simp [φ,mvφ],hcv,o1,o2,F.set s (rv F (.tmp s)),fun H' h=>h,by simp,fun i d v hd hv=>?_⟩
     rcases getElem?_set_some hd with ⟨rfl,rfl,_⟩ | ⟨hne,hd⟩
     ·rw [hT] at hv
      obtain rfl := Option.some.inj hv
      exact (RepV.mono (qL φ K w) hr.rep).viewO
     ·exact ue (fun j e=>by injection e with e _; exact hne e) (hs.slot i d v hd hv)
    | const c =>
     have hr := yL (K := K) (w := w) (o := .cell b off) hx.2
     have hr0 := zt (K := K) (w := w) c hx.2 0
     obtain ⟨o1,o2⟩ := YH hr0 h1
     exact ⟨K,.refl K w,hs.krel,fun _ h=>h,fun _ _ _ _ h=>h,hr,o1,o2,F,fun H' h=>h,rfl,hs.slot⟩
    | global g=>exact ⟨K,.refl K w,hs.krel,fun _ h=>h,fun _ _ _ _ h=>h,.ptr g 0,rfl,rfl,F,fun H' h=>h,rfl,hs.slot⟩
    | func f=>exact ⟨K,.refl K w,hs.krel,fun _ h=>h,fun _ _ _ _ h=>h,hs.rep (x := .func f) rfl,rfl,rfl,F,fun H' h=>h,rfl,hs.slot⟩
   obtain ⟨K',hfk0,hk0,hpriv0,hcell,hrc,ho1,ho2,F',hF',hlen',hslots⟩ := main
   obtain ⟨c',T,hrun,_,hfk,hk',hh',hkeep,_⟩ := YG (P := P) (off := off) (cs' := cs.set off (ev F y)) (vs := [a.eval y]) hs.krel hs.hrel hg hfk0 hk0 hpriv0 hcell
    (by simp; omega) (fun v hm=>by simp at hm; subst hm; exact ho1) (by simp)
    (fun j d hd hj=>by
     rcases getElem?_set_some hd with ⟨rfl,_,_⟩ | ⟨_,hd⟩
     ·simp only [List.length_cons,List.length_nil] at hj; omega
     ·exact hd)
    (fun j d u hd hu=>by
     cases j with
     | zero =>
      simp only [List.getElem?_cons_zero,Option.some.injEq] at hu
      subst hu
      rcases getElem?_set_some hd with ⟨_,rfl,_⟩ | ⟨hne,_⟩
      ·exact hrc
      ·exact (hne rfl).elim
     | succ j=>simp at hu)
   have hst := uw (P := P) ht (v := a.eval y) (by rw [ho2]; rfl) (w' := w.setRow b c') (by rw [ho2]; exact hrun)
   have hdef : (a.put o.dst undef) = a := by rw [hdst]; rfl
   refine gI (w' := w.setRow b c') ?_ ⟨F',_,K',hF' _ (by cases y <;> exact h),hfk,⟨hk',hh',by rw [hdef,hlen']; exact hs.len,fun i d v hd hv'=>?_⟩,qS _ _⟩
   ·simp only [execOp,ho,hv,Sem.run_bind,hst,Result.andThen_ok]
    rfl
   ·rw [hdef] at hv'
    exact (hslots i d v hd hv').keep hkeep (fun _ h=>h)
  ·exact h.elim
 ·exact h.elim
theorem U0 (hs : St K w F H a.tmps) (hok : jR o = true) {c : Call} {f : Operand} (ho : o.op = .call c) (hf : c.callee = .value f) (h : aop P ops o F H k) : o.wp P a w (OKd k K w a.defers) Q := by
 simp only [aop,ho,hf] at h
 split at h
 ·rename_i g caps hg
  have hall : y9 f = true ∧ c.args.all y9 = true := by
   unfold jR at hok
   simp only [ho,Op.operands,Call.operands,hf,Bool.and_eq_true] at hok
   exact ⟨(Array.all_eq_true'.1 hok.1) f (by simp),hok.2⟩
  obtain ⟨fs,vs,hv,hcap⟩ := (hg ▸ hs.rep hall.1).fn_call
  obtain ⟨hcall,hR⟩ := h
  unfold gV at hcall
  split at hcall
  ·rename_i fn hfn
   simp only [Bool.and_eq_true,Bool.not_eq_true'] at hcall
   have hrun : (execOp a.eval o).run P w = .ok (.enter g (fs ++ c.args.map a.eval ++ vs)) w := by
    have hb : fn.body.isNone = false := by cases hbb : fn.body <;> simp_all
    simp only [execOp,ho,resolve,hf,hv,Deferred.ofValue,Sem.run_bind,Sem.run_pure,Result.andThen_ok,invoke,callFunc,run_program,hfn,hcall.2,hb,Bool.false_eq_true,if_false]
   obtain ⟨hl,hcap⟩ := hcap (c.args.toList.map (rv F)) (c.args.map a.eval) (by simp) (fun j d v hd hv'=>by
    rw [List.getElem?_map,Option.map_eq_some_iff] at hd
    rw [Array.getElem?_map,Option.map_eq_some_iff] at hv'
    obtain ⟨x,h1,rfl⟩ := hd
    obtain ⟨y,h2,rfl⟩ := hv'
    rw [Array.getElem?_toList,h2] at h1
    obtain rfl := Option.some.inj h1
    exact hs.rep ((Array.all_eq_true'.1 hall.2) _ (Array.mem_of_getElem? h2)))
   have hc := hR (relab outerize K) w (fs ++ c.args.map a.eval ++ vs) (jI hs.krel) (QN K) (yG ⟨fun _ _=>rfl,rfl⟩ hs.hrel) hl (fun j d v hd hv'=>(hcap j d v hd hv').mono (qL outerize K w))
   unfold Oper.wp
   rw [hrun,Oper.upon_enter]
   refine hc.mono fun e w' ⟨v,d,H',K',he,hk,hfk,hk',hh',hr⟩=>?_
   subst he
   have key : ∀ dst,(∀ i,o.dst = some i → i = dst) → St (yt K K' dst) w' (j0 F o.dst d) H' (a.put o.dst v).tmps := by
    intro dst hd
    obtain ⟨hkeep,hext⟩ := z6 hfk dst
    have hkr : KRel (yt K K' dst) w' := fun b hb=>by simp [yt,hk' b hb]
    have hhr : HRel (yt K K' dst) w' H' := hh'.conv hext (fun b h=>by simp [yt,h]) (fun b n c j hb=>by simp [yt,hb])
    exact hs.put hkeep (fun _ _ h=>h) hkr hhr o.dst (fun i hi=>by
      obtain rfl := hd i hi
      exact hr.conv hext (fun b n j hb=>by simp [yt,hb]))
   have hkk := hk hr.rep.fact
   cases hd : o.dst with
   | none=>exact ⟨_,H',_,hkk,(z6 hfk 0).1.fk (fun h=>h),hd ▸ key 0 (fun i hi=>by rw [hd] at hi; cases hi),qS _ _⟩
   | some t=>exact ⟨_,H',_,hkk,(z6 hfk t).1.fk (fun h=>h),hd ▸ key t (fun i hi=>by rw [hd] at hi; exact (Option.some.inj hi).symm),qS _ _⟩
  ·cases hcall
 ·exact h.elim
theorem ky {α : Type} {xs : Array α} {x y : α} (h : xs.toList = [x,y]) : xs = #[x,y] := by
 obtain ⟨l⟩ := xs
 simp at h
 simp [h]
theorem Q2 (hs : St K w F H a.tmps) (hok : jR o = true) {c : Call} (ho : o.op = .call c) (hf : c.callee = .builtin .append) (h : aop P ops o F H k) : o.wp P a w (OKd k K w a.defers) Q := by
 simp only [aop,ho,hf] at h
 split at h
 ·rename_i s x t u d hargs htys hd
  split at h
  ·rename_i xs e sz bs hev hap
   obtain ⟨hF,hT⟩ := ov hs hev (by simp)
   have hown : OwnAt K w (.slot s 0) xs (a.eval (.tmp s)) := hs.slot s _ _ hF hT
   have hx : y9 x = true := by
    unfold jR at hok
    simp only [ho,Op.operands,Call.operands,hf,Bool.and_eq_true] at hok
    exact (Array.all_eq_true'.1 hok.2) x (by rw [ky hargs]; simp)
   have fin : ∀ ys : List (List D),(∀ y ∈ xs,y.length = sz) → Src P w K sz ys (a.eval x) → (xs.length + ys.length) * bs ≤ 140737488355328 → k ((F.set s (.slc xs)).set d (.own (xs ++ ys))) H → o.wp P a w (OKd k K w a.defers) Q := by
    intro ys hxs hsrc hb hk
    obtain ⟨r,K',w',hrun,hkeep,hk',hh',hown'⟩ := Wn (P := P) (ty := o.type) hs.krel hs.hrel hap (s := .slot s 0) (d := .slot d 0) (by simp) (by simp) (by simp) hown hxs hsrc hb
    refine j7 (v := r) (w' := w') ?_ ⟨_,H,K',hk,hkeep.fk (by simp),⟨hk',hh',by rw [hd]; simpa [Act.put] using hs.len,fun i dd v hdd hv=>?_⟩,qS _ _⟩
    ·simp only [execOp,ho,resolve,hf,Sem.run_bind,Sem.run_pure,Result.andThen_ok,invoke,builtin,ky hargs,ky htys]
     simp [hrun]
    ·rw [hd] at hv
     simp only [Act.put] at hv
     rcases getElem?_set_some hdd with ⟨rfl,rfl,hl⟩ | ⟨hne,hdd⟩
     ·rw [Array.getElem?_setIfInBounds_self_of_lt (by rw [hs.len]; simpa using hl)] at hv
      obtain rfl := Option.some.inj hv
      exact hown'
     ·rw [Array.getElem?_setIfInBounds_ne hne] at hv
      rcases getElem?_set_some hdd with ⟨rfl,rfl,_⟩ | ⟨hne2,hdd⟩
      ·rw [hT] at hv
       obtain rfl := Option.some.inj hv
       exact (RepV.mono hkeep.ext hown.rep).viewO
      ·exact (hs.slot i dd v hdd hv).keep hkeep (fun j e=>by injection e with e _; exact hne2 e.symm)
   split at h
   ·rename_i ys hy
    obtain ⟨h1,h2,h3,h4⟩ := h
    have hpos : 0 < sz := (kg (gv hap).1).2.1
    exact fin ys h1 (gJ (hy ▸ hs.rep hx) h2 hpos) h3 h4
   ·rename_i l hy
    obtain ⟨rfl,h2,h3,h4⟩ := h
    exact fin _ h2 (Yd (hy ▸ hs.rep hx)) (by simpa using h3) h4
   ·exact h.elim
  ·exact h.elim
 ·exact h.elim
theorem Vk (hs : St K w F H a.tmps) (hok : jR o = true) {t : TypeId} {s : Nat} (ho : o.op = .load t (.tmp s)) (h : aop P ops o F H k) : o.wp P a w (OKd k K w a.defers) Q := by
 simp only [aop,ho] at h
 split at h
 ·rename_i d hd
  split at h
  ·split at h
   ·rename_i n b off ht hp
    split at h
    ·rename_i cs hg
     split at h
     ·rename_i xs hc
      have hv := (hp ▸ hs.rep (x := .tmp s) rfl).ptr_inv
      obtain ⟨hpb,c,T,hb,hcs,hr⟩ := hs.hrel.ok b _ (jp hg)
      obtain ⟨u,e1,e2,e3⟩ := hr off _ hc
      have hcell : w.cell? ⟨b,off,none⟩ = some u := by rw [y5 hb]; exact e1
      let φ := mvφ (.cell b off) (.slot d 0)
      have hfk : FK K w (relab φ K) w := gp (by simp) (by simp)
      have hcv : OwnAt (relab φ K) w (.slot d 0) xs u := OwnAt.conv (qL φ K w) (fun b' n hb'=>by rw [j4 hb']; simp [φ,mvφ]) e3
      refine j7 (v := u) (w' := w) ?_ ⟨_,_,relab φ K,h,hfk,⟨jI hs.krel,⟨by rw [yf]; exact hs.hrel.nd,fun b' o' hm=>?_⟩,by rw [hd]; simpa [Act.put] using hs.len,fun i dd v hdd hv'=>?_⟩,qS _ _⟩
      ·simp only [execOp,ho,hv,Sem.run_bind,wS ht b off u hcell,Result.andThen_ok]
       rfl
      ·have conv : ∀ (b' : Nat) (cs' : List D),b' ≠ b → AO.at_ K w b' (.cells cs') → AO.at_ (relab φ K) w b' (.cells cs') := by
        rintro b' cs' hne ⟨g1,c',T',g2,g3,g4⟩
        refine ⟨relab_priv.2 g1,c',T',g2,g3,fun j d' hd'=>?_⟩
        obtain ⟨u',q1,q2,q3⟩ := g4 j d' hd'
        exact ⟨u',q1,q2,q3.conv (qL φ K w) (fun b'' n hb''=>by
         rw [j4 hb'']
         simp only [φ,mvφ,BK.tok.injEq,true_and]
         rw [if_neg]
         intro e
         injection e with e _
         exact hne e)⟩
       rcases wo hs.hrel.nd hm with ⟨rfl,rfl⟩ | ⟨hne,hm⟩
       ·refine ⟨relab_priv.2 hpb,c,T,hb,by simpa using hcs,fun j d' hd'=>?_⟩
        rcases getElem?_set_some hd' with ⟨rfl,rfl,_⟩ | ⟨hnej,hd'⟩
        ·exact ⟨u,e1,e2,RepV.mono (qL φ K w) (OwnAt.rep e3)⟩
        ·obtain ⟨u',q1,q2,q3⟩ := hr j d' hd'
         exact ⟨u',q1,q2,q3.conv (qL φ K w) (fun b'' n hb''=>by
          rw [j4 hb'']
          simp only [φ,mvφ,BK.tok.injEq,true_and]
          rw [if_neg]
          intro e
          injection e with _ e
          exact hnej e.symm)⟩
       ·cases o' with
        | cells cs'=>exact conv b' cs' hne (hs.hrel.ok b' _ hm)
        | room cap' xs' =>
         have hro := hs.hrel.ok b' _ hm
         exact ⟨hro.1,hro.2.conv (qL φ K w) (fun b'' n hb''=>by
          rw [j4 hb'']
          simp only [φ,mvφ,BK.tok.injEq,true_and]
          rw [if_neg]
          intro e
          injection e with e _
          exact hne e)⟩
      ·rw [hd] at hv'
       simp only [Act.put] at hv'
       rcases getElem?_set_some hdd with ⟨rfl,rfl,hl⟩ | ⟨hne,hdd⟩
       ·rw [Array.getElem?_setIfInBounds_self_of_lt (by rw [hs.len]; exact hl)] at hv'
        obtain rfl := Option.some.inj hv'
        exact hcv
       ·rw [Array.getElem?_setIfInBounds_ne hne] at hv'
        exact ue (fun j e=>by cases e) (hs.slot i dd v hdd hv')
     ·exact h.elim
    ·exact h.elim
   ·exact h.elim
  ·exact wQ hs hok (by simpa only [ho,hd] using h)
 ·rename_i hd
  exact wQ hs hok (by simpa only [ho,hd] using h)
theorem ut {t e : TypeId} (ht : P.underlying t = some (.slice e)) (w : World) (ad : Option Addr) (n c d : Nat) : (Op.equalIn (d + 1) t (.slice ad n c) (.slice none 0 0)).run P w = .ok ad.isNone w := by
 cases ad <;> simp [Op.equalIn,run_underlying ht]
theorem Qv {t e : TypeId} (ht : P.underlying t = some (.slice e)) (w : World) (ad : Option Addr) (n c : Nat) : (binOp .eql t (.slice ad n c) (.slice none 0 0)).run P w = .ok (.bool ad.isNone) w := by
 have : binOp .eql t (.slice ad n c) (.slice none 0 0) = (do pure (.bool (← Op.equal t (.slice ad n c) (.slice none 0 0)))) := rfl
 rw [this,Sem.run_bind,show Op.equal t (.slice ad n c) (.slice none 0 0) = Op.equalIn (9999 + 1) t (.slice ad n c) (.slice none 0 0) from rfl,ut ht]
 rfl
theorem QH {t e : TypeId} (ht : P.underlying t = some (.slice e)) (w : World) (ad : Option Addr) (n c : Nat) : (binOp .neq t (.slice ad n c) (.slice none 0 0)).run P w = .ok (.bool (!ad.isNone)) w := by
 have : binOp .neq t (.slice ad n c) (.slice none 0 0) = (do pure (.bool (!(← Op.equal t (.slice ad n c) (.slice none 0 0))))) := rfl
 rw [this,Sem.run_bind,show Op.equal t (.slice ad n c) (.slice none 0 0) = Op.equalIn (9999 + 1) t (.slice ad n c) (.slice none 0 0) from rfl,ut ht]
 rfl
theorem stp_bin (hs : St K w F H a.tmps) (hok : jR o = true) {bo : BinOp} {t ty : TypeId} {x y : Operand} (ho : o.op = .binOp bo t x y ty) (h : aop P ops o F H k) : o.wp P a w (OKd k K w a.defers) Q := by
 simp only [aop,ho] at h
 split at h
 ·rename_i hn
  obtain rfl : y = .const (.slice none 0 0) := by
   unfold gZ at hn
   split at hn
   ·rfl
   ·cases hn
  have hx : y9 x = true := by
   unfold jR at hok
   simp only [ho,Op.operands,Bool.and_eq_true] at hok
   have := hok.1
   simp at this
   exact this.1
  have hr := hs.rep hx
  unfold nilcmp at h
  split at h
  ·rename_i xs hxs
   rw [hxs] at hr
   obtain ⟨hsl,h⟩ := h
   obtain ⟨⟨e,sz⟩,hsl⟩ := Option.isSome_iff_exists.1 hsl
   obtain ⟨ht,_⟩ := kg hsl
   have hform : ∃ ad n c,a.eval x = .slice ad n c ∧ (ad = none → xs = []) := by
    rcases hr.slc_inv with ⟨rfl,ad,hv⟩ | ⟨b,off,cap,sz',f,hv,_⟩
    ·exact ⟨_,_,_,hv,fun _=>rfl⟩
    ·exact ⟨_,_,_,hv,fun e=>by cases e⟩
   obtain ⟨ad,n,c,hv,hne⟩ := hform
   have put : ∀ (b : Bool),k (j0 F o.dst (.bool b)) H → (execOp a.eval o).run P w = .ok (.value (.bool b)) w → o.wp P a w (OKd k K w a.defers) Q := fun b hk hrun =>
    j7 hrun ⟨_,H,K,hk,.refl K w,hs.put ((Pres.refl K w).keep hs.krel) (fun _ _ h=>h) hs.krel hs.hrel o.dst (fun i _=>RepV.viewO (.bool b)),qS _ _⟩
   have hrun : ∀ v,(binOp bo t (.slice ad n c) (.slice none 0 0)).run P w = .ok v w → (execOp a.eval o).run P w = .ok (.value v) w := fun v hv'=>by
    have hy : a.eval (.const (.slice none 0 0)) = .slice none 0 0 := rfl
    have hg : eqGuard bo t x (.const (.slice none 0 0)) (.slice ad n c) (.slice none 0 0) = pure () := by cases bo <;> rfl
    simp only [execOp,ho]
    rw [hv,hy,hg,Sem.run_bind,Sem.run_bind,Sem.run_pure,Result.andThen_ok,hv']
    rfl
   split at h
   ·cases ad with
    | none=>exact put true (h.1 (hne rfl)) (hrun _ (Qv ht _ _ _ _))
    | some ad=>exact put false h.2 (hrun _ (Qv ht _ _ _ _))
   ·cases ad with
    | none=>exact put false (h.1 (hne rfl)) (hrun _ (QH ht _ _ _ _))
    | some ad=>exact put true h.2 (hrun _ (QH ht _ _ _ _))
   ·exact h.elim
  ·exact h.elim
 ·exact wQ hs hok (by simpa only [ho] using h)
theorem yn (hs : St K w F H a.tmps) (hok : jR o = true) (h : aop P ops o F H k) : o.wp P a w (OKd k K w a.defers) Q := by
 have hopnd : ∀ x,o.op.operands = #[x] → y9 x = true := fun x hx=>by
  unfold jR at hok
  simp only [hx,Bool.and_eq_true] at hok
  simpa using hok.1
 cases ho : o.op
 case move x =>
  cases x with
  | tmp s=>exact Vw hs ho h
  | _=>exact QG hs (hopnd _ (by rw [ho]; rfl)) (fun s e=>by cases e) (by simp [execOp,ho]) (by simpa only [aop,ho] using h)
 case assign x =>
  cases x with
  | tmp s=>exact KG hs ho h
  | _=>exact QG hs (hopnd _ (by rw [ho]; rfl)) (fun s e=>by cases e) (by simp [execOp,ho]) (by simpa only [aop,ho] using h)
 case extract x ix =>
  cases x with
  | tmp s=>exact JB hs ho h
  | _=>exact wQ hs hok (by simpa only [aop,ho] using h)
 case alloc t=>exact Wq hs ho h
 case box t x=>exact stp_box hs hok ho h
 case store t x y=>exact WD hs hok ho h
 case binOp bo t x y ty=>exact stp_bin hs hok ho h
 case load t x =>
  cases x with
  | tmp s=>exact Vk hs hok ho h
  | _=>exact wQ hs hok (by simpa only [aop,ho] using h)
 case call c =>
  cases hf : c.callee with
  | value f=>exact U0 hs hok ho hf h
  | invoke r m=>exact wQ hs hok (by simpa only [aop,ho,hf] using h)
  | builtin b =>
   cases b
   case append=>exact Q2 hs hok ho hf h
   all_goals exact wQ hs hok (by simpa only [aop,ho,hf] using h)
 all_goals exact wQ hs hok (by simpa only [aop,ho] using h)
end
end Go.Aw
end
