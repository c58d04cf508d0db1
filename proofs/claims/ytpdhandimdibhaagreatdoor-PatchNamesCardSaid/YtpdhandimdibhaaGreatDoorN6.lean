/- A part of the proof of what the last text says: Aw12, Aw13, Aw14. Conditions: those in each theorem. -/
import Derived.Test.YtpdhandimdibhaaGreatDoorN5
import Derived.Still
import Derived.StillTail
set_option linter.unusedVariables false
set_option linter.unusedSimpArgs false
set_option maxRecDepth 100000
set_option maxHeartbeats 16000000
open Nat renaming reduceSub → qa,reduceAdd → qb,reduceMul → qc,reduceEqDiff → qd,reduceLeDiff → qe,reduceBEq → qf
section
namespace Go.Aw
open Go Go.RowKit
def gst (ops:List Oper) (F:List D) (o:Oper):Option Bool:=
  match o.guard with
  |none=>some true
  | some (j,want)=>match (ops[j]?).bind (·.dst) with
    | some t=>match F.getD t .any with
      | .bool b=>some (b==want)
      | .tup _=>some false
      |_=>none
    |none=>some false
def aops (P:Program) (ops:List Oper):List Oper→List D→AH→(List D→AH→Prop)→Prop
  | [],F,H,k=>k F H
  | o::r,F,H,k=>match o.guard with
    |none=>aop P ops o F H fun F' H'=>aops P ops r F' H' k
    | some (j,want)=>match (ops[j]?).bind (·.dst) with
      | some t=>match F.getD t .any with
        | .bool b=>(b=want→aop P ops o F H fun F' H'=>aops P ops r F' H' k)∧(b=(!want)→aops P ops r (qG F o.dst (.tup [])) H k)
        | .tup _=>aops P ops r (qG F o.dst (.tup [])) H k
        |_=>False
      |none=>aops P ops r (qG F o.dst (.tup [])) H k
section
variable {P:Program} {ops:Array Oper} {o:Oper} {F:List D} {H:AH} {k:List D→AH→Prop} {K:Nat→BK} {w:World} {a:Act} {Q:Exit→Act→World→Prop}
theorem k8 (hs:St K w F H a.tmps) {b:Bool} (h:gst ops.toList F o=some b):Region.wanted o (yielded ops a.tmps)=b:=by
  unfold gst at h
  unfold Region.wanted
  cases hg:o.guard with
  |none=>simp only [hg,Option.some.injEq] at h;exact h
  | some g=>
    obtain ⟨j,want⟩:=g
    simp only [hg] at h ⊢
    unfold yielded
    simp only [Array.getElem?_toList] at h
    cases hd:(ops[j]?).bind (·.dst) with
    |none=>simp only [hd,Option.some.injEq] at h;subst h;rfl
    | some t=>
      simp only [hd] at h
      simp only [Option.bind_some]
      have key:∀d:D,F.getD t .any=d→d≠ .any→∃v,a.tmps[t]?=some v∧RepO K w t d v:=by
        intro d h1 h2
        have hlt:t<F.length:=by
          rcases Nat.lt_or_ge t F.length with h'|h'
          · exact h'
          · simp [List.getD,List.getElem?_eq_none h'] at h1;exact (h2 h1.symm).elim
        have hF:F[t]?=some d:=by rw [←h1];simp [List.getD,List.getElem?_eq_getElem hlt]
        have hts:t<a.tmps.size:=by rw [hs.len];exact hlt
        exact ⟨_,Array.getElem?_eq_getElem hts,hs.slot t d _ hF (Array.getElem?_eq_getElem hts)⟩
      split at h
      · rename_i bb hb
        obtain ⟨v,h1,h2⟩:=key _ hb (by simp)
        rw [h1,RepV.bool_inv h2]
        simp only [Option.some.injEq] at h
        simp only [←h]
        cases bb<;>cases want<;>rfl
      · rename_i ds hb
        obtain ⟨v,h1,vs,rfl,_⟩:=key _ hb (by simp)
        rw [h1]
        simp only [Option.some.injEq] at h
        subst h
        rfl
      · cases h
theorem undef_rep:RepV K w (.tup []) undef:= .tup [] #[] rfl (fun j d u hd=>by simp at hd)
theorem w8 (hs:St K w F H a.tmps) (dst:Option Tmp):St K w (qG F dst (.tup [])) H (a.put dst undef).tmps:=
  hs.put ((Pres.refl K w).keep hs.krel) (fun _ _ h=>h) hs.krel hs.hrel dst (fun i _=>undef_rep.viewO)
theorem OKd.trans {k':List D→AH→Prop} {ds:List Deferred} {K0:Nat→BK} {w0:World} {F':List D} {H':AH} (h:OKd k K w ds a w0):OKd k K w ds a w0:=h
theorem u4 (hQ:∀a' w',OKd k K w a.defers a' w'→Q .normal a' w'):∀(l:List Oper) (F:List D) (H:AH) (K1:Nat→BK) (w1:World) (a1:Act),(∀o∈l,jq o=true)→St K1 w1 F H a1.tmps→FK K w K1 w1→a1.defers=a.defers→
    aops P ops.toList l F H k→wpList P ops Q l a1 w1
  | [],F,H,K1,w1,a1,_,hs,hfk,hd,h=>wpList_nil (hQ a1 w1 ⟨F,H,K1,h,hfk,hs,hd⟩)
  | o::r,F,H,K1,w1,a1,hok,hs,hfk,hd,h=>by
    have hgo:aop P ops.toList o F H (fun F' H'=>aops P ops.toList r F' H' k)→o.wp P a1 w1 (wpList P ops Q r) Q:=fun h=>by
      refine Oper.wp_mono (fun a2 w2 h2=>?_) (kS (Q:=Q) hs (hok o (.head _)) h)
      obtain ⟨F',H',K',g1,g2,g3,g4⟩:=h2
      exact u4 hQ r F' H' K' w2 a2 (fun o ho=>hok o (.tail _ ho)) g3 (hfk.trans g2) (g4.trans hd) g1
    have hskip:aops P ops.toList r (qG F o.dst (.tup [])) H k→wpList P ops Q r (a1.put o.dst undef) w1:=fun h=>
      u4 hQ r _ H K1 w1 _ (fun o ho=>hok o (.tail _ ho)) (w8 hs o.dst) hfk ((qy o.dst undef).trans hd) h
    have hw:=fun b=>k8 (ops:=ops) (o:=o) hs (b:=b)
    unfold gst at hw
    unfold wpList
    cases hg:o.guard with
    | none=>
      simp only [aops,hg] at h
      simp only [hg] at hw
      rw [if_pos (hw true rfl)]
      exact .inl (hgo h)
    | some g=>
      obtain ⟨j,want⟩:=g
      simp only [aops,hg] at h
      simp only [hg] at hw
      cases hdd:(ops.toList[j]?).bind (·.dst) with
      | none=>
        simp only [hdd] at h hw
        rw [if_neg (by rw [hw false rfl];simp)]
        exact hskip h
      | some t=>
        simp only [hdd] at h hw
        split at h
        · rename_i b hb
          simp only [hb] at hw
          by_cases e:b=want
          · rw [if_pos (by rw [hw true (by simp [e])])]
            exact .inl (hgo (h.1 e))
          · rw [if_neg (by rw [hw false (by simp [e])];simp)]
            exact hskip (h.2 (by cases b<;>cases want<;>simp_all))
        · rename_i ds hb
          simp only [hb] at hw
          rw [if_neg (by rw [hw false rfl];simp)]
          exact hskip h
        · exact h.elim
end
structure Eff where
  tk:Option (Nat×D)
  d:D
def Eff.app (e:Eff) (dst:Option Tmp) (G:List D):List D:=qG (match e.tk with|some (s,v)=>G.set s v|none=>G) dst e.d
def g7 (ops:List Oper) (o:Oper):Option Nat:=
  match o.op with
  | .move (.tmp s)=>match o.dst with
    |some d=>if takes ops d=true then some s else none
    |none=>none
  | .assign (.tmp s)=>some s
  | .call c=>match c.callee with
    | .builtin .append=>match c.args.toList with
      | [.tmp s,_]=>some s
      |_=>none
    |_=>none
  | .store _ _ (.tmp s)=>some s
  |_=>none
def tapart (ops:Array Oper) (x y:Oper):Bool:=
  (match g7 ops.toList x with
   |some s=>!(y.looksAt ops).contains s&&y.dst !=some s
   |none=>true)&&
  (match g7 ops.toList y with
   |some s=>!(x.looksAt ops).contains s&&x.dst !=some s
   |none=>true)
def wkO:AO→AO
  | .cells cs=>.cells (cs.map D.view1)
  |o=>o
def Sub (H0 H:AH):Prop:=∀b o,qu H0 b=some o→∃o',qu H b=some o'∧(o=o'∨o=wkO o')
theorem Sub.refl (H:AH):Sub H H:=fun _ o h=>⟨o,h,.inl rfl⟩
theorem Sub.of {H0 H:AH} (h:∀b o,qu H0 b=some o→qu H b=some o):Sub H0 H:=fun b o hb=>⟨o,h b o hb,.inl rfl⟩
def jD (P:Program) (ops:List Oper) (o:Oper) (F:List D) (H:AH) (k:List D→Prop):Prop:=
  match o.op with
  | .alloc _=>False
  | .box _ _=>False
  | .store _ _ _=>False
  | .makeMap _ _=>False
  | .mapUpdate _ _ _ _=>False
  | .mapEntry _ _ _=>False
  | .entryStore _ _ _ _=>False
  | .extract (.tmp s) ix=>match o.dst,ev F (.tmp s) with
    | some d,.tup ds=>match ds[ix]? with
      |some c=>fact c.view1→k (F.set d c.view1)
      |none=>False
    |_,_=>False
  | .load _ _=>qO P (rv F) H o.op fun d=>k (qG F o.dst d)
  | .binOp _ _ _ _ _=>qO P (rv F) H o.op fun d=>k (qG F o.dst d)
  | .call c=>match c.callee with
    | .value f=>match rv F f with
      | .fn g caps=>∃d,(∀H1,Sub H H1→ACall P g (wx (c.args.toList.map (rv F)) caps) H1 (fun d' H'=>d'=d∧H'=H1))∧(fact d.view→k (qG F o.dst d))
      |_=>False
    | .builtin .clear=>False
    |_=>aop P ops o F H fun F' _=>k F'
  |_=>aop P ops o F H fun F' _=>k F'
def ya (P:Program) (ops:List Oper):List Oper→List D→AH→(List D→Prop)→Prop
  | [],F,_,k=>k F
  | o::r,F,H,k=>match o.guard with
    |none=>jD P ops o F H fun F'=>ya P ops r F' H k
    | some (j,want)=>match (ops[j]?).bind (·.dst) with
      | some t=>match F.getD t .any with
        | .bool b=>(b=want→jD P ops o F H fun F'=>ya P ops r F' H k)∧(b=(!want)→ya P ops r (qG F o.dst (.tup [])) H k)
        | .tup _=>ya P ops r (qG F o.dst (.tup [])) H k
        |_=>False
      |none=>ya P ops r (qG F o.dst (.tup [])) H k
def Ud (P:Program) (H:AH) (o:Oper) (F:List D) (e:Eff):Prop:=
  ∀ (K:Nat→BK) (w:World) (a:Act) (G:List D) (Q:Exit→Act→World→Prop),St K w G H a.tmps→(∀t,.tmp t∈o.op.operands.toList→G.getD t .any=F.getD t .any)→G.length=F.length→
    o.wp P a w (OKd (fun G' H'=>G'=e.app o.dst G∧H'=H) K w a.defers) Q
section
variable {P:Program} {ops:List Oper} {o:Oper} {F:List D} {H:AH} {K:Nat→BK} {w:World} {a:Act}
theorem jw {G:List D} {xs:List Operand} (h:∀t,.tmp t∈xs→G.getD t .any=F.getD t .any) {x:Operand} (hx:x∈xs):ev G x=ev F x:=by
  cases x<;>first|rfl|exact h _ hx
theorem UF (hs:St K w F H a.tmps) (hok:jq o=true) {k:List D→Prop} (h:qO P (rv F) H o.op fun d=>k (qG F o.dst d)):∃e:Eff,k (e.app o.dst F)∧e.tk=none∧Ud P H o F e:=by
  have hr:=hs.ops (xs:=o.op.operands) (by unfold jq at hok;simp only [Bool.and_eq_true] at hok;exact hok.1)
  obtain ⟨d,hd,hy⟩:=oA h ⟨K,w,a.eval,hs.krel,hs.hrel,hr⟩
  refine ⟨⟨none,d⟩,hd,rfl,fun K w a G Q hs hG hlen=>?_⟩
  have hr:∀x∈o.op.operands.toList,RepV K w (rv F x) (a.eval x):=fun x hx=>by
    have:=hs.ops (xs:=o.op.operands) (by unfold jq at hok;simp only [Bool.and_eq_true] at hok;exact hok.1) x hx
    unfold rv at this ⊢
    rwa [jw hG hx] at this
  obtain ⟨v,K',w',h1,h2,h3,h4⟩:=hy K w a.eval (o.dst.getD 0) hs.krel hs.hrel hr
  exact qL h1 ⟨_,H,K',⟨rfl,rfl⟩,h2.fk hs.krel,hs.put (h2.keep hs.krel) (fun _ _ h=>h) h3 (hs.hrel.pres hs.krel h2) o.dst (fun i hi=>by rw [hi] at h4;exact h4),qy _ _⟩
theorem vT {next:Act→World→Prop} (h:o.wp P a w next (fun _ _ _=>False)):∃a' w',next a' w':=by
  unfold Oper.wp at h
  generalize (execOp a.eval o).run P w=r at h
  cases r with
  | ok n w'=>
    cases n<;>simp only [Oper.upon] at h<;>first
      |exact ⟨_,_,h⟩
      |exact h.elim
      |skip
    · obtain ⟨e,w'',fr,hR,_⟩:=h []
      cases e with
      |returned v=>exact ⟨_,_,hR⟩
      |panicked c=>exact hR.elim
      |outgrown=>obtain ⟨_,_,h⟩:=hR;exact h.elim
    · obtain ⟨v,w'',hR,_⟩:=h (default:Frame) []
      exact ⟨_,_,hR⟩
  |halt x w'=>cases x<;>simp only [Oper.upon] at h
theorem OKd.eq {k k':List D→AH→Prop} {ds:List Deferred} (h:∀F H,k F H→k' F H) {a':Act} {w':World} (hh:OKd k K w ds a' w'):OKd k' K w ds a' w':=
  let ⟨F',H',K',g1,g2⟩:=hh
  ⟨F',H',K',h _ _ g1,g2⟩
theorem jk {e:Eff} (hok:jq o=true) (h:∀G:List D,(∀t,.tmp t∈o.op.operands.toList→G.getD t .any=F.getD t .any)→G.length=F.length→aop P ops o G H (fun G' H'=>G'=e.app o.dst G∧H'=H)):Ud P H o F e:=
  fun K w a G Q hs hG hlen=>kS hs hok (h G hG hlen)
theorem Gi (hs:St K w F H a.tmps) (hok:jq o=true) {k:List D→Prop} (h:jD P ops o F H k):∃e:Eff,k (e.app o.dst F)∧(∀s v,e.tk=some (s,v)→g7 ops o=some s)∧Ud P H o F e:=by
  have viaVal:∀h:qO P (rv F) H o.op (fun d=>k (qG F o.dst d)),∃e:Eff,k (e.app o.dst F)∧(∀s v,e.tk=some (s,v)→g7 ops o=some s)∧Ud P H o F e:=fun h=>by
    obtain ⟨e,h1,h2,h3⟩:=UF hs hok h
    exact ⟨e,h1,fun s v hsv=>(by rw [h2] at hsv;cases hsv),h3⟩
  have evG:∀(s:Nat),.tmp s∈o.op.operands.toList→∀G:List D,(∀t,.tmp t∈o.op.operands.toList→G.getD t .any=F.getD t .any)→ev G (.tmp s)=ev F (.tmp s):=fun s hm G hG=>hG s hm
  cases ho:o.op
  case move x=>
    cases x with
    | tmp s=>
      simp only [jD,aop,ho] at h
      cases hd:o.dst with
      | none=>
        simp only [hd] at h
        refine ⟨⟨none,.any⟩,h,fun s v hsv=>(by cases hsv),jk (ops:=ops) hok fun G hG hlen=>?_⟩
        simp only [aop,ho,hd]
        exact ⟨rfl,by trivial⟩
      | some d=>
        simp only [hd] at h
        by_cases ht:takes ops d=true
        · rw [if_pos ht] at h
          refine ⟨⟨some (s,rv F (.tmp s)),ev F (.tmp s)⟩,h,fun s' v hsv=>?_,jk (ops:=ops) hok fun G hG hlen=>?_⟩
          · simp only [Option.some.injEq,Prod.mk.injEq] at hsv
            simp [g7,ho,hd,ht,hsv.1]
          · have he:=evG s (by simp [ho,Op.operands]) G hG
            simp only [aop,ho,hd,if_pos ht,rv,he]
            exact ⟨rfl,by trivial⟩
        · rw [if_neg ht] at h
          refine ⟨⟨none,rv F (.tmp s)⟩,h,fun s v hsv=>(by cases hsv),jk (ops:=ops) hok fun G hG hlen=>?_⟩
          have he:=evG s (by simp [ho,Op.operands]) G hG
          simp only [aop,ho,hd,if_neg ht,rv,he]
          exact ⟨rfl,by trivial⟩
    | const c=>
      simp only [jD,aop,ho] at h
      exact ⟨⟨none,ev F (.const c)⟩,h,fun s v hsv=>(by cases hsv),jk (ops:=ops) hok fun G hG hlen=>by simp only [aop,ho];exact ⟨rfl,by trivial⟩⟩
    | global g=>
      simp only [jD,aop,ho] at h
      exact ⟨⟨none,ev F (.global g)⟩,h,fun s v hsv=>(by cases hsv),jk (ops:=ops) hok fun G hG hlen=>by simp only [aop,ho];exact ⟨rfl,by trivial⟩⟩
    | func f=>
      simp only [jD,aop,ho] at h
      exact ⟨⟨none,ev F (.func f)⟩,h,fun s v hsv=>(by cases hsv),jk (ops:=ops) hok fun G hG hlen=>by simp only [aop,ho];exact ⟨rfl,by trivial⟩⟩
  case assign x=>
    cases x with
    | tmp s=>
      simp only [jD,aop,ho] at h
      cases hd:o.dst with
      | none=>
        simp only [hd] at h
        refine ⟨⟨none,.any⟩,h,fun s v hsv=>(by cases hsv),jk (ops:=ops) hok fun G hG hlen=>?_⟩
        simp only [aop,ho,hd]
        exact ⟨rfl,by trivial⟩
      | some d=>
        simp only [hd] at h
        refine ⟨⟨some (s,rv F (.tmp s)),ev F (.tmp s)⟩,h,fun s' v hsv=>?_,jk (ops:=ops) hok fun G hG hlen=>?_⟩
        · simp only [Option.some.injEq,Prod.mk.injEq] at hsv
          simp [g7,ho,hsv.1]
        · have he:=evG s (by simp [ho,Op.operands]) G hG
          simp only [aop,ho,hd,rv,he]
          exact ⟨rfl,by trivial⟩
    | const c=>
      simp only [jD,aop,ho] at h
      exact ⟨⟨none,ev F (.const c)⟩,h,fun s v hsv=>(by cases hsv),jk (ops:=ops) hok fun G hG hlen=>by simp only [aop,ho];exact ⟨rfl,by trivial⟩⟩
    | global g=>
      simp only [jD,aop,ho] at h
      exact ⟨⟨none,ev F (.global g)⟩,h,fun s v hsv=>(by cases hsv),jk (ops:=ops) hok fun G hG hlen=>by simp only [aop,ho];exact ⟨rfl,by trivial⟩⟩
    | func f=>
      simp only [jD,aop,ho] at h
      exact ⟨⟨none,ev F (.func f)⟩,h,fun s v hsv=>(by cases hsv),jk (ops:=ops) hok fun G hG hlen=>by simp only [aop,ho];exact ⟨rfl,by trivial⟩⟩
  case extract x ix=>
    cases x with
    | tmp s=>
      simp only [jD,aop,ho] at h
      cases hd:o.dst with
      |none=>simp only [hd] at h
      | some d=>
        simp only [hd] at h
        split at h
        · rename_i d' ds hdd hev
          simp only [Option.some.injEq] at hdd
          subst hdd
          split at h
          · rename_i c hc
            obtain ⟨hF,hT⟩:=uI hs hev (by simp)
            obtain ⟨vs,hv,hl,hh⟩:=hs.slot s _ _ hF hT
            have hix:ix<vs.size:=by rw [hl];exact (List.getElem?_eq_some_iff.1 hc).1
            have hfact:=(hh ix c _ hc (Array.getElem?_eq_getElem hix)).rep.fact
            refine ⟨⟨none,c.view1⟩,h hfact,fun s v hsv=>(by cases hsv),jk (ops:= []) hok fun G hG hlen=>?_⟩
            have he:=evG s (by simp [ho,Op.operands]) G hG
            rw [hev] at he
            simp only [aop,ho,hd,he,hc,takes,List.any_nil,Bool.false_eq_true,if_false]
            exact fun _=>⟨rfl,by trivial⟩
          · exact h.elim
        · exact h.elim
    |_=>exact viaVal (by simpa only [jD,aop,ho] using h)
  case alloc t=>simp only [jD,ho] at h
  case box t x=>simp only [jD,ho] at h
  case store t x y=>simp only [jD,ho] at h
  case load t x=>exact viaVal (by simpa only [jD,ho] using h)
  case binOp bo t x y ty=>exact viaVal (by simpa only [jD,ho] using h)
  case call c=>
    cases hf:c.callee with
    | value f=>
      simp only [jD,ho,hf] at h
      split at h
      · rename_i g caps hg
        obtain ⟨d,hc',hk⟩:=h
        have hc:=hc' H (Sub.refl H)
        have hops:o.op.operands=#[f]++c.args:=by simp only [ho,Op.operands,Call.operands,hf]
        have hse:Ud P H o F ⟨none,d⟩:=jk (ops:=ops) hok fun G hG hlen=>by
          have h1:rv G f= .fn g caps:=by rw [←hg];unfold rv;rw [jw hG (by rw [hops];simp)]
          have h2:c.args.toList.map (rv G)=c.args.toList.map (rv F):=List.map_congr_left fun x hx=>by
            unfold rv
            rw [jw hG (by rw [hops];simp;exact .inr (by simpa using hx))]
          simp only [aop,ho,hf,h1,h2]
          exact hc.mono fun d' H' ⟨e1,e2⟩ _=>by subst e1 e2;exact ⟨rfl,by trivial⟩
        refine ⟨⟨none,d⟩,hk ?_,fun s v hsv=>(by cases hsv),hse⟩
        -- what the call hands back obeys its bounds
        have hap:aop P ops o F H (fun _ _=>fact d.view):=by
          simp only [aop,ho,hf,hg]
          exact hc.mono fun d' H' ⟨e1,_⟩ hfct=>by subst e1;exact hfct
        obtain ⟨a',w',F',H',K',hfct,_⟩:=vT (kS (Q:=fun _ _ _=>False) hs hok hap)
        exact hfct
      · exact h.elim
    |invoke r m=>exact viaVal (by simpa only [jD,aop,ho,hf] using h)
    | builtin b=>
      cases b
      case append=>
        simp only [jD,aop,ho,hf] at h
        split at h
        · rename_i s x t u d hargs htys hd
          split at h
          · rename_i xs e sz bs hev hap
            have hops:o.op.operands=#[]++c.args:=by simp only [ho,Op.operands,Call.operands,hf]
            have hms: .tmp s∈o.op.operands.toList:=by rw [hops,kI hargs];simp
            have hmx:x∈o.op.operands.toList:=by rw [hops,kI hargs];simp
            split at h
            · rename_i ys hy
              obtain ⟨h1,h2,h3,h4⟩:=h
              refine ⟨⟨some (s,.slc xs),.own (xs++ys)⟩,by rw [hd];exact h4,fun s' v hsv=>?_,jk (ops:=ops) hok fun G hG hlen=>?_⟩
              · simp only [Option.some.injEq,Prod.mk.injEq] at hsv
                simp [g7,ho,hf,hargs,hsv.1]
              · have he:=evG s hms G hG
                have hx:rv G x= .slc ys:=by rw [←hy];unfold rv;rw [jw hG hmx]
                rw [hev] at he
                simp only [aop,ho,hf,hargs,htys,hd,he,hap,hx]
                exact ⟨h1,h2,h3,rfl,by trivial⟩
            · rename_i l hy
              obtain ⟨h1,h2,h3,h4⟩:=h
              refine ⟨⟨some (s,.slc xs),.own (xs++l.map qA)⟩,by rw [hd];exact h4,fun s' v hsv=>?_,jk (ops:=ops) hok fun G hG hlen=>?_⟩
              · simp only [Option.some.injEq,Prod.mk.injEq] at hsv
                simp [g7,ho,hf,hargs,hsv.1]
              · have he:=evG s hms G hG
                have hx:rv G x= .str l:=by rw [←hy];unfold rv;rw [jw hG hmx]
                rw [hev] at he
                simp only [aop,ho,hf,hargs,htys,hd,he,hap,hx]
                exact ⟨h1,h2,h3,rfl,by trivial⟩
            · exact h.elim
          · exact h.elim
        · exact h.elim
      case clear=>simp only [jD,ho,hf] at h
      all_goals exact viaVal (by simpa only [jD,aop,ho,hf] using h)
  case makeMap=>simp only [jD,ho] at h
  case mapUpdate=>simp only [jD,ho] at h
  case mapEntry=>simp only [jD,ho] at h
  case entryStore=>simp only [jD,ho] at h
  all_goals exact viaVal (by simpa only [jD,aop,ho] using h)
end
end Go.Aw
end
section
namespace Go.Aw
open Go Go.RowKit
section
variable {P:Program} {ops:Array Oper} {H:AH} {md:Region.Mode} {Q:List D→Prop}
def EffOf (P:Program) (H:AH) (ops:Array Oper) (o:Oper) (F:List D) (e:Eff):Prop:=
 (gst ops.toList F o=some true∧Ud P H o F e∧∀s v,e.tk=some (s,v)→g7 ops.toList o=some s)∨(gst ops.toList F o=some false∧e=⟨none,.tup []⟩)
theorem kV {o:Oper} {t:Nat} (h: .tmp t∈o.op.operands.toList):t∈o.looksAt ops:=by
 unfold Oper.looksAt
 exact List.mem_append_left _ (List.mem_filterMap.2 ⟨.tmp t,h,rfl⟩)
theorem wO {o:Oper} {F G:List D} (h:∀t∈o.looksAt ops,G.getD t .any=F.getD t .any):gst ops.toList G o=gst ops.toList F o:=by
 unfold gst
 cases hg:o.guard with
 |none=>rfl
 | some g=>
  obtain ⟨j,want⟩:=g
  simp only [Array.getElem?_toList]
  cases hd:(ops[j]?).bind (·.dst) with
  |none=>rfl
  | some t=>
   have:t∈o.looksAt ops:=by
    unfold Oper.looksAt
    simp only [hg]
    exact List.mem_append_right _ (by rw [hd];simp)
   simp only [h t this]
theorem EffOf.congr {o:Oper} {F G:List D} {e:Eff} (he:EffOf P H ops o F e) (h:∀t∈o.looksAt ops,G.getD t .any=F.getD t .any) (hl:G.length=F.length):EffOf P H ops o G e:=by
 rcases he with ⟨h1,h2,h3⟩|⟨h1,h2⟩
 ·refine .inl ⟨by rw [wO h];exact h1,fun K w a G' Q hs hG hlen=>?_,h3⟩
  exact h2 K w a G' Q hs (fun t ht=>(hG t ht).trans (h t (kV ht))) (hlen.trans hl)
 ·exact .inr ⟨by rw [wO h];exact h1,h2⟩
theorem Gj (F:List D) (dst:Option Tmp) (d:D):(qG F dst d).length=F.length:=by cases dst<;>simp [qG]
theorem vd (e:Eff) (dst:Option Tmp) (F:List D):(e.app dst F).length=F.length:=by
 unfold Eff.app
 rw [Gj]
 split<;>simp
theorem Yl (F:List D) (i t:Nat) (d:D) (h:i≠t):(F.set i d).getD t .any=F.getD t .any:=by
 simp [List.getD,List.getElem?_set_ne h]
theorem za {e:Eff} {dst:Option Tmp} {F:List D} {t:Nat} (h1:dst≠some t) (h2:∀v,e.tk≠some (t,v)):(e.app dst F).getD t .any=F.getD t .any:=by
 unfold Eff.app
 have key:∀G:List D,(qG G dst e.d).getD t .any=G.getD t .any:=fun G=>by
  cases dst with
  |none=>rfl
  |some d=>exact Yl _ _ _ _ (fun e=>h1 (by rw [e]))
 rw [key]
 split
 ·rename_i s v hs
  exact Yl _ _ _ _ (fun e=>h2 v (by rw [hs,e]))
 ·rfl
theorem jA (F:List D) {i j:Nat} (h:i≠j) (x y:D):(F.set i x).set j y=(F.set j y).set i x:=List.set_comm x y h
theorem Yd {e f:Eff} {d1 d2:Option Tmp} (F:List D) (h1:∀t,d1=some t→d2≠some t) (h2:∀s v,e.tk=some (s,v)→d2≠some s) (h3:∀s v,f.tk=some (s,v)→d1≠some s)
  (h4:∀s v,e.tk=some (s,v)→∀v',f.tk≠some (s,v')):f.app d2 (e.app d1 F)=e.app d1 (f.app d2 F):=by
 obtain ⟨tk,x⟩:=e
 obtain ⟨tk',y⟩:=f
 unfold Eff.app qG
 cases tk with
 | none=>cases tk' with
  |none=>cases d1<;>cases d2<;>simp only []<;>first|rfl|(exact jA _ (fun e=>h1 _ rfl (by rw [e])) _ _)
  | some p=>
   obtain ⟨s',v'⟩:=p
   cases d1<;>cases d2<;>simp only []
   ·rw [jA F (fun e=>h3 s' v' rfl (by rw [e]))]
   ·rename_i a b
    rw [jA F (i:=a) (j:=s') (fun e=>h3 s' v' rfl (by rw [e])),jA _ (i:=a) (j:=b) (fun e=>h1 _ rfl (by rw [e]))]
 | some p=>
  obtain ⟨s,v⟩:=p
  cases tk' with
  | none=>
   cases d1<;>cases d2<;>simp only []
   ·rw [jA F (fun e=>h2 s v rfl (by rw [e]))]
   ·rename_i a b
    rw [jA _ (i:=a) (j:=b) (fun e=>h1 _ rfl (by rw [e])),jA F (i:=s) (j:=b) (fun e=>h2 s v rfl (by rw [e]))]
  | some q=>
   obtain ⟨s',v'⟩:=q
   have hss:s≠s':=fun e=>h4 s v rfl v' (by rw [e])
   cases d1<;>cases d2<;>simp only []
   ·rw [jA F hss]
   ·rename_i b
    rw [jA F hss,jA _ (i:=s) (j:=b) (fun e=>h2 s v rfl (by rw [e]))]
   ·rename_i a
    rw [jA _ (i:=a) (j:=s') (fun e=>h3 s' v' rfl (by rw [e])),jA F hss]
   ·rename_i a b
    rw [jA _ (i:=a) (j:=s') (fun e=>h3 s' v' rfl (by rw [e])),jA F hss,jA _ (i:=a) (j:=b) (fun e=>h1 _ rfl (by rw [e])),jA _ (i:=s) (j:=b) (fun e=>h2 s v rfl (by rw [e]))]
theorem gY {o:Oper} {s:Nat} (h:g7 ops.toList o=some s):s∈o.looksAt ops:=by
 apply kV
 unfold g7 at h
 split at h
 ·rename_i x ho
  split at h
  ·split at h<;>first|(simp only [Option.some.injEq] at h;subst h;simp [ho,Op.operands])|cases h
  ·cases h
 ·rename_i x ho
  simp only [Option.some.injEq] at h
  subst h
  simp [ho,Op.operands]
 ·rename_i c ho
  split at h
  ·rename_i hf
   split at h
   ·rename_i x y hargs
    simp only [Option.some.injEq] at h
    subst h
    simp only [ho,Op.operands,Call.operands,hf]
    rw [kI hargs]
    simp
   ·cases h
  ·cases h
 ·rename_i t a x ho
  simp only [Option.some.injEq] at h
  subst h
  simp [ho,Op.operands]
 ·cases h
structure Far (ops:Array Oper) (x y:Oper):Prop where
 d:∀t,x.dst=some t→t ∉ y.looksAt ops∧y.dst≠some t
 d':∀t,y.dst=some t→t ∉ x.looksAt ops
 t:∀s,g7 ops.toList x=some s→s ∉ y.looksAt ops∧y.dst≠some s
 t':∀s,g7 ops.toList y=some s→s ∉ x.looksAt ops∧x.dst≠some s
theorem far_of {x y:Oper} (h:x.apart ops y=true) (h':tapart ops x y=true):Far ops x y:=by
 obtain ⟨a1,a2,a3⟩:=Oper.apart_spec h
 unfold tapart at h'
 simp only [Bool.and_eq_true] at h'
 refine ⟨fun t ht=>⟨a1 t ht,a2 t ht⟩,a3,fun s hs=>?_,fun s hs=>?_⟩
 ·have:=h'.1
  simp only [hs,Bool.and_eq_true,Bool.not_eq_true',bne_iff_ne,ne_eq] at this
  exact ⟨by simpa using this.1,this.2⟩
 ·have:=h'.2
  simp only [hs,Bool.and_eq_true,Bool.not_eq_true',bne_iff_ne,ne_eq] at this
  exact ⟨by simpa using this.1,this.2⟩
theorem EffOf.tk {o:Oper} {F:List D} {e:Eff} (he:EffOf P H ops o F e):∀s v,e.tk=some (s,v)→g7 ops.toList o=some s:=by
 rcases he with ⟨_,_,h⟩|⟨_,rfl⟩
 ·exact h
 ·intro s v h;cases h
theorem swap {x y:Oper} {F:List D} {e f:Eff} (hf:Far ops x y) (hx:EffOf P H ops x F e) (hy:EffOf P H ops y (e.app x.dst F) f):
  EffOf P H ops y F f∧EffOf P H ops x (f.app y.dst F) e∧f.app y.dst (e.app x.dst F)=e.app x.dst (f.app y.dst F):=by
 have hy':EffOf P H ops y F f:=hy.congr (fun t ht=>(za (fun h=>(hf.d t h).1 ht) (fun v h=>(hf.t t (hx.tk t v h)).1 ht)).symm) (vd _ _ _).symm
 refine ⟨hy',hx.congr (fun t ht=>za (fun h=>hf.d' t h ht) (fun v h=>(hf.t' t (hy.tk t v h)).1 ht)) (vd _ _ _),Yd F (fun t h=>(hf.d t h).2) (fun s v h=>(hf.t s (hx.tk s v h)).2) (fun s v h=>(hf.t' s (hy.tk s v h)).2) (fun s v h v' h'=>?_)⟩
 exact (hf.t s (hx.tk s v h)).1 (gY (hy.tk s v' h'))
def Qf (P:Program) (md:Region.Mode) (ops:Array Oper) (H:AH) (Q:List D→Prop):Nat→Array Bool→List D→Prop
 |0,listed,F=>Region.ready md ops listed= []∧Q F
 |fuel+1,listed,F=>(Region.ready md ops listed= []→Q F)∧∀i∈Region.ready md ops listed,∃o e,ops[i]?=some o∧EffOf P H ops o F e∧Qf P md ops H Q fuel (listed.setIfInBounds i true) (e.app o.dst F)
theorem JO {i:Nat} {oi:Oper} {e:Eff} (hi:ops[i]?=some oi):
  ∀ (fuel:Nat) (listed:Array Bool) (F:List D),
   (∀j oj,ops[j]?=some oj→j≠i→listed.getD j true=false→(∀e∈oj.after,Region.binds md e=true→e.on≠i)→Far ops oi oj)→
   i∈Region.ready md ops listed→EffOf P H ops oi F e→
   Qf P md ops H Q fuel (listed.setIfInBounds i true) (e.app oi.dst F)→Qf P md ops H Q (fuel+1) listed F:=by
 intro fuel
 induction fuel with
 | zero=>
  intro listed F _ hr hy Hh
  refine ⟨fun h=>(by rw [h] at hr;cases hr),fun j hj=>?_⟩
  by_cases hji:j=i
  ·subst hji;exact ⟨oi,e,hi,hy,Hh⟩
  ·have:=ready_mono hj hji
   rw [Hh.1] at this
   cases this
 | succ fuel ih=>
  intro listed F hfree hr hy Hh
  refine ⟨fun h=>(by rw [h] at hr;cases hr),fun j hj=>?_⟩
  by_cases hji:j=i
  ·subst hji;exact ⟨oi,e,hi,hy,Hh⟩
  ·obtain ⟨oj,f,hoj,hyj,hk⟩:=Hh.2 j (ready_mono hj hji)
   obtain ⟨hjun,oj',hoj',hall⟩:=mem_ready.1 hj
   obtain rfl:oj=oj':=by rw [hoj] at hoj';exact Option.some.inj hoj'
   have hnot:∀e∈oj.after,Region.binds md e=true→e.on≠i:=fun e he hb heq=>by
    have h1:=hall e he hb
    have h0:=(mem_ready.1 hr).1
    rw [heq] at h1
    rcases Nat.lt_or_ge i listed.size with h'|h'
    ·simp [h'] at h0 h1;rw [h0] at h1;cases h1
    ·simp [Array.getElem?_eq_none h'] at h1
   obtain ⟨s1,s2,s3⟩:=swap (hfree j oj hoj hji hjun hnot) hy hyj
   refine ⟨oj,f,hoj,s1,ih _ _ (fun k ok hk' hki hun hno=>?_) (ready_mono hr (Ne.symm hji)) s2 ?_⟩
   ·refine hfree k ok hk' hki ?_ hno
    by_cases hjk:j=k
    ·subst hjk;exact hjun
    ·rw [getD_set_ne true hjk] at hun;exact hun
   ·rw [Array.setIfInBounds_comm _ _ hji,←s3]
    exact hk
def Vd (md:Region.Mode) (ops:Array Oper) (listed:Array Bool) (i:Nat):Bool:=
 match ops[i]? with
 |none=>false
 | some oi=>(List.range ops.size).all fun j=>j==i||listed.getD j true||match ops[j]? with
   |some oj=>oj.after.any (fun e=>Region.binds md e&&e.on==i)||(oi.apart ops oj&&tapart ops oi oj)
   |none=>true
theorem oe {i:Nat} {oi:Oper} {listed:Array Bool} (hi:ops[i]?=some oi) (h:Vd md ops listed i=true) (j:Nat) (oj:Oper)
  (hj:ops[j]?=some oj) (hne:j≠i) (hun:listed.getD j true=false) (hno:∀e∈oj.after,Region.binds md e=true→e.on≠i):Far ops oi oj:=by
 simp only [Vd,hi,List.all_eq_true,List.mem_range] at h
 have h1:=h j (Array.getElem?_eq_some_iff.1 hj).1
 simp only [hj,Bool.or_eq_true,beq_iff_eq,hne,false_or,hun,Bool.false_eq_true] at h1
 rcases h1 with h1|h1
 ·obtain ⟨e,he,hb⟩:=Array.any_eq_true'.1 h1
  simp only [Bool.and_eq_true,beq_iff_eq] at hb
  exact (hno e he hb.1 hb.2).elim
 ·simp only [Bool.and_eq_true] at h1
  exact far_of h1.1 h1.2
def Ur (md:Region.Mode) (ops:Array Oper):Nat→Nat→Array Bool→Bool
 |0,_,listed=>(Region.ready md ops listed).isEmpty
 |fuel+1,k,listed=>(Region.ready md ops listed).contains k&&Vd md ops listed k&&Ur md ops fuel (k+1) (listed.setIfInBounds k true)
def chain (P:Program) (H:AH) (ops:Array Oper):List Oper→List D→(List D→Prop)→Prop
 | [],F,k=>k F
 |o::r,F,k=>∃e,EffOf P H ops o F e∧chain P H ops r (e.app o.dst F) k
theorem Qw:∀(l:List Oper) (k:Nat) (listed:Array Bool) (F:List D),(∀j,l[j]?=ops[k+j]?)→Ur md ops l.length k listed=true→chain P H ops l F Q→Qf P md ops H Q l.length listed F
 | [],_,_,_,_,hB,h=>⟨by simpa [Ur] using hB,h⟩
 | o::l,k,listed,F,hl,hB,h=>by
  have h0:ops[k]?=some o:=by simpa using (hl 0).symm
  simp only [List.length_cons,Ur,Bool.and_eq_true] at hB
  obtain ⟨⟨hr,hf⟩,hB'⟩:=hB
  obtain ⟨e,he,hk⟩:=h
  exact JO h0 l.length listed F (oe h0 hf) (by simpa using hr) he
   (Qw l (k+1) _ _ (fun j=>by have:=hl (j+1);simpa [Nat.add_assoc,Nat.add_comm 1 j] using this) hB' hk)
theorem oY {k:List D→Prop}:∀(l:List Oper) (F:List D) (K:Nat→BK) (w:World) (a:Act),(∀o∈l,jq o=true)→St K w F H a.tmps→ya P ops.toList l F H k→chain P H ops l F k
 | [],F,K,w,a,_,_,h=>h
 | o::r,F,K,w,a,hok,hs,h=>by
  have hgo:gst ops.toList F o=some true→jD P ops.toList o F H (fun F'=>ya P ops.toList r F' H k)→chain P H ops (o::r) F k:=fun hg h=>by
   obtain ⟨e,h1,h2,h3⟩:=Gi hs (hok o (.head _)) h
   refine ⟨e,.inl ⟨hg,h3,h2⟩,?_⟩
   obtain ⟨a',w',F',H',K',⟨hF',hH'⟩,_,hs',_⟩:=vT (h3 K w a F (fun _ _ _=>False) hs (fun _ _=>rfl) rfl)
   rw [hF',hH'] at hs'
   exact oY r _ K' w' a' (fun o ho=>hok o (.tail _ ho)) hs' h1
  have hskip:gst ops.toList F o=some false→ya P ops.toList r (qG F o.dst (.tup [])) H k→chain P H ops (o::r) F k:=fun hg h=>
   ⟨⟨none,.tup []⟩,.inr ⟨hg,rfl⟩,oY r _ K w _ (fun o ho=>hok o (.tail _ ho)) (w8 hs o.dst) h⟩
  unfold gst at hgo hskip
  cases hg:o.guard with
  | none=>
   simp only [ya,hg] at h hgo
   exact hgo trivial h
  | some g=>
   obtain ⟨j,want⟩:=g
   simp only [ya,hg] at h hgo hskip
   cases hdd:(ops.toList[j]?).bind (·.dst) with
   | none=>
    simp only [hdd] at h hskip
    exact hskip trivial h
   | some t=>
    simp only [hdd] at h hgo hskip
    split at h
    ·rename_i b hb
     simp only [hb] at hgo hskip
     by_cases e:b=want
     ·exact hgo (by simp [e]) (h.1 e)
     ·exact hskip (by simp [e]) (h.2 (by cases b<;>cases want<;>simp_all))
    ·rename_i ds hb
     simp only [hb] at hskip
     exact hskip trivial h
    ·exact h.elim
theorem ow {K:Nat→BK} {w:World} {a:Act} {Q':Exit→Act→World→Prop} (hQ:∀a' w',OKd (fun F' H'=>Q F'∧H'=H) K w a.defers a' w'→Q' .normal a' w'):
  ∀(fuel:Nat) (listed:Array Bool) (F:List D) (K1:Nat→BK) (w1:World) (a1:Act),St K1 w1 F H a1.tmps→FK K w K1 w1→a1.defers=a.defers→Qf P md ops H Q fuel listed F→wpAny P md ops Q' fuel listed a1 w1
 |0,_,F,K1,w1,a1,hs,hfk,hd,h=>⟨h.1,hQ a1 w1 ⟨F,H,K1,⟨h.2,rfl⟩,hfk,hs,hd⟩⟩
 | fuel+1,listed,F,K1,w1,a1,hs,hfk,hd,h=>⟨fun h0=>hQ a1 w1 ⟨F,H,K1,⟨h.1 h0,rfl⟩,hfk,hs,hd⟩,fun i hi=>by
   obtain ⟨o,e,ho,he,hk⟩:=h.2 i hi
   unfold wpOp
   simp only [ho]
   rcases he with ⟨g1,g2,_⟩|⟨g1,rfl⟩
   ·rw [if_pos (k8 hs g1)]
    refine .inl (Oper.wp_mono (fun a2 w2 h2=>?_) (g2 K1 w1 a1 F Q' hs (fun _ _=>rfl) rfl))
    obtain ⟨F',H',K',⟨hF',hH'⟩,q2,q3,q4⟩:=h2
    rw [hF',hH'] at q3
    exact ow hQ fuel _ _ K' w2 a2 q3 (hfk.trans q2) (q4.trans hd) hk
   ·rw [if_neg (by rw [k8 hs g1];simp)]
    exact ow hQ fuel _ _ K1 w1 _ (w8 hs o.dst) hfk ((qy o.dst undef).trans hd) hk⟩
theorem St.drew {K:Nat→BK} {w:World} {F:List D} {t:Array Value} (h:St K w F H t):∃K',FK K w K' {w with drawn:=w.drawn+1}∧St K' {w with drawn:=w.drawn+1} F H t:=by
 have hp:Pres K w K {w with drawn:=w.drawn+1}:=⟨rfl,rfl,⟨rfl,Nat.le_succ _⟩,Nat.le_refl _,fun _ _=>⟨rfl,rfl⟩,fun _ _ h=>h⟩
 exact ⟨K,hp.fk h.krel,⟨h.krel,h.hrel.pres h.krel hp,h.len,fun i d v hd hv=>(h.slot i d v hd hv).keep (hp.keep h.krel) (fun _ h=>h)⟩⟩
def o0:Op→Bool
 | .store _ _ _=>true
 | .alloc _=>true
 | .box _ _=>true
 | .makeMap _ _=>true
 | .mapUpdate _ _ _ _=>true
 | .mapEntry _ _ _=>true
 | .entryStore _ _ _ _=>true
 | .call ⟨.builtin .clear,_,_⟩=>true
 |_=>false
def yx (l:List Oper):List Oper:=l.takeWhile fun o=>!o0 o.op
def vB (l:List Oper):List Oper:=l.dropWhile fun o=>!o0 o.op
def QD (P:Program) (md:Region.Mode) (ops:Array Oper) (H:AH) (n:Nat) (E:Array Bool→List D→Prop):Nat→Array Bool→List D→Prop
 |0,listed,F=>E listed F
 |fuel+1,listed,F=>Region.ready md ops listed≠ []∧∀i∈Region.ready md ops listed,i<n∧∃o e,ops[i]?=some o∧EffOf P H ops o F e∧QD P md ops H n E fuel (listed.setIfInBounds i true) (e.app o.dst F)
theorem Ka {n i:Nat} {oi:Oper} {e:Eff} {E:Array Bool→List D→Prop} (hi:ops[i]?=some oi) (hs:Region.sinkB md ops n=true) (hc:Region.chainB md ops n=true) (hn:n<ops.size) (hin:i<n)
  (hdone:∀listed F,E listed F→∀j∈Region.ready md ops listed,n≤j):
  ∀ (fuel:Nat) (listed:Array Bool) (F:List D),HeadInv md ops n listed→
   (∀j oj,ops[j]?=some oj→j≠i→listed.getD j true=false→(∀e∈oj.after,Region.binds md e=true→e.on≠i)→Far ops oi oj)→
   i∈Region.ready md ops listed→EffOf P H ops oi F e→
   QD P md ops H n E fuel (listed.setIfInBounds i true) (e.app oi.dst F)→QD P md ops H n E (fuel+1) listed F:=by
 intro fuel
 induction fuel with
 | zero=>
  intro listed F inv _ hr hy Hh
  refine ⟨fun h=>(by rw [h] at hr;cases hr),fun j hj=>?_⟩
  have hjn:j<n:=by
   rcases Nat.lt_or_ge j n with h|h
   ·exact h
   ·exact absurd hj (tail_waits hs hc hn inv _ i rfl hin (mem_ready.1 hr).1 j h)
  refine ⟨hjn,?_⟩
  by_cases hji:j=i
  ·subst hji;exact ⟨oi,e,hi,hy,Hh⟩
  ·have:=hdone _ _ Hh j (ready_mono hj hji)
   omega
 | succ fuel ih=>
  intro listed F inv hfree hr hy Hh
  refine ⟨fun h=>(by rw [h] at hr;cases hr),fun j hj=>?_⟩
  have hjn:j<n:=by
   rcases Nat.lt_or_ge j n with h|h
   ·exact h
   ·exact absurd hj (tail_waits hs hc hn inv _ i rfl hin (mem_ready.1 hr).1 j h)
  refine ⟨hjn,?_⟩
  by_cases hji:j=i
  ·subst hji;exact ⟨oi,e,hi,hy,Hh⟩
  ·obtain ⟨_,oj,f,hoj,hyj,hk⟩:=Hh.2 j (ready_mono hj hji)
   obtain ⟨hjun,oj',hoj',hall⟩:=mem_ready.1 hj
   obtain rfl:oj=oj':=by rw [hoj] at hoj';exact Option.some.inj hoj'
   have hnot:∀e∈oj.after,Region.binds md e=true→e.on≠i:=fun e he hb heq=>by
    have h1:=hall e he hb
    rw [heq,getD_both (mem_ready.1 hr).1] at h1
    cases h1
   obtain ⟨s1,s2,s3⟩:=swap (hfree j oj hoj hji hjun hnot) hy hyj
   refine ⟨oj,f,hoj,s1,ih _ _ (inv.set hj hjn) (fun k ok hk' hki hun hno=>?_) (ready_mono hr (Ne.symm hji)) s2 ?_⟩
   ·refine hfree k ok hk' hki ?_ hno
    by_cases hjk:j=k
    ·subst hjk;exact hjun
    ·rw [getD_set_ne true hjk] at hun;exact hun
   ·rw [Array.setIfInBounds_comm _ _ hji,←s3]
    exact hk
def Kb (md:Region.Mode) (ops:Array Oper) (g:Nat):Nat→Nat→Array Bool→Bool
 |0,k,listed=>Region.seqB md ops g k listed
 |f+1,k,listed=>(Region.ready md ops listed).contains k&&Vd md ops listed k&&Kb md ops g f (k+1) (listed.setIfInBounds k true)
theorem oD {n g:Nat} {T:List D→Prop} (hs:Region.sinkB md ops n=true) (hc:Region.chainB md ops n=true) (hn:n<ops.size):
  ∀(l:List Oper) (k:Nat) (listed:Array Bool) (F:List D),(∀j,j<l.length→l[j]?=ops[k+j]?)→k+l.length=n→HeadInv md ops n listed→Kb md ops g l.length k listed=true→chain P H ops l F T→
  QD P md ops H n (fun listed' F'=>Region.seqB md ops g n listed'=true∧T F') l.length listed F
 | [],k,listed,F,_,hk,_,hB,h=>by
  have:k=n:=by simpa using hk
  subst this
  exact ⟨by simpa [Kb] using hB,h⟩
 | o::l,k,listed,F,hl,hk,inv,hB,h=>by
  have h0:ops[k]?=some o:=by simpa using (hl 0 (by simp)).symm
  simp only [List.length_cons,Kb,Bool.and_eq_true] at hB
  obtain ⟨⟨hr,hf⟩,hB'⟩:=hB
  have hkn:k<n:=by simp only [List.length_cons] at hk;omega
  have hr':k∈Region.ready md ops listed:=by simpa using hr
  obtain ⟨e,he,hK⟩:=h
  exact Ka h0 hs hc hn hkn (fun listed' F' hL=>seqB_ready hL.1) l.length listed F inv (oe h0 hf) hr' he
   (oD hs hc hn l (k+1) _ _ (fun j hj=>by have:=hl (j+1) (by simp;omega);simpa [Nat.add_assoc,Nat.add_comm 1 j] using this) (by simp only [List.length_cons] at hk;omega) (inv.set hr' hkn) hB' hK)
theorem vO {n g:Nat} {E:Array Bool→List D→Prop} {K:Nat→BK} {w:World} {a:Act} {Q':Exit→Act→World→Prop}
  (hE:∀listed F K1 w1 (a1:Act),E listed F→St K1 w1 F H a1.tmps→FK K w K1 w1→a1.defers=a.defers→wpAny P md ops Q' g listed a1 w1):
  ∀(fuel:Nat) (listed:Array Bool) (F:List D) (K1:Nat→BK) (w1:World) (a1:Act),St K1 w1 F H a1.tmps→FK K w K1 w1→a1.defers=a.defers→QD P md ops H n E fuel listed F→wpAny P md ops Q' (fuel+g) listed a1 w1
 |0,listed,F,K1,w1,a1,hs,hfk,hd,h=>by rw [Nat.zero_add];exact hE listed F K1 w1 a1 h hs hfk hd
 | fuel+1,listed,F,K1,w1,a1,hs,hfk,hd,h=>by
  rw [show fuel+1+g=(fuel+g)+1 by omega]
  refine ⟨fun h0=>absurd h0 h.1,fun i hi=>?_⟩
  obtain ⟨_,o,e,ho,he,hk⟩:=h.2 i hi
  unfold wpOp
  simp only [ho]
  rcases he with ⟨g1,g2,_⟩|⟨g1,rfl⟩
  ·rw [if_pos (k8 hs g1)]
   refine .inl (Oper.wp_mono (fun a2 w2 h2=>?_) (g2 K1 w1 a1 F Q' hs (fun _ _=>rfl) rfl))
   obtain ⟨F',H',K',⟨hF',hH'⟩,q2,q3,q4⟩:=h2
   rw [hF',hH'] at q3
   exact vO hE fuel _ _ K' w2 a2 q3 (hfk.trans q2) (q4.trans hd) hk
  ·rw [if_neg (by rw [k8 hs g1];simp)]
   exact vO hE fuel _ _ K1 w1 _ (w8 hs o.dst) hfk ((qy o.dst undef).trans hd) hk
def KZ (ops:Array Oper):Bool:=(ops.toList.all fun o=>!o0 o.op||o.guard.isNone)&&
 if (yx ops.toList).length<ops.size then Region.sinkB .any ops (yx ops.toList).length&&Region.chainB .any ops (yx ops.toList).length&&Kb .any ops (ops.size - (yx ops.toList).length) (yx ops.toList).length 0 (Array.replicate ops.size false)
 else Ur .any ops ops.size 0 (Array.replicate ops.size false)
theorem idx2 {p q l:List Oper} (h:p++q=l) (j:Nat):l[p.length+j]?=q[j]?:=by
 subst h
 rw [List.getElem?_append_right (by omega)]
 congr 1
 omega
theorem WZ (l:List Oper):yx l++vB l=l:=List.takeWhile_append_dropWhile
theorem KU {k:List D→AH→Prop} {K:Nat→BK} {w:World} {F:List D} {a:Act} {Q':Exit→Act→World→Prop} {id:Nat} (hm:P.follows .mixedOrders=true) (hB:KZ ops=true) (hok:∀o∈ops.toList,jq o=true)
  (hs:St K w F H a.tmps) (hQ:∀a' w',OKd k K w a.defers a' w'→Q' .normal a' w') (h:ya P ops.toList (yx ops.toList) F H (fun F'=>aops P ops.toList (vB ops.toList) F' H k)):(Code.region id ops true).wp P Q' a w:=by
 have hps:=WZ ops.toList
 have hpre:∀o∈yx ops.toList,jq o=true:=fun o ho=>hok o (by rw [←hps];exact List.mem_append_left _ ho)
 have hsuf:∀o∈vB ops.toList,jq o=true:=fun o ho=>hok o (by rw [←hps];exact List.mem_append_right _ ho)
 have hc:=oY (ops:=ops) (yx ops.toList) F K w a hpre hs h
 obtain ⟨K',hfk,hs'⟩:=hs.drew
 have hlen:(yx ops.toList).length+(vB ops.toList).length=ops.size:=by rw [←List.length_append,hps];simp
 unfold KZ at hB
 rw [Bool.and_eq_true] at hB
 replace hB:=hB.2
 refine wp_region_any hm ?_
 split at hB
 ·rename_i hn
  simp only [Bool.and_eq_true] at hB
  obtain ⟨⟨h1,h2⟩,h3⟩:=hB
  have inv0:HeadInv .any ops (yx ops.toList).length (Array.replicate ops.size false):=
   ⟨by simp,fun j oj _ hl=>(by rw [getD_replicate_false] at hl;cases hl),fun t _ ht=>getD_in (by simpa using ht) (getD_replicate_false _ _)⟩
  have hget:∀j:Nat,ops.toList[j]?=ops[j]?:=fun j=>Array.getElem?_toList
  have hlex:=oD (P:=P) (H:=H) (md:= .any) (g:=ops.size - (yx ops.toList).length) h1 h2 hn (yx ops.toList) 0 _ F (fun j hj=>by
   rw [Nat.zero_add,←hget];conv=>{rhs;rw [←hps]};rw [List.getElem?_append_left hj]) (Nat.zero_add _) inv0 h3 hc
  have hg:(vB ops.toList).length=ops.size - (yx ops.toList).length:=by omega
  have:=vO (a:=a) (Q':=Q') (K:=K) (w:=w) (g:=ops.size - (yx ops.toList).length) (fun listed F1 K1 w1 a1 hE hs1 hfk1 hd1=>by
   have hw:wpList P ops Q' (vB ops.toList) a1 w1:=u4 (ops:=ops) (k:=k) (K:=K) (w:=w) (a:=a) hQ (vB ops.toList) F1 H K1 w1 a1 hsuf hs1 hfk1 hd1 hE.2
   have:=wpAny_of_seq (md:= .any) (Q':=Q') (vB ops.toList) (yx ops.toList).length listed a1 w1 (fun j=>by
    rw [←hget];exact (idx2 hps j).symm) (by rw [hg];exact hE.1) hw
   rwa [hg] at this) _ _ F K' _ a hs' hfk rfl hlex
  rw [show (yx ops.toList).length+(ops.size - (yx ops.toList).length)=ops.size by omega] at this
  exact this
 ·rename_i hn
  have hse:vB ops.toList= []:=List.eq_nil_of_length_eq_zero (by omega)
  have hpe:yx ops.toList=ops.toList:=by rw [hse,List.append_nil] at hps;exact hps
  rw [hpe,hse] at hc
  refine ow (Q:=fun F'=>k F' H) (a:=a) (fun a' w' ⟨F',H',K',⟨g1,g1'⟩,g2⟩=>hQ a' w' ⟨F',H',K',by rw [g1'];exact g1,g2⟩) ops.size _ F K' _ a hs' hfk rfl ?_
  have:=Qw (P:=P) (H:=H) (md:= .any) (Q:=fun F'=>k F' H) ops.toList 0 (Array.replicate ops.size false) F (by simp) (by simpa using hB) hc
  simpa using this
end
end Go.Aw
end
section
namespace Go.Aw
open Go Go.RowKit
abbrev AQ:=Exit→List D→AH→Prop
structure FKm (K:Nat→BK) (w:World) (K':Nat→BK) (w':World):Prop where
 ext:ExtV K w K' w'
 own:∀b n,K b= .tok n .outer→K' b= .tok n .outer∧w'.heap[b]?=w.heap[b]?
 new:∀b n,K' b= .tok n .outer→K b= .tok n .outer∨(w.heap.size≤b∧w'.heap[b]?=some (.deferred (some [])))
theorem FK.m {K:Nat→BK} {w:World} {K':Nat→BK} {w':World} (h:FK K w K' w'):FKm K w K' w':=⟨h.ext,h.own,fun b n hb=>.inl (h.new b n hb)⟩
theorem FKm.refl (K:Nat→BK) (w:World):FKm K w K w:=(FK.refl K w).m
theorem FKm.trans {K K' K'':Nat→BK} {w w' w'':World} (h:FKm K w K' w') (g:FKm K' w' K'' w''):FKm K w K'' w'':=
 ⟨h.ext.trans g.ext,fun b n hb=>⟨(g.own b n (h.own b n hb).1).1,(g.own b n (h.own b n hb).1).2.trans (h.own b n hb).2⟩,fun b n hb=>by
  rcases g.new b n hb with h1|⟨h1,h2⟩
  ·rcases h.new b n h1 with h3|⟨h3,h4⟩
   ·exact .inl h3
   ·exact .inr ⟨h3,(g.own b n h1).2.trans h4⟩
  ·exact .inr ⟨Nat.le_trans h.ext.size h1,h2⟩⟩
def Mk (K:Nat→BK) (w:World) (s:Nat) (ds:List Deferred):Prop:=∃Ds:List Nat,Ds.Nodup∧ds=Ds.map (fun D=>{target:= .collected D,args:=#[]})∧∀D∈Ds,s≤D∧K D= .tok 0 .outer∧w.heap[D]?=some (.deferred (some []))
theorem Mk.nil (K:Nat→BK) (w:World) (s:Nat):Mk K w s []:=⟨[],.nil,rfl,fun D h=>by cases h⟩
theorem Mk.keep {K:Nat→BK} {w:World} {K':Nat→BK} {w':World} {s:Nat} {ds:List Deferred} (h:Mk K w s ds) (hk:FKm K w K' w'):Mk K' w' s ds:=by
 obtain ⟨Ds,h1,h2,h3⟩:=h
 exact ⟨Ds,h1,h2,fun D hD=>⟨(h3 D hD).1,(hk.own D _ (h3 D hD).2.1).1,(hk.own D _ (h3 D hD).2.1).2.trans (h3 D hD).2.2⟩⟩
theorem Mk.step {K:Nat→BK} {w:World} {K':Nat→BK} {w':World} {s:Nat} {a a':Act} (h:Mk K w s a.defers) (hk:FK K w K' w') (hd:a'.defers=a.defers):Mk K' w' s a'.defers:=hd▸h.keep hk.m
def AW (P:Program) (c:Code) (F:List D) (H:AH) (Q:AQ):Prop:=
 ∀ (K:Nat→BK) (w:World) (a:Act) (s:Nat),St K w F H a.tmps→s≤w.heap.size∧Mk K w s a.defers→
  c.wp P (fun e a' w'=>∃F' H' K',Q e F' H'∧FKm K w K' w'∧St K' w' F' H' a'.tmps∧s≤w'.heap.size∧Mk K' w' s a'.defers) a w
def oV (k:List D→AH→Prop) (Q:AQ):AQ
 | .normal=>k
 |e=>Q e
def yI (id:Nat) (Q:AQ):AQ
 | .exit id'=>if id'=id then Q .normal else Q (.exit id')
 |e=>Q e
def acode (P:Program):Code→List D→AH→AQ→Prop
 | .skip,F,H,Q=>Q .normal F H
 | .region _ ops false,F,H,Q=>aops P ops.toList ops.toList F H fun F' H'=>Q .normal F' H'
 | .region _ ops true,F,H,Q=>ya P ops.toList (yx ops.toList) F H fun F'=>aops P ops.toList (vB ops.toList) F' H fun F'' H''=>Q .normal F'' H''
 | .seq x y,F,H,Q=>acode P x F H (oV (fun F' H'=>acode P y F' H' Q) Q)
 | .cond c x y,F,H,Q=>match rv F c with
  | .bool b=>(b=true→acode P x F H Q)∧(b=false→acode P y F H Q)
  |_=>False
 | .block id c,F,H,Q=>acode P c F H (yI id Q)
 | .exit id,F,H,Q=>Q (.exit id) F H
 | .ret,F,H,Q=>Q .ret F H
 | .label _,F,H,Q=>Q .normal F H
 | .loop c,F,H,Q=>AW P (.loop c) F H Q
 |_,_,_,_=>False
def yC:Code→Bool
 | .region _ ops false=>ops.all jq
 | .region _ ops true=>ops.all jq&&KZ ops
 | .seq x y=>yC x&&yC y
 | .cond c x y=>jL c&&yC x&&yC y
 | .block _ c=>yC c
 | .loop c=>yC c
 |_=>true
theorem AW.mono {P:Program} {c:Code} {F:List D} {H:AH} {Q Q':AQ} (h:AW P c F H Q) (hq:∀e F H,Q e F H→Q' e F H):AW P c F H Q':=
 fun K w a s hs hd=>wp_mono (h K w a s hs hd) fun e a' w' ⟨F',H',K',g1,g2⟩=>⟨F',H',K',hq _ _ _ g1,g2⟩
theorem AW.and_then {P:Program} {x y:Code} {F:List D} {H:AH} {Q:AQ} (h:AW P x F H (oV (fun F' H'=>AW P y F' H' Q) Q)):AW P (.seq x y) F H Q:=by
 intro K w a s hs hd
 refine wp_seq (wp_mono (h K w a s hs hd) fun e a' w' ⟨F',H',K',g1,g2,g3,g4⟩=>?_)
 cases e with
 | normal=>
  refine wp_mono (g1 K' w' a' s g3 g4) fun e' a'' w'' ⟨F'',H'',K'',q1,q2,q3,q4⟩=>⟨F'',H'',K'',q1,g2.trans q2,q3,q4⟩
 |_=>exact ⟨F',H',K',g1,g2,g3,g4⟩
theorem jQ {P:Program} (hm:P.follows .mixedOrders=true):∀(c:Code) (F:List D) (H:AH) (Q:AQ),yC c=true→acode P c F H Q→AW P c F H Q
 | .skip,F,H,Q,_,h=>fun K w a s hs hd=>wp_skip ⟨F,H,K,h,.refl K w,hs,hd⟩
 | .label l,F,H,Q,_,h=>fun K w a s hs hd=>wp_label ⟨F,H,K,h,.refl K w,hs,hd⟩
 | .exit id,F,H,Q,_,h=>fun K w a s hs hd=>wp_exit ⟨F,H,K,h,.refl K w,hs,hd⟩
 | .ret,F,H,Q,_,h=>fun K w a s hs hd=>wp_ret ⟨F,H,K,h,.refl K w,hs,hd⟩
 | .loop c,F,H,Q,_,h=>h
 | .region id ops false,F,H,Q,hok,h=>fun K w a s hs hd=>by
   simp only [yC] at hok
   refine wp_region_list (u4 (ops:=ops) (k:=fun F' H'=>Q .normal F' H') (w:=w) (a:=a) (K:=K) (fun a' w' ⟨F',H',K',g1,g2,g3,g4⟩=>⟨F',H',K',g1,g2.m,g3,Nat.le_trans hd.1 g2.ext.size,hd.2.step g2 g4⟩) ops.toList F H K w a (fun o ho=>(Array.all_eq_true'.1 hok) o (by simpa using ho)) hs (.refl K w) rfl h)
 | .region id ops true,F,H,Q,hok,h=>fun K w a s hs hd=>by
   simp only [yC,Bool.and_eq_true] at hok
   exact KU (k:=fun F' H'=>Q .normal F' H') hm hok.2 (fun o ho=>(Array.all_eq_true'.1 hok.1) o (by simpa using ho)) hs (fun a' w' ⟨F',H',K',g1,g2,g3,g4⟩=>⟨F',H',K',g1,g2.m,g3,Nat.le_trans hd.1 g2.ext.size,hd.2.step g2 g4⟩) h
 | .seq x y,F,H,Q,hok,h=>by
   simp only [yC,Bool.and_eq_true] at hok
   refine AW.and_then ((jQ hm x F H _ hok.1 h).mono fun e F' H' hq=>?_)
   cases e with
   |normal=>exact jQ hm y F' H' Q hok.2 hq
   |_=>exact hq
 | .cond c x y,F,H,Q,hok,h=>fun K w a s hs hd=>by
   simp only [yC,Bool.and_eq_true] at hok
   simp only [acode] at h
   split at h
   ·rename_i b hb
    have hv:=(hb▸hs.rep hok.1.1).bool_inv
    cases b with
    |true=>exact wp_cond_true hv (jQ hm x F H Q hok.1.2 (h.1 rfl) K w a s hs hd)
    |false=>exact wp_cond_false hv (jQ hm y F H Q hok.2 (h.2 rfl) K w a s hs hd)
   ·exact h.elim
 | .block id c,F,H,Q,hok,h=>fun K w a s hs hd=>by
   simp only [yC] at hok
   refine wp_block (wp_mono (jQ hm c F H _ hok h K w a s hs hd) fun e a' w' ⟨F',H',K',g1,g2⟩=>?_)
   cases e with
   | exit id'=>
    simp only [yI] at g1
    simp only [Exit.inBlock]
    split
    ·rename_i e;rw [if_pos e] at g1;exact ⟨F',H',K',g1,g2⟩
    ·rename_i e;rw [if_neg e] at g1;exact ⟨F',H',K',g1,g2⟩
   |_=>exact ⟨F',H',K',g1,g2⟩
theorem least (R:Nat→Prop) (n:Nat) (h:R n):∃m,R m∧∀k,k<m→¬R k:=by
 induction n using Nat.strongRecOn with
 | _ n ih=>
  by_cases hh:∃k,k<n∧R k
  ·obtain ⟨k,hk,hr⟩:=hh
   exact ih k hk hr
  ·exact ⟨n,h,fun k hk hr=>hh ⟨k,hk,hr⟩⟩
def back (n:Nat) (H:AH):AH:=H.drop (H.length - n)
theorem QZ (H:AH):back H.length H=H:=by simp [back]
theorem yV {n:Nat} {x:Nat×AO} {H:AH} (h:n≤H.length):back n (x::H)=back n H:=by
 unfold back
 rw [List.length_cons,show H.length+1 - n=(H.length - n)+1 by omega,List.drop_succ_cons]
theorem KT {b:Nat} {o:AO}:∀{H:AH},(qF H b o).length=H.length
 | []=>rfl
 | (c,x)::r=>by
  simp only [qF]
  split
  ·rfl
  ·simp only [List.length_cons,KT]
theorem St.sub {K:Nat→BK} {w:World} {F:List D} {H H':AH} {t:Array Value} (h:St K w F H t) (hs:H'.Sublist H):St K w F H' t:=
 ⟨h.krel,⟨(hs.map (·.1)).nodup h.hrel.nd,fun b o hm=>h.hrel.ok b o (hs.subset hm)⟩,h.len,h.slot⟩
theorem un (n:Nat) (H:AH):(back n H).Sublist H:=List.drop_sublist _ _
theorem AW.loop {P:Program} (hm:P.follows .mixedOrders=true) {c:Code} {F:List D} {H:AH} {Q:AQ} (hok:yC c=true) (I:List D→AH→Prop) (μ:List D→AH→Nat) (h0:I F H)
  (round:∀F H,I F H→acode P c F H (oV (fun F' H'=>I F' (back H.length H')∧μ F' (back H.length H')<μ F H) Q)):AW P (.loop c) F H Q:=by
 intro K0 w0 a0 s0 hs0 hd0
 let R:Act→World→Nat→Prop:=fun a w n=>∃F H K,I F H∧μ F H=n∧FKm K0 w0 K w∧St K w F H a.tmps∧s0≤w.heap.size∧Mk K w s0 a.defers
 refine wp_loop (fun a w=>∃n,R a w n) (fun a w=>open Classical in if h:∃n,R a w n then Classical.choose (least (R a w) h.choose h.choose_spec) else 0) ⟨_,F,H,K0,h0,rfl,.refl K0 w0,hs0,hd0⟩ ?_
 intro a w hR
 have hmin:=Classical.choose_spec (least (R a w) hR.choose hR.choose_spec)
 simp only [dif_pos hR]
 generalize Classical.choose (least (R a w) hR.choose hR.choose_spec)=m at hmin
 obtain ⟨⟨F1,H1,K1,i1,i2,i3,i4,i5⟩,hleast⟩:=hmin
 refine wp_mono (jQ hm c F1 H1 _ hok (round F1 H1 i1) K1 w a s0 i4 i5) fun e a' w' ⟨F',H',K',g1,g2,g3,g4⟩=>?_
 cases e with
 | normal=>
  obtain ⟨q1,q2⟩:=g1
  have hR':R a' w' (μ F' (back H1.length H')):=⟨F',_,K',q1,rfl,i3.trans g2,g3.sub (un _ _),g4⟩
  have hex:∃n,R a' w' n:=⟨_,hR'⟩
  refine ⟨hex,?_⟩
  simp only [dif_pos hex]
  have hmin':=Classical.choose_spec (least (R a' w') hex.choose hex.choose_spec)
  generalize Classical.choose (least (R a' w') hex.choose hex.choose_spec)=m' at hmin'
  have:m'≤μ F' (back H1.length H'):=Nat.le_of_not_lt fun hlt=>hmin'.2 _ hlt hR'
  omega
 |_=>exact ⟨F',H',K',g1,i3.trans g2,g3,g4⟩
def resOne (P:Program) (F:List D) (H:AH):ResultVar→Option D
 | .tmp t=>match F.getD t .any with
  | .tup _=>none
  |d=>some d
 | .cell x t=>match wb P t,rv F (.tmp x) with
  | some (true,n),.ptr b off=>match qu H b with
   |some (.cells cs)=>if off+n≤cs.length then some (.agg (((cs.drop off).take n).map D.view1)) else none
   |_=>none
  | some (false,_),.ptr b off=>match qu H b with
   | some (.cells cs)=>match cs[off]? with
    |some c=>some c.view1
    |none=>none
   |_=>none
  |_,_=>none
def resAll (P:Program) (F:List D) (H:AH):List ResultVar→Option (List D)
 | []=>some []
 | r::rs=>match resOne P F H r with
  | some d=>match resAll P F H rs with
   |some ds=>some (d::ds)
   |none=>none
  |none=>none
def ot (P:Program) (rs:List ResultVar) (F:List D) (H:AH) (k:D→Prop):Prop:=
 match rs with
 | [r]=>match resOne P F H r with
  |some d=>k d
  |none=>False
 | rs=>match resAll P F H rs with
  |some ds=>k (.tup ds)
  |none=>False
def kK (P:Program) (rs:List ResultVar) (n:Nat) (R:D→AH→Prop):AQ
 | .normal,F,H=>ot P rs F H fun d=>R d (back n H)
 | .ret,F,H=>ot P rs F H fun d=>R d (back n H)
 |_,_,_=>False
def facts:List D→Prop
 | []=>True
 |d::r=>fact d∧facts r
section
variable {P:Program} {K:Nat→BK} {w:World} {F:List D} {H:AH} {a:Act}
def uf (tmps:Array Value):ResultVar→Sem Value
 | .tmp t=>pure (tmps.getD t undef)
 | .cell x t=>do loadVar t (←asAddr (tmps.getD x undef))
theorem oa (hs:St K w F H a.tmps) {r:ResultVar} {d:D} (h:resOne P F H r=some d):∃v,(uf a.tmps r).run P w= .ok v w∧
  ((∃t,r= .tmp t∧RepC K w (.slot t 0) d v)∨((∀t,r≠ .tmp t)∧RepV K w d v)):=by
 cases r with
 | tmp t=>
  simp only [resOne] at h
  have hd:d=F.getD t .any∧∀ds,F.getD t .any≠ .tup ds:=by
   split at h
   ·cases h
   ·rename_i hn;simp only [Option.some.injEq] at h;exact ⟨h.symm,hn⟩
  refine ⟨a.tmps.getD t undef,rfl,.inl ⟨t,rfl,?_⟩⟩
  rcases Nat.lt_or_ge t F.length with hlt|hge
  ·have h1:F[t]?=some d:=by rw [hd.1];simp [List.getD,List.getElem?_eq_getElem hlt]
   have h2:a.tmps[t]?=some (a.tmps.getD t undef):=by
    have:t<a.tmps.size:=by rw [hs.len];exact hlt
    simp [Array.getElem?_eq_getElem this]
   have hr:=hs.slot t d _ h1 h2
   have hnt:=hd.2
   rw [←hd.1] at hnt
   cases d<;>first|exact hr|exact (hnt _ rfl).elim
  ·rw [hd.1]
   simp only [List.getD,List.getElem?_eq_none hge]
   exact .any _
 | cell x t=>
  simp only [resOne] at h
  have hx:=hs.rep (x:= .tmp x) rfl
  split at h
  ·rename_i n b off ht hp
   split at h
   ·rename_i cs hg
    split at h
    ·rename_i hle
     simp only [Option.some.injEq] at h
     subst h
     have hv:=(hp▸hx).ptr_inv
     obtain ⟨_,c,T,hb,hcs,hr⟩:=hs.hrel.ok b _ (j4 hg)
     have hl:=uo (P:=P) ht b off ((c.toList.drop off).take n) (by simp;omega) (fun j v hv'=>by
      rw [kO hb]
      rw [List.getElem?_take] at hv'
      split at hv'
      ·simpa using hv'
      ·cases hv')
     refine ⟨.agg ((c.toList.drop off).take n).toArray,?_,.inr ⟨fun t e=>(by cases e),va _ _ (by simp;omega) (fun j u hu=>?_) (fun j d u hd hu=>?_)⟩⟩
     ·have he:a.tmps.getD x undef= .pointer (some ⟨b,off,none⟩):=hv
      simp only [uf,he,asAddr,Sem.run_bind,Sem.run_pure,Result.andThen_ok]
      simpa [Instr.loadAt,Instr.sureAddr] using hl
     ·rw [List.getElem?_take] at hu
      split at hu
      ·rename_i hj
       obtain ⟨u',e1,e2,_⟩:=hr (off+j) _ (List.getElem?_eq_getElem (show off+j<cs.length by omega))
       simp only [List.getElem?_drop,Array.getElem?_toList,e1,Option.some.injEq] at hu
       exact hu▸e2
      ·cases hu
     ·rw [List.getElem?_take] at hu
      split at hu
      ·rename_i hj
       rw [List.getElem?_map,List.getElem?_take,if_pos hj,List.getElem?_drop,Option.map_eq_some_iff] at hd
       obtain ⟨d',hd',rfl⟩:=hd
       obtain ⟨u',e1,e2,e3⟩:=hr (off+j) _ hd'
       simp only [List.getElem?_drop,Array.getElem?_toList,e1,Option.some.injEq] at hu
       exact hu▸e3.rep
      ·cases hu
    ·cases h
   ·cases h
  ·rename_i n b off ht hp
   split at h
   ·rename_i cs hg
    split at h
    ·rename_i c hc
     simp only [Option.some.injEq] at h
     subst h
     have hv:=(hp▸hx).ptr_inv
     obtain ⟨_,c',T,hb,hcs,hr⟩:=hs.hrel.ok b _ (j4 hg)
     obtain ⟨u,e1,e2,e3⟩:=hr off _ hc
     have hl:=ve (P:=P) ht b off u (by rw [kO hb];exact e1)
     refine ⟨u,?_,.inr ⟨fun t e=>(by cases e),e3.rep⟩⟩
     have he:a.tmps.getD x undef= .pointer (some ⟨b,off,none⟩):=hv
     simp only [uf,he,asAddr,Sem.run_bind,Sem.run_pure,Result.andThen_ok]
     simpa [Instr.loadAt,Instr.sureAddr] using hl
    ·cases h
   ·cases h
  ·cases h
theorem oc (hs:St K w F H a.tmps):∀(rs:List ResultVar) (ds:List D),resAll P F H rs=some ds→∃vs,(rs.mapM (uf a.tmps)).run P w= .ok vs w∧vs.length=ds.length∧rs.length=ds.length∧
  ∀(j:Nat) (r:ResultVar) (d:D) (v:Value),rs[j]?=some r→ds[j]?=some d→vs[j]?=some v→((∃t,r= .tmp t∧RepC K w (.slot t 0) d v)∨((∀t,r≠ .tmp t)∧RepV K w d v))
 | [],ds,h=>by
  simp only [resAll,Option.some.injEq] at h
  subst h
  exact ⟨[],by simp,rfl,rfl,fun j r d v h=>by simp at h⟩
 | r::rs,ds,h=>by
  simp only [resAll] at h
  split at h
  ·rename_i d hd
   split at h
   ·rename_i ds' hds
    simp only [Option.some.injEq] at h
    subst h
    obtain ⟨v,h1,h2⟩:=oa hs hd
    obtain ⟨vs,g1,g2,g3,g4⟩:=oc hs rs ds' hds
    refine ⟨v::vs,by simp only [List.mapM_cons,Sem.run_bind,h1,Result.andThen_ok,g1,Sem.run_pure],by simp [g2],by simp [g3],fun j r' d' v' e1 e2 e3=>?_⟩
    cases j with
    | zero=>
     simp only [List.getElem?_cons_zero,Option.some.injEq] at e1 e2 e3
     subst e1 e2 e3
     exact h2
    |succ j=>exact g4 j r' d' v' e1 e2 e3
   ·cases h
  ·cases h
end
end Go.Aw
end
