/- A part of the proof of what the last text says: Aw9, Aw10, AwN, Aw11, Aw12, Aw13, Aw14, Aw15, AwA. Conditions: those in each theorem. -/
import Derived.Test.YtgopigkdcmhbbaaGreatDoorT1
import Derived.RangeFuncRecord
import Derived.Still
import Derived.StillTail
set_option autoImplicit true
set_option relaxedAutoImplicit true
set_option linter.unusedVariables false
set_option linter.unusedSimpArgs false
set_option maxRecDepth 100000
set_option maxHeartbeats 16000000
open List renaming getElem?_eq_getElem -> Na,getElem?_map -> Nb,length_append -> Nf,length_cons -> Ng,length_nil -> Nh,length_map -> Ni,getElem?_cons_succ -> Nj,getElem?_cons_zero -> Nk,mem_of_getElem? -> Nm,getElem?_append_left -> No,getElem?_append_right -> Np,append_assoc -> Nq,getElem?_eq_none -> Nw,length_take -> Nz,mem_map -> N0,flatten_cons -> N1,length_replicate -> N2
open Option renaming getD_some -> Nc,map_eq_some_iff -> Nl
open Int renaming toNat_natCast -> Nd
open Bool renaming and_eq_true -> Nn
open Array renaming getElem?_eq_getElem -> Ny
open Nat renaming le_trans -> Nr,le_refl -> Nt,zero_add -> Nu,lt_or_ge -> Nv,reduceSub -> qa,reduceAdd -> qb,reduceMul -> qc,reduceEqDiff -> qd,reduceLeDiff -> qe,reduceBEq -> qf
section
namespace Go.Aw
open Go Go.RowKit
section
variable {K K':Nat->BK} {w:World}
theorem OwnAt.conv (h:ExtV K w K' w) (ho:∀b n,K b= .tok n o->K' b= .tok n o') (hr:OwnAt K w o xs v):OwnAt K' w o' xs v:=by
  rcases hr with hr|⟨b,cap,sz,c,T,hv,hk,hh,hcs,hp,hl,hm,hb,hs,hrep⟩
  · exact .inl hr
  · refine .inr ⟨b,cap,sz,c,T,hv,ho b _ hk,hh,hcs,hp,hl,hm,hb,hs,fun i x hi j d hj=>?_⟩
    obtain ⟨u,e1,e2,e3⟩:=hrep i x hi j d hj
    exact ⟨u,e1,e2,e3.mono h⟩
theorem RepC.conv (h:ExtV K w K' w) (ho:∀b n,K b= .tok n o->K' b= .tok n o') (hr:RepC K w o d v):RepC K' w o' d v:=by
  cases d<;>first|exact OwnAt.conv h ho hr|exact RepV.mono h hr
theorem RepO.conv (h:ExtV K w K' w) (ho:∀b n j,K b= .tok n (.slot i j)->K' b= .tok n (.slot i' j)) (hr:RepO K w i d v):RepO K' w i' d v:=by
  cases d<;>first
    |exact OwnAt.conv h (fun b n hb=>ho b n 0 hb) hr
    |exact RepV.mono h hr
    | (obtain ⟨vs,hv,hl,hh⟩:=hr
       exact ⟨vs,hv,hl,fun j d u hd hu=>(hh j d u hd hu).conv h (fun b n hb=>ho b n _ hb)⟩)
theorem HRel.conv (h:ExtV K w K' w) (hp:∀b,K b= .priv->K' b= .priv) (ho:∀b n c j,K b= .tok n (.cell c j)->K' b= .tok n (.cell c j)) (hr:HRel K w H):HRel K' w H:=by
  refine ⟨hr.nd,fun b o hbo=>?_⟩
  have:=hr.ok b o hbo
  cases o with
  | cells cs=>
    obtain ⟨hk,c,T,hh,hc,hh2⟩:=this
    refine ⟨hp b hk,c,T,hh,hc,fun j d hd=>?_⟩
    obtain ⟨u,e1,e2,e3⟩:=hh2 j d hd
    exact ⟨u,e1,e2,e3.conv h (fun b' n hb'=>ho b' n b j hb')⟩
  |room cap xs=>exact ⟨this.1,this.2.conv h (fun b' n hb'=>ho b' n b 0 hb')⟩
  |mp es=>exact ⟨hp b this.1,this.2.ext h rfl⟩
  |cst cs=>exact CstAt.ext this h
  | lp J pre=>
    obtain ⟨⟨n,j,h1⟩,h2,h3⟩:=this
    exact ⟨⟨n,j,ho _ _ _ _ h1⟩,h3 pre K w _ w h2 fun c n j h=>⟨ho _ _ _ _ h,rfl⟩,h3⟩
end
def dV (K:Nat->BK):Prop:=∀b n i j,K b≠ .tok n (.slot i j)
def QJ (P:Program) (f:FuncId):Bool:=match P.funcs[f]? with
  | some fn=>fn.body.isSome && !(fn.name == "runtime.NumGoroutine")
  |none=>false
def ACall (P:Program) (f:FuncId) (args:List D) (H:AH) (R:D->AH->Prop):Prop:=
  QJ P f=true∧∀(K:Nat->BK) (w:World) (vs:Array Value),KRel K w->dV K->HRel K w H->vs.size=args.length->(∀(j:Nat) (d:D) (v:Value),args[j]?=some d->vs[j]?=some v->RepV K w d v)->
    Calls P f vs w fun e w'=>∃v d H' K',e= .returned v∧R d H'∧FK K w K' w'∧KRel K' w'∧HRel K' w' H'∧RepO K' w' 0 d v
theorem ACall.mono {R R':D->AH->Prop} (h:ACall P f args H R) (hr:∀d H',R d H'->R' d H'):ACall P f args H R':=
  ⟨h.1,fun K w vs h1 h2 h3 h4 h5=>(h.2 K w vs h1 h2 h3 h4 h5).mono fun e w' ⟨v,d,H',K',g1,g2,g3⟩=>⟨v,d,H',K',g1,hr d H' g2,g3⟩⟩
def outerize:Who->Who
  | .slot _ _=>.outer
  |o=>o
def Ecell:Who->Prop
  | .cell _ _=>True
  |_=>False
def kZ (K K':Nat->BK) (dst:Nat):Nat->BK:=fun b=>match K' b with
  | .tok n (.slot _ j)=>.tok n (.slot dst j)
  | .tok n .outer=>K b
  |x=>x
theorem relab_outer:relab outerize K b= .tok n .outer↔(K b= .tok n .outer∨∃i j,K b= .tok n (.slot i j)):=by
  constructor
  · intro h
    obtain ⟨o',h1,h2⟩:=kw h
    cases o' with
    |slot i j=>exact .inr ⟨i,j,h1⟩
    |cell b j=>simp [outerize] at h2
    |outer=>exact .inl h1
  · rintro (h|⟨i,j,h⟩)<;>rw [qR h]<;>rfl
theorem vw (hfk:FK (relab outerize K) w K' w') (dst:Nat):Keep Ecell (fun _=>True) K w (kZ K K' dst) w'∧ExtV K' w' (kZ K K' dst) w':=by
  have hout:∀b n,K' b= .tok n .outer->∃o,K b= .tok n o∧(o= .outer∨∃i j,o= .slot i j):=fun b n h=>by
    rcases relab_outer.1 (hfk.new b n h) with h1|⟨i,j,h1⟩
    all_goals grind
  have htok:∀b m o',K' b= .tok m o'->∃o'',kZ K K' dst b= .tok m o'':=fun b m o' h=>by
    grind [kZ]
  have hext:ExtV K' w' (kZ K K' dst) w':=
    ⟨rfl,rfl,⟨rfl,Nt _⟩,Nt _,fun b _ h=>⟨by simp [kZ,h],rfl⟩,fun b n o h _=>by
      obtain ⟨o'',h1⟩:=htok b n o h
      exact ⟨n,o'',h1,Nt _,fun _ _=>rfl⟩,fun b h=>.inl (by simp [kZ,h])⟩
  have hfull:ExtV K w (kZ K K' dst) w':=((qA outerize K w).trans hfk.ext).trans hext
  refine ⟨⟨hfull,fun b n o hb ho=>?_,fun b n hb=>?_,fun b _ h=>(h trivial).elim⟩,hext⟩
  · have ho1:relab outerize K b= .tok n .outer:=by
      cases o with
      |slot i j=>exact relab_outer.2 (.inr ⟨i,j,hb⟩)
      |cell c j=>exact (ho trivial).elim
      |outer=>exact relab_outer.2 (.inl hb)
    obtain ⟨h1,h2⟩:=hfk.own b n ho1
    grind [kZ]
  · grind [kZ]
theorem Qk (K:Nat->BK):dV (relab outerize K):=fun b n i j h=>by
  obtain ⟨o',_,h2⟩:=kw h
  cases o'<;>simp [outerize] at h2
def uq (k:List D->AH->Prop) (K:Nat->BK) (w:World) (ds:List Deferred):Act->World->Prop:=
  fun a' w'=>∃F' H' K',k F' H'∧FK K w K' w'∧St K' w' F' H' a'.tmps∧a'.defers=ds
def Ws (x:Option Operand) (d:Nat):Bool:=match x with|some (.tmp t)=>t==d|_=>false
def takes (ops:List Oper) (d:Nat):Bool:=ops.any fun o=>match o.op with
  | .call c=>(match c.callee with| .builtin .append=>Ws c.args[0]? d|_=>false)
  | .assign x=>Ws (some x) d
  | .store _ _ x=>Ws (some x) d
  |_=>false
def Vd (ops:List Oper) (d:Nat):Bool:=ops.any fun o=>match o.op with
  | .call c=>(match c.callee with| .builtin .append=>Ws c.args[0]? d|_=>false)
  |_=>false
def qH:AH->Nat->Prop
  | [],_=>True
  |(c,_)::r,b=>b≠c∧qH r b
def one1:D->Bool
  | .tup _=>false
  | .agg _=>false
  | .any=>false
  |_=>true
def gH:Operand->Bool
  | .const (.slice none 0 0)=>true
  |_=>false
def nilcmp (P:Program) (op:BinOp) (t:TypeId) (x:D) (k:D->Prop):Prop:=match x with
  | .slc xs=>(yb P t).isSome=true∧(match op with
    | .eql=>(xs= []->k (.bool true))∧k (.bool false)
    | .neq=>(xs= []->k (.bool false))∧k (.bool true)
    |_=>False)
  |_=>False
def m9 (es:List (D×D)) (n:Nat) (v:D):List (D×D):=es.modify n fun p=>(p.1,v)
def ma (r:Option Operand) (H:AH) (k:D->AH->Prop):Prop:=r=none∧∀b,qH H b->k (.mp (some b)) ((b,.mp [])::H)
def ni (P:Program) (t:TypeId) (H:AH) (m i v:D) (k:AH->Prop):Prop:=match dq P t,m with
  | some (ag,l,z),.mp (some b)=>match qn H b with
    |some (.mp es)=>ym ag l es i∧k (qM H b (.mp (oG es i v)))
    |_=>False
  |_,_=>False
def rN (P:Program) (t:TypeId) (H:AH) (m i:D) (k:D->AH->Prop):Prop:=match dq P t,m with
  | some (ag,l,z),.mp (some b)=>match qn H b with
    |some (.mp es)=>ym ag l es i∧es.length<=140737488355328∧k (.tup [(ya es (cellsOf i)).getD z,.int .i64 ((wy es (cellsOf i)).getD es.length:Nat)]) (qM H b (.mp (oG es i ((ya es (cellsOf i)).getD z))))
    |_=>False
  |_,_=>False
def xA (H:AH) (m s v:D) (k:AH->Prop):Prop:=match m,s with
  | .mp (some b),.int .i64 n=>match qn H b with
    |some (.mp es)=>0<=n∧n<es.length∧k (qM H b (.mp (m9 es n.toNat v)))
    |_=>False
  |_,_=>False
def nw (P:Program) (H:AH) (args:List D) (tys:List TypeId) (k:D->AH->Prop):Prop:=match args,tys with
  | [.hso b off n,.str s],[t,_]=>match yb P t,qn H b with
    |some (_,sz),some (.cells cs)=>sz=1∧off+n<=cs.length∧(fact (.str s)->k (.int .i64 (min s.length n:Nat)) (qM H b (.cells (cs.take off++((s.take n).map (fun c=>D.int .u8 c.toNat)++cs.drop (off+min s.length n))))))
    |_,_=>False
  |_,_=>False
def rO (P:Program) (H:AH) (args:List D) (tys:List TypeId) (k:AH->Prop):Prop:=match args,tys with
  | [.hso b off n],[t]=>match yb P t with
    | some (e,sz)=>match yA P e,qn H b with
      |some z,some (.cells cs)=>z.length=sz∧off+n*sz<=cs.length∧k (qM H b (.cells (cs.take off++((List.replicate n (z.map D.view1)).flatten++cs.drop (off+n*sz)))))
      |_,_=>False
    |none=>False
  |_,_=>False
def aop (P:Program) (ops:List Oper) (o:Oper) (F:List D) (H:AH) (k:List D->AH->Prop):Prop:=
  match o.op with
  | .move (.tmp s)=>match o.dst with
    |some d=>if takes ops d=true then k ((F.set s (rv F (.tmp s))).set d (ev F (.tmp s))) H else k (F.set d (rv F (.tmp s))) H
    |none=>k F H
  | .assign (.tmp s)=>match o.dst with
    |some d=>k ((F.set s (rv F (.tmp s))).set d (ev F (.tmp s))) H
    |none=>k F H
  | .move x=>k (qS F o.dst (ev F x)) H
  | .assign x=>k (qS F o.dst (ev F x)) H
  | .extract (.tmp s) ix=>match o.dst,ev F (.tmp s) with
    | some d,.tup ds=>match ds[ix]? with
      |some c=>if takes ops d=true then fact c.view1->k ((F.set s (.tup (ds.set ix c.view1))).set d c) H else fact c.view1->k (F.set d c.view1) H
      |none=>False
    |_,_=>False
  | .alloc t=>match yA P t with
    |some z=>∀b,qH H b->k (qS F o.dst (.ptr b 0)) ((b,.cells z)::H)
    |none=>False
  | .box t x=>okc (rv F x)=true∧∀b,qH H b->k (qS F o.dst (.ptr b 0)) ((b,.cells (cellsOf (rv F x)))::H)
  | .makeMap t r=>ma r H fun d H'=>k (qS F o.dst d) H'
  | .mapUpdate t m i v=>ni P t H (rv F m) (rv F i) (rv F v) fun H'=>k (qS F o.dst (.tup [])) H'
  | .mapEntry t m i=>rN P t H (rv F m) (rv F i) fun d H'=>k (qS F o.dst d) H'
  | .entryStore t m s v=>xA H (rv F m) (rv F s) (rv F v) fun H'=>k (qS F o.dst (.tup [])) H'
  | .store t a x=>match yr P t,rv F a with
    | some (true,n),.ptr b off=>match qn H b with
      |some (.cells cs)=>okc (rv F x)=true∧(cellsOf (rv F x)).length=n∧off+n<=cs.length∧k (qS F o.dst (.tup [])) (qM H b (.cells (cs.take off++(cellsOf (rv F x)++cs.drop (off+n)))))
      |_=>False
    | some (false,n),.ptr b off=>match qn H b with
      | some (.cells cs)=>n=1∧off<cs.length∧one1 (ev F x)=true∧o.dst=none∧(match x with
        | .tmp s=>k (F.set s (rv F x)) (qM H b (.cells (cs.set off (ev F x))))
        |_=>k F (qM H b (.cells (cs.set off (ev F x)))))
      |_=>False
    |_,_=>False
  | .call c=>match c.callee with
    | .value f=>match rv F f with
      | .fn g caps=>ACall P g (uv (c.args.toList.map (rv F)) caps) H fun d H'=>fact d.view->k (qS F o.dst d) H'
      |_=>False
    | .builtin .append=>match c.args.toList,c.argTypes.toList,o.dst with
      | [.tmp s,x],[t,u],some d=>match ev F (.tmp s),Ko P t u with
        | .own xs,some (_,sz,bs)=>match rv F x with
          | .slc ys=>(∀y∈xs,y.length=sz)∧(∀y∈ys,y.length=sz)∧(xs.length+ys.length)*bs<=140737488355328∧k ((F.set s (.slc xs)).set d (.own (xs++ys))) H
          | .str l=>sz=1∧(∀y∈xs,y.length=1)∧(xs.length+l.length)*bs<=140737488355328∧k ((F.set s (.slc xs)).set d (.own (xs++l.map ql))) H
          | .hso b off n=>match qn H b with
            |some (.cells cs)=>sz=1∧off+n<=cs.length∧(∀y∈xs,y.length=1)∧(xs.length+n)*bs<=140737488355328∧k ((F.set s (.slc xs)).set d (.own (xs++((cs.drop off).take n).map fun e=>[e.view1]))) H
            |_=>False
          |_=>False
        |_,_=>False
      |_,_,_=>False
    | .builtin .copy=>nw P H (c.args.toList.map (rv F)) c.argTypes.toList fun d H'=>k (qS F o.dst d) H'
    | .builtin .clear=>rO P H (c.args.toList.map (rv F)) c.argTypes.toList fun H'=>k (qS F o.dst (.tup [])) H'
    |_=>qY P (rv F) H o.op fun d=>k (qS F o.dst d) H
  | .binOp bo t x y _=>if gH y=true then nilcmp P bo t (rv F x) fun d=>k (qS F o.dst d) H else qY P (rv F) H o.op fun d=>k (qS F o.dst d) H
  | .load t (.tmp s)=>match o.dst with
    | some d=>if Vd ops d=true then (match yr P t,rv F (.tmp s) with
        | some (false,_),.ptr b off=>match qn H b with
          | some (.cells cs)=>match cs[off]? with
            |some (.own xs)=>k (F.set d (.own xs)) (qM H b (.cells (cs.set off (.slc xs))))
            |some (.hgs b' n c)=>k (F.set d (.hgs b' n c)) H
            |_=>False
          |_=>False
        |_,_=>False)
      else qY P (rv F) H o.op fun c=>k (qS F o.dst c) H
    |none=>qY P (rv F) H o.op fun c=>k (qS F o.dst c) H
  |_=>qY P (rv F) H o.op fun d=>k (qS F o.dst d) H
def jA (o:Oper):Bool:=o.op.operands.all jP&&(match o.op with| .call c=>c.args.all jP|_=>true)
section
variable {P:Program} {ops:List Oper} {o:Oper} {F:List D} {H:AH} {k:List D->AH->Prop} {K:Nat->BK} {w:World} {a:Act} {Q:Exit->Act->World->Prop}
theorem zI:∀{H:AH},(∀x∈H,x.1≠b)->qH H b
  | [],_=>trivial
  |(c,_)::r,h=>⟨fun e=>h (c,_) (.head _) e.symm,zI (fun x hx=>h x (.tail _ hx))⟩
theorem HRel.lt (hk:KRel K w) (hh:HRel K w H) {b:Nat} {o:AO} (hm:(b,o)∈H):b<w.heap.size:=by
  have:=hh.ok b o hm
  cases o with
  | cells cs=>
    obtain ⟨h1,_⟩:=this
    grind
  | room cap xs=>
    rcases this.2 with ⟨h1,_⟩|⟨b',cap',sz,c,T,h1,h2,_⟩
    · have:=this.1;rw [h1] at this;simp at this
    all_goals grind
  |mp es=>exact hk.lt_of (by rw [this.1];simp)
  |cst cs=>exact this.2.1
  | lp J pre=>
    obtain ⟨⟨n,j,h1⟩,_⟩:=this
    exact hk.lt_of (by rw [h1];simp)
theorem HRel.fresh (hk:KRel K w) (hh:HRel K w H):qH H w.heap.size:=
  zI fun x hx e=>by have:=hh.lt hk (b:=x.1) (o:=x.2) hx;omega
theorem qP (hrun:(execOp a.eval o).run P w= .ok (.value v) w') {next:Act->World->Prop} (h:next (a.put o.dst v) w'):o.wp P a w next Q:=by
  unfold Oper.wp
  rw [hrun,Oper.upon_value]
  exact h
theorem od (hrun:(execOp a.eval o).run P w= .ok .skip w') {next:Act->World->Prop} (h:next (a.put o.dst undef) w'):o.wp P a w next Q:=by
  unfold Oper.wp
  rw [hrun,Oper.upon_skip]
  exact h
theorem qx (dst:Option Tmp) (v:Value):(a.put dst v).defers=a.defers:=by cases dst<;>rfl
theorem Pres.fk (hk:KRel K w) (h:Pres K w K' w'):FK K w K' w':=(h.keep hk).fk (fun h=>h)
theorem vn (hs:St K w F H a.tmps) (hok:jA o=true) (h:qY P (rv F) H o.op fun d=>k (qS F o.dst d) H):o.wp P a w (uq k K w a.defers) Q:=by
  have hr:=hs.ops (xs:=o.op.operands) (by unfold jA at hok;simp only [Nn] at hok;exact hok.1)
  obtain ⟨d,hd,hy⟩:=gL h ⟨K,w,a.eval,hs.krel,hs.hrel,hr⟩
  cases hdst:o.dst with
  | none=>
    obtain ⟨v,K',w',h1,h2,h3,h4⟩:=hy K w a.eval 0 hs.krel hs.hrel hr
    exact qP h1 ⟨_,H,K',hd,h2.fk hs.krel,hs.put (h2.keep hs.krel) (fun _ _ h=>h) h3 (hs.hrel.pres hs.krel h2) o.dst (fun i hi=>by rw [hdst] at hi;cases hi),qx _ _⟩
  | some t=>
    obtain ⟨v,K',w',h1,h2,h3,h4⟩:=hy K w a.eval t hs.krel hs.hrel hr
    exact qP h1 ⟨_,H,K',hd,h2.fk hs.krel,hs.put (h2.keep hs.krel) (fun _ _ h=>h) h3 (hs.hrel.pres hs.krel h2) o.dst (fun i hi=>by rw [hdst] at hi;obtain rfl:=Option.some.inj hi;exact h4),qx _ _⟩
def mvφ (s d:Who):Who->Who:=fun o=>if o=s then d else o
theorem Kv (hs:s≠ .outer) (hd:d≠ .outer):FK K w (relab (mvφ s d) K) w:=by
  refine ⟨qA _ K w,fun b n h=>⟨?_,rfl⟩,fun b n h=>?_⟩
  · rw [qR h]
    simp [mvφ,Ne.symm hs]
  · obtain ⟨o',h1,h2⟩:=kw h
    grind [mvφ]
theorem lO (hs:∀b j,s≠ .cell b j) (hh:HRel K w H):HRel (relab (mvφ s d) K) w H:=
  hh.conv (qA _ K w) (fun b h=>relab_priv.2 h) (fun b n c j h=>by rw [qR h];simp [mvφ,Ne.symm (hs c j)])
theorem zx (hi:∀j,s≠ .slot i j) (h:RepO K w i x v):RepO (relab (mvφ s d) K) w i x v:=
  h.conv (qA _ K w) (fun b n j hb=>by rw [qR hb];simp [mvφ,Ne.symm (hi j)])
theorem St.mv (hs:St K w F H a.tmps) (s d:Nat):∃K',FK K w K' w∧St K' w ((F.set s (rv F (.tmp s))).set d (ev F (.tmp s))) H (a.put (some d) (a.eval (.tmp s))).tmps:=by
  by_cases hlt:s<F.length
  · have hF:F[s]?=some (ev F (.tmp s)):=by simp [ev,List.getD,Na hlt]
    have hts:s<a.tmps.size:=by rw [hs.len];exact hlt
    have hT:a.tmps[s]?=some (a.eval (.tmp s)):=by simp [Act.eval,Ny hts]
    have hr:=hs.slot s _ _ hF hT
    -- all the tokens of slot s go to slot d
    let φ:Who->Who:=fun o=>match o with
      | .slot i j=>if i=s then .slot d j else .slot i j
      |x=>x
    have hφ:Nice φ:=⟨fun _ _=>rfl,rfl⟩
    have hfk:FK K w (relab φ K) w:=by
      refine ⟨qA _ K w,fun b n h=>⟨qR h,rfl⟩,fun b n h=>?_⟩
      obtain ⟨o',h1,h2⟩:=kw h
      grind
    refine ⟨relab φ K,hfk,jN hs.krel,yN hφ hs.hrel,by simpa [Act.put] using hs.len,fun i x v hx hv=>?_⟩
    simp only [Act.put] at hv
    rcases getElem?_set_some hx with ⟨rfl,rfl,hl⟩|⟨hne,hx⟩
    · rw [Array.getElem?_setIfInBounds_self_of_lt (by rw [hs.len];simpa using hl)] at hv
      obtain rfl:=Option.some.inj hv
      exact Yj (fun j=>by simp [φ]) hr
    · rw [Array.getElem?_setIfInBounds_ne hne] at hv
      rcases getElem?_set_some hx with ⟨rfl,rfl,hl⟩|⟨hne2,hx⟩
      · rw [hT] at hv
        obtain rfl:=Option.some.inj hv
        exact (RepV.mono (qA φ K w) hr.rep).viewO
      · exact Yj (fun j=>by simp [φ,Ne.symm hne2]) (hs.slot i x v hx hv)
  · have hge:F.length<=s:=Nat.le_of_not_lt hlt
    have hev:ev F (.tmp s)= .any:=by simp [ev,List.getD,Nw hge]
    refine ⟨K,.refl K w,?_⟩
    rw [List.set_eq_of_length_le hge,hev]
    exact hs.put (d:= .any) ((Pres.refl K w).keep hs.krel) (fun _ _ h=>h) hs.krel hs.hrel (some d) (fun i _=>RepV.viewO (.any _))
theorem io (hs:St K w F H a.tmps) (ho:o.op= .move (.tmp s)) (h:aop P ops o F H k):o.wp P a w (uq k K w a.defers) Q:=by
  simp only [aop,ho] at h
  have hrun:(execOp a.eval o).run P w= .ok (.value (a.eval (.tmp s))) w:=by simp [execOp,ho]
  cases hd:o.dst with
  | none=>
    simp only [hd] at h
    exact qP hrun ⟨F,H,K,h,.refl K w,by rw [hd];exact hs,qx _ _⟩
  | some d=>
    simp only [hd] at h
    split at h
    · obtain ⟨K',h1,h2⟩:=hs.mv s d
      exact qP hrun ⟨_,H,K',h,h1,by rw [hd];exact h2,qx _ _⟩
    · refine qP hrun ⟨_,H,K,h,.refl K w,?_,qx _ _⟩
      rw [hd]
      exact hs.put ((Pres.refl K w).keep hs.krel) (fun _ _ h=>h) hs.krel hs.hrel (some d) (fun i _=>(hs.rep (x:= .tmp s) rfl).viewO)
theorem ZV (hs:St K w F H a.tmps) (ho:o.op= .assign (.tmp s)) (h:aop P ops o F H k):o.wp P a w (uq k K w a.defers) Q:=by
  simp only [aop,ho] at h
  have hrun:(execOp a.eval o).run P w= .ok (.value (a.eval (.tmp s))) w:=by simp [execOp,ho]
  cases hd:o.dst with
  | none=>
    simp only [hd] at h
    exact qP hrun ⟨F,H,K,h,.refl K w,by rw [hd];exact hs,qx _ _⟩
  | some d=>
    simp only [hd] at h
    obtain ⟨K',h1,h2⟩:=hs.mv s d
    exact qP hrun ⟨_,H,K',h,h1,by rw [hd];exact h2,qx _ _⟩
theorem Jq (v:Value) (hv:wh v=true) (i:Nat):RepO K w i (jD v) v:=by
  have h:=yc (K:=K) (w:=w) (o:= .slot i 0) hv
  generalize jD v=d at h
  cases d<;>first|exact h|exact RepV.viewO h
theorem WJ (hs:St K w F H a.tmps) (hx:jP x=true) (hn:∀s,x≠ .tmp s) (hrun:(execOp a.eval o).run P w= .ok (.value (a.eval x)) w) (h:k (qS F o.dst (ev F x)) H):o.wp P a w (uq k K w a.defers) Q:=by
  refine qP hrun ⟨_,H,K,h,.refl K w,hs.put ((Pres.refl K w).keep hs.krel) (fun _ _ h=>h) hs.krel hs.hrel o.dst (fun i _=>?_),qx _ _⟩
  cases x with
  |tmp s=>exact (hn s rfl).elim
  |const v=>exact Jq v hx i
  |global g=>exact RepV.viewO (.ptr g 0)
  |func f=>exact RepV.viewO (hs.rep (x:= .func f) rfl)
end
end Go.Aw
end
section
namespace Go.Aw
open Go Go.RowKit
section
variable {P:Program} {ops:List Oper} {o:Oper} {F:List D} {H:AH} {k:List D->AH->Prop} {K:Nat->BK} {w:World} {a:Act} {Q:Exit->Act->World->Prop}
theorem G8 (h:RepC K w (.slot i 0) d v):RepO K w i d v:=by
 cases d<;>first|exact RepV.viewO h|exact h
theorem Uw (h:vs[ix]?=some v):(Instr.extract (.tuple vs) ix).run P w= .ok v w:=by
 simp [Instr.extract,h]
theorem Uc (hs:St K w F H a.tmps) (ho:o.op= .extract (.tmp s) ix) (h:aop P ops o F H k):o.wp P a w (uq k K w a.defers) Q:=by
 simp only [aop,ho] at h
 split at h
 ·rename_i d ds hd hev
  split at h
  ·rename_i c hc
   have hlt:s<F.length:=by
    rcases Nv s F.length with h'|h'
    ·exact h'
    ·simp [ev,List.getD,Nw h'] at hev
   have hF:F[s]?=some (.tup ds):=by
    have:F[s]?=some (ev F (.tmp s)):=by simp [ev,List.getD,Na hlt]
    rw [this,hev]
   have hts:s<a.tmps.size:=by rw [hs.len];exact hlt
   have hT:a.tmps[s]?=some (a.eval (.tmp s)):=by simp [Act.eval,Ny hts]
   obtain ⟨vs,hv,hl,hh⟩:=hs.slot s _ _ hF hT
   have hix:ix<vs.size:=by rw [hl];exact (List.getElem?_eq_some_iff.1 hc).1
   have hvi:vs[ix]?=some vs[ix]:=Ny hix
   have hrc:=hh ix c _ hc hvi
   have hrun:(execOp a.eval o).run P w= .ok (.value vs[ix]) w:=by
    simp only [execOp,ho,hv,Sem.run_bind,Uw hvi,Result.andThen_ok]
    rfl
   split at h
   ·-- what it owns goes along
    let φ:=mvφ (.slot s (ix+1)) (.slot d 0)
    have hfk:FK K w (relab φ K) w:=Kv (by simp) (by simp)
    refine qP hrun ⟨_,H,relab φ K,h hrc.rep.fact,hfk,⟨jN hs.krel,lO (by simp) hs.hrel,by rw [hd];simpa [Act.put] using hs.len,fun i x v hx hv'=>?_⟩,qx _ _⟩
    rw [hd] at hv'
    simp only [Act.put] at hv'
    rcases getElem?_set_some hx with ⟨rfl,rfl,hl'⟩|⟨hne,hx⟩
    ·rw [Array.getElem?_setIfInBounds_self_of_lt (by rw [hs.len];simpa using hl')] at hv'
     obtain rfl:=Option.some.inj hv'
     have hcv:=RepC.conv (o':= .slot d 0) (qA φ K w) (fun b n hb=>by rw [qR hb];simp [φ,mvφ]) hrc
     exact G8 hcv
    ·rw [Array.getElem?_setIfInBounds_ne hne] at hv'
     rcases getElem?_set_some hx with ⟨rfl,rfl,hl'⟩|⟨hne2,hx⟩
     ·rw [hT] at hv'
      obtain rfl:=Option.some.inj hv'
      refine ⟨vs,hv,by simpa using hl,fun j d' u hd' hu=>?_⟩
      rcases getElem?_set_some hd' with ⟨rfl,rfl,_⟩|⟨hne3,hd'⟩
      ·rw [hvi] at hu
       obtain rfl:=Option.some.inj hu
       exact (RepV.mono (qA φ K w) hrc.rep).repC (fun xs e=>by cases c<;>simp [D.view1] at e)
      ·exact (hh j d' u hd' hu).conv (qA φ K w) (fun b n hb=>by
        rw [qR hb]
        simp only [φ,mvφ,BK.tok.injEq,true_and]
        rw [if_neg]
        intro e
        injection e with _ e
        omega)
     ·exact (hs.slot i x v hx hv').conv (qA φ K w) (fun b n j hb=>by
       rw [qR hb]
       simp only [φ,mvφ,BK.tok.injEq,true_and]
       rw [if_neg]
       intro e
       injection e with e _
       exact hne2 e.symm)
   ·refine qP hrun ⟨_,H,K,h hrc.rep.fact,.refl K w,?_,qx _ _⟩
    rw [hd]
    exact hs.put ((Pres.refl K w).keep hs.krel) (fun _ _ h=>h) hs.krel hs.hrel (some d) (fun i _=>hrc.rep.viewO)
  ·exact h.elim
 ·exact h.elim
theorem aZ (hs:St K w F H a.tmps) (t:TypeId) (c:Array Value) (cs:List D) (hc:c.size=cs.length)
  (hr:∀(j:Nat) (d:D),cs[j]?=some d->∃u,c[j]?=some u∧u.oneCell'=true∧(RepV K w d u∨(∃x,d= .own []∧u= .slice x 0 0))) (dst:Option Tmp):
  ∃K',FK K w K' (w.alloc (.cells c t))∧St K' (w.alloc (.cells c t)) (qS F dst (.ptr w.heap.size 0)) ((w.heap.size,.cells cs)::H) (a.put dst (.pointer (some ⟨w.heap.size,0,none⟩))).tmps:=by
 obtain ⟨hp,hk'⟩:=yT (K:=K) (w:=w) hs.krel (.cells c t) (x:= .priv) (by simp)
 refine ⟨_,hp.fk hs.krel,hs.put (hp.keep hs.krel) (fun _ _ h=>h) hk' ?_ dst (fun i _=>RepV.viewO (.ptr _ _))⟩
 have hold:=hs.hrel.pres hs.krel hp
 refine ⟨?_,fun b o hm=>?_⟩
 ·simp only [List.map_cons,List.nodup_cons]
  refine ⟨fun hm=>?_,hold.nd⟩
  rw [N0] at hm
  obtain ⟨⟨b,o⟩,h1,h2⟩:=hm
  have:=hs.hrel.lt hs.krel h1
  simp only [] at h2
  omega
 ·rcases List.mem_cons.1 hm with h|h
  ·injection h with h1 h2
   subst h1 h2
   refine ⟨jx _ _ _,c,t,heap_alloc_new w _,hc,fun j d hd=>?_⟩
   obtain ⟨u,e1,e2,e3⟩:=hr j d hd
   refine ⟨u,e1,e2,?_⟩
   rcases e3 with e3|⟨x,rfl,rfl⟩
   ·exact (RepV.mono (hp.keep hs.krel).ext e3).repC (fun xs e=>by subst e;exact e3.not_own)
   ·exact .inl ⟨rfl,x,rfl⟩
  ·exact hold.ok b o h
theorem cf (hs:St K w F H a.tmps) {t:TypeId} (ho:o.op= .alloc t) (h:aop P ops o F H k):o.wp P a w (uq k K w a.defers) Q:=by
 simp only [aop,ho] at h
 split at h
 ·rename_i z hz
  obtain ⟨i,zv,hi,hzv,z1,z2,z3,z4⟩:=ye hz
  obtain ⟨K',h1,h2⟩:=aZ hs t zv.cells z z1 (fun j d hd=>by
   have hj:j<zv.cells.size:=by rw [z1];exact (List.getElem?_eq_some_iff.1 hd).1
   have hu:=Ny hj
   obtain ⟨e1,e2⟩:=z3 j _ hu
   refine ⟨_,hu,e1,?_⟩
   have hcd:=yc (K:=K) (w:=w) (o:= .outer) e2
   have hd':=z4 j d _ hd hu
   subst hd'
   generalize hcc:jD zv.cells[j]=cc at hcd
   cases cc with
   | own xs=>
    right
    unfold jD at hcc
    grind
   |_=>exact .inl hcd) o.dst
  refine qP (w':=w.alloc (.cells zv.cells t)) ?_ ⟨_,_,K',h _ (hs.hrel.fresh hs.krel),h1,h2,qx _ _⟩
  simp [execOp,ho,Instr.alloc,zeroValue,typeInfo,hi,hzv,newVar,newRow]
 ·exact h.elim
theorem mI (hs:St K w F H a.tmps) (hok:jA o=true) {t:TypeId} (ho:o.op= .box t x) (h:aop P ops o F H k):o.wp P a w (uq k K w a.defers) Q:=by
 simp only [aop,ho] at h
 obtain ⟨hc,h⟩:=h
 have hx:jP x=true:=by
  unfold jA at hok
  simp only [ho,Op.operands,Nn] at hok
  grind
 obtain ⟨c1,c2,c3⟩:=uA (hs.rep hx) hc
 obtain ⟨K',h1,h2⟩:=aZ hs t (a.eval x).cells _ c1 (fun j d hd=>by
  have hj:j<(a.eval x).cells.size:=by rw [c1];exact (List.getElem?_eq_some_iff.1 hd).1
  have hu:=Ny hj
  exact ⟨_,hu,c2 j _ hu,.inl (c3 j d _ hd hu)⟩) o.dst
 refine qP (w':=w.alloc (.cells (a.eval x).cells t)) ?_ ⟨_,_,K',h _ (hs.hrel.fresh hs.krel),h1,h2,qx _ _⟩
 simp [execOp,ho,Instr.box,newVar,newRow]
theorem jW:∀{H:AH},(qM H b x).map (·.1)=H.map (·.1)
 | []=>rfl
 | (c,o)::r=>by
  simp only [qM]
  split
  ·rfl
  ·simp only [List.map_cons,jW]
theorem kY:∀{H:AH},(H.map (·.1)).Nodup->∀{b':Nat} {o':AO},(b',o')∈qM H b x->(b'=b∧o'=x)∨(b'≠b∧(b',o')∈H)
 | [],_,b',o',h=>by simp [qM] at h
 | (c,o)::r,hn,b',o',h=>by
  simp only [List.map_cons,List.nodup_cons] at hn
  simp only [qM] at h
  split at h
  ·rename_i e
   subst e
   rcases List.mem_cons.1 h with h'|h'
   ·injection h' with h1 h2;exact .inl ⟨h1,h2⟩
   ·refine .inr ⟨fun e=>?_,.tail _ h'⟩
    subst e
    exact hn.1 (List.mem_map.2 ⟨_,h',rfl⟩)
  ·rename_i e
   rcases List.mem_cons.1 h with h|h
   ·injection h with h1 h2;subst h1 h2;exact .inr ⟨Ne.symm e,.head _⟩
   ·rcases kY hn.2 h with h|⟨h1,h2⟩
    ·exact .inl h
    ·exact .inr ⟨h1,.tail _ h2⟩
theorem Q4 (hk:KRel K w) (hh:HRel K w H) (hg:qn H b=some (.cells cs)) (hfk:FK K w K' w) (hK':KRel K' w) (hpriv:∀b',K b'= .priv->K' b'= .priv) (hcell:∀b' n c j,K b'= .tok n (.cell c j)->K' b'= .tok n (.cell c j))
  (hfit:off+vs.length<=cs.length) (h1:∀v∈vs,v.oneCell'=true) (hlen:cs'.length=cs.length)
  (hold:∀(j:Nat) (d:D),cs'[j]?=some d->(j<off∨off+vs.length<=j)->cs[j]?=some d)
  (hnew:∀(j:Nat) (d:D) (u:Value),cs'[off+j]?=some d->vs[j]?=some u->RepC K' w (.cell b (off+j)) d u):
  ∃c' T,(storeCells ⟨b,off,none⟩ vs).run P w= .ok () (w.setRow b c')∧w.heap[b]?≠none∧FK K w K' (w.setRow b c')∧KRel K' (w.setRow b c')∧HRel K' (w.setRow b c') (qM H b (.cells cs'))∧Keep n9 (fun x=>x=b) K' w K' (w.setRow b c')∧T=b:=by
 obtain ⟨hpb,c,T,hb,hc,hr⟩:=hh.ok b _ (qW hg)
 have hrun:=run_storeCells_at P b off T vs 0 c w hb (by simpa [hc] using hfit) h1
 simp only [Nat.add_zero] at hrun
 generalize hcc:(c.toList.take off++vs++c.toList.drop (off+vs.length)).toArray=c' at hrun
 have hsame:=setRow_heap w b c c' T (0,0) hb
 have hoth:∀b',b'≠b->(w.setRow b c').heap[b']?=w.heap[b']?:=fun b' h=>setRow_other w b b' c' h
 have hpb':K' b= .priv:=hpriv b hpb
 have hkeep:Keep n9 (fun x=>x=b) K' w K' (w.setRow b c'):=by
  refine ⟨⟨rfl,rfl,⟨rfl,Nt _⟩,by simp,fun b' _ hi=>⟨hi,hoth b' (fun e=>by subst e;rw [hpb'] at hi;cases hi)⟩,fun b' n o hb' _=>⟨n,o,hb',Nt _,fun j _=>jb (hoth b' (fun e=>by subst e;rw [hpb'] at hb';cases hb')) j⟩,fun b' h=>.inl h⟩,
   fun b' n o hb' _=>⟨hb',hoth b' (fun e=>by subst e;rw [hpb'] at hb';cases hb')⟩,fun b' n h=>h,fun b' hb' hne=>⟨hb',hoth b' hne⟩⟩
 have hcs':c'.size=cs'.length:=by
  grind
 have hget:∀j,c'[j]?=if j<off then c[j]? else if j<off+vs.length then vs[j - off]? else c[j]?:=fun j=>by
  grind
 have hhK':HRel K' w H:=hh.conv hfk.ext hpriv hcell
 refine ⟨c',b,hrun,by rw [hb];simp,hfk.trans (hkeep.fk (fun h=>h)),fun b' hb'=>hK' b' (by simpa using hb'),⟨by rw [jW];exact hh.nd,fun b' o' hm=>?_⟩,hkeep,rfl⟩
 rcases kY hh.nd hm with ⟨rfl,rfl⟩|⟨hne,hm⟩
 ·refine ⟨hpb',c',T,hsame,hcs',fun j d hd=>?_⟩
  by_cases hj:j<off∨off+vs.length<=j
  ·obtain ⟨u,e1,e2,e3⟩:=hr j d (hold j d hd hj)
   refine ⟨u,?_,e2,((e3.conv (o':= .cell b' j) hfk.ext (fun b'' n hb''=>hcell b'' n _ _ hb'')).keep hkeep (fun h=>h))⟩
   grind
  ·have hj1:off<=j:=by omega
   have hj2:j - off<vs.length:=by omega
   have hu:=Na hj2
   have hd':cs'[off+(j - off)]?=some d:=by rw [show off+(j - off)=j by omega];exact hd
   have:=hnew (j - off) d _ hd' hu
   rw [show off+(j - off)=j by omega] at this
   refine ⟨_,?_,h1 _ (Nm hu),this.keep hkeep (fun h=>h)⟩
   rw [hget,if_neg (by omega),if_pos (by omega)]
   exact hu
 ·exact (AO.keep hkeep hne (fun _ h=>h) (hhK'.ok b' o' hm))
end
end Go.Aw
end
section
namespace Go.Aw
open Go Go.RowKit
section
variable {P:Program} {ops:List Oper} {o:Oper} {F:List D} {H:AH} {k:List D->AH->Prop} {K:Nat->BK} {w:World} {a:Act} {Q:Exit->Act->World->Prop}
theorem UN (hs:St K w F H a.tmps) {t:TypeId} {r:Option Operand} (ho:o.op= .makeMap t r) (h:aop P ops o F H k):o.wp P a w (uq k K w a.defers) Q:=by
 simp only [aop,ho,ma] at h
 obtain ⟨rfl,h⟩:=h
 obtain ⟨hp,hk'⟩:=yT (K:=K) (w:=w) hs.krel (.map #[] 0) (x:= .priv) (by simp)
 refine qP (w':=w.alloc (.map #[] 0)) (v:= .map (some w.heap.size)) ?_ ⟨_,_,_,h _ (hs.hrel.fresh hs.krel),hp.fk hs.krel,hs.put (hp.keep hs.krel) (fun _ _ h=>h) hk' ?_ o.dst (fun i _=>RepV.viewO (.mp _)),qx _ _⟩
 ·simp only [execOp,ho,Option.map_none,Instr.makeMap]
  rfl
 ·have hold:=hs.hrel.pres hs.krel hp
  refine ⟨?_,fun b o hm=>?_⟩
  ·simp only [List.map_cons,List.nodup_cons]
   refine ⟨fun hm=>?_,hold.nd⟩
   rw [N0] at hm
   obtain ⟨⟨b,o⟩,h1,h2⟩:=hm
   have:=hs.hrel.lt hs.krel h1
   simp only [] at h2
   omega
  ·rcases List.mem_cons.1 hm with h|h
   ·injection h with h1 h2
    subst h1 h2
    exact ⟨jx _ _ _,#[],heap_alloc_new w _,rfl,fun j p hj=>by simp at hj⟩
   ·exact hold.ok b o h
theorem VJ {b:Nat} {es es':List (D×D)} {c':Array MapEntry} (hk:KRel K w) (hh:HRel K w H) (hg:qn H b=some (.mp es)) (hlen:c'.size=es'.length)
  (hr:∀(j:Nat) (p:D×D),es'[j]?=some p->∃e:MapEntry,c'[j]?=some e∧e.born=j∧RepV K w p.1 e.key∧RepV K w p.2 e.val):
  Keep n9 (fun x=>x=b) K w K (w.putObj b (.map c' c'.size))∧KRel K (w.putObj b (.map c' c'.size))∧HRel K (w.putObj b (.map c' c'.size)) (qM H b (.mp es')):=by
 obtain ⟨hpb,c,hb,_,_⟩:=hh.ok b _ (qW hg)
 have hlt:b<w.heap.size:=(Array.getElem?_eq_some_iff.1 hb).1
 have hoth:∀b',b'≠b->(w.putObj b (.map c' c'.size)).heap[b']?=w.heap[b']?:=fun b' h=>World.putObj_heap_other h
 have hsz:(w.putObj b (.map c' c'.size)).heap.size=w.heap.size:=by simp [World.putObj]
 have hkeep:Keep n9 (fun x=>x=b) K w K (w.putObj b (.map c' c'.size)):=
  ⟨⟨rfl,rfl,⟨rfl,Nt _⟩,Nat.le_of_eq hsz.symm,fun b' _ hi=>⟨hi,hoth b' (fun e=>by subst e;rw [hpb] at hi;cases hi)⟩,fun b' n o hb' _=>⟨n,o,hb',Nt _,fun j _=>jb (hoth b' (fun e=>by subst e;rw [hpb] at hb';cases hb')) j⟩,fun b' h=>.inl h⟩,
   fun b' n o hb' _=>⟨hb',hoth b' (fun e=>by subst e;rw [hpb] at hb';cases hb')⟩,fun b' n h=>h,fun b' hb' hne=>⟨hb',hoth b' hne⟩⟩
 refine ⟨hkeep,fun b' hb'=>hk b' (by omega),by rw [jW];exact hh.nd,fun b' o' hm=>?_⟩
 rcases kY hh.nd hm with ⟨rfl,rfl⟩|⟨hne,hm⟩
 ·refine ⟨hpb,c',World.putObj_heap_same hlt,hlen,fun j p hj=>?_⟩
  obtain ⟨e,e1,e2,e3,e4⟩:=hr j p hj
  exact ⟨e,e1,e2,e3.mono hkeep.ext,e4.mono hkeep.ext⟩
 ·exact AO.keep hkeep hne (fun _ h=>h) (hh.ok b' o' hm)
theorem gf:∀{l:List CT} {us vs:List Value},jH l us->jH l vs->kV us vs->wx us vs=true->vs.length=us.length∧∀n,∀p∈vs.zip us,Instr.sameBits n p.1 p.2=true
 | [],[],[],_,_,_,_=>⟨rfl,fun n p hp=>by simp at hp⟩
 | c::l,u::us,v::vs,h1,h2,h3,h4=>by
  have go:jH l us->jH l vs->kV us vs->wx us vs=true->(∀n,Instr.sameBits n v u=true)->(v::vs).length=(u::us).length∧∀n,∀p∈(v::vs).zip (u::us),Instr.sameBits n p.1 p.2=true:=fun a1 a2 a3 a4 a5=>by
   obtain ⟨g1,g2⟩:=gf a1 a2 a3 a4
   refine ⟨by simp [g1],fun n p hp=>?_⟩
   rcases List.mem_cons.1 hp with rfl|hp
   ·exact a5 n
   ·exact g2 n p hp
  simp only [wx,Nn] at h4
  cases c<;>cases u<;>simp only [jH] at h1<;>first|exact h1.elim|skip
  all_goals (cases v<;>simp only [jH] at h2<;>first|exact h2.elim|skip)
  ·simp only [kV] at h3
   refine go h1 h2 h3.2 h4.2 fun n=>?_
   have:=h4.1
   simp only [dp] at this
   rw [beq_iff_eq] at this
   cases n<;>simp [Instr.sameBits,h3.1,this]
  ·refine go h1 h2 h3 h4.2 fun n=>?_
   have:=h4.1
   simp only [dp,beq_iff_eq] at this
   cases n<;>simp [Instr.sameBits,this]
  ·refine go h1 h2 h3 h4.2 fun n=>?_
   have:=h4.1
   simp only [dp,beq_iff_eq] at this
   cases n<;>simp [Instr.sameBits,beq_toListBytes,this]
 | [],[],_::_,_,h,_,_=>by simp [jH] at h
 | [],_::_,_,h,_,_,_=>by simp [jH] at h
 |c::_,[],_,h,_,_,_=>by cases c<;>simp [jH] at h
 |c::_,_::_,[],_,h,_,_=>by cases c<;>simp [jH] at h
theorem Yk:∀{es:List (D×D)} {k:List D} {i:Nat},wy es k=some i->∃p,es[i]?=some p∧eqCells k (cellsOf p.1)=true
 | p::r,k,i,h=>by
  simp only [wy] at h
  split at h
  ·rename_i hc
   cases h;exact ⟨p,rfl,hc⟩
  ·obtain ⟨j,h1,rfl⟩:=Option.map_eq_some_iff.1 h
   obtain ⟨q,g1,g2⟩:=Yk h1
   exact ⟨q,by simpa using g1,g2⟩
theorem Ys:∀(es:List (D×D)) (d v:D),oG es d v=match wy es (cellsOf d) with
  |some i=>es.set i (d,v)
  |none=>es++ [(d,v)]
 | [],d,v=>rfl
 | p::r,d,v=>by
  simp only [oG,wy]
  split
  ·rfl
  ·rw [Ys r d v]
   cases wy r (cellsOf d)<;>rfl
theorem UV {t:TypeId} {ag:Bool} {l:List CT} {z:D} (hm:dq P t=some (ag,l,z)) {es:List (D×D)} {c:Array MapEntry} {d:D} {v:Value} {b n:Nat}
  (hb:w.heap[b]?=some (.map c n)) (hlen:c.size=es.length) (hr:RepV K w d v) (hk:ym ag l es d) (hc:∀(j:Nat) (p:D×D),es[j]?=some p->∃e:MapEntry,c[j]?=some e∧e.born=j∧RepV K w p.1 e.key∧RepV K w p.2 e.val):
  ∃ kt et,P.underlying t=some (.map kt et)∧zD P et=some z∧(getObj b).run P w= .ok (.map c n) w∧(Instr.checkKey false 10000 kt v).run P w= .ok () w∧
   (Instr.findKey kt v c.toList).run P w= .ok ((wy es (cellsOf d)).bind fun j=>(c[j]?).map fun e=>(j,e.val)) w∧
   ∀j,wy es (cellsOf d)=some j->∃e p,c[j]?=some e∧es[j]?=some p∧e.born=j∧RepV K w p.2 e.val∧(Instr.keyThatStays e.key v).run P w= .ok v w:=by
 obtain ⟨kt,et,hu,hl,hz,rfl⟩:=Z3 hm
 obtain ⟨k1,k2,k3⟩:=hk
 obtain ⟨vs,h1,h2,h3,h4⟩:=uW (P:=P) (t:=kt) hr k1 k2 (wb hl)
 have hkey:∀(j:Nat) (p:D×D) (e:MapEntry),es[j]?=some p->c[j]?=some e->RepV K w p.1 e.key:=fun j p e hp he=>by
  obtain ⟨e',g1,_,g3,_⟩:=hc j p hp
  rw [he] at g1;cases g1;exact g3
 have hfk:=uz hl hr k1 k2 es c.toList (by simpa using hlen) k3 (fun j p e hj he=>hkey j p e hj (by simpa using he))
 refine ⟨kt,et,hu,hz,?_,by rw [h1];exact u9 false 8 10000 kt l hl (by decide) vs w h3,?_,fun j hj=>?_⟩
 ·unfold getObj
  simp only [Sem.run,hb]
 ·rw [hfk];simp
 ·obtain ⟨p,hp,hq⟩:=Yk hj
  obtain ⟨e,g1,g2,g3,g4⟩:=hc j p hp
  refine ⟨e,p,g1,hp,g2,g4,?_⟩
  obtain ⟨b1,b2,b3⟩:=k3 p (Nm hp)
  obtain ⟨us,q1,q2,q3,q4⟩:=uW (P:=P) (t:=kt) g3 b1 b2 (wb hl)
  obtain ⟨hev,hsk⟩:=zA k2 b2 b3 h2 q2 h4 q4
  obtain ⟨s1,s2⟩:=gf h3 q3 hsk (hev.trans hq)
  have hsb:Instr.sameBits 10000 e.key v=true:=by
   rw [h1,q1]
   cases ha:j8 P kt
   ·have hl1:=wb hl ha
    have e1:=jv h3
    have e2:=jv q3
    match vs,us,(e1.trans hl1),(e2.trans hl1),s2 with
    | [x],[y],_,_,s2=>simpa [Jw,ha] using s2 10000 (y,x) (.head _)
   ·simp only [Jw,ha,if_true,Instr.sameBits,List.size_toArray,Nn,beq_iff_eq]
    exact ⟨s1,List.all_eq_true.2 fun x hx=>s2 _ x hx⟩
  simp [Instr.keyThatStays,hsb]
theorem vP {b n m:Nat} {c c':Array MapEntry} (hb:w.heap[b]?=some (.map c n)):(setObj b (.map c' m)).run P w= .ok () (w.putObj b (.map c' m)):=by
 simp [setObj,Sem.run,hb,World.putObj]
theorem VG {es:List (D×D)} {c:Array MapEntry} {d x:D} {v u:Value} (hlen:c.size=es.length) (hc:∀(j:Nat) (p:D×D),es[j]?=some p->∃e:MapEntry,c[j]?=some e∧e.born=j∧RepV K w p.1 e.key∧RepV K w p.2 e.val)
  (hd:RepV K w d v) (hx:RepV K w x u):
  (∀i,wy es (cellsOf d)=some i->∀e,c[i]?=some e->∀c':Array MapEntry,c'.size=c.size->(∀j,c'[j]?=if j=i then some {e with key:=v,val:=u} else c[j]?)->
   c'.size=(oG es d x).length∧∀(j:Nat) (p:D×D),(oG es d x)[j]?=some p->∃e:MapEntry,c'[j]?=some e∧e.born=j∧RepV K w p.1 e.key∧RepV K w p.2 e.val)∧
  (wy es (cellsOf d)=none->(c.push {key:=v,val:=u,born:=c.size}).size=(oG es d x).length∧∀(j:Nat) (p:D×D),(oG es d x)[j]?=some p->∃e:MapEntry,(c.push {key:=v,val:=u,born:=c.size})[j]?=some e∧e.born=j∧RepV K w p.1 e.key∧RepV K w p.2 e.val):=by
 constructor
 ·intro i hi e he c' hs hg
  rw [Ys,hi]
  refine ⟨by simp [hs,hlen],fun j p hj=>?_⟩
  rw [List.getElem?_set] at hj
  rw [hg]
  split at hj
  ·rename_i hij
   split at hj
   ·cases hj
    obtain ⟨p,hp,_⟩:=Yk hi
    obtain ⟨e',g1,g2,_⟩:=hc i p hp
    rw [he] at g1;cases g1
    exact ⟨_,by rw [if_pos hij.symm],by rw [<-hij];exact g2,hd,hx⟩
   ·cases hj
  ·rename_i hij
   rw [if_neg (Ne.symm hij)]
   exact hc j p hj
 ·intro hn
  rw [Ys,hn]
  refine ⟨by simp [hlen],fun j p hj=>?_⟩
  rw [List.getElem?_append] at hj
  rw [Array.getElem?_push]
  split at hj
  ·rename_i hlt
   rw [if_neg (by omega)]
   exact hc j p hj
  ·rename_i hge
   have hj0:j - es.length=0:=by
    have:=(List.getElem?_eq_some_iff.1 hj).1
    simp at this
    omega
   rw [hj0] at hj
   cases hj
   rw [if_pos (by omega)]
   exact ⟨_,rfl,by simp only [];omega,hd,hx⟩
theorem rn {o:Oper} {x y z:Operand} (hok:jA o=true) (h:o.op.operands=#[x,y,z]):jP x=true∧jP y=true∧jP z=true:=by
 unfold jA at hok
 simp only [h,Nn] at hok
 simpa using hok.1
theorem fV {o:Oper} {x y:Operand} (hok:jA o=true) (h:o.op.operands=#[x,y]):jP x=true∧jP y=true:=by
 unfold jA at hok
 simp only [h,Nn] at hok
 simpa using hok.1
theorem YI (hs:St K w F H a.tmps) (hok:jA o=true) {t:TypeId} {m i v:Operand} (ho:o.op= .mapUpdate t m i v) (h:aop P ops o F H k):o.wp P a w (uq k K w a.defers) Q:=by
 simp only [aop,ho,ni] at h
 obtain ⟨om,oi,ov⟩:=rn hok (show o.op.operands=#[m,i,v] by rw [ho];rfl)
 split at h
 ·rename_i ag l z b hm hmp
  split at h
  ·rename_i es hg
   obtain ⟨hko,h⟩:=h
   have hmv:a.eval m= .map (some b):=(hmp▸hs.rep om).mp_inv
   obtain ⟨_,c,hb,hlen,hc⟩:=hs.hrel.ok b _ (qW hg)
   obtain ⟨kt,et,hu,hz,q1,q2,q3,q4⟩:=UV (P:=P) hm hb hlen (hs.rep oi) hko hc
   obtain ⟨u1,u2⟩:=VG (x:=rv F v) hlen hc (hs.rep oi) (hs.rep ov)
   have fin:∀c':Array MapEntry,(Instr.mapUpdate t (a.eval m) (a.eval i) (a.eval v)).run P w= .ok () (w.putObj b (.map c' c'.size))->c'.size=(oG es (rv F i) (rv F v)).length∧(∀(j:Nat) (p:D×D),(oG es (rv F i) (rv F v))[j]?=some p->∃e:MapEntry,c'[j]?=some e∧e.born=j∧RepV K w p.1 e.key∧RepV K w p.2 e.val)->
     o.wp P a w (uq k K w a.defers) Q:=fun c' hrun ⟨r1,r2⟩=>by
    obtain ⟨s1,s2,s3⟩:=VJ hs.krel hs.hrel hg r1 r2
    refine od (w':=w.putObj b (.map c' c'.size)) ?_ ⟨_,_,K,h,s1.fk (fun h=>h),hs.put s1 (fun _ _ h=>h) s2 s3 o.dst (fun i _=>RepV.viewO (.tup [] #[] rfl (fun j d u hd=>by simp at hd))),qx _ _⟩
    simp only [execOp,ho,Sem.run_bind,hrun,Result.andThen_ok]
    rfl
   cases hix:wy es (cellsOf (rv F i)) with
   | some j=>
    obtain ⟨e,p,p1,p2,p3,p4,p5⟩:=q4 j hix
    refine fin (c.modify j fun _=>{e with key:=a.eval i,val:=a.eval v}) ?_ (u1 j hix e p1 _ (by simp) (fun q=>?_))
    ·unfold Instr.mapUpdate
     simp only [hmv,Sem.run_bind,run_underlying hu,Result.andThen_ok,q1,q2,q3,hix,Option.bind_some,p1,Option.map_some,Nc,p5]
     rw [vP hb]
     have:(c.modify j fun e=>{e with key:=a.eval i,val:=a.eval v})=c.modify j fun _=>{e with key:=a.eval i,val:=a.eval v}:=by
      apply Array.ext
      ·simp
      ·intro q h1 h2
       simp only [Array.getElem_modify]
       split
       ·rename_i hq
        subst hq
        have:=(Array.getElem?_eq_some_iff.1 p1).2
        rw [this]
       ·rfl
     rw [this]
     simp
    ·rw [Array.getElem?_modify]
     by_cases hq:j=q
     ·subst hq;simp [p1]
     ·rw [if_neg hq,if_neg (Ne.symm hq)]
   | none=>
    refine fin (c.push {key:=a.eval i,val:=a.eval v,born:=c.size}) ?_ (u2 hix)
    unfold Instr.mapUpdate
    simp only [hmv,Sem.run_bind,run_underlying hu,Result.andThen_ok,q1,q2,q3,hix,Option.bind_none]
    rw [vP hb]
    simp
  ·exact h.elim
 ·exact h.elim
theorem WU (hs:St K w F H a.tmps) (hok:jA o=true) {t:TypeId} {m i:Operand} (ho:o.op= .mapEntry t m i) (h:aop P ops o F H k):o.wp P a w (uq k K w a.defers) Q:=by
 simp only [aop,ho,rN] at h
 obtain ⟨om,oi⟩:=fV hok (show o.op.operands=#[m,i] by rw [ho];rfl)
 split at h
 ·rename_i ag l z b hm hmp
  split at h
  ·rename_i es hg
   obtain ⟨hko,hbg,h⟩:=h
   have hmv:a.eval m= .map (some b):=(hmp▸hs.rep om).mp_inv
   obtain ⟨_,c,hb,hlen,hc⟩:=hs.hrel.ok b _ (qW hg)
   obtain ⟨kt,et,hu,hz,q1,q2,q3,q4⟩:=UV (P:=P) hm hb hlen (hs.rep oi) hko hc
   obtain ⟨inf,zv,hi,hzv,hzr⟩:=aL hz
   have hzero:(zeroValue et).run P w= .ok zv w:=by simp [zeroValue,typeInfo,hi,hzv]
   have fin:∀(c':Array MapEntry) (d:D) (x:Value) (n:Nat),RepV K w d x->(ya es (cellsOf (rv F i))).getD z=d->(wy es (cellsOf (rv F i))).getD es.length=n->wP .i64 n->
     (Instr.mapEntry t (a.eval m) (a.eval i)).run P w= .ok (.tuple #[x,.int .i64 n]) (w.putObj b (.map c' c'.size))->c'.size=(oG es (rv F i) d).length∧(∀(j:Nat) (p:D×D),(oG es (rv F i) d)[j]?=some p->∃e:MapEntry,c'[j]?=some e∧e.born=j∧RepV K w p.1 e.key∧RepV K w p.2 e.val)->
     o.wp P a w (uq k K w a.defers) Q:=fun c' d x n hx hd hn hin hrun ⟨r1,r2⟩=>by
    rw [hd,hn] at h
    obtain ⟨s1,s2,s3⟩:=VJ hs.krel hs.hrel hg r1 r2
    refine qP (w':=w.putObj b (.map c' c'.size)) (v:= .tuple #[x,.int .i64 n]) ?_ ⟨_,_,K,h,s1.fk (fun h=>h),hs.put s1 (fun _ _ h=>h) s2 s3 o.dst (fun i _=>RepV.viewO (RepV.tup [d,.int .i64 n] #[x,.int .i64 n] rfl (fun j d' u hd' hu'=>?_))),qx _ _⟩
    ·simp only [execOp,ho,Sem.run_bind,hrun,Result.andThen_ok]
     rfl
    ·match j with
     |0=>simp at hd' hu';subst hd' hu';exact hx.mono s1.ext
     |1=>simp at hd' hu';subst hd' hu';exact .int _ _ hin
     |j+2=>simp at hd'
   have hin:∀n,n<=c.size->wP .i64 n:=fun n hn=>by
    unfold wP
    simp only [Lit.wf,IntKind.min,IntKind.max,IntKind.signed,IntKind.bits,Nn,decide_eq_true_eq]
    simp
    omega
   cases hix:wy es (cellsOf (rv F i)) with
   | some j=>
    obtain ⟨e,p,p1,p2,p3,p4,p5⟩:=q4 j hix
    have hl:(ya es (cellsOf (rv F i))).getD z=p.2:=by rw [zO,hix];simp [p2]
    have hjc:=(Array.getElem?_eq_some_iff.1 p1).1
    refine fin (c.modify j fun _=>{e with key:=a.eval i,val:=e.val}) p.2 e.val j p4 hl (by rw [hix];rfl) (hin j (by omega)) ?_ ((VG hlen hc (hs.rep oi) p4).1 j hix e p1 _ (by simp) (fun q=>?_))
    ·unfold Instr.mapEntry
     simp only [hmv,Sem.run_bind,run_underlying hu,Result.andThen_ok,q1,q2,q3,hix,Option.bind_some,p1,Option.map_some,Nc,p5]
     rw [vP hb]
     have:(c.modify j fun e=>{e with key:=a.eval i})=c.modify j fun _=>{e with key:=a.eval i,val:=e.val}:=by
      apply Array.ext
      ·simp
      ·intro q h1 h2
       simp only [Array.getElem_modify]
       split
       ·rename_i hq
        subst hq
        have:=(Array.getElem?_eq_some_iff.1 p1).2
        rw [this]
       ·rfl
     rw [this]
     simp [goInt,p3]
    ·rw [Array.getElem?_modify]
     by_cases hq:j=q
     ·subst hq;simp [p1]
     ·rw [if_neg hq,if_neg (Ne.symm hq)]
   | none=>
    refine fin (c.push {key:=a.eval i,val:=zv,born:=c.size}) z zv es.length (hzr K w) (by rw [zO,hix];rfl) (by rw [hix];rfl) (hin _ (by omega)) ?_ ((VG hlen hc (hs.rep oi) (hzr K w)).2 hix)
    unfold Instr.mapEntry
    simp only [hmv,Sem.run_bind,run_underlying hu,Result.andThen_ok,q1,q2,q3,hix,Option.bind_none,hzero]
    rw [vP hb]
    simp [goInt,hlen]
  ·exact h.elim
 ·exact h.elim
theorem bJ (hs:St K w F H a.tmps) (hok:jA o=true) {t:TypeId} {m i:Operand} {ok:Bool} (ho:o.op= .lookup t m i ok) (h:Yi P false t H (rv F m) (rv F i) ok fun d=>k (qS F o.dst d) H):o.wp P a w (uq k K w a.defers) Q:=by
 obtain ⟨om,oi⟩:=fV hok (show o.op.operands=#[m,i] by rw [ho];rfl)
 obtain ⟨d,hd,hrun⟩:=Zl h hs.krel hs.hrel (hs.rep om) (hs.rep oi)
 obtain ⟨u,h1,h2⟩:=hrun K w _ _ hs.hrel (hs.rep om) (hs.rep oi)
 refine qP (w':=w) (v:=u) ?_ ⟨_,_,K,hd,.refl K w,hs.put ((Pres.refl K w).keep hs.krel) (fun _ _ h=>h) hs.krel hs.hrel o.dst (fun i _=>h2.viewO),qx _ _⟩
 simp only [execOp,ho,Sem.run_bind,h1,Result.andThen_ok]
 rfl
theorem oU (hs:St K w F H a.tmps) (hok:jA o=true) {t:TypeId} {m s v:Operand} (ho:o.op= .entryStore t m s v) (h:aop P ops o F H k):o.wp P a w (uq k K w a.defers) Q:=by
 simp only [aop,ho,xA] at h
 obtain ⟨om,oi,ov⟩:=rn hok (show o.op.operands=#[m,s,v] by rw [ho];rfl)
 split at h
 ·rename_i b n hmp hsp
  split at h
  ·rename_i es hg
   obtain ⟨h0,h1,h⟩:=h
   obtain ⟨j,rfl⟩:∃j:Nat,n=j:=⟨n.toNat,by omega⟩
   rw [Nd] at h
   have hmv:a.eval m= .map (some b):=(hmp▸hs.rep om).mp_inv
   have hsv:=(hsp▸hs.rep oi).int_inv.1
   obtain ⟨_,c,hb,hlen,hc⟩:=hs.hrel.ok b _ (qW hg)
   have hjl:j<es.length:=by omega
   have hgo:(getObj b).run P w= .ok (.map c c.size) w:=by
    unfold getObj
    simp only [Sem.run,hb]
   have hfind:c.findIdx? (fun e=>(e.born:Int)==(j:Int))=some j:=by
    rw [Array.findIdx?_eq_some_iff_getElem]
    refine ⟨by omega,?_,fun q hq=>?_⟩
    ·obtain ⟨e,e1,e2,_⟩:=hc j _ (Na hjl)
     rw [(Array.getElem?_eq_some_iff.1 e1).2,e2]
     simp
    ·obtain ⟨e,e1,e2,_⟩:=hc q _ (Na (by omega))
     rw [(Array.getElem?_eq_some_iff.1 e1).2,e2]
     simp
     omega
   obtain ⟨s1,s2,s3⟩:=VJ (c':=c.modify j fun e=>{e with val:=a.eval v}) (es':=m9 es j (rv F v)) hs.krel hs.hrel hg (by simp [m9,hlen]) (fun q p hp=>by
    unfold m9 at hp
    rw [List.getElem?_modify] at hp
    obtain ⟨p',hp1,hp2⟩:=Option.map_eq_some_iff.1 hp
    obtain ⟨e,e1,e2,e3,e4⟩:=hc q p' hp1
    rw [Array.getElem?_modify]
    by_cases hq:j=q
    ·subst hq
     simp only [if_true] at hp2
     subst hp2
     exact ⟨{e with val:=a.eval v},by rw [if_pos rfl,e1];rfl,e2,e3,hs.rep ov⟩
    ·rw [if_neg hq]
     simp only [if_neg hq] at hp2
     subst hp2
     exact ⟨e,e1,e2,e3,e4⟩)
   refine od (w':=w.putObj b (.map (c.modify j fun e=>{e with val:=a.eval v}) (c.modify j fun e=>{e with val:=a.eval v}).size)) ?_ ⟨_,_,K,h,s1.fk (fun h=>h),hs.put s1 (fun _ _ h=>h) s2 s3 o.dst (fun i _=>RepV.viewO (.tup [] #[] rfl (fun j d u hd=>by simp at hd))),qx _ _⟩
   have hrun:(Instr.entryStore t (a.eval m) (a.eval s) (a.eval v)).run P w= .ok () (w.putObj b (.map (c.modify j fun e=>{e with val:=a.eval v}) c.size)):=by
    unfold Instr.entryStore
    simp only [hmv,hsv,Sem.run_bind,hgo,Result.andThen_ok,asInt,asIntOf,Sem.run_pure,hfind]
    exact vP hb
   simp only [execOp,ho,Sem.run_bind,hrun,Result.andThen_ok,Array.size_modify]
   rfl
  ·exact h.elim
 ·exact h.elim
theorem tG {z:Array Value} {n sz j:Nat} (hz:z.size=sz) (hp:0<sz) (h:j<n*sz):(Builtin.zeroCells z n)[j]?=z[j % sz]?:=by
 have hm:j % sz<z.size:=by rw [hz];exact Nat.mod_lt _ hp
 unfold Builtin.zeroCells
 rw [Array.getElem?_map,Array.getElem?_range,hz,if_pos h,Option.map_some,getElem!_pos z _ hm]
 exact (Ny hm).symm
theorem UY {α:Type} {l:List α} (hp:0<l.length):∀(n j:Nat),j<n*l.length->(List.replicate n l).flatten[j]?=l[j % l.length]?
 |0,j,h=>by simp at h
 | n+1,j,h=>by
  rw [List.replicate_succ,N1,List.getElem?_append]
  split
  ·rename_i hlt
   rw [Nat.mod_eq_of_lt hlt]
  ·rename_i hge
   have hj:j - l.length<n*l.length:=by rw [Nat.succ_mul] at h;omega
   rw [UY hp n (j - l.length) hj,Nat.mod_eq_sub_mod (a:=j) (b:=l.length) (by omega)]
theorem cT (hs:St K w F H a.tmps) (hok:jA o=true) {c:Call} (ho:o.op= .call c) (hf:c.callee= .builtin .clear) (h:aop P ops o F H k):o.wp P a w (uq k K w a.defers) Q:=by
 simp only [aop,ho,hf,rO] at h
 split at h
 ·rename_i b off n t ha ht
  split at h
  ·rename_i e sz hsl
   split at h
   ·rename_i z cs hz hg
    obtain ⟨hzl,hfit,h⟩:=h
    obtain ⟨hu,hpos,i,hi,his⟩:=ju hsl
    obtain ⟨x,hx,hxd⟩:∃x,c.args=#[x]∧rv F x= .hso b off n:=by
     obtain ⟨x,h1,h2⟩:=List.map_eq_singleton_iff.1 ha
     exact ⟨x,by apply Array.ext';simpa using h1,h2⟩
    have hox:jP x=true:=by
     unfold jA at hok
     simp only [ho,hx,Nn] at hok
     simpa using hok.2
    obtain ⟨cap,hv,hp,_,_,_⟩:=(hxd▸hs.rep hox).hso_inv
    obtain ⟨i',zv,hi',hzv,z1,z2,z3,z4⟩:=ye hz
    have htt:c.argTypes=#[t]:=uN ht
    have hzs:zv.cells.size=sz:=by omega
    have hlen:(Builtin.zeroCells zv.cells n).toList.length=n*sz:=by rw [Array.length_toList,size_zeroCells,hzs]
    have hget:∀(j:Nat) (u:Value),(Builtin.zeroCells zv.cells n).toList[j]?=some u->j<n*sz∧zv.cells[j % sz]?=some u:=fun j u hu=>by
     have hj:j<n*sz:=by rw [<-hlen];exact (List.getElem?_eq_some_iff.1 hu).1
     refine ⟨hj,?_⟩
     rw [<-tG hzs hpos hj,<-Array.getElem?_toList]
     exact hu
    obtain ⟨c',T,q1,q2,q3,q4,q5,q6,_⟩:=Q4 (cs':=cs.take off++((List.replicate n (z.map D.view1)).flatten++cs.drop (off+n*sz))) (vs:=(Builtin.zeroCells zv.cells n).toList) (P:=P) (off:=off) hs.krel hs.hrel hg (K':=K) (.refl K w) hs.krel (fun _ h=>h) (fun _ _ _ _ h=>h)
     (by rw [hlen];exact hfit) (fun v hv=>by
      obtain ⟨j,hj⟩:=List.mem_iff_getElem?.1 hv
      exact (z3 _ _ (hget j v hj).2).1)
     (by simp [hzl];omega) (fun j d hd hj=>by
      rw [hlen] at hj
      rw [List.getElem?_append] at hd
      have hto:(cs.take off).length=off:=by simp;omega
      split at hd
      ·rename_i hlt
       rw [List.getElem?_take] at hd
       split at hd
       ·exact hd
       ·cases hd
      ·rename_i hge
       rw [hto] at hge hd
       rw [Np (by simp [hzl];omega)] at hd
       rw [List.getElem?_drop] at hd
       simp only [List.length_flatten,List.map_replicate,Ni,List.sum_replicate_nat,hzl] at hd
       rw [show off+n*sz+(j - off - n*sz)=j by omega] at hd
       exact hd)
     (fun j d u hd hu=>by
      obtain ⟨hj,hu'⟩:=hget j u hu
      have hto:(cs.take off).length=off:=by simp;omega
      rw [Np (by omega),hto,show off+j - off=j by omega,No (by simp [hzl];omega)] at hd
      rw [UY (by simp;omega) n j (by simp [hzl];exact hj)] at hd
      simp only [Ni,hzl,Nb] at hd
      obtain ⟨d',hd',rfl⟩:=Option.map_eq_some_iff.1 hd
      obtain rfl:=z4 _ d' u hd' hu'
      have hr:=(yc (K:=K) (w:=w) (o:= .outer) (z3 _ _ hu').2).rep
      exact hr.repC (fun xs e=>by rw [e] at hr;exact hr.not_own))
    have hzero:(zeroValue e).run P w= .ok zv w:=by
     rw [hi] at hi';cases hi'
     simp [zeroValue,typeInfo,hi,hzv]
    refine qP (w':=w.setRow b c') (v:= .tuple #[]) ?_ ⟨_,_,K,h,q3,hs.put (q6) (fun _ _ h=>h) q4 q5 o.dst (fun i _=>RepV.viewO (.tup [] #[] rfl (fun j d u hd=>by simp at hd))),qx _ _⟩
    have hrun:(Builtin.clear_ #[t] o.type #[.slice (some ⟨b,off,none⟩) n cap]).run P w= .ok (.tuple #[]) (w.setRow b c'):=by
     have hn:n≠0:=by omega
     unfold Builtin.clear_
     simp only [List.getElem?_toArray,Nk,Sem.run_bind,run_underlying hu,Result.andThen_ok]
     obtain ⟨n',rfl⟩:∃n',n=n'+1:=⟨n - 1,by omega⟩
     simp only [hzero,Result.andThen_ok,q1,Sem.run_pure]
    simp only [execOp,ho,resolve,hf,hx,htt,Sem.run_bind,Sem.run_pure,Result.andThen_ok,invoke,builtin,List.map_toArray,List.map_cons,List.map_nil,hv,hrun]
   ·exact h.elim
  ·exact h.elim
 ·exact h.elim
theorem Qy {α:Type} {xs:Array α} {x y:α} (h:xs.toList= [x,y]):xs=#[x,y]:=by
 apply Array.ext'
 simpa using h
theorem iq (hs:St K w F H a.tmps) (hok:jA o=true) {c:Call} (ho:o.op= .call c) (hf:c.callee= .builtin .copy) (h:aop P ops o F H k):o.wp P a w (uq k K w a.defers) Q:=by
 simp only [aop,ho,hf,nw] at h
 split at h
 ·rename_i b off n s t t2 ha ht
  split at h
  ·rename_i e sz cs hsl hg
   obtain ⟨rfl,hfit,h⟩:=h
   obtain ⟨hu,hpos,i,hi,his⟩:=ju hsl
   obtain ⟨x,y,hx,hxd,hyd⟩:∃x y,c.args=#[x,y]∧rv F x= .hso b off n∧rv F y= .str s:=by
    cases hl:c.args.toList with
    |nil=>rw [hl] at ha;cases ha
    | cons x r=>cases r with
     |nil=>rw [hl] at ha;simp at ha
     | cons y r=>cases r with
      | nil=>
       rw [hl] at ha
       simp only [List.map_cons,List.map_nil,List.cons.injEq,and_true] at ha
       exact ⟨x,y,Qy hl,ha.1,ha.2⟩
      |cons z r=>rw [hl] at ha;simp at ha
   have hoo:jP x=true∧jP y=true:=by
    unfold jA at hok
    simp only [ho,hx,Nn] at hok
    simpa using hok.2
   obtain ⟨cap,hv,hp,_,_,hbig⟩:=(hxd▸hs.rep hoo.1).hso_inv
   obtain ⟨hvs,hb⟩:=(hyd▸hs.rep hoo.2).str_inv
   have htt:c.argTypes=#[t,t2]:=Qy ht
   have hlen:((s.take n).map fun c=>Value.int .u8 c.toNat).length=min s.length n:=by simp [Nat.min_comm]
   obtain ⟨c',T,q1,q2,q3,q4,q5,q6,_⟩:=Q4 (cs':=cs.take off++((s.take n).map (fun c=>D.int .u8 c.toNat)++cs.drop (off+min s.length n))) (vs:=(s.take n).map fun c=>Value.int .u8 c.toNat) (P:=P) (off:=off) hs.krel hs.hrel hg (K':=K) (.refl K w) hs.krel (fun _ h=>h) (fun _ _ _ _ h=>h)
    (by rw [hlen];omega) (fun v hv=>by
     rw [N0] at hv
     obtain ⟨c,_,rfl⟩:=hv
     rfl)
    (by simp;omega) (fun j d hd hj=>by
     rw [hlen] at hj
     rw [List.getElem?_append] at hd
     have hto:(cs.take off).length=off:=by simp;omega
     split at hd
     ·rename_i hlt
      rw [List.getElem?_take] at hd
      split at hd
      ·exact hd
      ·cases hd
     ·rename_i hge
      rw [hto] at hge hd
      rw [Np (by simp;omega)] at hd
      rw [List.getElem?_drop] at hd
      simp only [Ni,Nz] at hd
      rw [show off+min s.length n+(j - off - min n s.length)=j by omega] at hd
      exact hd)
    (fun j d u hd hu=>by
     have hjl:=(List.getElem?_eq_some_iff.1 hu).1
     rw [hlen] at hjl
     have hto:(cs.take off).length=off:=by simp;omega
     rw [Np (by omega),hto,show off+j - off=j by omega,No (by simp;omega)] at hd
     rw [Nb,Nl] at hd hu
     obtain ⟨c1,h1,rfl⟩:=hd
     obtain ⟨c2,h2,rfl⟩:=hu
     rw [h1] at h2
     obtain rfl:=Option.some.inj h2
     refine RepV.int _ _ ?_
     have:=c1.toNat_lt
     exact WalkArith.wf_u8 (by omega))
   have hsz:(⟨⟨s⟩⟩:ByteArray).size=s.length:=rfl
   have hin:wP .i64 ((min s.length n:Nat):Int):=by
    unfold wP
    simp only [Lit.wf,IntKind.min,IntKind.max,IntKind.signed,IntKind.bits,Nn,decide_eq_true_eq]
    unfold big at hb
    simp
    omega
   refine qP (w':=w.setRow b c') (v:= .int .i64 (min s.length n:Nat)) ?_ ⟨_,_,K,h hb,q3,hs.put (q6) (fun _ _ h=>h) q4 q5 o.dst (fun i _=>RepV.viewO (.int _ _ hin)),qx _ _⟩
   have hex:((⟨⟨s⟩⟩:ByteArray).extract 0 (min s.length n)).data.map (fun b=>Value.int .u8 b.toNat)=((s.take n).map fun c=>Value.int .u8 c.toNat).toArray:=by
    rw [ByteArray.data_extract]
    apply Array.ext'
    simp [List.take_eq_take_min,Nat.min_comm]
   have hrun:(Builtin.copy_ #[t,t2] o.type #[.slice (some ⟨b,off,none⟩) n cap,.string ⟨⟨s⟩⟩]).run P w= .ok (.int .i64 (min s.length n:Nat)) (w.setRow b c'):=by
    unfold Builtin.copy_
    have hm:Nat.min s.length n=min s.length n:=rfl
    simp only [List.getElem?_toArray,Nk,Nj,Sem.run_bind,run_underlying hu,Result.andThen_ok,Builtin.lenOf,Sem.run_pure,hsz,sizeOf,typeInfo,run_program,hi,his,Builtin.firstCells,hm,hex,q1]
    rfl
   simp only [execOp,ho,resolve,hf,hx,htt,Sem.run_bind,Sem.run_pure,Result.andThen_ok,invoke,builtin,List.map_toArray,List.map_cons,List.map_nil,hv,hvs,hrun]
  ·exact h.elim
 ·exact h.elim
end
end Go.Aw
end
section
namespace Go.Aw
open Go Go.RowKit
section
variable {P:Program} {ops:List Oper} {o:Oper} {F:List D} {H:AH} {k:List D->AH->Prop} {K:Nat->BK} {w:World} {a:Act} {Q:Exit->Act->World->Prop}
theorem gb {t:TypeId} {n b off:Nat} {ag:Bool} (ht:yr P t=some (ag,n)) {v:Value} (hn:v.cells.size=n) {w':World} (h:(storeCells ⟨b,off,none⟩ v.cells.toList).run P w= .ok () w'):
  (Instr.storeAt t (.pointer (some ⟨b,off,none⟩)) v).run P w= .ok () w':=by
 obtain ⟨h1,h2⟩:=wW ht
 simp [Instr.storeAt,Instr.sureAddr,storeVar,h2,hn,h]
theorem aF {d:D} {v:Value} {i:Nat} (h:RepO K w i d v) (h1:one1 d=true):v.oneCell'=true∧v.cells=#[v]:=by
 cases d<;>simp [one1] at h1
 case own xs=>rcases h with ⟨_,a,rfl⟩|⟨_,_,_,_,_,rfl,_⟩<;>exact ⟨rfl,rfl⟩
 all_goals (cases h<;>exact ⟨rfl,rfl⟩)
theorem AD {i:Nat} {d:D} {v:Value} (h:RepO K w i d v) (h1:one1 d=true):RepC K w (.slot i 0) d v:=by
 cases d<;>simp [one1] at h1<;>exact h
theorem zQ (hs:St K w F H a.tmps) {s:Nat} {d:D} (hev:ev F (.tmp s)=d) (hd:d≠ .any):F[s]?=some d∧a.tmps[s]?=some (a.eval (.tmp s)):=by
 have hlt:s<F.length:=by
  rcases Nv s F.length with h'|h'
  ·exact h'
  ·simp [ev,List.getD,Nw h'] at hev
   exact (hd hev.symm).elim
 have hts:s<a.tmps.size:=by rw [hs.len];exact hlt
 refine ⟨?_,by simp [Act.eval,Ny hts]⟩
 have:F[s]?=some (ev F (.tmp s)):=by simp [ev,List.getD,Na hlt]
 rw [this,hev]
theorem bF (hs:St K w F H a.tmps) (hok:jA o=true) {t:TypeId} {x y:Operand} (ho:o.op= .store t x y) (h:aop P ops o F H k):o.wp P a w (uq k K w a.defers) Q:=by
 simp only [aop,ho] at h
 have hx:jP x=true∧jP y=true:=by
  unfold jA at hok
  simp only [ho,Op.operands,Nn] at hok
  simpa using hok.1
 split at h
 ·rename_i n b off ht hp
  split at h
  ·rename_i cs hg
   obtain ⟨hc,hn,hfit,h⟩:=h
   have hv:=(hp▸hs.rep hx.1).ptr_inv
   obtain ⟨c1,c2,c3⟩:=uA (hs.rep hx.2) hc
   have hsz:(a.eval y).cells.size=n:=by rw [c1,hn]
   obtain ⟨c',T,hrun,_,hfk,hk',hh',hkeep,_⟩:=Q4 (P:=P) (off:=off) (cs':=cs.take off++(cellsOf (rv F y)++cs.drop (off+n))) (vs:=(a.eval y).cells.toList) hs.krel hs.hrel hg (.refl K w) hs.krel (fun _ h=>h) (fun _ _ _ _ h=>h)
    (by simp;omega) (fun v hm=>by
     obtain ⟨j,hj,he⟩:=List.mem_iff_getElem.1 hm
     exact c2 j v (by rw [<-he];simp at hj ⊢)) (by simp;omega)
    (fun j d hd hj=>by
     simp only [Array.length_toList,hsz] at hj
     rcases hj with hj|hj
     ·rw [No (by simp;omega),List.getElem?_take,if_pos hj] at hd;exact hd
     ·have hl1:(cs.take off).length=off:=by simp;omega
      rw [Np (by rw [hl1];omega),hl1,Np (by omega),List.getElem?_drop] at hd
      rw [<-hd];congr 1;omega)
    (fun j d u hd hu=>by
     have hj:j<n:=by rw [<-hsz];simpa using (List.getElem?_eq_some_iff.1 hu).1
     have hl1:(cs.take off).length=off:=by simp;omega
     rw [Np (by rw [hl1];omega),hl1,show off+j - off=j by omega,No (by omega)] at hd
     exact (c3 j d u hd (by simpa using hu)).repC (fun xs e=>by subst e;exact (c3 j _ u hd (by simpa using hu)).not_own))
   have hst:=gb (P:=P) ht hsz hrun
   refine od (w':=w.setRow b c') ?_ ⟨_,_,K,h,hfk,hs.put (E:=n9) (B:=fun x=>x=b) hkeep (fun _ _ h=>h) hk' hh' o.dst (fun i _=>RepV.viewO (.tup [] #[] rfl (fun j d u hd=>by simp at hd))),qx _ _⟩
   simp only [execOp,ho,hv,Sem.run_bind,hst,Result.andThen_ok]
   rfl
  ·exact h.elim
 ·rename_i n b off ht hp
  split at h
  ·rename_i cs hg
   obtain ⟨rfl,hoff,h1,hdst,h⟩:=h
   have hv:=(hp▸hs.rep hx.1).ptr_inv
   have main:∃K',FK K w K' w∧KRel K' w∧(∀b',K b'= .priv->K' b'= .priv)∧(∀b' n c j,K b'= .tok n (.cell c j)->K' b'= .tok n (.cell c j))∧RepC K' w (.cell b off) (ev F y) (a.eval y)∧(a.eval y).oneCell'=true∧(a.eval y).cells=#[a.eval y]∧
     ∃F',(∀H',(match y with| .tmp s=>k (F.set s (rv F y)) H'|_=>k F H')->k F' H')∧F'.length=F.length∧∀(i:Nat) (d:D) (v:Value),F'[i]?=some d->a.tmps[i]?=some v->RepO K' w i d v:=by
    cases y with
    | tmp s=>
     obtain ⟨hF,hT⟩:=zQ hs (s:=s) rfl (fun e=>by rw [e] at h1;simp [one1] at h1)
     have hr:=hs.slot s _ _ hF hT
     obtain ⟨o1,o2⟩:=aF hr h1
     let φ:=mvφ (.slot s 0) (.cell b off)
     have hcv:=RepC.conv (o':= .cell b off) (qA φ K w) (fun b' n hb'=>by rw [qR hb'];simp [φ,mvφ]) (AD hr h1)
     refine ⟨relab φ K,Kv (by simp) (by simp),jN hs.krel,fun b' h=>relab_priv.2 h,fun b' n c j hb'=>by rw [qR hb'];simp [φ,mvφ],hcv,o1,o2,F.set s (rv F (.tmp s)),fun H' h=>h,by simp,fun i d v hd hv=>?_⟩
     rcases getElem?_set_some hd with ⟨rfl,rfl,_⟩|⟨hne,hd⟩
     ·rw [hT] at hv
      obtain rfl:=Option.some.inj hv
      exact (RepV.mono (qA φ K w) hr.rep).viewO
     ·exact zx (fun j e=>by injection e with e _;exact hne e) (hs.slot i d v hd hv)
    | const c=>
     have hr:=yc (K:=K) (w:=w) (o:= .cell b off) hx.2
     have hr0:=Jq (K:=K) (w:=w) c hx.2 0
     obtain ⟨o1,o2⟩:=aF hr0 h1
     exact ⟨K,.refl K w,hs.krel,fun _ h=>h,fun _ _ _ _ h=>h,hr,o1,o2,F,fun H' h=>h,rfl,hs.slot⟩
    |global g=>exact ⟨K,.refl K w,hs.krel,fun _ h=>h,fun _ _ _ _ h=>h,.ptr g 0,rfl,rfl,F,fun H' h=>h,rfl,hs.slot⟩
    |func f=>exact ⟨K,.refl K w,hs.krel,fun _ h=>h,fun _ _ _ _ h=>h,hs.rep (x:= .func f) rfl,rfl,rfl,F,fun H' h=>h,rfl,hs.slot⟩
   obtain ⟨K',hfk0,hk0,hpriv0,hcell,hrc,ho1,ho2,F',hF',hlen',hslots⟩:=main
   obtain ⟨c',T,hrun,_,hfk,hk',hh',hkeep,_⟩:=Q4 (P:=P) (off:=off) (cs':=cs.set off (ev F y)) (vs:= [a.eval y]) hs.krel hs.hrel hg hfk0 hk0 hpriv0 hcell
    (by simp;omega) (fun v hm=>by simp at hm;subst hm;exact ho1) (by simp)
    (fun j d hd hj=>by
     rcases getElem?_set_some hd with ⟨rfl,_,_⟩|⟨_,hd⟩
     ·simp only [Ng,Nh] at hj;omega
     ·exact hd)
    (fun j d u hd hu=>by
     cases j with
     | zero=>
      simp only [Nk,Option.some.injEq] at hu
      subst hu
      rcases getElem?_set_some hd with ⟨_,rfl,_⟩|⟨hne,_⟩
      ·exact hrc
      ·exact (hne rfl).elim
     |succ j=>simp at hu)
   have hst:=gb (P:=P) ht (v:=a.eval y) (by rw [ho2];rfl) (w':=w.setRow b c') (by rw [ho2];exact hrun)
   have hdef:(a.put o.dst undef)=a:=by rw [hdst];rfl
   refine od (w':=w.setRow b c') ?_ ⟨F',_,K',hF' _ (by cases y<;>exact h),hfk,⟨hk',hh',by rw [hdef,hlen'];exact hs.len,fun i d v hd hv'=>?_⟩,qx _ _⟩
   ·simp only [execOp,ho,hv,Sem.run_bind,hst,Result.andThen_ok]
    rfl
   ·rw [hdef] at hv'
    exact (hslots i d v hd hv').keep hkeep (fun _ h=>h)
  ·exact h.elim
 ·exact h.elim
theorem fH (hs:St K w F H a.tmps) (hok:jA o=true) {c:Call} {f:Operand} (ho:o.op= .call c) (hf:c.callee= .value f) (h:aop P ops o F H k):o.wp P a w (uq k K w a.defers) Q:=by
 simp only [aop,ho,hf] at h
 split at h
 ·rename_i g caps hg
  have hall:jP f=true∧c.args.all jP=true:=by
   unfold jA at hok
   simp only [ho,Op.operands,Call.operands,hf,Nn] at hok
   exact ⟨(Array.all_eq_true'.1 hok.1) f (by simp),hok.2⟩
  obtain ⟨fs,vs,hv,hcap⟩:=(hg▸hs.rep hall.1).fn_call
  obtain ⟨hcall,hR⟩:=h
  unfold QJ at hcall
  split at hcall
  ·rename_i fn hfn
   simp only [Nn,Bool.not_eq_true'] at hcall
   have hrun:(execOp a.eval o).run P w= .ok (.enter g (fs++c.args.map a.eval++vs)) w:=by
    have hb:fn.body.isNone=false:=by cases hbb:fn.body<;>simp_all
    simp only [execOp,ho,resolve,hf,hv,Deferred.ofValue,Sem.run_bind,Sem.run_pure,Result.andThen_ok,invoke,callFunc,run_program,hfn,hcall.2,hb,Bool.false_eq_true,if_false]
   obtain ⟨hl,hcap⟩:=hcap (c.args.toList.map (rv F)) (c.args.map a.eval) (by simp) (fun j d v hd hv'=>by
    rw [Nb,Nl] at hd
    rw [Array.getElem?_map,Nl] at hv'
    obtain ⟨x,h1,rfl⟩:=hd
    obtain ⟨y,h2,rfl⟩:=hv'
    rw [Array.getElem?_toList,h2] at h1
    obtain rfl:=Option.some.inj h1
    exact hs.rep ((Array.all_eq_true'.1 hall.2) _ (Array.mem_of_getElem? h2)))
   have hc:=hR (relab outerize K) w (fs++c.args.map a.eval++vs) (jN hs.krel) (Qk K) (yN ⟨fun _ _=>rfl,rfl⟩ hs.hrel) hl (fun j d v hd hv'=>(hcap j d v hd hv').mono (qA outerize K w))
   unfold Oper.wp
   rw [hrun,Oper.upon_enter]
   refine hc.mono fun e w' ⟨v,d,H',K',he,hk,hfk,hk',hh',hr⟩=>?_
   subst he
   have key:∀dst,(∀i,o.dst=some i->i=dst)->St (kZ K K' dst) w' (qS F o.dst d) H' (a.put o.dst v).tmps:=by
    intro dst hd
    obtain ⟨hkeep,hext⟩:=vw hfk dst
    have hkr:KRel (kZ K K' dst) w':=fun b hb=>by simp [kZ,hk' b hb]
    have hhr:HRel (kZ K K' dst) w' H':=hh'.conv hext (fun b h=>by simp [kZ,h]) (fun b n c j hb=>by simp [kZ,hb])
    exact hs.put hkeep (fun _ _ h=>h) hkr hhr o.dst (fun i hi=>by
      obtain rfl:=hd i hi
      exact hr.conv hext (fun b n j hb=>by simp [kZ,hb]))
   have hkk:=hk hr.rep.fact
   cases hd:o.dst with
   |none=>exact ⟨_,H',_,hkk,(vw hfk 0).1.fk (fun h=>h),hd▸key 0 (fun i hi=>by rw [hd] at hi;cases hi),qx _ _⟩
   |some t=>exact ⟨_,H',_,hkk,(vw hfk t).1.fk (fun h=>h),hd▸key t (fun i hi=>by rw [hd] at hi;exact (Option.some.inj hi).symm),qx _ _⟩
  ·cases hcall
 ·exact h.elim
theorem yl {α:Type} {xs:Array α} {x y:α} (h:xs.toList= [x,y]):xs=#[x,y]:=by
 obtain ⟨l⟩:=xs
 simp at h
 simp [h]
theorem Y7 (hs:St K w F H a.tmps) (hok:jA o=true) {c:Call} (ho:o.op= .call c) (hf:c.callee= .builtin .append) (h:aop P ops o F H k):o.wp P a w (uq k K w a.defers) Q:=by
 simp only [aop,ho,hf] at h
 split at h
 ·rename_i s x t u d hargs htys hd
  split at h
  ·rename_i xs e sz bs hev hap
   obtain ⟨hF,hT⟩:=zQ hs hev (by simp)
   have hown:OwnAt K w (.slot s 0) xs (a.eval (.tmp s)):=hs.slot s _ _ hF hT
   have hx:jP x=true:=by
    unfold jA at hok
    simp only [ho,Op.operands,Call.operands,hf,Nn] at hok
    exact (Array.all_eq_true'.1 hok.2) x (by rw [yl hargs];simp)
   have fin:∀ys:List (List D),(∀y∈xs,y.length=sz)->Src P w K sz ys (a.eval x)->(xs.length+ys.length)*bs<=140737488355328->k ((F.set s (.slc xs)).set d (.own (xs++ys))) H->o.wp P a w (uq k K w a.defers) Q:=by
    intro ys hxs hsrc hb hk
    obtain ⟨r,K',w',hrun,hkeep,hk',hh',hown'⟩:=Ww (P:=P) (ty:=o.type) hs.krel hs.hrel hap (s:= .slot s 0) (d:= .slot d 0) (by simp) (by simp) (by simp) hown hxs hsrc hb
    refine qP (v:=r) (w':=w') ?_ ⟨_,H,K',hk,hkeep.fk (by simp),⟨hk',hh',by rw [hd];simpa [Act.put] using hs.len,fun i dd v hdd hv=>?_⟩,qx _ _⟩
    ·simp only [execOp,ho,resolve,hf,Sem.run_bind,Sem.run_pure,Result.andThen_ok,invoke,builtin,yl hargs,yl htys]
     simp [hrun]
    ·rw [hd] at hv
     simp only [Act.put] at hv
     rcases getElem?_set_some hdd with ⟨rfl,rfl,hl⟩|⟨hne,hdd⟩
     ·rw [Array.getElem?_setIfInBounds_self_of_lt (by rw [hs.len];simpa using hl)] at hv
      obtain rfl:=Option.some.inj hv
      exact hown'
     ·rw [Array.getElem?_setIfInBounds_ne hne] at hv
      rcases getElem?_set_some hdd with ⟨rfl,rfl,_⟩|⟨hne2,hdd⟩
      ·rw [hT] at hv
       obtain rfl:=Option.some.inj hv
       exact (RepV.mono hkeep.ext hown.rep).viewO
      ·exact (hs.slot i dd v hdd hv).keep hkeep (fun j e=>by injection e with e _;exact hne2 e.symm)
   split at h
   ·rename_i ys hy
    obtain ⟨h1,h2,h3,h4⟩:=h
    have hpos:0<sz:=(ju (z6 hap).1).2.1
    exact fin ys h1 (o0 (hy▸hs.rep hx) h2 hpos) h3 h4
   ·rename_i l hy
    obtain ⟨rfl,h2,h3,h4⟩:=h
    exact fin _ h2 (G2 (hy▸hs.rep hx)) (by simpa using h3) h4
   ·rename_i b off n hy
    split at h
    ·rename_i cs hg
     obtain ⟨rfl,h1,h2,h3,h4⟩:=h
     refine fin _ h2 (Ym hs.hrel (hy▸hs.rep hx) hg h1) ?_ h4
     rw [Ni,Nz,List.length_drop,Nat.min_eq_left (by omega)]
     exact h3
    ·exact h.elim
   ·exact h.elim
  ·exact h.elim
 ·exact h.elim
theorem iT (hs:St K w F H a.tmps) (hok:jA o=true) {t:TypeId} {s:Nat} (ho:o.op= .load t (.tmp s)) (h:aop P ops o F H k):o.wp P a w (uq k K w a.defers) Q:=by
 simp only [aop,ho] at h
 split at h
 ·rename_i d hd
  split at h
  ·split at h
   ·rename_i n b off ht hp
    split at h
    ·rename_i cs hg
     split at h
     ·rename_i xs hc
      have hv:=(hp▸hs.rep (x:= .tmp s) rfl).ptr_inv
      obtain ⟨hpb,c,T,hb,hcs,hr⟩:=hs.hrel.ok b _ (qW hg)
      obtain ⟨u,e1,e2,e3⟩:=hr off _ hc
      have hcell:w.cell? ⟨b,off,none⟩=some u:=by rw [jU hb];exact e1
      let φ:=mvφ (.cell b off) (.slot d 0)
      have hfk:FK K w (relab φ K) w:=Kv (by simp) (by simp)
      have hcv:OwnAt (relab φ K) w (.slot d 0) xs u:=OwnAt.conv (qA φ K w) (fun b' n hb'=>by rw [qR hb'];simp [φ,mvφ]) e3
      refine qP (v:=u) (w':=w) ?_ ⟨_,_,relab φ K,h,hfk,⟨jN hs.krel,⟨by rw [jW];exact hs.hrel.nd,fun b' o' hm=>?_⟩,by rw [hd];simpa [Act.put] using hs.len,fun i dd v hdd hv'=>?_⟩,qx _ _⟩
      ·simp only [execOp,ho,hv,Sem.run_bind,wL ht b off u hcell,Result.andThen_ok]
       rfl
      ·have conv:∀(b':Nat) (cs':List D),b'≠b->AO.at_ K w b' (.cells cs')->AO.at_ (relab φ K) w b' (.cells cs'):=by
        rintro b' cs' hne ⟨g1,c',T',g2,g3,g4⟩
        refine ⟨relab_priv.2 g1,c',T',g2,g3,fun j d' hd'=>?_⟩
        obtain ⟨u',q1,q2,q3⟩:=g4 j d' hd'
        exact ⟨u',q1,q2,q3.conv (qA φ K w) (fun b'' n hb''=>by
         rw [qR hb'']
         simp only [φ,mvφ,BK.tok.injEq,true_and]
         rw [if_neg]
         intro e
         injection e with e _
         exact hne e)⟩
       rcases kY hs.hrel.nd hm with ⟨rfl,rfl⟩|⟨hne,hm⟩
       ·refine ⟨relab_priv.2 hpb,c,T,hb,by simpa using hcs,fun j d' hd'=>?_⟩
        rcases getElem?_set_some hd' with ⟨rfl,rfl,_⟩|⟨hnej,hd'⟩
        ·exact ⟨u,e1,e2,RepV.mono (qA φ K w) (OwnAt.rep e3)⟩
        ·obtain ⟨u',q1,q2,q3⟩:=hr j d' hd'
         exact ⟨u',q1,q2,q3.conv (qA φ K w) (fun b'' n hb''=>by
          rw [qR hb'']
          simp only [φ,mvφ,BK.tok.injEq,true_and]
          rw [if_neg]
          intro e
          injection e with _ e
          exact hnej e.symm)⟩
       ·cases o' with
        |cells cs'=>exact conv b' cs' hne (hs.hrel.ok b' _ hm)
        | room cap' xs'=>
         have hro:=hs.hrel.ok b' _ hm
         exact ⟨hro.1,hro.2.conv (qA φ K w) (fun b'' n hb''=>by
          rw [qR hb'']
          simp only [φ,mvφ,BK.tok.injEq,true_and]
          rw [if_neg]
          intro e
          injection e with e _
          exact hne e)⟩
        |cst cs'=>exact CstAt.ext (hs.hrel.ok b' _ hm) (qA φ K w)
        | mp es'=>
         have hro:=hs.hrel.ok b' _ hm
         exact ⟨relab_priv.2 hro.1,hro.2.ext (qA φ K w) rfl⟩
        | lp J pre=>
         have hc:∀c n j,K c= .tok n (.cell b' j)->relab φ K c= .tok n (.cell b' j):=fun c n j hb''=>by
          rw [qR hb'']
          simp only [φ,mvφ,BK.tok.injEq,true_and]
          rw [if_neg]
          intro e
          injection e with e _
          exact hne e
         obtain ⟨⟨n,j,h1⟩,h2,h3⟩:=hs.hrel.ok b' _ hm
         exact ⟨⟨n,j,hc _ _ _ h1⟩,h3 pre K w _ w h2 fun c n j h=>⟨hc c n j h,rfl⟩,h3⟩
      ·rw [hd] at hv'
       simp only [Act.put] at hv'
       rcases getElem?_set_some hdd with ⟨rfl,rfl,hl⟩|⟨hne,hdd⟩
       ·rw [Array.getElem?_setIfInBounds_self_of_lt (by rw [hs.len];exact hl)] at hv'
        obtain rfl:=Option.some.inj hv'
        exact hcv
       ·rw [Array.getElem?_setIfInBounds_ne hne] at hv'
        exact zx (fun j e=>by cases e) (hs.slot i dd v hdd hv')
     ·rename_i b' n' c' hc
      exact vn hs hok (by rw [ho,hd];simp only [qY,ht,hp,hg,hc];exact fun _=>h)
     ·exact h.elim
    ·exact h.elim
   ·exact h.elim
  ·exact vn hs hok (by simpa only [ho,hd] using h)
 ·rename_i hd
  exact vn hs hok (by simpa only [ho,hd] using h)
theorem gm {t e:TypeId} (ht:P.underlying t=some (.slice e)) (w:World) (ad:Option Addr) (n c d:Nat):(Op.equalIn (d+1) t (.slice ad n c) (.slice none 0 0)).run P w= .ok ad.isNone w:=by
 cases ad<;>simp [Op.equalIn,run_underlying ht]
theorem WQ {t e:TypeId} (ht:P.underlying t=some (.slice e)) (w:World) (ad:Option Addr) (n c:Nat):(binOp .eql t (.slice ad n c) (.slice none 0 0)).run P w= .ok (.bool ad.isNone) w:=by
 have:binOp .eql t (.slice ad n c) (.slice none 0 0)=(do pure (.bool (<-Op.equal t (.slice ad n c) (.slice none 0 0)))):=rfl
 rw [this,Sem.run_bind,show Op.equal t (.slice ad n c) (.slice none 0 0)=Op.equalIn (9999+1) t (.slice ad n c) (.slice none 0 0) from rfl,gm ht]
 rfl
theorem Wx {t e:TypeId} (ht:P.underlying t=some (.slice e)) (w:World) (ad:Option Addr) (n c:Nat):(binOp .neq t (.slice ad n c) (.slice none 0 0)).run P w= .ok (.bool (!ad.isNone)) w:=by
 have:binOp .neq t (.slice ad n c) (.slice none 0 0)=(do pure (.bool (!(<-Op.equal t (.slice ad n c) (.slice none 0 0))))):=rfl
 rw [this,Sem.run_bind,show Op.equal t (.slice ad n c) (.slice none 0 0)=Op.equalIn (9999+1) t (.slice ad n c) (.slice none 0 0) from rfl,gm ht]
 rfl
theorem lD (hs:St K w F H a.tmps) (hok:jA o=true) {bo:BinOp} {t ty:TypeId} {x y:Operand} (ho:o.op= .binOp bo t x y ty) (h:aop P ops o F H k):o.wp P a w (uq k K w a.defers) Q:=by
 simp only [aop,ho] at h
 split at h
 ·rename_i hn
  obtain rfl:y= .const (.slice none 0 0):=by
   unfold gH at hn
   split at hn
   ·rfl
   ·cases hn
  have hx:jP x=true:=by
   unfold jA at hok
   simp only [ho,Op.operands,Nn] at hok
   have:=hok.1
   simp at this
   exact this.1
  have hr:=hs.rep hx
  unfold nilcmp at h
  split at h
  ·rename_i xs hxs
   rw [hxs] at hr
   obtain ⟨hsl,h⟩:=h
   obtain ⟨⟨e,sz⟩,hsl⟩:=Option.isSome_iff_exists.1 hsl
   obtain ⟨ht,_⟩:=ju hsl
   have hform:∃ad n c,a.eval x= .slice ad n c∧(ad=none->xs= []):=by
    rcases hr.slc_inv with ⟨rfl,ad,hv⟩|⟨b,off,cap,sz',f,hv,_⟩
    ·exact ⟨_,_,_,hv,fun _=>rfl⟩
    ·exact ⟨_,_,_,hv,fun e=>by cases e⟩
   obtain ⟨ad,n,c,hv,hne⟩:=hform
   have put:∀(b:Bool),k (qS F o.dst (.bool b)) H->(execOp a.eval o).run P w= .ok (.value (.bool b)) w->o.wp P a w (uq k K w a.defers) Q:=fun b hk hrun=>
    qP hrun ⟨_,H,K,hk,.refl K w,hs.put ((Pres.refl K w).keep hs.krel) (fun _ _ h=>h) hs.krel hs.hrel o.dst (fun i _=>RepV.viewO (.bool b)),qx _ _⟩
   have hrun:∀v,(binOp bo t (.slice ad n c) (.slice none 0 0)).run P w= .ok v w->(execOp a.eval o).run P w= .ok (.value v) w:=fun v hv'=>by
    have hy:a.eval (.const (.slice none 0 0))= .slice none 0 0:=rfl
    have hg:eqGuard bo t x (.const (.slice none 0 0)) (.slice ad n c) (.slice none 0 0)=pure ():=by cases bo<;>rfl
    simp only [execOp,ho]
    rw [hv,hy,hg,Sem.run_bind,Sem.run_bind,Sem.run_pure,Result.andThen_ok,hv']
    rfl
   split at h
   ·cases ad with
    |none=>exact put true (h.1 (hne rfl)) (hrun _ (WQ ht _ _ _ _))
    |some ad=>exact put false h.2 (hrun _ (WQ ht _ _ _ _))
   ·cases ad with
    |none=>exact put false (h.1 (hne rfl)) (hrun _ (Wx ht _ _ _ _))
    |some ad=>exact put true h.2 (hrun _ (Wx ht _ _ _ _))
   ·exact h.elim
  ·exact h.elim
 ·exact vn hs hok (by simpa only [ho] using h)
theorem kS (hs:St K w F H a.tmps) (hok:jA o=true) (h:aop P ops o F H k):o.wp P a w (uq k K w a.defers) Q:=by
 have hopnd:∀x,o.op.operands=#[x]->jP x=true:=fun x hx=>by
  unfold jA at hok
  simp only [hx,Nn] at hok
  simpa using hok.1
 cases ho:o.op
 case move x=>
  cases x with
  |tmp s=>exact io hs ho h
  |_=>exact WJ hs (hopnd _ (by rw [ho];rfl)) (fun s e=>by cases e) (by simp [execOp,ho]) (by simpa only [aop,ho] using h)
 case assign x=>
  cases x with
  |tmp s=>exact ZV hs ho h
  |_=>exact WJ hs (hopnd _ (by rw [ho];rfl)) (fun s e=>by cases e) (by simp [execOp,ho]) (by simpa only [aop,ho] using h)
 case extract x ix=>
  cases x with
  |tmp s=>exact Uc hs ho h
  |_=>exact vn hs hok (by simpa only [aop,ho] using h)
 case alloc t=>exact cf hs ho h
 case box t x=>exact mI hs hok ho h
 case makeMap t r=>exact UN hs ho h
 case mapUpdate t m i v=>exact YI hs hok ho h
 case mapEntry t m i=>exact WU hs hok ho h
 case entryStore t m s v=>exact oU hs hok ho h
 case store t x y=>exact bF hs hok ho h
 case binOp bo t x y ty=>exact lD hs hok ho h
 case load t x=>
  cases x with
  |tmp s=>exact iT hs hok ho h
  |_=>exact vn hs hok (by simpa only [aop,ho] using h)
 case call c=>
  cases hf:c.callee with
  |value f=>exact fH hs hok ho hf h
  |invoke r m=>exact vn hs hok (by simpa only [aop,ho,hf] using h)
  | builtin b=>
   cases b
   case append=>exact Y7 hs hok ho hf h
   case clear=>exact cT hs hok ho hf h
   case copy=>exact iq hs hok ho hf h
   all_goals exact vn hs hok (by simpa only [aop,ho,hf] using h)
 all_goals exact vn hs hok (by simpa only [aop,ho] using h)
end
end Go.Aw
end
section
namespace Go.Aw
open Go Go.RowKit
def gst (ops:List Oper) (F:List D) (o:Oper):Option Bool:=
  match o.guard with
  |none=>some true
  | some (j,want)=>match (ops[j]?).bind (·.dst) with
    | some t=>match F.getD t .any with
      | .bool b=>some (b==want)
      | .tup _=>some false
      |_=>none
    |none=>some false
def aops (P:Program) (ops:List Oper):List Oper->List D->AH->(List D->AH->Prop)->Prop
  | [],F,H,k=>k F H
  | o::r,F,H,k=>match o.guard with
    |none=>aop P ops o F H fun F' H'=>aops P ops r F' H' k
    | some (j,want)=>match (ops[j]?).bind (·.dst) with
      | some t=>match F.getD t .any with
        | .bool b=>(b=want->aop P ops o F H fun F' H'=>aops P ops r F' H' k)∧(b=(!want)->aops P ops r (qS F o.dst (.tup [])) H k)
        | .tup _=>aops P ops r (qS F o.dst (.tup [])) H k
        |_=>False
      |none=>aops P ops r (qS F o.dst (.tup [])) H k
section
variable {P:Program} {ops:Array Oper} {o:Oper} {F:List D} {H:AH} {k:List D->AH->Prop} {K:Nat->BK} {w:World} {a:Act} {Q:Exit->Act->World->Prop}
theorem kg (hs:St K w F H a.tmps) (h:gst ops.toList F o=some b):Region.wanted o (yielded ops a.tmps)=b:=by
  unfold gst at h
  unfold Region.wanted
  cases hg:o.guard with
  |none=>simp only [hg,Option.some.injEq] at h;exact h
  | some g=>
    obtain ⟨j,want⟩:=g
    simp only [hg] at h ⊢
    unfold yielded
    simp only [Array.getElem?_toList] at h
    cases hd:(ops[j]?).bind (·.dst) with
    |none=>simp only [hd,Option.some.injEq] at h;subst h;rfl
    | some t=>
      simp only [hd] at h
      simp only [Option.bind_some]
      have key:∀d:D,F.getD t .any=d->d≠ .any->∃v,a.tmps[t]?=some v∧RepO K w t d v:=by
        intro d h1 h2
        have hlt:t<F.length:=by
          rcases Nv t F.length with h'|h'
          · exact h'
          · simp [List.getD,Nw h'] at h1;exact (h2 h1.symm).elim
        have hF:F[t]?=some d:=by rw [<-h1];simp [List.getD,Na hlt]
        have hts:t<a.tmps.size:=by rw [hs.len];exact hlt
        exact ⟨_,Ny hts,hs.slot t d _ hF (Ny hts)⟩
      split at h
      · rename_i bb hb
        obtain ⟨v,h1,h2⟩:=key _ hb (by simp)
        rw [h1,RepV.bool_inv h2]
        simp only [Option.some.injEq] at h
        simp only [<-h]
        cases bb<;>cases want<;>rfl
      · rename_i ds hb
        obtain ⟨v,h1,vs,rfl,_⟩:=key _ hb (by simp)
        grind
      · cases h
theorem undef_rep:RepV K w (.tup []) undef:= .tup [] #[] rfl (fun j d u hd=>by simp at hd)
theorem wJ (hs:St K w F H a.tmps) (dst:Option Tmp):St K w (qS F dst (.tup [])) H (a.put dst undef).tmps:=
  hs.put ((Pres.refl K w).keep hs.krel) (fun _ _ h=>h) hs.krel hs.hrel dst (fun i _=>undef_rep.viewO)
theorem ot (hQ:∀a' w',uq k K w a.defers a' w'->Q .normal a' w'):∀(l:List Oper) (F:List D) (H:AH) (K1:Nat->BK) (w1:World) (a1:Act),(∀o∈l,jA o=true)->St K1 w1 F H a1.tmps->FK K w K1 w1->a1.defers=a.defers->
    aops P ops.toList l F H k->wpList P ops Q l a1 w1
  | [],F,H,K1,w1,a1,_,hs,hfk,hd,h=>wpList_nil (hQ a1 w1 ⟨F,H,K1,h,hfk,hs,hd⟩)
  | o::r,F,H,K1,w1,a1,hok,hs,hfk,hd,h=>by
    have hgo:aop P ops.toList o F H (fun F' H'=>aops P ops.toList r F' H' k)->o.wp P a1 w1 (wpList P ops Q r) Q:=fun h=>by
      refine Oper.wp_mono (fun a2 w2 h2=>?_) (kS (Q:=Q) hs (hok o (.head _)) h)
      obtain ⟨F',H',K',g1,g2,g3,g4⟩:=h2
      exact ot hQ r F' H' K' w2 a2 (fun o ho=>hok o (.tail _ ho)) g3 (hfk.trans g2) (g4.trans hd) g1
    have hskip:aops P ops.toList r (qS F o.dst (.tup [])) H k->wpList P ops Q r (a1.put o.dst undef) w1:=fun h=>
      ot hQ r _ H K1 w1 _ (fun o ho=>hok o (.tail _ ho)) (wJ hs o.dst) hfk ((qx o.dst undef).trans hd) h
    have hw:=fun b=>kg (ops:=ops) (o:=o) hs (b:=b)
    unfold gst at hw
    unfold wpList
    cases hg:o.guard with
    | none=>
      simp only [aops,hg] at h
      simp only [hg] at hw
      rw [if_pos (hw true rfl)]
      exact .inl (hgo h)
    | some g=>
      obtain ⟨j,want⟩:=g
      simp only [aops,hg] at h
      simp only [hg] at hw
      cases hdd:(ops.toList[j]?).bind (·.dst) with
      | none=>
        simp only [hdd] at h hw
        rw [if_neg (by rw [hw false rfl];simp)]
        exact hskip h
      | some t=>
        simp only [hdd] at h hw
        split at h
        · rename_i b hb
          simp only [hb] at hw
          by_cases e:b=want
          · rw [if_pos (by rw [hw true (by simp [e])])]
            exact .inl (hgo (h.1 e))
          · rw [if_neg (by rw [hw false (by simp [e])];simp)]
            exact hskip (h.2 (by cases b<;>cases want<;>simp_all))
        · rename_i ds hb
          simp only [hb] at hw
          rw [if_neg (by rw [hw false rfl];simp)]
          exact hskip h
        · exact h.elim
end
structure Eff where
  tk:Option (Nat×D)
  d:D
def Eff.app (e:Eff) (dst:Option Tmp) (G:List D):List D:=qS (match e.tk with|some (s,v)=>G.set s v|none=>G) dst e.d
def QX (ops:List Oper) (o:Oper):Option Nat:=
  match o.op with
  | .move (.tmp s)=>match o.dst with
    |some d=>if takes ops d=true then some s else none
    |none=>none
  | .assign (.tmp s)=>some s
  | .call c=>match c.callee with
    | .builtin .append=>match c.args.toList with
      | [.tmp s,_]=>some s
      |_=>none
    |_=>none
  | .store _ _ (.tmp s)=>some s
  |_=>none
def tapart (ops:Array Oper) (x y:Oper):Bool:=
  (match QX ops.toList x with
   |some s=>!(y.looksAt ops).contains s&&y.dst !=some s
   |none=>true)&&
  (match QX ops.toList y with
   |some s=>!(x.looksAt ops).contains s&&x.dst !=some s
   |none=>true)
def Up:AO->AO
  | .cells cs=>.cells (cs.map D.view1)
  |o=>o
def Sub (H0 H:AH):Prop:=∀b o,qn H0 b=some o->∃o',qn H b=some o'∧(o=o'∨o=Up o')
theorem Sub.refl (H:AH):Sub H H:=fun _ o h=>⟨o,h,.inl rfl⟩
theorem Sub.of (h:∀b o,qn H0 b=some o->qn H b=some o):Sub H0 H:=fun b o hb=>⟨o,h b o hb,.inl rfl⟩
def jJ (P:Program) (ops:List Oper) (o:Oper) (F:List D) (H:AH) (k:List D->Prop):Prop:=
  match o.op with
  | .alloc _=>False
  | .box _ _=>False
  | .store _ _ _=>False
  | .makeMap _ _=>False
  | .mapUpdate _ _ _ _=>False
  | .mapEntry _ _ _=>False
  | .entryStore _ _ _ _=>False
  | .extract (.tmp s) ix=>match o.dst,ev F (.tmp s) with
    | some d,.tup ds=>match ds[ix]? with
      |some c=>fact c.view1->k (F.set d c.view1)
      |none=>False
    |_,_=>False
  | .load _ _=>qY P (rv F) H o.op fun d=>k (qS F o.dst d)
  | .binOp _ _ _ _ _=>qY P (rv F) H o.op fun d=>k (qS F o.dst d)
  | .call c=>match c.callee with
    | .value f=>match rv F f with
      | .fn g caps=>∃d,(∀H1,Sub H H1->ACall P g (uv (c.args.toList.map (rv F)) caps) H1 (fun d' H'=>d'=d∧H'=H1))∧(fact d.view->k (qS F o.dst d))
      |_=>False
    | .builtin .clear=>False
    | .builtin .copy=>False
    |_=>aop P ops o F H fun F' _=>k F'
  |_=>aop P ops o F H fun F' _=>k F'
def yf (P:Program) (ops:List Oper):List Oper->List D->AH->(List D->Prop)->Prop
  | [],F,_,k=>k F
  | o::r,F,H,k=>match o.guard with
    |none=>jJ P ops o F H fun F'=>yf P ops r F' H k
    | some (j,want)=>match (ops[j]?).bind (·.dst) with
      | some t=>match F.getD t .any with
        | .bool b=>(b=want->jJ P ops o F H fun F'=>yf P ops r F' H k)∧(b=(!want)->yf P ops r (qS F o.dst (.tup [])) H k)
        | .tup _=>yf P ops r (qS F o.dst (.tup [])) H k
        |_=>False
      |none=>yf P ops r (qS F o.dst (.tup [])) H k
def d5 (P:Program) (H:AH) (o:Oper) (F:List D) (e:Eff):Prop:=
  ∀ (K:Nat->BK) (w:World) (a:Act) (G:List D) (Q:Exit->Act->World->Prop),St K w G H a.tmps->(∀t,.tmp t∈o.op.operands.toList->G.getD t .any=F.getD t .any)->G.length=F.length->
    o.wp P a w (uq (fun G' H'=>G'=e.app o.dst G∧H'=H) K w a.defers) Q
section
variable {P:Program} {ops:List Oper} {o:Oper} {F:List D} {H:AH} {K:Nat->BK} {w:World} {a:Act}
theorem jw {G:List D} {xs:List Operand} (h:∀t,.tmp t∈xs->G.getD t .any=F.getD t .any) {x:Operand} (hx:x∈xs):ev G x=ev F x:=by
  cases x<;>first|rfl|exact h _ hx
theorem fS (hs:St K w F H a.tmps) (hok:jA o=true) {k:List D->Prop} (h:qY P (rv F) H o.op fun d=>k (qS F o.dst d)):∃e:Eff,k (e.app o.dst F)∧e.tk=none∧d5 P H o F e:=by
  have hr:=hs.ops (xs:=o.op.operands) (by unfold jA at hok;simp only [Nn] at hok;exact hok.1)
  obtain ⟨d,hd,hy⟩:=gL h ⟨K,w,a.eval,hs.krel,hs.hrel,hr⟩
  refine ⟨⟨none,d⟩,hd,rfl,fun K w a G Q hs hG hlen=>?_⟩
  have hr:∀x∈o.op.operands.toList,RepV K w (rv F x) (a.eval x):=fun x hx=>by
    have:=hs.ops (xs:=o.op.operands) (by unfold jA at hok;simp only [Nn] at hok;exact hok.1) x hx
    unfold rv at this ⊢
    grind [jw]
  obtain ⟨v,K',w',h1,h2,h3,h4⟩:=hy K w a.eval (o.dst.getD 0) hs.krel hs.hrel hr
  exact qP h1 ⟨_,H,K',⟨rfl,rfl⟩,h2.fk hs.krel,hs.put (h2.keep hs.krel) (fun _ _ h=>h) h3 (hs.hrel.pres hs.krel h2) o.dst (fun i hi=>by rw [hi] at h4;exact h4),qx _ _⟩
theorem oe {next:Act->World->Prop} (h:o.wp P a w next (fun _ _ _=>False)):∃a' w',next a' w':=by
  unfold Oper.wp at h
  generalize (execOp a.eval o).run P w=r at h
  cases r with
  | ok n w'=>
    cases n<;>simp only [Oper.upon] at h<;>first
      |exact ⟨_,_,h⟩
      |exact h.elim
      |skip
    · obtain ⟨e,w'',fr,hR,_⟩:=h []
      cases e with
      |returned v=>exact ⟨_,_,hR⟩
      |panicked c=>exact hR.elim
      |outgrown=>obtain ⟨_,_,h⟩:=hR;exact h.elim
    · obtain ⟨v,w'',hR,_⟩:=h (default:Frame) []
      exact ⟨_,_,hR⟩
  |halt x w'=>cases x<;>simp only [Oper.upon] at h
theorem jt (hok:jA o=true) (h:∀G:List D,(∀t,.tmp t∈o.op.operands.toList->G.getD t .any=F.getD t .any)->G.length=F.length->aop P ops o G H (fun G' H'=>G'=e.app o.dst G∧H'=H)):d5 P H o F e:=
  fun K w a G Q hs hG hlen=>kS hs hok (h G hG hlen)
theorem dF (hs:St K w F H a.tmps) (hok:jA o=true) {k:List D->Prop} (h:jJ P ops o F H k):∃e:Eff,k (e.app o.dst F)∧(∀s v,e.tk=some (s,v)->QX ops o=some s)∧d5 P H o F e:=by
  have viaVal:∀h:qY P (rv F) H o.op (fun d=>k (qS F o.dst d)),∃e:Eff,k (e.app o.dst F)∧(∀s v,e.tk=some (s,v)->QX ops o=some s)∧d5 P H o F e:=fun h=>by
    obtain ⟨e,h1,h2,h3⟩:=fS hs hok h
    grind
  have evG:∀(s:Nat),.tmp s∈o.op.operands.toList->∀G:List D,(∀t,.tmp t∈o.op.operands.toList->G.getD t .any=F.getD t .any)->ev G (.tmp s)=ev F (.tmp s):=fun s hm G hG=>hG s hm
  cases ho:o.op
  case move x=>
    cases x with
    | tmp s=>
      simp only [jJ,aop,ho] at h
      cases hd:o.dst with
      | none=>
        simp only [hd] at h
        refine ⟨⟨none,.any⟩,h,fun s v hsv=>(by cases hsv),jt (ops:=ops) hok fun G hG hlen=>?_⟩
        simp only [aop,ho,hd]
        exact ⟨rfl,by trivial⟩
      | some d=>
        simp only [hd] at h
        by_cases ht:takes ops d=true
        · rw [if_pos ht] at h
          refine ⟨⟨some (s,rv F (.tmp s)),ev F (.tmp s)⟩,h,fun s' v hsv=>?_,jt (ops:=ops) hok fun G hG hlen=>?_⟩
          · simp only [Option.some.injEq,Prod.mk.injEq] at hsv
            simp [QX,ho,hd,ht,hsv.1]
          · have he:=evG s (by simp [ho,Op.operands]) G hG
            simp only [aop,ho,hd,if_pos ht,rv,he]
            exact ⟨rfl,by trivial⟩
        · rw [if_neg ht] at h
          refine ⟨⟨none,rv F (.tmp s)⟩,h,fun s v hsv=>(by cases hsv),jt (ops:=ops) hok fun G hG hlen=>?_⟩
          have he:=evG s (by simp [ho,Op.operands]) G hG
          simp only [aop,ho,hd,if_neg ht,rv,he]
          exact ⟨rfl,by trivial⟩
    | const c=>
      simp only [jJ,aop,ho] at h
      exact ⟨⟨none,ev F (.const c)⟩,h,fun s v hsv=>(by cases hsv),jt (ops:=ops) hok fun G hG hlen=>by simp only [aop,ho];exact ⟨rfl,by trivial⟩⟩
    | global g=>
      simp only [jJ,aop,ho] at h
      exact ⟨⟨none,ev F (.global g)⟩,h,fun s v hsv=>(by cases hsv),jt (ops:=ops) hok fun G hG hlen=>by simp only [aop,ho];exact ⟨rfl,by trivial⟩⟩
    | func f=>
      simp only [jJ,aop,ho] at h
      exact ⟨⟨none,ev F (.func f)⟩,h,fun s v hsv=>(by cases hsv),jt (ops:=ops) hok fun G hG hlen=>by simp only [aop,ho];exact ⟨rfl,by trivial⟩⟩
  case assign x=>
    cases x with
    | tmp s=>
      simp only [jJ,aop,ho] at h
      cases hd:o.dst with
      | none=>
        simp only [hd] at h
        refine ⟨⟨none,.any⟩,h,fun s v hsv=>(by cases hsv),jt (ops:=ops) hok fun G hG hlen=>?_⟩
        simp only [aop,ho,hd]
        exact ⟨rfl,by trivial⟩
      | some d=>
        simp only [hd] at h
        refine ⟨⟨some (s,rv F (.tmp s)),ev F (.tmp s)⟩,h,fun s' v hsv=>?_,jt (ops:=ops) hok fun G hG hlen=>?_⟩
        · grind [QX]
        · have he:=evG s (by simp [ho,Op.operands]) G hG
          simp only [aop,ho,hd,rv,he]
          exact ⟨rfl,by trivial⟩
    | const c=>
      simp only [jJ,aop,ho] at h
      exact ⟨⟨none,ev F (.const c)⟩,h,fun s v hsv=>(by cases hsv),jt (ops:=ops) hok fun G hG hlen=>by simp only [aop,ho];exact ⟨rfl,by trivial⟩⟩
    | global g=>
      simp only [jJ,aop,ho] at h
      exact ⟨⟨none,ev F (.global g)⟩,h,fun s v hsv=>(by cases hsv),jt (ops:=ops) hok fun G hG hlen=>by simp only [aop,ho];exact ⟨rfl,by trivial⟩⟩
    | func f=>
      simp only [jJ,aop,ho] at h
      exact ⟨⟨none,ev F (.func f)⟩,h,fun s v hsv=>(by cases hsv),jt (ops:=ops) hok fun G hG hlen=>by simp only [aop,ho];exact ⟨rfl,by trivial⟩⟩
  case extract x ix=>
    cases x with
    | tmp s=>
      simp only [jJ,ho] at h
      cases hd:o.dst with
      |none=>simp only [hd] at h
      | some d=>
        simp only [hd] at h
        split at h
        · rename_i d' ds hdd hev
          simp only [Option.some.injEq] at hdd
          subst hdd
          split at h
          · rename_i c hc
            obtain ⟨hF,hT⟩:=zQ hs hev (by simp)
            obtain ⟨vs,hv,hl,hh⟩:=hs.slot s _ _ hF hT
            have hix:ix<vs.size:=by rw [hl];exact (List.getElem?_eq_some_iff.1 hc).1
            have hfact:=(hh ix c _ hc (Ny hix)).rep.fact
            refine ⟨⟨none,c.view1⟩,h hfact,fun s v hsv=>(by cases hsv),jt (ops:= []) hok fun G hG hlen=>?_⟩
            have he:=evG s (by simp [ho,Op.operands]) G hG
            rw [hev] at he
            simp only [aop,ho,hd,he,hc,takes,List.any_nil,Bool.false_eq_true,if_false]
            exact fun _=>⟨rfl,by trivial⟩
          · exact h.elim
        · exact h.elim
    |_=>exact viaVal (by simpa only [jJ,aop,ho] using h)
  case alloc t=>simp only [jJ,ho] at h
  case box t x=>simp only [jJ,ho] at h
  case store t x y=>simp only [jJ,ho] at h
  case load t x=>exact viaVal (by simpa only [jJ,ho] using h)
  case binOp bo t x y ty=>exact viaVal (by simpa only [jJ,ho] using h)
  case call c=>
    cases hf:c.callee with
    | value f=>
      simp only [jJ,ho,hf] at h
      split at h
      · rename_i g caps hg
        obtain ⟨d,hc',hk⟩:=h
        have hc:=hc' H (Sub.refl H)
        have hops:o.op.operands=#[f]++c.args:=by simp only [ho,Op.operands,Call.operands,hf]
        have hse:d5 P H o F ⟨none,d⟩:=jt (ops:=ops) hok fun G hG hlen=>by
          have h1:rv G f= .fn g caps:=by rw [<-hg];unfold rv;rw [jw hG (by rw [hops];simp)]
          have h2:c.args.toList.map (rv G)=c.args.toList.map (rv F):=List.map_congr_left fun x hx=>by
            unfold rv
            rw [jw hG (by rw [hops];simp;exact .inr (by simpa using hx))]
          simp only [aop,ho,hf,h1,h2]
          exact hc.mono fun d' H' ⟨e1,e2⟩ _=>by subst e1 e2;exact ⟨rfl,by trivial⟩
        refine ⟨⟨none,d⟩,hk ?_,fun s v hsv=>(by cases hsv),hse⟩
        -- what the call hands back obeys its bounds
        have hap:aop P ops o F H (fun _ _=>fact d.view):=by
          simp only [aop,ho,hf,hg]
          exact hc.mono fun d' H' ⟨e1,_⟩ hfct=>by subst e1;exact hfct
        obtain ⟨a',w',F',H',K',hfct,_⟩:=oe (kS (Q:=fun _ _ _=>False) hs hok hap)
        exact hfct
      · exact h.elim
    |invoke r m=>exact viaVal (by simpa only [jJ,aop,ho,hf] using h)
    | builtin b=>
      cases b
      case append=>
        simp only [jJ,aop,ho,hf] at h
        split at h
        · rename_i s x t u d hargs htys hd
          split at h
          · rename_i xs e sz bs hev hap
            have hops:o.op.operands=#[]++c.args:=by simp only [ho,Op.operands,Call.operands,hf]
            have hms: .tmp s∈o.op.operands.toList:=by rw [hops,yl hargs];simp
            have hmx:x∈o.op.operands.toList:=by rw [hops,yl hargs];simp
            split at h
            · rename_i ys hy
              obtain ⟨h1,h2,h3,h4⟩:=h
              refine ⟨⟨some (s,.slc xs),.own (xs++ys)⟩,by rw [hd];exact h4,fun s' v hsv=>?_,jt (ops:=ops) hok fun G hG hlen=>?_⟩
              · simp only [Option.some.injEq,Prod.mk.injEq] at hsv
                simp [QX,ho,hf,hargs,hsv.1]
              · have he:=evG s hms G hG
                have hx:rv G x= .slc ys:=by rw [<-hy];unfold rv;rw [jw hG hmx]
                rw [hev] at he
                simp only [aop,ho,hf,hargs,htys,hd,he,hap,hx]
                exact ⟨h1,h2,h3,rfl,by trivial⟩
            · rename_i l hy
              obtain ⟨h1,h2,h3,h4⟩:=h
              refine ⟨⟨some (s,.slc xs),.own (xs++l.map ql)⟩,by rw [hd];exact h4,fun s' v hsv=>?_,jt (ops:=ops) hok fun G hG hlen=>?_⟩
              · simp only [Option.some.injEq,Prod.mk.injEq] at hsv
                simp [QX,ho,hf,hargs,hsv.1]
              · have he:=evG s hms G hG
                have hx:rv G x= .str l:=by rw [<-hy];unfold rv;rw [jw hG hmx]
                rw [hev] at he
                simp only [aop,ho,hf,hargs,htys,hd,he,hap,hx]
                exact ⟨h1,h2,h3,rfl,by trivial⟩
            · rename_i b off n hy
              split at h
              · rename_i cs hg
                obtain ⟨h0,h1,h2,h3,h4⟩:=h
                refine ⟨⟨some (s,.slc xs),.own (xs++((cs.drop off).take n).map fun e=>[e.view1])⟩,by rw [hd];exact h4,fun s' v hsv=>?_,jt (ops:=ops) hok fun G hG hlen=>?_⟩
                · simp only [Option.some.injEq,Prod.mk.injEq] at hsv
                  simp [QX,ho,hf,hargs,hsv.1]
                · have he:=evG s hms G hG
                  have hx:rv G x= .hso b off n:=by rw [<-hy];unfold rv;rw [jw hG hmx]
                  rw [hev] at he
                  simp only [aop,ho,hf,hargs,htys,hd,he,hap,hx,hg]
                  exact ⟨h0,h1,h2,h3,rfl,by trivial⟩
              · exact h.elim
            · exact h.elim
          · exact h.elim
        · exact h.elim
      case clear=>simp only [jJ,ho,hf] at h
      case copy=>simp only [jJ,ho,hf] at h
      all_goals exact viaVal (by simpa only [jJ,aop,ho,hf] using h)
  case makeMap=>simp only [jJ,ho] at h
  case mapUpdate=>simp only [jJ,ho] at h
  case mapEntry=>simp only [jJ,ho] at h
  case entryStore=>simp only [jJ,ho] at h
  all_goals exact viaVal (by simpa only [jJ,aop,ho] using h)
end
end Go.Aw
end
section
namespace Go.Aw
open Go Go.RowKit
section
variable {P:Program} {ops:Array Oper} {H:AH} {md:Region.Mode} {Q:List D->Prop}
def EffOf (P:Program) (H:AH) (ops:Array Oper) (o:Oper) (F:List D) (e:Eff):Prop:=
 (gst ops.toList F o=some true∧d5 P H o F e∧∀s v,e.tk=some (s,v)->QX ops.toList o=some s)∨(gst ops.toList F o=some false∧e=⟨none,.tup []⟩)
theorem kR {o:Oper} {t:Nat} (h: .tmp t∈o.op.operands.toList):t∈o.looksAt ops:=by
 unfold Oper.looksAt
 grind
theorem vA (h:∀t∈o.looksAt ops,G.getD t .any=F.getD t .any):gst ops.toList G o=gst ops.toList F o:=by
 unfold gst
 cases hg:o.guard with
 |none=>rfl
 | some g=>
  obtain ⟨j,want⟩:=g
  simp only [Array.getElem?_toList]
  cases hd:(ops[j]?).bind (·.dst) with
  |none=>rfl
  | some t=>
   have:t∈o.looksAt ops:=by
    unfold Oper.looksAt
    simp only [hg]
    exact List.mem_append_right _ (by rw [hd];simp)
   grind
theorem EffOf.congr {o:Oper} {F G:List D} {e:Eff} (he:EffOf P H ops o F e) (h:∀t∈o.looksAt ops,G.getD t .any=F.getD t .any) (hl:G.length=F.length):EffOf P H ops o G e:=by
 rcases he with ⟨h1,h2,h3⟩|⟨h1,h2⟩
 ·refine .inl ⟨by rw [vA h];exact h1,fun K w a G' Q hs hG hlen=>?_,h3⟩
  exact h2 K w a G' Q hs (fun t ht=>(hG t ht).trans (h t (kR ht))) (hlen.trans hl)
 ·exact .inr ⟨by rw [vA h];exact h1,h2⟩
theorem fu (F:List D) (dst:Option Tmp) (d:D):(qS F dst d).length=F.length:=by cases dst<;>simp [qS]
theorem ug (e:Eff) (dst:Option Tmp) (F:List D):(e.app dst F).length=F.length:=by
 grind [Eff.app,fu]
theorem eB (F:List D) (i t:Nat) (d:D) (h:i≠t):(F.set i d).getD t .any=F.getD t .any:=by
 grind
theorem Qc {e:Eff} {dst:Option Tmp} {F:List D} {t:Nat} (h1:dst≠some t) (h2:∀v,e.tk≠some (t,v)):(e.app dst F).getD t .any=F.getD t .any:=by
 unfold Eff.app
 have key:∀G:List D,(qS G dst e.d).getD t .any=G.getD t .any:=fun G=>by
  cases dst with
  |none=>rfl
  |some d=>exact eB _ _ _ _ (fun e=>h1 (by rw [e]))
 grind
theorem WD (F:List D) (h:i≠j) (x y:D):(F.set i x).set j y=(F.set j y).set i x:=List.set_comm x y h
theorem Z6 {e f:Eff} {d1 d2:Option Tmp} (F:List D) (h1:∀t,d1=some t->d2≠some t) (h2:∀s v,e.tk=some (s,v)->d2≠some s) (h3:∀s v,f.tk=some (s,v)->d1≠some s)
  (h4:∀s v,e.tk=some (s,v)->∀v',f.tk≠some (s,v')):f.app d2 (e.app d1 F)=e.app d1 (f.app d2 F):=by
 obtain ⟨tk,x⟩:=e
 obtain ⟨tk',y⟩:=f
 unfold Eff.app qS
 grind [WD]
theorem Ye {o:Oper} {s:Nat} (h:QX ops.toList o=some s):s∈o.looksAt ops:=by
 apply kR
 unfold QX at h
 split at h
 ·rename_i x ho
  split at h
  ·split at h<;>first|(simp only [Option.some.injEq] at h;subst h;simp [ho,Op.operands])|cases h
  ·cases h
 ·rename_i x ho
  simp only [Option.some.injEq] at h
  subst h
  simp [ho,Op.operands]
 ·rename_i c ho
  split at h
  ·rename_i hf
   split at h
   ·rename_i x y hargs
    simp only [Option.some.injEq] at h
    subst h
    simp only [ho,Op.operands,Call.operands,hf]
    grind
   ·cases h
  ·cases h
 ·rename_i t a x ho
  simp only [Option.some.injEq] at h
  subst h
  simp [ho,Op.operands]
 ·cases h
structure Far (ops:Array Oper) (x y:Oper):Prop where
 d:∀t,x.dst=some t->t ∉ y.looksAt ops∧y.dst≠some t
 d':∀t,y.dst=some t->t ∉ x.looksAt ops
 t:∀s,QX ops.toList x=some s->s ∉ y.looksAt ops∧y.dst≠some s
 t':∀s,QX ops.toList y=some s->s ∉ x.looksAt ops∧x.dst≠some s
theorem tU (h:x.apart ops y=true) (h':tapart ops x y=true):Far ops x y:=by
 obtain ⟨a1,a2,a3⟩:=Oper.apart_spec h
 unfold tapart at h'
 simp only [Nn] at h'
 refine ⟨fun t ht=>⟨a1 t ht,a2 t ht⟩,a3,fun s hs=>?_,fun s hs=>?_⟩
 all_goals grind
theorem EffOf.tk (he:EffOf P H ops o F e):∀s v,e.tk=some (s,v)->QX ops.toList o=some s:=by
 rcases he with ⟨_,_,h⟩|⟨_,rfl⟩
 all_goals grind
theorem swap {x y:Oper} {F:List D} {e f:Eff} (hf:Far ops x y) (hx:EffOf P H ops x F e) (hy:EffOf P H ops y (e.app x.dst F) f):
  EffOf P H ops y F f∧EffOf P H ops x (f.app y.dst F) e∧f.app y.dst (e.app x.dst F)=e.app x.dst (f.app y.dst F):=by
 have hy':EffOf P H ops y F f:=hy.congr (fun t ht=>(Qc (fun h=>(hf.d t h).1 ht) (fun v h=>(hf.t t (hx.tk t v h)).1 ht)).symm) (ug _ _ _).symm
 refine ⟨hy',hx.congr (fun t ht=>Qc (fun h=>hf.d' t h ht) (fun v h=>(hf.t' t (hy.tk t v h)).1 ht)) (ug _ _ _),Z6 F (fun t h=>(hf.d t h).2) (fun s v h=>(hf.t s (hx.tk s v h)).2) (fun s v h=>(hf.t' s (hy.tk s v h)).2) (fun s v h v' h'=>?_)⟩
 exact (hf.t s (hx.tk s v h)).1 (Ye (hy.tk s v' h'))
def Yy (P:Program) (md:Region.Mode) (ops:Array Oper) (H:AH) (Q:List D->Prop):Nat->Array Bool->List D->Prop
 |0,listed,F=>Region.ready md ops listed= []∧Q F
 |fuel+1,listed,F=>(Region.ready md ops listed= []->Q F)∧∀i∈Region.ready md ops listed,∃o e,ops[i]?=some o∧EffOf P H ops o F e∧Yy P md ops H Q fuel (listed.setIfInBounds i true) (e.app o.dst F)
theorem Vs (hi:ops[i]?=some oi):
  ∀ (fuel:Nat) (listed:Array Bool) (F:List D),
   (∀j oj,ops[j]?=some oj->j≠i->listed.getD j true=false->(∀e∈oj.after,Region.binds md e=true->e.on≠i)->Far ops oi oj)->
   i∈Region.ready md ops listed->EffOf P H ops oi F e->
   Yy P md ops H Q fuel (listed.setIfInBounds i true) (e.app oi.dst F)->Yy P md ops H Q (fuel+1) listed F:=by
 intro fuel
 induction fuel with
 | zero=>
  intro listed F _ hr hy Hh
  refine ⟨fun h=>(by rw [h] at hr;cases hr),fun j hj=>?_⟩
  by_cases hji:j=i
  ·grind
  ·have:=ready_mono hj hji
   rw [Hh.1] at this
   cases this
 | succ fuel ih=>
  intro listed F hfree hr hy Hh
  refine ⟨fun h=>(by rw [h] at hr;cases hr),fun j hj=>?_⟩
  by_cases hji:j=i
  ·grind
  ·obtain ⟨oj,f,hoj,hyj,hk⟩:=Hh.2 j (ready_mono hj hji)
   obtain ⟨hjun,oj',hoj',hall⟩:=mem_ready.1 hj
   obtain rfl:oj=oj':=by rw [hoj] at hoj';exact Option.some.inj hoj'
   have hnot:∀e∈oj.after,Region.binds md e=true->e.on≠i:=fun e he hb heq=>by
    have h1:=hall e he hb
    have h0:=(mem_ready.1 hr).1
    grind
   obtain ⟨s1,s2,s3⟩:=swap (hfree j oj hoj hji hjun hnot) hy hyj
   refine ⟨oj,f,hoj,s1,ih _ _ (fun k ok hk' hki hun hno=>?_) (ready_mono hr (Ne.symm hji)) s2 ?_⟩
   ·refine hfree k ok hk' hki ?_ hno
    by_cases hjk:j=k
    ·subst hjk;exact hjun
    ·rw [getD_set_ne true hjk] at hun;exact hun
   ·rw [Array.setIfInBounds_comm _ _ hji,<-s3]
    exact hk
def ab (md:Region.Mode) (ops:Array Oper) (listed:Array Bool) (i:Nat):Bool:=
 match ops[i]? with
 |none=>false
 | some oi=>(List.range ops.size).all fun j=>j==i||listed.getD j true||match ops[j]? with
   |some oj=>oj.after.any (fun e=>Region.binds md e&&e.on==i)||(oi.apart ops oj&&tapart ops oi oj)
   |none=>true
theorem gF (hi:ops[i]?=some oi) (h:ab md ops listed i=true) (j:Nat) (oj:Oper)
  (hj:ops[j]?=some oj) (hne:j≠i) (hun:listed.getD j true=false) (hno:∀e∈oj.after,Region.binds md e=true->e.on≠i):Far ops oi oj:=by
 grind [ab,tU]
def fP (md:Region.Mode) (ops:Array Oper):Nat->Nat->Array Bool->Bool
 |0,_,listed=>(Region.ready md ops listed).isEmpty
 |fuel+1,k,listed=>(Region.ready md ops listed).contains k&&ab md ops listed k&&fP md ops fuel (k+1) (listed.setIfInBounds k true)
def chain (P:Program) (H:AH) (ops:Array Oper):List Oper->List D->(List D->Prop)->Prop
 | [],F,k=>k F
 |o::r,F,k=>∃e,EffOf P H ops o F e∧chain P H ops r (e.app o.dst F) k
theorem Yr:∀(l:List Oper) (k:Nat) (listed:Array Bool) (F:List D),(∀j,l[j]?=ops[k+j]?)->fP md ops l.length k listed=true->chain P H ops l F Q->Yy P md ops H Q l.length listed F
 | [],_,_,_,_,hB,h=>⟨by simpa [fP] using hB,h⟩
 | o::l,k,listed,F,hl,hB,h=>by
  have h0:ops[k]?=some o:=by simpa using (hl 0).symm
  simp only [Ng,fP,Nn] at hB
  obtain ⟨⟨hr,hf⟩,hB'⟩:=hB
  obtain ⟨e,he,hk⟩:=h
  exact Vs h0 l.length listed F (gF h0 hf) (by simpa using hr) he
   (Yr l (k+1) _ _ (fun j=>by have:=hl (j+1);simpa [Nat.add_assoc,Nat.add_comm 1 j] using this) hB' hk)
theorem Qf {k:List D->Prop}:∀(l:List Oper) (F:List D) (K:Nat->BK) (w:World) (a:Act),(∀o∈l,jA o=true)->St K w F H a.tmps->yf P ops.toList l F H k->chain P H ops l F k
 | [],F,K,w,a,_,_,h=>h
 | o::r,F,K,w,a,hok,hs,h=>by
  have hgo:gst ops.toList F o=some true->jJ P ops.toList o F H (fun F'=>yf P ops.toList r F' H k)->chain P H ops (o::r) F k:=fun hg h=>by
   obtain ⟨e,h1,h2,h3⟩:=dF hs (hok o (.head _)) h
   refine ⟨e,.inl ⟨hg,h3,h2⟩,?_⟩
   obtain ⟨a',w',F',H',K',⟨hF',hH'⟩,_,hs',_⟩:=oe (h3 K w a F (fun _ _ _=>False) hs (fun _ _=>rfl) rfl)
   rw [hF',hH'] at hs'
   exact Qf r _ K' w' a' (fun o ho=>hok o (.tail _ ho)) hs' h1
  have hskip:gst ops.toList F o=some false->yf P ops.toList r (qS F o.dst (.tup [])) H k->chain P H ops (o::r) F k:=fun hg h=>
   ⟨⟨none,.tup []⟩,.inr ⟨hg,rfl⟩,Qf r _ K w _ (fun o ho=>hok o (.tail _ ho)) (wJ hs o.dst) h⟩
  unfold gst at hgo hskip
  cases hg:o.guard with
  | none=>
   simp only [yf,hg] at h hgo
   exact hgo trivial h
  | some g=>
   obtain ⟨j,want⟩:=g
   simp only [yf,hg] at h hgo hskip
   cases hdd:(ops.toList[j]?).bind (·.dst) with
   | none=>
    simp only [hdd] at h hskip
    exact hskip trivial h
   | some t=>
    simp only [hdd] at h hgo hskip
    split at h
    ·rename_i b hb
     simp only [hb] at hgo hskip
     by_cases e:b=want
     ·exact hgo (by simp [e]) (h.1 e)
     ·exact hskip (by simp [e]) (h.2 (by cases b<;>cases want<;>simp_all))
    ·rename_i ds hb
     simp only [hb] at hskip
     exact hskip trivial h
    ·exact h.elim
theorem gT {K:Nat->BK} {w:World} {a:Act} {Q':Exit->Act->World->Prop} (hQ:∀a' w',uq (fun F' H'=>Q F'∧H'=H) K w a.defers a' w'->Q' .normal a' w'):
  ∀(fuel:Nat) (listed:Array Bool) (F:List D) (K1:Nat->BK) (w1:World) (a1:Act),St K1 w1 F H a1.tmps->FK K w K1 w1->a1.defers=a.defers->Yy P md ops H Q fuel listed F->wpAny P md ops Q' fuel listed a1 w1
 |0,_,F,K1,w1,a1,hs,hfk,hd,h=>⟨h.1,hQ a1 w1 ⟨F,H,K1,⟨h.2,rfl⟩,hfk,hs,hd⟩⟩
 | fuel+1,listed,F,K1,w1,a1,hs,hfk,hd,h=>⟨fun h0=>hQ a1 w1 ⟨F,H,K1,⟨h.1 h0,rfl⟩,hfk,hs,hd⟩,fun i hi=>by
   obtain ⟨o,e,ho,he,hk⟩:=h.2 i hi
   unfold wpOp
   simp only [ho]
   rcases he with ⟨g1,g2,_⟩|⟨g1,rfl⟩
   ·rw [if_pos (kg hs g1)]
    refine .inl (Oper.wp_mono (fun a2 w2 h2=>?_) (g2 K1 w1 a1 F Q' hs (fun _ _=>rfl) rfl))
    obtain ⟨F',H',K',⟨hF',hH'⟩,q2,q3,q4⟩:=h2
    rw [hF',hH'] at q3
    exact gT hQ fuel _ _ K' w2 a2 q3 (hfk.trans q2) (q4.trans hd) hk
   ·rw [if_neg (by rw [kg hs g1];simp)]
    exact gT hQ fuel _ _ K1 w1 _ (wJ hs o.dst) hfk ((qx o.dst undef).trans hd) hk⟩
theorem St.drew (h:St K w F H t):∃K',FK K w K' {w with drawn:=w.drawn+1}∧St K' {w with drawn:=w.drawn+1} F H t:=by
 have hp:Pres K w K {w with drawn:=w.drawn+1}:=⟨rfl,rfl,⟨rfl,Nat.le_succ _⟩,Nt _,fun _ _=>⟨rfl,rfl⟩,fun _ _ h=>h⟩
 exact ⟨K,hp.fk h.krel,⟨h.krel,h.hrel.pres h.krel hp,h.len,fun i d v hd hv=>(h.slot i d v hd hv).keep (hp.keep h.krel) (fun _ h=>h)⟩⟩
def gu:Op->Bool
 | .store _ _ _=>true
 | .alloc _=>true
 | .box _ _=>true
 | .makeMap _ _=>true
 | .mapUpdate _ _ _ _=>true
 | .mapEntry _ _ _=>true
 | .entryStore _ _ _ _=>true
 | .call ⟨.builtin .clear,_,_⟩=>true
 | .call ⟨.builtin .copy,_,_⟩=>true
 |_=>false
def yS (l:List Oper):List Oper:=l.takeWhile fun o=>!gu o.op
def uw (l:List Oper):List Oper:=l.dropWhile fun o=>!gu o.op
def Yh (P:Program) (md:Region.Mode) (ops:Array Oper) (H:AH) (n:Nat) (E:Array Bool->List D->Prop):Nat->Array Bool->List D->Prop
 |0,listed,F=>E listed F
 |fuel+1,listed,F=>Region.ready md ops listed≠ []∧∀i∈Region.ready md ops listed,i<n∧∃o e,ops[i]?=some o∧EffOf P H ops o F e∧Yh P md ops H n E fuel (listed.setIfInBounds i true) (e.app o.dst F)
theorem Vp {E:Array Bool->List D->Prop} (hi:ops[i]?=some oi) (hs:Region.sinkB md ops n=true) (hc:Region.chainB md ops n=true) (hn:n<ops.size) (hin:i<n)
  (hdone:∀listed F,E listed F->∀j∈Region.ready md ops listed,n<=j):
  ∀ (fuel:Nat) (listed:Array Bool) (F:List D),HeadInv md ops n listed->
   (∀j oj,ops[j]?=some oj->j≠i->listed.getD j true=false->(∀e∈oj.after,Region.binds md e=true->e.on≠i)->Far ops oi oj)->
   i∈Region.ready md ops listed->EffOf P H ops oi F e->
   Yh P md ops H n E fuel (listed.setIfInBounds i true) (e.app oi.dst F)->Yh P md ops H n E (fuel+1) listed F:=by
 intro fuel
 induction fuel with
 | zero=>
  intro listed F inv _ hr hy Hh
  refine ⟨fun h=>(by rw [h] at hr;cases hr),fun j hj=>?_⟩
  have hjn:j<n:=by
   rcases Nv j n with h|h
   ·exact h
   ·exact absurd hj (tail_waits hs hc hn inv _ i rfl hin (mem_ready.1 hr).1 j h)
  refine ⟨hjn,?_⟩
  by_cases hji:j=i
  ·subst hji;exact ⟨oi,e,hi,hy,Hh⟩
  ·have:=hdone _ _ Hh j (ready_mono hj hji)
   omega
 | succ fuel ih=>
  intro listed F inv hfree hr hy Hh
  refine ⟨fun h=>(by rw [h] at hr;cases hr),fun j hj=>?_⟩
  have hjn:j<n:=by
   rcases Nv j n with h|h
   ·exact h
   ·exact absurd hj (tail_waits hs hc hn inv _ i rfl hin (mem_ready.1 hr).1 j h)
  refine ⟨hjn,?_⟩
  by_cases hji:j=i
  ·subst hji;exact ⟨oi,e,hi,hy,Hh⟩
  ·obtain ⟨_,oj,f,hoj,hyj,hk⟩:=Hh.2 j (ready_mono hj hji)
   obtain ⟨hjun,oj',hoj',hall⟩:=mem_ready.1 hj
   obtain rfl:oj=oj':=by rw [hoj] at hoj';exact Option.some.inj hoj'
   have hnot:∀e∈oj.after,Region.binds md e=true->e.on≠i:=fun e he hb heq=>by
    have h1:=hall e he hb
    rw [heq,getD_both (mem_ready.1 hr).1] at h1
    cases h1
   obtain ⟨s1,s2,s3⟩:=swap (hfree j oj hoj hji hjun hnot) hy hyj
   refine ⟨oj,f,hoj,s1,ih _ _ (inv.set hj hjn) (fun k ok hk' hki hun hno=>?_) (ready_mono hr (Ne.symm hji)) s2 ?_⟩
   ·refine hfree k ok hk' hki ?_ hno
    by_cases hjk:j=k
    ·subst hjk;exact hjun
    ·rw [getD_set_ne true hjk] at hun;exact hun
   ·rw [Array.setIfInBounds_comm _ _ hji,<-s3]
    exact hk
def VV (md:Region.Mode) (ops:Array Oper) (g:Nat):Nat->Nat->Array Bool->Bool
 |0,k,listed=>Region.seqB md ops g k listed
 |f+1,k,listed=>(Region.ready md ops listed).contains k&&ab md ops listed k&&VV md ops g f (k+1) (listed.setIfInBounds k true)
theorem gM {T:List D->Prop} (hs:Region.sinkB md ops n=true) (hc:Region.chainB md ops n=true) (hn:n<ops.size):
  ∀(l:List Oper) (k:Nat) (listed:Array Bool) (F:List D),(∀j,j<l.length->l[j]?=ops[k+j]?)->k+l.length=n->HeadInv md ops n listed->VV md ops g l.length k listed=true->chain P H ops l F T->
  Yh P md ops H n (fun listed' F'=>Region.seqB md ops g n listed'=true∧T F') l.length listed F
 | [],k,listed,F,_,hk,_,hB,h=>by
  have:k=n:=by simpa using hk
  subst this
  exact ⟨by simpa [VV] using hB,h⟩
 | o::l,k,listed,F,hl,hk,inv,hB,h=>by
  have h0:ops[k]?=some o:=by simpa using (hl 0 (by simp)).symm
  simp only [Ng,VV,Nn] at hB
  obtain ⟨⟨hr,hf⟩,hB'⟩:=hB
  have hkn:k<n:=by simp only [Ng] at hk;omega
  have hr':k∈Region.ready md ops listed:=by simpa using hr
  obtain ⟨e,he,hK⟩:=h
  exact Vp h0 hs hc hn hkn (fun listed' F' hL=>seqB_ready hL.1) l.length listed F inv (gF h0 hf) hr' he
   (gM hs hc hn l (k+1) _ _ (fun j hj=>by have:=hl (j+1) (by simp;omega);simpa [Nat.add_assoc,Nat.add_comm 1 j] using this) (by simp only [Ng] at hk;omega) (inv.set hr' hkn) hB' hK)
theorem oh {n g:Nat} {E:Array Bool->List D->Prop} {K:Nat->BK} {w:World} {a:Act} {Q':Exit->Act->World->Prop}
  (hE:∀listed F K1 w1 (a1:Act),E listed F->St K1 w1 F H a1.tmps->FK K w K1 w1->a1.defers=a.defers->wpAny P md ops Q' g listed a1 w1):
  ∀(fuel:Nat) (listed:Array Bool) (F:List D) (K1:Nat->BK) (w1:World) (a1:Act),St K1 w1 F H a1.tmps->FK K w K1 w1->a1.defers=a.defers->Yh P md ops H n E fuel listed F->wpAny P md ops Q' (fuel+g) listed a1 w1
 |0,listed,F,K1,w1,a1,hs,hfk,hd,h=>by rw [Nu];exact hE listed F K1 w1 a1 h hs hfk hd
 | fuel+1,listed,F,K1,w1,a1,hs,hfk,hd,h=>by
  rw [show fuel+1+g=(fuel+g)+1 by omega]
  refine ⟨fun h0=>absurd h0 h.1,fun i hi=>?_⟩
  obtain ⟨_,o,e,ho,he,hk⟩:=h.2 i hi
  unfold wpOp
  simp only [ho]
  rcases he with ⟨g1,g2,_⟩|⟨g1,rfl⟩
  ·rw [if_pos (kg hs g1)]
   refine .inl (Oper.wp_mono (fun a2 w2 h2=>?_) (g2 K1 w1 a1 F Q' hs (fun _ _=>rfl) rfl))
   obtain ⟨F',H',K',⟨hF',hH'⟩,q2,q3,q4⟩:=h2
   rw [hF',hH'] at q3
   exact oh hE fuel _ _ K' w2 a2 q3 (hfk.trans q2) (q4.trans hd) hk
  ·rw [if_neg (by rw [kg hs g1];simp)]
   exact oh hE fuel _ _ K1 w1 _ (wJ hs o.dst) hfk ((qx o.dst undef).trans hd) hk
def Uk (ops:Array Oper):Bool:=(ops.toList.all fun o=>!gu o.op||o.guard.isNone)&&
 if (yS ops.toList).length<ops.size then Region.sinkB .any ops (yS ops.toList).length&&Region.chainB .any ops (yS ops.toList).length&&VV .any ops (ops.size - (yS ops.toList).length) (yS ops.toList).length 0 (Array.replicate ops.size false)
 else fP .any ops ops.size 0 (Array.replicate ops.size false)
theorem sw {p q l:List Oper} (h:p++q=l) (j:Nat):l[p.length+j]?=q[j]?:=by
 grind
theorem GK (l:List Oper):yS l++uw l=l:=List.takeWhile_append_dropWhile
theorem Zh {k:List D->AH->Prop} {K:Nat->BK} {w:World} {F:List D} {a:Act} {Q':Exit->Act->World->Prop} {id:Nat} (hm:P.follows .mixedOrders=true) (hB:Uk ops=true) (hok:∀o∈ops.toList,jA o=true)
  (hs:St K w F H a.tmps) (hQ:∀a' w',uq k K w a.defers a' w'->Q' .normal a' w') (h:yf P ops.toList (yS ops.toList) F H (fun F'=>aops P ops.toList (uw ops.toList) F' H k)):(Code.region id ops true).wp P Q' a w:=by
 have hps:=GK ops.toList
 have hpre:∀o∈yS ops.toList,jA o=true:=fun o ho=>hok o (by rw [<-hps];exact List.mem_append_left _ ho)
 have hsuf:∀o∈uw ops.toList,jA o=true:=fun o ho=>hok o (by rw [<-hps];exact List.mem_append_right _ ho)
 have hc:=Qf (ops:=ops) (yS ops.toList) F K w a hpre hs h
 obtain ⟨K',hfk,hs'⟩:=hs.drew
 have hlen:(yS ops.toList).length+(uw ops.toList).length=ops.size:=by rw [<-Nf,hps];simp
 unfold Uk at hB
 rw [Nn] at hB
 replace hB:=hB.2
 refine wp_region_any hm ?_
 split at hB
 ·rename_i hn
  simp only [Nn] at hB
  obtain ⟨⟨h1,h2⟩,h3⟩:=hB
  have inv0:HeadInv .any ops (yS ops.toList).length (Array.replicate ops.size false):=
   ⟨by simp,fun j oj _ hl=>(by rw [getD_replicate_false] at hl;cases hl),fun t _ ht=>getD_in (by simpa using ht) (getD_replicate_false _ _)⟩
  have hget:∀j:Nat,ops.toList[j]?=ops[j]?:=fun j=>Array.getElem?_toList
  have hlex:=gM (P:=P) (H:=H) (md:= .any) (g:=ops.size - (yS ops.toList).length) h1 h2 hn (yS ops.toList) 0 _ F (fun j hj=>by
   rw [Nu,<-hget];conv=>{rhs;rw [<-hps]};rw [No hj]) (Nu _) inv0 h3 hc
  have hg:(uw ops.toList).length=ops.size - (yS ops.toList).length:=by omega
  have:=oh (a:=a) (Q':=Q') (K:=K) (w:=w) (g:=ops.size - (yS ops.toList).length) (fun listed F1 K1 w1 a1 hE hs1 hfk1 hd1=>by
   have hw:wpList P ops Q' (uw ops.toList) a1 w1:=ot (ops:=ops) (k:=k) (K:=K) (w:=w) (a:=a) hQ (uw ops.toList) F1 H K1 w1 a1 hsuf hs1 hfk1 hd1 hE.2
   have:=wpAny_of_seq (md:= .any) (Q':=Q') (uw ops.toList) (yS ops.toList).length listed a1 w1 (fun j=>by
    rw [<-hget];exact (sw hps j).symm) (by rw [hg];exact hE.1) hw
   rwa [hg] at this) _ _ F K' _ a hs' hfk rfl hlex
  rw [show (yS ops.toList).length+(ops.size - (yS ops.toList).length)=ops.size by omega] at this
  exact this
 ·rename_i hn
  have hse:uw ops.toList= []:=List.eq_nil_of_length_eq_zero (by omega)
  have hpe:yS ops.toList=ops.toList:=by rw [hse,List.append_nil] at hps;exact hps
  rw [hpe,hse] at hc
  refine gT (Q:=fun F'=>k F' H) (a:=a) (fun a' w' ⟨F',H',K',⟨g1,g1'⟩,g2⟩=>hQ a' w' ⟨F',H',K',by rw [g1'];exact g1,g2⟩) ops.size _ F K' _ a hs' hfk rfl ?_
  have:=Yr (P:=P) (H:=H) (md:= .any) (Q:=fun F'=>k F' H) ops.toList 0 (Array.replicate ops.size false) F (by simp) (by simpa using hB) hc
  simpa using this
end
end Go.Aw
end
section
namespace Go.Aw
open Go Go.RowKit
abbrev AQ:=Exit->List D->AH->Prop
structure FKm (K:Nat->BK) (w:World) (K':Nat->BK) (w':World):Prop where
 ext:ExtV K w K' w'
 own:∀b n,K b= .tok n .outer->K' b= .tok n .outer∧w'.heap[b]?=w.heap[b]?
 new:∀b n,K' b= .tok n .outer->K b= .tok n .outer∨(w.heap.size<=b∧w'.heap[b]?=some (.deferred (some [])))
theorem FK.m (h:FK K w K' w'):FKm K w K' w':=⟨h.ext,h.own,fun b n hb=>.inl (h.new b n hb)⟩
theorem FKm.refl (K:Nat->BK) (w:World):FKm K w K w:=(FK.refl K w).m
theorem FKm.trans (h:FKm K w K' w') (g:FKm K' w' K'' w''):FKm K w K'' w'':=
 ⟨h.ext.trans g.ext,fun b n hb=>⟨(g.own b n (h.own b n hb).1).1,(g.own b n (h.own b n hb).1).2.trans (h.own b n hb).2⟩,fun b n hb=>by
  rcases g.new b n hb with h1|⟨h1,h2⟩
  ·rcases h.new b n h1 with h3|⟨h3,h4⟩
   ·exact .inl h3
   ·exact .inr ⟨h3,(g.own b n h1).2.trans h4⟩
  ·exact .inr ⟨Nr h.ext.size h1,h2⟩⟩
def Mk (K:Nat->BK) (w:World) (s:Nat) (ds:List Deferred):Prop:=∃Ds:List Nat,Ds.Nodup∧ds=Ds.map (fun D=>{target:= .collected D,args:=#[]})∧∀D∈Ds,s<=D∧K D= .tok 0 .outer∧w.heap[D]?=some (.deferred (some []))
theorem Mk.nil (K:Nat->BK) (w:World) (s:Nat):Mk K w s []:=⟨[],.nil,rfl,fun D h=>by cases h⟩
theorem Mk.keep (h:Mk K w s ds) (hk:FKm K w K' w'):Mk K' w' s ds:=by
 obtain ⟨Ds,h1,h2,h3⟩:=h
 exact ⟨Ds,h1,h2,fun D hD=>⟨(h3 D hD).1,(hk.own D _ (h3 D hD).2.1).1,(hk.own D _ (h3 D hD).2.1).2.trans (h3 D hD).2.2⟩⟩
theorem Mk.step {K:Nat->BK} {w:World} {K':Nat->BK} {w':World} {s:Nat} {a a':Act} (h:Mk K w s a.defers) (hk:FK K w K' w') (hd:a'.defers=a.defers):Mk K' w' s a'.defers:=hd▸h.keep hk.m
def AW (P:Program) (c:Code) (F:List D) (H:AH) (Q:AQ):Prop:=
 ∀ (K:Nat->BK) (w:World) (a:Act) (s:Nat),St K w F H a.tmps->s<=w.heap.size∧Mk K w s a.defers->
  c.wp P (fun e a' w'=>∃F' H' K',Q e F' H'∧FKm K w K' w'∧St K' w' F' H' a'.tmps∧s<=w'.heap.size∧Mk K' w' s a'.defers) a w
def Jf (k:List D->AH->Prop) (Q:AQ):AQ
 | .normal=>k
 |e=>Q e
def kU (id:Nat) (Q:AQ):AQ
 | .exit id'=>if id'=id then Q .normal else Q (.exit id')
 |e=>Q e
def acode (P:Program):Code->List D->AH->AQ->Prop
 | .skip,F,H,Q=>Q .normal F H
 | .region _ ops false,F,H,Q=>aops P ops.toList ops.toList F H fun F' H'=>Q .normal F' H'
 | .region _ ops true,F,H,Q=>yf P ops.toList (yS ops.toList) F H fun F'=>aops P ops.toList (uw ops.toList) F' H fun F'' H''=>Q .normal F'' H''
 | .seq x y,F,H,Q=>acode P x F H (Jf (fun F' H'=>acode P y F' H' Q) Q)
 | .cond c x y,F,H,Q=>match rv F c with
  | .bool b=>(b=true->acode P x F H Q)∧(b=false->acode P y F H Q)
  |_=>False
 | .block id c,F,H,Q=>acode P c F H (kU id Q)
 | .exit id,F,H,Q=>Q (.exit id) F H
 | .ret,F,H,Q=>Q .ret F H
 | .label _,F,H,Q=>Q .normal F H
 | .loop c,F,H,Q=>AW P (.loop c) F H Q
 |_,_,_,_=>False
def wA:Code->Bool
 | .region _ ops false=>ops.all jA
 | .region _ ops true=>ops.all jA&&Uk ops
 | .seq x y=>wA x&&wA y
 | .cond c x y=>jP c&&wA x&&wA y
 | .block _ c=>wA c
 | .loop c=>wA c
 |_=>true
theorem AW.mono (h:AW P c F H Q) (hq:∀e F H,Q e F H->Q' e F H):AW P c F H Q':=
 fun K w a s hs hd=>wp_mono (h K w a s hs hd) fun e a' w' ⟨F',H',K',g1,g2⟩=>⟨F',H',K',hq _ _ _ g1,g2⟩
theorem AW.and_then (h:AW P x F H (Jf (fun F' H'=>AW P y F' H' Q) Q)):AW P (.seq x y) F H Q:=by
 intro K w a s hs hd
 refine wp_seq (wp_mono (h K w a s hs hd) fun e a' w' ⟨F',H',K',g1,g2,g3,g4⟩=>?_)
 cases e with
 | normal=>
  refine wp_mono (g1 K' w' a' s g3 g4) fun e' a'' w'' ⟨F'',H'',K'',q1,q2,q3,q4⟩=>⟨F'',H'',K'',q1,g2.trans q2,q3,q4⟩
 |_=>exact ⟨F',H',K',g1,g2,g3,g4⟩
theorem ko {P:Program} (hm:P.follows .mixedOrders=true):∀(c:Code) (F:List D) (H:AH) (Q:AQ),wA c=true->acode P c F H Q->AW P c F H Q
 | .skip,F,H,Q,_,h=>fun K w a s hs hd=>wp_skip ⟨F,H,K,h,.refl K w,hs,hd⟩
 | .label l,F,H,Q,_,h=>fun K w a s hs hd=>wp_label ⟨F,H,K,h,.refl K w,hs,hd⟩
 | .exit id,F,H,Q,_,h=>fun K w a s hs hd=>wp_exit ⟨F,H,K,h,.refl K w,hs,hd⟩
 | .ret,F,H,Q,_,h=>fun K w a s hs hd=>wp_ret ⟨F,H,K,h,.refl K w,hs,hd⟩
 | .loop c,F,H,Q,_,h=>h
 | .region id ops false,F,H,Q,hok,h=>fun K w a s hs hd=>by
   simp only [wA] at hok
   refine wp_region_list (ot (ops:=ops) (k:=fun F' H'=>Q .normal F' H') (w:=w) (a:=a) (K:=K) (fun a' w' ⟨F',H',K',g1,g2,g3,g4⟩=>⟨F',H',K',g1,g2.m,g3,Nr hd.1 g2.ext.size,hd.2.step g2 g4⟩) ops.toList F H K w a (fun o ho=>(Array.all_eq_true'.1 hok) o (by simpa using ho)) hs (.refl K w) rfl h)
 | .region id ops true,F,H,Q,hok,h=>fun K w a s hs hd=>by
   simp only [wA,Nn] at hok
   exact Zh (k:=fun F' H'=>Q .normal F' H') hm hok.2 (fun o ho=>(Array.all_eq_true'.1 hok.1) o (by simpa using ho)) hs (fun a' w' ⟨F',H',K',g1,g2,g3,g4⟩=>⟨F',H',K',g1,g2.m,g3,Nr hd.1 g2.ext.size,hd.2.step g2 g4⟩) h
 | .seq x y,F,H,Q,hok,h=>by
   simp only [wA,Nn] at hok
   refine AW.and_then ((ko hm x F H _ hok.1 h).mono fun e F' H' hq=>?_)
   cases e with
   |normal=>exact ko hm y F' H' Q hok.2 hq
   |_=>exact hq
 | .cond c x y,F,H,Q,hok,h=>fun K w a s hs hd=>by
   simp only [wA,Nn] at hok
   simp only [acode] at h
   split at h
   ·rename_i b hb
    have hv:=(hb▸hs.rep hok.1.1).bool_inv
    cases b with
    |true=>exact wp_cond_true hv (ko hm x F H Q hok.1.2 (h.1 rfl) K w a s hs hd)
    |false=>exact wp_cond_false hv (ko hm y F H Q hok.2 (h.2 rfl) K w a s hs hd)
   ·exact h.elim
 | .block id c,F,H,Q,hok,h=>fun K w a s hs hd=>by
   simp only [wA] at hok
   refine wp_block (wp_mono (ko hm c F H _ hok h K w a s hs hd) fun e a' w' ⟨F',H',K',g1,g2⟩=>?_)
   cases e with
   | exit id'=>
    simp only [kU] at g1
    simp only [Exit.inBlock]
    split
    ·rename_i e;rw [if_pos e] at g1;exact ⟨F',H',K',g1,g2⟩
    ·rename_i e;rw [if_neg e] at g1;exact ⟨F',H',K',g1,g2⟩
   |_=>exact ⟨F',H',K',g1,g2⟩
theorem least (R:Nat->Prop) (n:Nat) (h:R n):∃m,R m∧∀k,k<m->¬R k:=by
 induction n using Nat.strongRecOn with
 | _ n ih=>
  grind
def back (n:Nat) (H:AH):AH:=H.drop (H.length - n)
theorem W0 (H:AH):back H.length H=H:=by simp [back]
theorem wz (h:n<=H.length):back n (x::H)=back n H:=by
 unfold back
 rw [Ng,show H.length+1 - n=(H.length - n)+1 by omega,List.drop_succ_cons]
theorem Un:∀{H:AH},(qM H b o).length=H.length
 | []=>rfl
 | (c,x)::r=>by
  simp only [qM]
  split
  ·rfl
  ·simp only [Ng,Un]
theorem St.sub (h:St K w F H t) (hs:H'.Sublist H):St K w F H' t:=
 ⟨h.krel,⟨(hs.map (·.1)).nodup h.hrel.nd,fun b o hm=>h.hrel.ok b o (hs.subset hm)⟩,h.len,h.slot⟩
theorem Zz (n:Nat) (H:AH):(back n H).Sublist H:=List.drop_sublist _ _
def resOne (P:Program) (F:List D) (H:AH):ResultVar->Option D
 | .tmp t=>match F.getD t .any with
  | .tup _=>none
  |d=>some d
 | .cell x t=>match yr P t,rv F (.tmp x) with
  | some (true,n),.ptr b off=>match qn H b with
   |some (.cells cs)=>if off+n<=cs.length then some (.agg (((cs.drop off).take n).map D.view1)) else none
   |_=>none
  | some (false,_),.ptr b off=>match qn H b with
   | some (.cells cs)=>match cs[off]? with
    |some c=>some c.view1
    |none=>none
   |_=>none
  |_,_=>none
def resAll (P:Program) (F:List D) (H:AH):List ResultVar->Option (List D)
 | []=>some []
 | r::rs=>match resOne P F H r with
  | some d=>match resAll P F H rs with
   |some ds=>some (d::ds)
   |none=>none
  |none=>none
def QC (P:Program) (rs:List ResultVar) (F:List D) (H:AH) (k:D->Prop):Prop:=
 match rs with
 | [r]=>match resOne P F H r with
  |some d=>k d
  |none=>False
 | rs=>match resAll P F H rs with
  |some ds=>k (.tup ds)
  |none=>False
def jX (P:Program) (rs:List ResultVar) (n:Nat) (R:D->AH->Prop):AQ
 | .normal,F,H=>QC P rs F H fun d=>R d (back n H)
 | .ret,F,H=>QC P rs F H fun d=>R d (back n H)
 |_,_,_=>False
def facts:List D->Prop
 | []=>True
 |d::r=>fact d∧facts r
section
variable {P:Program} {K:Nat->BK} {w:World} {F:List D} {H:AH} {a:Act}
def zq (tmps:Array Value):ResultVar->Sem Value
 | .tmp t=>pure (tmps.getD t undef)
 | .cell x t=>do loadVar t (<-asAddr (tmps.getD x undef))
theorem gP (hs:St K w F H a.tmps) (h:resOne P F H r=some d):∃v,(zq a.tmps r).run P w= .ok v w∧
  ((∃t,r= .tmp t∧RepC K w (.slot t 0) d v)∨((∀t,r≠ .tmp t)∧RepV K w d v)):=by
 cases r with
 | tmp t=>
  simp only [resOne] at h
  have hd:d=F.getD t .any∧∀ds,F.getD t .any≠ .tup ds:=by
   grind
  refine ⟨a.tmps.getD t undef,rfl,.inl ⟨t,rfl,?_⟩⟩
  rcases Nv t F.length with hlt|hge
  ·have h1:F[t]?=some d:=by rw [hd.1];simp [List.getD,Na hlt]
   have h2:a.tmps[t]?=some (a.tmps.getD t undef):=by
    have:t<a.tmps.size:=by rw [hs.len];exact hlt
    simp [Ny this]
   have hr:=hs.slot t d _ h1 h2
   have hnt:=hd.2
   rw [<-hd.1] at hnt
   cases d<;>first|exact hr|exact (hnt _ rfl).elim
  ·rw [hd.1]
   simp only [List.getD,Nw hge]
   exact .any _
 | cell x t=>
  simp only [resOne] at h
  have hx:=hs.rep (x:= .tmp x) rfl
  split at h
  ·rename_i n b off ht hp
   split at h
   ·rename_i cs hg
    split at h
    ·rename_i hle
     simp only [Option.some.injEq] at h
     subst h
     have hv:=(hp▸hx).ptr_inv
     obtain ⟨_,c,T,hb,hcs,hr⟩:=hs.hrel.ok b _ (qW hg)
     have hl:=ui (P:=P) ht b off ((c.toList.drop off).take n) (by simp;omega) (fun j v hv'=>by
      rw [jU hb]
      rw [List.getElem?_take] at hv'
      split at hv'
      ·simpa using hv'
      ·cases hv')
     refine ⟨.agg ((c.toList.drop off).take n).toArray,?_,.inr ⟨fun t e=>(by cases e),wQ _ _ (by simp;omega) (fun j u hu=>?_) (fun j d u hd hu=>?_)⟩⟩
     ·have he:a.tmps.getD x undef= .pointer (some ⟨b,off,none⟩):=hv
      simp only [zq,he,asAddr,Sem.run_bind,Sem.run_pure,Result.andThen_ok]
      simpa [Instr.loadAt,Instr.sureAddr] using hl
     ·rw [List.getElem?_take] at hu
      split at hu
      ·rename_i hj
       obtain ⟨u',e1,e2,_⟩:=hr (off+j) _ (Na (show off+j<cs.length by omega))
       simp only [List.getElem?_drop,Array.getElem?_toList,e1,Option.some.injEq] at hu
       exact hu▸e2
      ·cases hu
     ·rw [List.getElem?_take] at hu
      split at hu
      ·rename_i hj
       rw [Nb,List.getElem?_take,if_pos hj,List.getElem?_drop,Nl] at hd
       obtain ⟨d',hd',rfl⟩:=hd
       obtain ⟨u',e1,e2,e3⟩:=hr (off+j) _ hd'
       simp only [List.getElem?_drop,Array.getElem?_toList,e1,Option.some.injEq] at hu
       exact hu▸e3.rep
      ·cases hu
    ·cases h
   ·cases h
  ·rename_i n b off ht hp
   split at h
   ·rename_i cs hg
    split at h
    ·rename_i c hc
     simp only [Option.some.injEq] at h
     subst h
     have hv:=(hp▸hx).ptr_inv
     obtain ⟨_,c',T,hb,hcs,hr⟩:=hs.hrel.ok b _ (qW hg)
     obtain ⟨u,e1,e2,e3⟩:=hr off _ hc
     have hl:=wL (P:=P) ht b off u (by rw [jU hb];exact e1)
     refine ⟨u,?_,.inr ⟨fun t e=>(by cases e),e3.rep⟩⟩
     have he:a.tmps.getD x undef= .pointer (some ⟨b,off,none⟩):=hv
     simp only [zq,he,asAddr,Sem.run_bind,Sem.run_pure,Result.andThen_ok]
     simpa [Instr.loadAt,Instr.sureAddr] using hl
    ·cases h
   ·cases h
  ·cases h
theorem gR (hs:St K w F H a.tmps):∀(rs:List ResultVar) (ds:List D),resAll P F H rs=some ds->∃vs,(rs.mapM (zq a.tmps)).run P w= .ok vs w∧vs.length=ds.length∧rs.length=ds.length∧
  ∀(j:Nat) (r:ResultVar) (d:D) (v:Value),rs[j]?=some r->ds[j]?=some d->vs[j]?=some v->((∃t,r= .tmp t∧RepC K w (.slot t 0) d v)∨((∀t,r≠ .tmp t)∧RepV K w d v))
 | [],ds,h=>by
  simp only [resAll,Option.some.injEq] at h
  subst h
  exact ⟨[],by simp,rfl,rfl,fun j r d v h=>by simp at h⟩
 | r::rs,ds,h=>by
  simp only [resAll] at h
  split at h
  ·rename_i d hd
   split at h
   ·rename_i ds' hds
    simp only [Option.some.injEq] at h
    subst h
    obtain ⟨v,h1,h2⟩:=gP hs hd
    obtain ⟨vs,g1,g2,g3,g4⟩:=gR hs rs ds' hds
    refine ⟨v::vs,by simp only [List.mapM_cons,Sem.run_bind,h1,Result.andThen_ok,g1,Sem.run_pure],by simp [g2],by simp [g3],fun j r' d' v' e1 e2 e3=>?_⟩
    cases j with
    | zero=>
     simp only [Nk,Option.some.injEq] at e1 e2 e3
     subst e1 e2 e3
     exact h2
    |succ j=>exact g4 j r' d' v' e1 e2 e3
   ·cases h
  ·cases h
end
end Go.Aw
end
section
namespace Go.Aw
open Go Go.RowKit
def pE:List ResultVar->Bool
 | []=>true
 | .tmp t::r=>r.all (fun x=>match x with| .tmp t'=>t' !=t|_=>true)&&pE r
 | .cell _ _::r=>pE r
def YG:List ResultVar->Nat->Nat->Who
 | [],_,_=>.slot 1 0
 | .tmp t'::rs,q,t=>if t'=t then .slot 0 (q+1) else YG rs (q+1) t
 | .cell _ _::rs,q,t=>YG rs (q+1) t
theorem zH:∀(rs:List ResultVar) (q t:Nat),∃i j,YG rs q t= .slot i j
 | [],q,t=>⟨1,0,rfl⟩
 | .tmp t'::rs,q,t=>by
  simp only [YG]
  split
  ·exact ⟨_,_,rfl⟩
  ·exact zH rs _ _
 | .cell _ _::rs,q,t=>zH rs _ _
theorem JU:∀(rs:List ResultVar) (q j t:Nat),pE rs=true->rs[j]?=some (.tmp t)->YG rs q t= .slot 0 (q+j+1)
 | [],q,j,t,_,h=>by simp at h
 | .tmp t'::rs,q,0,t,_,h=>by
  simp only [Nk,Option.some.injEq,ResultVar.tmp.injEq] at h
  simp [YG,h]
 | .tmp t'::rs,q,j+1,t,hk,h=>by
  simp only [pE,Nn] at hk
  simp only [Nj] at h
  have hne:t'≠t:=fun e=>by
   have:=(List.all_eq_true.1 hk.1) _ (Nm h)
   simp [e] at this
  simp only [YG,if_neg hne]
  rw [JU rs (q+1) j t hk.2 h]
  congr 1
  omega
 | .cell _ _::rs,q,0,t,_,h=>by simp at h
 | .cell _ _::rs,q,j+1,t,hk,h=>by
  simp only [pE] at hk
  simp only [Nj] at h
  simp only [YG]
  rw [JU rs (q+1) j t hk h]
  congr 1
  omega
section
variable {P:Program}
theorem Yt:∀(args:List D) (vs:List Value),vs.length=args.length->(∀(j:Nat) (d:D) (v:Value),args[j]?=some d->vs[j]?=some v->RepV K w d v)->facts args
 | [],_,_,_=>trivial
 |d::r,[],h,_=>by simp at h
 |d::r,v::vs,h,hr=>⟨(hr 0 d v rfl rfl).fact,Yt r vs (Nat.succ.inj h) (fun j d v h1 h2=>hr (j+1) d v h1 h2)⟩
theorem slotφ_fk (h1:φ .outer= .outer) (h2:∀b j,φ (.cell b j)= .cell b j) (h3:∀i j,∃i' j',φ (.slot i j)= .slot i' j'):FK K w (relab φ K) w:=by
 refine ⟨qA φ K w,fun b n h=>⟨by rw [qR h,h1],rfl⟩,fun b n h=>?_⟩
 obtain ⟨o',e1,e2⟩:=kw h
 cases o' with
 |slot i j=>obtain ⟨i',j',h'⟩:=h3 i j;rw [h'] at e2;cases e2
 |cell c j=>rw [h2] at e2;cases e2
 |outer=>exact e1
theorem WG {fn:Func} {K:Nat->BK} {w:World} {F:List D} {H:AH} {a:Act} {n:Nat} {R:D->AH->Prop} (hk:pE fn.results.toList=true) (hs:St K w F H a.tmps) (h:QC P fn.results.toList F H fun d=>R d (back n H)):
  ∃v d H' K',(results fn a.tmps).run P w= .ok v w∧R d H'∧FK K w K' w∧KRel K' w∧HRel K' w H'∧RepO K' w 0 d v:=by
 have hres:∀vs:List Value,(fn.results.toList.mapM (zq a.tmps)).run P w= .ok vs w->(results fn a.tmps).run P w= .ok (if h:vs.length=1 then vs[0] else .tuple vs.toArray) w:=fun vs hv=>by
  have he:results fn a.tmps=(fn.results.mapM (zq a.tmps)>>=fun vs=>pure (if h:vs.size=1 then vs[0] else .tuple vs)):=by
   unfold results
   congr 2
  rw [he,Array.mapM_eq_mapM_toList,Sem.run_bind,Sem.run_map,hv]
  simp only [Result.andThen_ok,Sem.run_pure,List.size_toArray]
  split<;>simp
 have hsub:HRel K w (back n H):=(hs.sub (Zz n H)).hrel
 unfold QC at h
 split at h
 ·rename_i r hr
  split at h
  ·rename_i d hd
   obtain ⟨v,h1,h2⟩:=gP (P:=P) hs hd
   have hrun:=hres [v] (by rw [hr];simp [h1])
   simp only [Ng,Nh,Nu,dite_true,List.getElem_cons_zero] at hrun
   rcases h2 with ⟨t,rfl,h2⟩|⟨_,h2⟩
   ·let φ:Who->Who:=fun o=>match o with
     | .slot i j=>if i=t then .slot 0 j else .slot 1 j
     |x=>x
    refine ⟨v,d,back n H,relab φ K,hrun,h,slotφ_fk rfl (fun _ _=>rfl) (fun i j=>?_),jN hs.krel,yN ⟨fun _ _=>rfl,rfl⟩ hsub,G8 (h2.conv (qA φ K w) (fun b m hb=>by rw [qR hb];simp [φ]))⟩
    grind
   ·exact ⟨v,d,back n H,K,hrun,h,.refl K w,hs.krel,hsub,h2.viewO⟩
  ·exact h.elim
 ·rename_i rs hnr
  split at h
  ·rename_i ds hds
   obtain ⟨vs,g1,g2,g3,g4⟩:=gR (P:=P) hs _ _ hds
   have hrun:=hres vs g1
   have hl1:vs.length≠1:=fun e=>by
    have hl:fn.results.toList.length=1:=by omega
    match hq:fn.results.toList,hl with
    | [r],_=>exact hnr r hq
   rw [dif_neg hl1] at hrun
   let φ:Who->Who:=fun o=>match o with
    | .slot i j=>YG fn.results.toList 0 i
    |x=>x
   refine ⟨.tuple vs.toArray,.tup ds,back n H,relab φ K,hrun,h,slotφ_fk rfl (fun _ _=>rfl) (fun i j=>zH _ _ _),jN hs.krel,yN ⟨fun _ _=>rfl,rfl⟩ hsub,vs.toArray,rfl,by simp [g2],fun j d u hd hu=>?_⟩
   have hu':vs[j]?=some u:=by simpa using hu
   have hj:j<fn.results.toList.length:=by rw [g3];exact (List.getElem?_eq_some_iff.1 hd).1
   rcases g4 j _ d u (Na hj) hd hu' with ⟨t,ht,hc⟩|⟨_,hc⟩
   ·refine hc.conv (qA φ K w) (fun b m hb=>?_)
    rw [qR hb]
    have hp:=JU fn.results.toList 0 j t hk (by rw [Na hj,ht])
    simp [φ,hp]
   ·exact (RepV.mono (qA φ K w) hc).repC (fun xs e=>by subst e;exact hc.not_own)
  ·exact h.elim
end
end Go.Aw
end
section
namespace Go.Aw
open Go Go.RowKit
theorem zk {α:Type} (hpos:0<sz):∀{xs:List (List α)},(∀x∈xs,x.length=sz)->∀q,xs.flatten[q]?=(xs[q / sz]?).bind (·[q % sz]?)
 | [],_,q=>by simp
 | x::r,h,q=>by
  have hx:=h x (.head _)
  rw [N1,List.getElem?_append]
  by_cases hq:q<sz
  ·rw [if_pos (by omega),Nat.div_eq_of_lt hq,Nat.mod_eq_of_lt hq]
   rfl
  ·rw [if_neg (by omega),zk hpos (fun y hy=>h y (.tail _ hy)),hx]
   have h1:q / sz=(q - sz) / sz+1:=by
    rw [show q=(q - sz)+sz by omega,Nat.add_div_right _ hpos]
    simp
   have h2:q % sz=(q - sz) % sz:=by
    rw [show q=(q - sz)+sz by omega,Nat.add_mod_right]
    simp
   rw [h1,h2]
   simp
theorem vO {α:Type}:∀{xs:List (List α)},(∀x∈xs,x.length=sz)->xs.flatten.length=xs.length*sz
 | [],_=>by simp
 | x::r,h=>by
  rw [N1,Nf,vO (fun y hy=>h y (.tail _ hy)),h x (.head _),Ng,Nat.add_mul]
  omega
section
variable {P:Program} {o:Oper} {F:List D} {H:AH} {k:List D->AH->Prop} {K:Nat->BK} {w:World} {a:Act} {Q:Exit->Act->World->Prop}
def BI (P:Program) (t:TypeId) (l c:Operand) (dst:Option Tmp) (F:List D) (H:AH) (k:List D->AH->Prop):Prop:=
 match yb P t with
 | some (e,sz)=>match yA P e,rv F l,rv F c with
  |some z,.int _ n,.int _ m=>n=m∧0<=n∧(match P.info? e with|some i=>(i.bytes:Int)*n<=140737488355328∧n<=140737488355328|none=>False)∧∀b,qH H b->k (qS F dst (.hsl b n.toNat)) ((b,.cells (List.replicate n.toNat z).flatten)::H)
  |_,_,_=>False
 |none=>False
theorem Vb (hs:St K w F H a.tmps) (t:TypeId) (c:Array Value) (cs:List D) (n cap:Nat) (h1:n<=cap) (h2:cap<=maxLen) (h3:n<=big) (hc:c.size=cs.length)
  (hr:∀(j:Nat) (d:D),cs[j]?=some d->∃u,c[j]?=some u∧u.oneCell'=true∧(RepV K w d u∨(∃x,d= .own []∧u= .slice x 0 0))) (dst:Option Tmp):
  ∃K',FK K w K' (w.alloc (.cells c t))∧St K' (w.alloc (.cells c t)) (qS F dst (.hsl w.heap.size n)) ((w.heap.size,.cells cs)::H) (a.put dst (.slice (some ⟨w.heap.size,0,none⟩) n cap)).tmps:=by
 obtain ⟨hp,hk'⟩:=yT (K:=K) (w:=w) hs.krel (.cells c t) (x:= .priv) (by simp)
 refine ⟨_,hp.fk hs.krel,hs.put (hp.keep hs.krel) (fun _ _ h=>h) hk' ?_ dst (fun i _=>RepV.viewO (.hsl _ _ _ h1 h2 h3))⟩
 have hold:=hs.hrel.pres hs.krel hp
 refine ⟨?_,fun b o hm=>?_⟩
 ·simp only [List.map_cons,List.nodup_cons]
  refine ⟨fun hm=>?_,hold.nd⟩
  rw [N0] at hm
  obtain ⟨⟨b,o⟩,e1,e2⟩:=hm
  have:=hs.hrel.lt hs.krel e1
  simp only [] at e2
  omega
 ·rcases List.mem_cons.1 hm with h|h
  ·injection h with e1 e2
   subst e1 e2
   refine ⟨jx _ _ _,c,t,heap_alloc_new w _,hc,fun j d hd=>?_⟩
   obtain ⟨u,e1,e2,e3⟩:=hr j d hd
   refine ⟨u,e1,e2,?_⟩
   rcases e3 with e3|⟨x,rfl,rfl⟩
   ·exact (RepV.mono (hp.keep hs.krel).ext e3).repC (fun xs e=>by subst e;exact e3.not_own)
   ·exact .inl ⟨rfl,x,rfl⟩
  ·exact hold.ok b o h
theorem Zj (K:Nat->BK) (w:World) (h:wh u=true):RepV K w (jD u) u∨∃x,jD u= .own []∧u= .slice x 0 0:=by
 have hcd:=yc (K:=K) (w:=w) (o:= .outer) h
 generalize hcc:jD u=cc at hcd
 cases cc with
 | own xs=>
  right
  unfold jD at hcc
  grind
 |_=>exact .inl hcd
theorem mu (hs:St K w F H a.tmps) (hok:jA o=true) {t:TypeId} (ho:o.op= .makeSlice t l c) (h:BI P t l c o.dst F H k):o.wp P a w (uq k K w a.defers) Q:=by
 have hops:=hs.ops (xs:=o.op.operands) (by unfold jA at hok;simp only [Nn] at hok;exact hok.1)
 have hml:l∈o.op.operands.toList:=by simp [ho,Op.operands]
 have hmc:c∈o.op.operands.toList:=by simp [ho,Op.operands]
 unfold BI at h
 split at h
 ·rename_i e sz hsl
  split at h
  ·rename_i z k1 n k2 m hz hl hc
   obtain ⟨rfl,h0,hb,h⟩:=h
   obtain ⟨hu,hsz,i,hi,his⟩:=ju hsl
   obtain ⟨i',zv,hi',hzv,z1,z2,z3,z4⟩:=ye hz
   have hii:i=i':=by rw [hi] at hi';exact Option.some.inj hi'
   subst hii
   simp only [hi] at hb
   have hl':=(hl▸hops l hml).int_inv.1
   have hc':=(hc▸hops c hmc).int_inv.1
   obtain ⟨q,rfl⟩:=Int.eq_ofNat_of_zero_le h0
   have hrun:=run_make (P:=P) w t e i zv hu hi hzv k1 k2 q q h0 (Int.le_refl _) (by omega) (by omega)
   simp only [Nd] at hrun h
   have hzl:z.length=sz:=by omega
   have hall:∀x∈List.replicate q z,x.length=sz:=fun x hx=>by rw [List.eq_of_mem_replicate hx];exact hzl
   obtain ⟨K',g1,g2⟩:=Vb hs e (madeCells zv.cells (q*i.size)) (List.replicate q z).flatten q q (Nt _) (by unfold maxLen;omega) (by unfold big;omega) (by rw [size_madeCells,his,vO hall];simp) (fun j d hd=>by
    rw [zk hsz hall] at hd
    obtain ⟨x,e1,e2⟩:=Option.bind_eq_some_iff.1 hd
    obtain rfl:=List.eq_of_mem_replicate (Nm e1)
    have hjq:j<q*sz:=by
     have h1:=(List.getElem?_eq_some_iff.1 e1).1
     simp only [N2] at h1
     exact (Nat.div_lt_iff_lt_mul hsz).1 h1
    have hzs:zv.cells.size=sz:=by omega
    have hjz:j % sz<zv.cells.size:=by rw [hzs];exact Nat.mod_lt _ hsz
    have hu':=Ny hjz
    obtain ⟨f1,f2⟩:=z3 _ _ hu'
    have hd':=z4 _ d _ e2 hu'
    refine ⟨zv.cells[j % sz],?_,f1,by rw [hd'];exact Zj K w f2⟩
    unfold madeCells
    rw [Array.getElem?_map,Array.getElem?_range,if_pos (by rw [his];exact hjq)]
    simp only [Option.map_some,hzs]
    rw [getElem!_pos zv.cells _ hjz]) o.dst
   refine qP (v:= .slice (some ⟨w.heap.size,0,none⟩) q q) (w':=w.alloc (.cells (madeCells zv.cells (q*i.size)) e)) ?_ ⟨_,_,K',h _ (hs.hrel.fresh hs.krel),g1,g2,qx _ _⟩
   simp only [execOp,ho,Sem.run_bind,hl',hc',hrun,Result.andThen_ok]
   rfl
  ·exact h.elim
 ·exact h.elim
def qT:AH->Nat->AH
 | [],_=>[]
 |(c,o)::r,b=>if b=c then r else (c,o)::qT r b
theorem erase_sub:∀{H:AH},(qT H b).Sublist H
 | []=>List.Sublist.refl _
 | (c,o)::r=>by
  unfold qT
  split
  ·exact List.sublist_cons_self _ _
  ·exact List.Sublist.cons_cons _ erase_sub
theorem kn:∀{H:AH},(H.map (·.1)).Nodup->∀{c:Nat} {o:AO},(c,o)∈qT H b->c≠b
 | [],_,c,o,h=>by simp [qT] at h
 | (c',o')::r,hn,c,o,h=>by
  simp only [List.map_cons,List.nodup_cons] at hn
  unfold qT at h
  split at h
  ·rename_i e
   intro e'
   subst e' e
   exact hn.1 (List.mem_map.2 ⟨_,h,rfl⟩)
  ·rename_i e
   rcases List.mem_cons.1 h with h|h
   ·injection h with h1 _
    subst h1
    exact Ne.symm e
   ·exact kn hn.2 h
def plain:D->Bool
 | .own _=>false
 |_=>true
theorem Wl (h:plain d=true) (hr:RepC K w o' d v):RepV K w d v:=by
 cases d<;>first|exact hr|(simp [plain] at h)
def D9 (P:Program) (t u:TypeId) (x y:Operand) (dst:Option Tmp) (F:List D) (H:AH) (k:List D->AH->Prop):Prop:=
 match x,dst with
 | .tmp s,some d=>match ev F (.tmp s),Ko P t u with
  | .own [],some (_,sz,bs)=>match rv F y with
   | .slc ys=>(∀y∈ys,y.length=sz)∧ys.length*bs<=140737488355328∧(ys= []->k ((F.set s (.slc [])).set d (.own [])) H)∧
     (ys≠ []->∀b cap m,qH H b->ys.length*sz+m=cap*sz->k ((F.set s (.slc [])).set d (.hgs b ys.length cap)) ((b,.cells (ys.flatten++List.replicate m .any))::H))
   |_=>False
  | .hgs b n cap,some (_,sz,bs)=>match rv F y,qn H b with
   | .slc ys,some (.cells cs)=>(∀y∈ys,y.length=sz)∧cs.length=cap*sz∧(n+ys.length)*bs<=140737488355328∧(cs.take (n*sz)).all plain=true∧
     ∀b' cap' m,qH (qT H b) b'->n*sz+ys.length*sz+m=cap'*sz->k (F.set d (.hgs b' (n+ys.length) cap')) ((b',.cells (cs.take (n*sz)++(ys.flatten++List.replicate m .any)))::qT H b)
   |_,_=>False
  |_,_=>False
 |_,_=>False
theorem Uz (h:j<(Builtin.zeroCells z n).size) (hp:0<z.size):∃i,(Builtin.zeroCells z n)[j]?=some z[i]!∧i<z.size:=by
 have hs:(Builtin.zeroCells z n).size=n*z.size:=by simp [Builtin.zeroCells]
 refine ⟨j % z.size,?_,Nat.mod_lt _ hp⟩
 unfold Builtin.zeroCells
 grind
theorem Jg:∀{H:AH},(∃o,qn H b=some o)->(b,x)∈qM H b x
 | [],⟨o,h⟩=>by simp [qn] at h
 | (c,o')::r,⟨o,h⟩=>by
  simp only [qM]
  simp only [qn] at h
  split
  ·rename_i e;subst e;exact .head _
  ·rename_i e;rw [if_neg e] at h;exact .tail _ (Jg ⟨o,h⟩)
theorem KV:∀{H:AH} {p:Nat×AO},p∈H->p.1≠b->p∈qM H b x
 | (c,o')::r,p,h,hne=>by
  simp only [qM]
  split
  ·rename_i e
   rcases List.mem_cons.1 h with h|h
   ·subst h;exact (hne e.symm).elim
   ·exact .tail _ h
  ·rcases List.mem_cons.1 h with h|h
   ·subst h;exact .head _
   ·exact .tail _ (KV h hne)
theorem mJ (hs:St K w F H a.tmps) (hok:jA o=true) {t u:TypeId} (ho:o.op= .call c) (hf:c.callee= .builtin .append) (hargs:c.args=#[x,y]) (htys:c.argTypes=#[t,u]) (hx:x= .tmp s) (hd:o.dst=some d) {e:TypeId} 
  (hev:ev F (.tmp s)= .hgs b n cap) (hap:Ko P t u=some (e,sz,bs)) (hys:rv F y= .slc ys) (hg:qn H b=some (.cells cs)) (h2:∀y∈ys,y.length=sz) (h3:cs.length=cap*sz) (h4:(n+ys.length)*bs<=140737488355328) (h5:(cs.take (n*sz)).all plain=true)
  (h6:∀b' cap' m,qH (qT H b) b'->n*sz+ys.length*sz+m=cap'*sz->k (F.set d (.hgs b' (n+ys.length) cap')) ((b',.cells (cs.take (n*sz)++(ys.flatten++List.replicate m .any)))::qT H b)):o.wp P a w (uq k K w a.defers) Q:=by
 subst hx
 obtain ⟨hF,hT⟩:=zQ hs hev (by simp)
 obtain ⟨hv,hnc,hcm,hnb⟩:=RepV.hgs_inv (show RepV K w (.hgs b n cap) (a.eval (.tmp s)) from hs.slot s _ _ hF hT)
 have hy:jP y=true:=by
  unfold jA at hok
  simp only [ho,Op.operands,Call.operands,hf,Nn] at hok
  exact (Array.all_eq_true'.1 hok.2) y (by rw [hargs];simp)
 obtain ⟨hsl,i,zc,hi,his,hib,hz,hbp,hus,hun⟩:=z6 hap
 obtain ⟨hu,hpos,_,_,_⟩:=ju hsl
 obtain ⟨i',z,hi',hz0,z1,z2,z3,z4⟩:=ye hz
 rw [hi] at hi'
 obtain rfl:=Option.some.inj hi'
 subst his hib
 obtain ⟨news,s1,s2,s3,s4,s5,s6⟩:=o0 (P:=P) (hys▸hs.rep hy) h2 hpos
 have hexec:∀r w',(Builtin.append_ #[t,u] o.type #[.slice (some ⟨b,0,none⟩) n cap,a.eval y]).run P w= .ok r w'->(execOp a.eval o).run P w= .ok (.value r) w':=fun r w' hr=>by
  simp only [execOp,ho,resolve,hf,Sem.run_bind,Sem.run_pure,Result.andThen_ok,invoke,builtin,hargs,htys]
  simp [hv,hr]
 have slot0:∀{K':Nat->BK} {w':World} {H':AH} {dd:D} {r:Value},KRel K' w'->HRel K' w' H'->(∀(i:Nat) (d':D) (v:Value),F[i]?=some d'->a.tmps[i]?=some v->RepO K' w' i d' v)->RepO K' w' d dd r->St K' w' (F.set d dd) H' (a.put (some d) r).tmps:=fun hk' hh' hsl' hdd=>by
  refine ⟨hk',hh',by simpa [Act.put] using hs.len,fun i d' v hx hv'=>?_⟩
  simp only [Act.put] at hv'
  rcases getElem?_set_some hx with ⟨rfl,rfl,hl⟩|⟨hne,hx⟩
  ·rw [Array.getElem?_setIfInBounds_self_of_lt (by rw [hs.len];simpa using hl)] at hv'
   obtain rfl:=Option.some.inj hv'
   exact hdd
  ·rw [Array.getElem?_setIfInBounds_ne hne] at hv'
   exact hsl' i d' v hx hv'
 obtain ⟨hpb,c0,T,hb,hc,hr⟩:=hs.hrel.ok b _ (qW hg)
 have hcap:n*i.size<=cap*i.size:=Nat.mul_le_mul_right _ hnc
 have hfl:=vO h2
 have hlb:n+ys.length<=(n+ys.length)*i.bytes:=Nat.le_mul_of_pos_right _ hbp
 have htk:(cs.take (n*i.size)).length=n*i.size:=by simp;omega
 have hpl:∀(j:Nat) (dd:D),(cs.take (n*i.size))[j]?=some dd->plain dd=true:=fun j dd hj=>List.all_eq_true.1 h5 dd (Nm hj)
 have hnewY:∀(K':Nat->BK) (w':World),ExtV K w K' w'->∀(j:Nat) (dd:D) (u:Value),ys.flatten[j]?=some dd->news[j]?=some u->RepV K' w' dd u:=fun K' w' he j dd uu hdd hu'=>by
  rw [zk hpos h2] at hdd
  obtain ⟨x1,e1,e2⟩:=Option.bind_eq_some_iff.1 hdd
  obtain ⟨u2,f1,f2⟩:=s6 _ x1 e1 _ dd e2
  have hdm:=Nat.div_add_mod j i.size
  rw [Nat.mul_comm] at hdm
  rw [hdm,hu'] at f1
  obtain rfl:=Option.some.inj f1
  exact f2.mono he
 by_cases hroom:n+ys.length<=cap
 ·have hroom':(n+ys.length)*i.size<=cap*i.size:=Nat.mul_le_mul_right _ hroom
  rw [Nat.add_mul] at hroom'
  obtain ⟨c',T',q1,q2,q3,q4,q5,q6,_⟩:=Q4 (P:=P) (off:=n*i.size) (vs:=news) (cs':=cs.take (n*i.size)++(ys.flatten++cs.drop (n*i.size+ys.length*i.size))) hs.krel hs.hrel hg (K':=K) (.refl K w) hs.krel (fun _ h=>h) (fun _ _ _ _ h=>h)
   (by rw [s2,h3];omega) s5 (by simp [hfl];omega) (fun j dd hdd hj=>by
    rw [s2] at hj
    rw [List.getElem?_append] at hdd
    split at hdd
    ·rw [List.getElem?_take] at hdd
     split at hdd
     ·exact hdd
     ·cases hdd
    ·rename_i hge
     rw [htk] at hge hdd
     rw [Np (by rw [hfl];omega),hfl,List.getElem?_drop] at hdd
     rw [show n*i.size+ys.length*i.size+(j - n*i.size - ys.length*i.size)=j by omega] at hdd
     exact hdd) (fun j dd uu hdd hu'=>by
    have hjl:j<news.length:=(List.getElem?_eq_some_iff.1 hu').1
    rw [s2] at hjl
    rw [Np (by omega),htk,show n*i.size+j - n*i.size=j by omega,No (by rw [hfl];exact hjl)] at hdd
    have:=hnewY K w (.refl K w) j dd uu hdd hu'
    exact this.repC (fun xs e=>by rw [e] at this;exact this.not_own))
  have hst:=run_storeCells_at P b (n*i.size) T news 0 c0 w hb (by rw [hc,h3,s2];omega) s5
  simp only [Nat.add_zero] at hst
  rw [q1] at hst
  have hrun:=Q6 (P:=P) (w:=w) t u o.type e i hu hus hun hi (a.eval y) ys.length news s1 s2 (s3 w rfl) s5 b n cap c0 T hb hroom (by rw [hc,h3,s2];omega)
  injection hst with _ hst
  rw [<-hst] at hrun
  have hnd':(((b,AO.cells (cs.take (n*i.size)++(ys.flatten++cs.drop (n*i.size+ys.length*i.size))))::qT H b).map (·.1)).Nodup:=by
   simp only [List.map_cons,List.nodup_cons]
   refine ⟨fun hm=>?_,(erase_sub.map (·.1)).nodup hs.hrel.nd⟩
   obtain ⟨⟨b2,o2⟩,e1,e2⟩:=List.mem_map.1 hm
   exact kn hs.hrel.nd e1 e2
  have hfr:qH (qT H b) b:=by
   have:∀{G:AH},b ∉ G.map (·.1)->qH G b:=by
    intro G
    induction G with
    |nil=>intro _;trivial
    | cons x r ih=>
     obtain ⟨c1,o1⟩:=x
     intro hm
     simp only [List.map_cons,List.mem_cons,not_or] at hm
     exact ⟨hm.1,ih hm.2⟩
   exact this (by simp only [List.map_cons,List.nodup_cons] at hnd';exact hnd'.1)
  have hfin:HRel K (w.setRow b c') ((b,.cells (cs.take (n*i.size)++(ys.flatten++List.replicate (cap*i.size - n*i.size - ys.length*i.size) .any)))::qT H b):=by
   refine ⟨by simpa using hnd',fun b' o' hm=>?_⟩
   rcases List.mem_cons.1 hm with h|h
   ·injection h with g1 g2
    subst g1 g2
    obtain ⟨r1,c2,T2,r2,r3,r4⟩:=q5.ok _ _ (Jg ⟨_,hg⟩)
    refine ⟨r1,c2,T2,r2,?_,fun j dd hdd=>?_⟩
    ·rw [r3]
     simp only [Nf,List.length_drop,N2,htk,hfl,h3]
     omega
    ·rw [<-Nq,List.getElem?_append] at hdd
     have hlen2:(cs.take (n*i.size)++ys.flatten).length=n*i.size+ys.length*i.size:=by rw [Nf,htk,hfl]
     split at hdd
     ·rename_i hlt
      exact r4 j dd (by rw [<-Nq,No hlt];exact hdd)
     ·rename_i hge
      have hj2:=(List.getElem?_eq_some_iff.1 hdd).1
      rw [N2] at hj2
      have hany:dd= .any:=List.eq_of_mem_replicate (Nm hdd)
      subst hany
      have hjl:j<cs.length:=by rw [h3];omega
      obtain ⟨uu,e1,e2,_⟩:=r4 j cs[j] (by
       rw [<-Nq,Np (by omega),List.getElem?_drop,hlen2,show n*i.size+ys.length*i.size+(j - (n*i.size+ys.length*i.size))=j by omega]
       exact Na hjl)
      exact ⟨uu,e1,e2,.any uu⟩
   ·exact q5.ok b' o' (KV (erase_sub.subset h) (kn hs.hrel.nd h))
  refine qP (hexec _ _ hrun) ⟨_,_,K,h6 b cap (cap*i.size - n*i.size - ys.length*i.size) hfr (by omega),q3,by
   rw [hd]
   exact slot0 q4 hfin (fun i' d' v' h1 h2'=>(hs.slot i' d' v' h1 h2').keep q6 (fun _ h=>h)) (RepV.viewO (.hgs _ _ _ hroom hcm (by unfold big;omega))),qx _ _⟩
 ·have holen:(c0.toList.take (n*i.size)).length=n*i.size:=by simp;omega
  have hrun:=o5 (P:=P) (w:=w) t u o.type e i z hu hus hun hi hz0 (a.eval y) ys.length news s1 (s3 w.drew rfl) (some ⟨b,0,none⟩) n cap (c0.toList.take (n*i.size)) (by
   exact run_firstCells_some (P:=P) w.drew i.size n ⟨b,0,none⟩ n cap _ holen (fun j v hv'=>by
    rw [Addr.add_lit,Nu]
    have:w.drew.cell? ⟨b,j,none⟩=w.cell? ⟨b,j,none⟩:=rfl
    rw [this,jU hb]
    rw [List.getElem?_take] at hv'
    split at hv'
    ·simpa using hv'
    ·cases hv')) (by omega) h4 hbp
  have hge:=grownCap_ge w (n+ys.length) cap e
  have hle:=grownCap_le_maxLen w (n+ys.length) cap e (by unfold maxLen;omega)
  generalize grownCap w (n+ys.length) cap e=nc at hrun hge hle
  generalize hcc:((c0.toList.take (n*i.size)).toArray++news.toArray++Builtin.zeroCells z.cells (nc - (n+ys.length)))=cc at hrun
  have hzs:(Builtin.zeroCells z.cells (nc - (n+ys.length))).size=(nc - (n+ys.length))*z.cells.size:=by simp [Builtin.zeroCells]
  have hnc2:(n+ys.length)*i.size<=nc*i.size:=Nat.mul_le_mul_right _ hge
  have hsubm:(nc - (n+ys.length))*i.size=nc*i.size - (n+ys.length)*i.size:=Nat.sub_mul _ _ _
  have hadd:(n+ys.length)*i.size=n*i.size+ys.length*i.size:=Nat.add_mul _ _ _
  have hcs:cc.size=(cs.take (n*i.size)++(ys.flatten++List.replicate ((nc - (n+ys.length))*i.size) D.any)).length:=by
   rw [<-hcc]
   simp only [Array.size_append,List.size_toArray,Nf,N2,hzs,hfl,s2,z1,holen,htk,<-z2]
   omega
  have hs1:St K w.drew F H a.tmps:=⟨hs.krel,hs.hrel.pres hs.krel ((Pres.refl K w).drew),hs.len,fun i d' v h1 h2=>(hs.slot i d' v h1 h2).keep (((Pres.refl K w).drew).keep hs.krel) (fun _ h=>h)⟩
  obtain ⟨K',g1,g2⟩:=Vb (a:=a) hs1 e cc _ (n+ys.length) nc hge hle (by unfold big;omega) hcs (fun j dd hdd=>by
   have hjl:j<cc.size:=by rw [hcs];exact (List.getElem?_eq_some_iff.1 hdd).1
   rw [List.getElem?_append] at hdd
   split at hdd
   ·rename_i hlt
    rw [htk] at hlt
    have hp:=hpl j dd hdd
    rw [List.getElem?_take,if_pos hlt] at hdd
    obtain ⟨uu,e1,e2,e3⟩:=hr j dd hdd
    refine ⟨uu,?_,e2,.inl ((Wl hp e3).mono (((Pres.refl K w).drew).keep hs.krel).ext)⟩
    rw [<-hcc,Array.getElem?_append_left (by simp only [Array.size_append,List.size_toArray,holen];omega),Array.getElem?_append_left (by simp only [List.size_toArray,holen];exact hlt),List.getElem?_toArray,List.getElem?_take,if_pos hlt]
    simpa using e1
   ·rename_i hge'
    rw [htk] at hge' hdd
    rw [List.getElem?_append] at hdd
    split at hdd
    ·rename_i hlt
     rw [hfl] at hlt
     have hjn:j - n*i.size<news.length:=by rw [s2];exact hlt
     have f1:=Na hjn
     refine ⟨news[j - n*i.size],?_,s5 _ (Nm f1),.inl (hnewY K w.drew (((Pres.refl K w).drew).keep hs.krel).ext _ dd _ hdd f1)⟩
     rw [<-hcc,Array.getElem?_append_left (by simp only [Array.size_append,List.size_toArray,holen];omega),Array.getElem?_append_right (by simp only [List.size_toArray,holen];omega)]
     simp only [List.size_toArray,holen,List.getElem?_toArray]
     exact f1
    ·rename_i hge2
     rw [hfl] at hge2
     have hdany:dd= .any:=List.eq_of_mem_replicate (Nm hdd)
     subst hdany
     have hjz:j - (n*i.size+ys.length*i.size)<(Builtin.zeroCells z.cells (nc - (n+ys.length))).size:=by
      rw [<-hcc] at hjl
      simp only [Array.size_append,List.size_toArray,holen,s2] at hjl
      omega
     obtain ⟨q,q1,q2⟩:=Uz hjz (by omega)
     obtain ⟨f1,_⟩:=z3 q _ (Ny q2)
     refine ⟨z.cells[q]!,?_,by rw [getElem!_pos z.cells q q2];exact f1,.inl (.any _)⟩
     rw [<-hcc,Array.getElem?_append_right (by simp only [Array.size_append,List.size_toArray,holen,s2];omega)]
     simp only [Array.size_append,List.size_toArray,holen,s2]
     exact q1) none
  have hsz:w.drew.heap.size=w.heap.size:=rfl
  have hfresh:qH (qT H b) w.heap.size:=by
   have:∀{G:AH},qH G w.heap.size->qH (qT G b) w.heap.size:=by
    intro G
    induction G with
    |nil=>exact fun h=>h
    | cons x r ih=>
     obtain ⟨c1,o1⟩:=x
     intro h
     unfold qT
     split
     ·exact h.2
     ·exact ⟨h.1,ih h.2⟩
   exact this (hs.hrel.fresh hs.krel)
  refine qP (hexec _ _ hrun) ⟨_,_,K',h6 _ nc ((nc - (n+ys.length))*i.size) hfresh (by omega),((Pres.refl K w).drew.fk hs.krel).trans g1,by
   rw [hd]
   exact slot0 g2.krel ⟨((List.Sublist.cons_cons _ erase_sub).map (·.1)).nodup g2.hrel.nd,fun b' o' hm=>g2.hrel.ok b' o' ((List.Sublist.cons_cons _ erase_sub).subset hm)⟩ g2.slot (RepV.viewO (.hgs _ _ _ hge hle (by unfold big;omega))),qx _ _⟩
theorem ly (hs:St K w F H a.tmps) (hok:jA o=true) {t u:TypeId} (ho:o.op= .call c) (hf:c.callee= .builtin .append) (hargs:c.args=#[x,y]) (htys:c.argTypes=#[t,u]) (h:D9 P t u x y o.dst F H k):o.wp P a w (uq k K w a.defers) Q:=by
 unfold D9 at h
 split at h
 ·rename_i _ _ s d hd
  split at h
  ·rename_i e sz bs hev hap
   obtain ⟨hF,hT⟩:=zQ hs hev (by simp)
   have hown:OwnAt K w (.slot s 0) [] (a.eval (.tmp s)):=hs.slot s _ _ hF hT
   obtain ⟨ad,hv⟩:∃ad,a.eval (.tmp s)= .slice ad 0 0:=by
    rcases hown with ⟨_,ad,hv⟩|⟨b,cap,sz',c',T,hv,_,_,_,hp,_⟩
    ·exact ⟨ad,hv⟩
    ·simp at hp
   have hy:jP y=true:=by
    unfold jA at hok
    simp only [ho,Op.operands,Call.operands,hf,Nn] at hok
    exact (Array.all_eq_true'.1 hok.2) y (by rw [hargs];simp)
   split at h
   ·rename_i ys hys
    obtain ⟨h2,h3,h4,h5⟩:=h
    obtain ⟨hsl,i,zc,hi,his,hib,hz,hbp,hus,hun⟩:=z6 hap
    obtain ⟨hu,hpos,_,_,_⟩:=ju hsl
    obtain ⟨i',z,hi',hz0,z1,z2,z3,z4⟩:=ye hz
    rw [hi] at hi'
    obtain rfl:=Option.some.inj hi'
    subst his hib
    obtain ⟨news,s1,s2,s3,s4,s5,s6⟩:=o0 (P:=P) (hys▸hs.rep hy) h2 hpos
    have hexec:∀r w',(Builtin.append_ #[t,u] o.type #[.slice ad 0 0,a.eval y]).run P w= .ok r w'->(execOp a.eval o).run P w= .ok (.value r) w':=fun r w' hr=>by
     simp only [execOp,ho,resolve,hf,Sem.run_bind,Sem.run_pure,Result.andThen_ok,invoke,builtin,hargs,htys]
     simp [hv,hr]
    have slot0:∀{K':Nat->BK} {w':World} {H':AH} {dd:D} {r:Value},FK K w K' w'->KRel K' w'->HRel K' w' H'->(∀(i:Nat) (d':D) (v:Value),F[i]?=some d'->a.tmps[i]?=some v->RepO K' w' i d' v)->RepO K' w' d dd r->St K' w' ((F.set s (.slc [])).set d dd) H' (a.put (some d) r).tmps:=fun hfk hk' hh' hsl' hdd=>by
     refine ⟨hk',hh',by simpa [Act.put] using hs.len,fun i d' v hx hv'=>?_⟩
     simp only [Act.put] at hv'
     rcases getElem?_set_some hx with ⟨rfl,rfl,hl⟩|⟨hne,hx⟩
     ·rw [Array.getElem?_setIfInBounds_self_of_lt (by rw [hs.len];simpa using hl)] at hv'
      obtain rfl:=Option.some.inj hv'
      exact hdd
     ·rw [Array.getElem?_setIfInBounds_ne hne] at hv'
      rcases getElem?_set_some hx with ⟨rfl,rfl,_⟩|⟨hne2,hx⟩
      ·rw [hT] at hv'
       obtain rfl:=Option.some.inj hv'
       rw [hv]
       exact RepV.viewO (.slcnil ad)
      ·exact hsl' i d' v hx hv'
    by_cases hye:ys= []
    ·subst hye
     have hn:news= []:=List.eq_nil_of_length_eq_zero (by simpa using s2)
     subst hn
     have hrun:=Jb (P:=P) (w:=w) t u o.type e i hu hus hun hi (a.eval y) s1 (s3 w rfl) ad
     exact qP (hexec _ _ hrun) ⟨_,H,K,h4 rfl,.refl K w,by rw [hd];exact slot0 (.refl K w) hs.krel hs.hrel hs.slot (.inl ⟨rfl,ad,rfl⟩),qx _ _⟩
    ·have hyl:0<ys.length:=List.length_pos_iff.2 hye
     have hrun:=o5 (P:=P) (w:=w) t u o.type e i z hu hus hun hi hz0 (a.eval y) ys.length news s1 (s3 w.drew rfl) ad 0 0 [] (by cases ad<;>simp [Builtin.firstCells,loadCells,loadCellsFrom]) (by omega) (by simpa using h3) hbp
     have hge:=grownCap_ge w (0+ys.length) 0 e
     have hlb:ys.length<=ys.length*i.bytes:=Nat.le_mul_of_pos_right _ hbp
     have hle:=grownCap_le_maxLen w (0+ys.length) 0 e (by unfold maxLen;omega)
     generalize grownCap w (0+ys.length) 0 e=nc at hrun hge hle
     simp only [Nu] at hrun hge
     generalize hcc:((#[]:Array Value)++news.toArray++Builtin.zeroCells z.cells (nc - ys.length))=cc at hrun
     have hzs:(Builtin.zeroCells z.cells (nc - ys.length)).size=(nc - ys.length)*z.cells.size:=by simp [Builtin.zeroCells]
     have hfl:=vO h2
     have hcs:cc.size=(ys.flatten++List.replicate ((nc - ys.length)*i.size) D.any).length:=by
      rw [<-hcc]
      simp only [Array.size_append,List.size_toArray,Nf,N2,hzs,hfl,s2,z1,<-z2]
      simp
     have hs1:St K w.drew F H a.tmps:=⟨hs.krel,hs.hrel.pres hs.krel ((Pres.refl K w).drew),hs.len,fun i d' v h1 h2=>(hs.slot i d' v h1 h2).keep (((Pres.refl K w).drew).keep hs.krel) (fun _ h=>h)⟩
     obtain ⟨K',g1,g2⟩:=Vb (a:=a) hs1 e cc _ ys.length nc hge hle (by unfold big;omega) hcs (fun j dd hdd=>by
      have hjl:j<cc.size:=by rw [hcs];exact (List.getElem?_eq_some_iff.1 hdd).1
      rw [List.getElem?_append] at hdd
      split at hdd
      ·rename_i hlt
       rw [zk hpos h2] at hdd
       obtain ⟨x1,e1,e2⟩:=Option.bind_eq_some_iff.1 hdd
       obtain ⟨uu,f1,f2⟩:=s6 _ x1 e1 _ dd e2
       have hdm:=Nat.div_add_mod j i.size
       rw [Nat.mul_comm] at hdm
       rw [hdm] at f1
       refine ⟨uu,?_,s5 _ (Nm f1),.inl (f2.mono (((Pres.refl K w).drew).keep hs.krel).ext)⟩
       rw [<-hcc,Array.getElem?_append_left (by simp [s2];omega),Array.getElem?_append_right (by simp)]
       simpa using f1
      ·rename_i hge'
       have hdany:dd= .any:=List.eq_of_mem_replicate (Nm hdd)
       subst hdany
       have hjz:j - news.length<(Builtin.zeroCells z.cells (nc - ys.length)).size:=by
        rw [<-hcc] at hjl
        simp only [Array.size_append,List.size_toArray] at hjl
        simp at hjl
        omega
       obtain ⟨q,q1,q2⟩:=Uz hjz (by omega)
       obtain ⟨f1,_⟩:=z3 q _ (Ny q2)
       refine ⟨z.cells[q]!,?_,by rw [getElem!_pos z.cells q q2];exact f1,.inl (.any _)⟩
       rw [<-hcc,Array.getElem?_append_right (by simp;omega)]
       simpa using q1) none
     have hsz:w.drew.heap.size=w.heap.size:=rfl
     refine qP (hexec _ _ hrun) ⟨_,_,K',h5 hye _ nc ((nc - ys.length)*i.size) (hs1.hrel.fresh hs1.krel) (by have e1:=Nat.mul_le_mul_right i.size hge;have e2:=Nat.sub_mul nc ys.length i.size;omega),((Pres.refl K w).drew.fk hs.krel).trans g1,by
      rw [hd]
      exact slot0 (((Pres.refl K w).drew.fk hs.krel).trans g1) g2.krel g2.hrel g2.slot (RepV.viewO (.hgs _ _ nc hge hle (by unfold big;omega))),qx _ _⟩
   ·exact h.elim
  ·rename_i b n cap e sz bs hev hap
   split at h
   ·rename_i ys cs hys hg
    exact mJ hs hok ho hf hargs htys rfl hd hev hap hys hg h.1 h.2.1 h.2.2.1 h.2.2.2.1 h.2.2.2.2
   ·exact h.elim
  ·exact h.elim
 ·exact h.elim
def Fz (F:List D) (H:AH) (F':List D) (H':AH):Prop:=
 ∀(K:Nat->BK) (w:World) (t:Array Value),St K w F H t->∃K',FK K w K' w∧St K' w F' H' t
theorem Fz.trans (h:Fz F H F' H') (g:Fz F' H' F'' H''):Fz F H F'' H'':=fun K w t hs=>
 let ⟨K',h1,h2⟩:=h K w t hs
 let ⟨K'',g1,g2⟩:=g K' w t h2
 ⟨K'',h1.trans g1,g2⟩
theorem ia (hk:KRel K w) (hb:K b= .priv) (hx:∀n,x≠ .tok n .outer):Keep n9 (fun c=>c=b) K w (Qw K b x) w∧KRel (Qw K b x) w:=by
 have hlt:=hk.lt_of (b:=b) (by rw [hb];simp)
 have hne:∀{c:Nat} {y:BK},K c=y->y≠ .priv->c≠b:=fun h1 h2 e=>by subst e;rw [hb] at h1;exact h2 h1.symm
 refine ⟨⟨⟨rfl,rfl,⟨rfl,Nt _⟩,Nt _,fun c _ hc=>⟨by rw [j7 _ _ (hne hc (by simp))];exact hc,rfl⟩,fun c n o hc _=>⟨n,o,by rw [j7 _ _ (hne hc (by simp))];exact hc,Nt _,fun _ _=>rfl⟩,fun c hc=>?_⟩,fun c n o hc _=>⟨by rw [j7 _ _ (hne hc (by simp))];exact hc,rfl⟩,fun c n hc=>?_,fun c hc hne'=>⟨by rw [j7 _ _ hne'];exact hc,rfl⟩⟩,fun c hc=>?_⟩
 ·by_cases e:c=b
  ·exact .inr (by rw [e];exact hlt)
  ·exact .inl (by rw [j7 _ _ e];exact hc)
 ·by_cases e:c=b
  ·subst e;rw [jx] at hc;exact (hx n hc).elim
  ·rwa [j7 _ _ e] at hc
 ·rw [j7 _ _ (by omega)];exact hk c hc
theorem W7 (hs:St K w F H a.tmps) {b n cap sz:Nat} {cs:List D} {xs:List (List D)} {rest:List D} (hg:qn H b=some (.cells cs)) (hcs:cs=xs.flatten++rest) (hx:∀x∈xs,x.length=sz) (hpos:0<sz) (hpl:∀x∈xs,∀d∈x,plain d=true):
  K b= .priv∧∃(c:Array Value) (T:TypeId),w.heap[b]?=some (.cells c T (0,0))∧c.size=cs.length∧∀(i:Nat) (x:List D),xs[i]?=some x->∀(j:Nat) (d:D),x[j]?=some d->∃u,c[i*sz+j]?=some u∧u.oneCell'=true∧RepV K w d u:=by
 obtain ⟨hp,c,T,h1,h2,h3⟩:=hs.hrel.ok b _ (qW hg)
 refine ⟨hp,c,T,h1,h2,fun i x hi j d hj=>?_⟩
 have hlt:=VP hi (hx x (Nm hi)) hj
 have hjs:j<sz:=by rw [<-hx x (Nm hi)];exact (List.getElem?_eq_some_iff.1 hj).1
 have hget:cs[i*sz+j]?=some d:=by
  rw [hcs,No (by rw [vO hx];exact hlt),zk hpos hx]
  have e1:(i*sz+j) / sz=i:=by rw [Nat.mul_comm,Nat.mul_add_div hpos,Nat.div_eq_of_lt hjs,Nat.add_zero]
  have e2:(i*sz+j) % sz=j:=by rw [Nat.mul_comm,Nat.mul_add_mod,Nat.mod_eq_of_lt hjs]
  rw [e1,e2,hi]
  exact hj
 obtain ⟨u,e1,e2,e3⟩:=h3 _ d hget
 exact ⟨u,e1,e2,Wl (hpl x (Nm hi) d (Nm hj)) e3⟩
theorem UJ {T:TypeId} (hb:w.heap[b]?=some (.cells c T (0,0))) (hv:Vis K' w b 0 (xs.length*sz)) (hn:xs.length=n) (h1:n<=cap) (h2:cap<=maxLen) (h3:n<=big) (hx:∀x∈xs,x.length=sz)
  (hc:∀(i:Nat) (x:List D),xs[i]?=some x->∀(j:Nat) (d:D),x[j]?=some d->∃u,c[i*sz+j]?=some u∧u.oneCell'=true∧RepV K' w d u):RepV K' w (.slc xs) (.slice (some ⟨b,0,none⟩) n cap):=by
 subst hn
 refine .slc xs b 0 cap sz (fun i j=>(c[i*sz+j]?).getD default) h3 h1 h2 (fun i x hi=>hx x (Nm hi)) hv (fun i x hi j d hj=>?_) (fun i x hi j d hj=>?_) (fun i x hi j d hj=>?_)
 ·obtain ⟨u,e1,_,_⟩:=hc i x hi j d hj
  rw [Nu,jU hb,e1];rfl
 ·obtain ⟨u,e1,e2,_⟩:=hc i x hi j d hj
  rw [e1];exact e2
 ·obtain ⟨u,e1,_,e3⟩:=hc i x hi j d hj
  rw [e1];exact e3
theorem Fz.freeze {s b n sz:Nat} {cs:List D} {xs:List (List D)} {rest:List D} (hF:F.getD s .any= .hsl b n) (hg:qn H b=some (.cells cs)) (hcs:cs=xs.flatten++rest) (hn:xs.length=n) (hx:∀x∈xs,x.length=sz) (hpos:0<sz) (hpl:∀x∈xs,∀d∈x,plain d=true):
  Fz F H (F.set s (.slc xs)) (qT H b):=by
 intro K w t hs
 let a:Act:={tmps:=t,defers:= []}
 have hs':St K w F H a.tmps:=hs
 obtain ⟨hp,c,T,c1,c2,c3⟩:=W7 (cap:=0) (n:=n) hs' hg hcs hx hpos hpl
 obtain ⟨hkeep,hkr⟩:=ia (x:= .imm) hs.krel hp (by simp)
 have hlt:s<F.length:=by
  rcases Nv s F.length with h'|h'
  ·exact h'
  ·simp [List.getD,Nw h'] at hF
 have hFs:F[s]?=some (.hsl b n):=by rw [<-hF];simp [List.getD,Na hlt]
 have hT:t[s]?=some t[s]!:=by
  have:s<t.size:=by rw [hs.len];exact hlt
  rw [getElem!_pos t s this,Ny this]
 obtain ⟨cap,hv,h1,h2,h3⟩:=RepV.hsl_inv (K:=K) (w:=w) (v:=t[s]!) (hs.slot s _ _ hFs hT)
 refine ⟨_,hkeep.fk (fun h=>h),hkr,⟨(erase_sub.map (·.1)).nodup hs.hrel.nd,fun c' o' hm=>AO.keep hkeep (kn hs.hrel.nd hm) (fun _ h=>h) (hs.hrel.ok c' o' (erase_sub.subset hm))⟩,by simpa using hs.len,fun i d v hd hv'=>?_⟩
 rcases getElem?_set_some hd with ⟨rfl,rfl,_⟩|⟨hne,hd⟩
 ·rw [hT] at hv'
  obtain rfl:=Option.some.inj hv'
  rw [hv]
  refine RepV.viewO (UJ c1 ⟨(Array.getElem?_eq_some_iff.1 c1).1,?_⟩ hn h1 h2 h3 hx (fun i x hi j d hj=>?_))
  ·rw [jx];trivial
  ·obtain ⟨u,e1,e2,e3⟩:=c3 i x hi j d hj
   exact ⟨u,e1,e2,e3.mono hkeep.ext⟩
 ·exact (hs.slot i d v hd hv').keep hkeep (fun _ h=>h)
theorem Fz.freezeC {b' j b n sz:Nat} {ds cs:List D} {xs:List (List D)} {rest:List D} (hne:b'≠b) (hd:qn H b'=some (.cells ds)) (hj:ds[j]?=some (.hsl b n)) (hg:qn H b=some (.cells cs)) (hcs:cs=xs.flatten++rest) (hn:xs.length=n) (hx:∀x∈xs,x.length=sz) (hpos:0<sz) (hpl:∀x∈xs,∀d∈x,plain d=true):
  Fz F H F (qT (qM H b' (.cells (ds.set j (.slc xs)))) b):=by
 intro K w t hs
 let a:Act:={tmps:=t,defers:= []}
 have hs':St K w F H a.tmps:=hs
 obtain ⟨hp,c,T,c1,c2,c3⟩:=W7 (cap:=0) (n:=n) hs' hg hcs hx hpos hpl
 obtain ⟨hkeep,hkr⟩:=ia (x:= .imm) hs.krel hp (by simp)
 have hnd:((qM H b' (.cells (ds.set j (.slc xs)))).map (·.1)).Nodup:=by rw [jW];exact hs.hrel.nd
 refine ⟨_,hkeep.fk (fun h=>h),hkr,⟨(erase_sub.map (·.1)).nodup hnd,fun c' o' hm=>?_⟩,hs.len,fun i d v hd' hv'=>(hs.slot i d v hd' hv').keep hkeep (fun _ h=>h)⟩
 have hcb:=kn hnd hm
 rcases kY hs.hrel.nd (erase_sub.subset hm) with ⟨rfl,rfl⟩|⟨hne',hm⟩
 ·obtain ⟨g1,c',T',g2,g3,g4⟩:=AO.keep hkeep hcb (fun _ h=>h) (hs.hrel.ok c' _ (qW hd))
  refine ⟨g1,c',T',g2,by simpa using g3,fun q d' hd'=>?_⟩
  rcases getElem?_set_some hd' with ⟨rfl,rfl,_⟩|⟨hnq,hd'⟩
  ·obtain ⟨u,e1,e2,e3⟩:=g4 j _ hj
   obtain ⟨cap,rfl,h1,h2,h3⟩:=RepV.hsl_inv e3
   refine ⟨_,e1,e2,?_⟩
   refine UJ c1 ⟨(Array.getElem?_eq_some_iff.1 c1).1,?_⟩ hn h1 h2 h3 hx (fun i x hi j d hj=>?_)
   ·rw [jx];trivial
   ·obtain ⟨u,e1,e2,e3⟩:=c3 i x hi j d hj
    exact ⟨u,e1,e2,e3.mono hkeep.ext⟩
  ·exact g4 q d' hd'
 ·exact AO.keep hkeep hcb (fun _ h=>h) (hs.hrel.ok c' o' hm)
end
end Go.Aw
end
