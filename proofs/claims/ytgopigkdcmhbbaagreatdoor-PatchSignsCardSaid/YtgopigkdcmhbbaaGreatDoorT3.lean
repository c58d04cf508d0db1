/- A part of the proof of what the last text says: AwT, AwR, AwU, AwL, Aw16, AwY, Aw17, AwI, AwF, AwW. Conditions: those in each theorem. -/
import Derived.Test.YtgopigkdcmhbbaaGreatDoorT2
import Derived.OrdersIn
import Derived.TacticsIn
import Derived.RangeFuncLeaves
import Derived.RangeFuncWrites
import Derived.Scope
import Derived.RangeFuncBound
set_option autoImplicit true
set_option relaxedAutoImplicit true
set_option linter.unusedVariables false
set_option linter.unusedSimpArgs false
set_option maxRecDepth 100000
set_option maxHeartbeats 16000000
open List renaming getD_eq_getElem?_getD -> Na,getElem?_eq_getElem -> Nb,getElem?_map -> Nc,length_append -> Nf,length_cons -> Ng,length_map -> Nh,getElem_of_mem -> Nj,mem_of_getElem? -> Nk,getElem?_append_left -> Nm,mem_cons -> Nr,getElem?_eq_none -> Nt,mem_map -> Nv,cons_append -> Nw,map_congr_left -> Ny
open Option renaming getD_some -> Nd,map_eq_some_iff -> Ni
open Bool renaming and_eq_true -> Nl
open Array renaming getElem?_eq_getElem -> Nu
open Nat renaming le_trans -> Nn,le_refl -> No,zero_add -> Np,lt_or_ge -> Nq,reduceSub -> qa,reduceAdd -> qb,reduceMul -> qc,reduceEqDiff -> qd,reduceLeDiff -> qe,reduceBEq -> qf
section
namespace Go.Aw
open Go Go.RowKit
theorem wU:∀{H:AH},(H.map (·.1)).Nodup->∀{b:Nat} {o:AO},(b,o)∈H->qn H b=some o
 | [],_,b,o,h=>by simp at h
 | (c,x)::r,hn,b,o,h=>by
  simp only [List.map_cons,List.nodup_cons] at hn
  unfold qn
  rcases List.mem_cons.1 h with h|h
  ·injection h with h1 h2
   subst h1 h2
   simp
  ·have hne:b≠c:=fun e=>hn.1 (by rw [<-e];exact List.mem_map.2 ⟨(b,o),h,rfl⟩)
   rw [if_neg hne]
   exact wU hn.2 h
theorem RepC.view1 (h:RepC K w o d v):RepC K w o d.view1 v:=by
 cases d<;>first|exact h|exact OwnAt.rep h
theorem tn (h:AO.at_ K w b o):AO.at_ K w b (Up o):=by
 cases o with
 | cells cs=>
  obtain ⟨hp,c,T,h1,h2,h3⟩:=h
  refine ⟨hp,c,T,h1,by simpa using h2,fun j d hd=>?_⟩
  rw [Nc,Ni] at hd
  obtain ⟨d',e1,rfl⟩:=hd
  obtain ⟨u,f1,f2,f3⟩:=h3 j d' e1
  exact ⟨u,f1,f2,f3.view1⟩
 |_=>exact h
theorem Sub.hrel (hn:(H0.map (·.1)).Nodup) (hs:Sub H0 H) (h:HRel K w H):HRel K w H0:=
 ⟨hn,fun b o hm=>by
  obtain ⟨o',h1,h2⟩:=hs b o (wU hn hm)
  rcases h2 with rfl|rfl
  ·exact h.ok b _ (qW h1)
  ·exact tn (h.ok b _ (qW h1))⟩
theorem Sub.st (hn:(H0.map (·.1)).Nodup) (hs:Sub H0 H) (h:St K w F H t):St K w F H0 t:=
 ⟨h.krel,hs.hrel hn h.hrel,h.len,h.slot⟩
theorem kM (hne:c≠b):∀{H:AH},qn (qM H b x) c=qn H c
 | []=>rfl
 | (e,o)::r=>by
  unfold qM
  split
  ·rename_i h
   subst h
   unfold qn
   rw [if_neg hne,if_neg hne]
  ·unfold qn
   rw [kM hne]
theorem WN (hne:c≠b):∀{H:AH},qM (qM H b x) c y=qM (qM H c y) b x
 | []=>rfl
 | (e,o)::r=>by
  by_cases h1:b=e
  ·subst h1
   have h2:c≠b:=hne
   simp [qM,h2]
  ·by_cases h2:c=e
   ·subst h2
    simp [qM,h1]
   ·simp [qM,h1,h2,WN hne]
theorem Sub.set (h:Sub H0 H) (hb:qn H0 b=none):Sub H0 (qM H b x):=fun c o hc=>by
 have hne:c≠b:=fun e=>by subst e;rw [hb] at hc;cases hc
 obtain ⟨o',h1,h2⟩:=h c o hc
 exact ⟨o',by rw [kM hne];exact h1,h2⟩
abbrev NV:=Nat->Option (Bool×List D)
def upv (σ:NV) (d:Nat) (x:Bool×List D):NV:=fun c=>if c=d then some x else σ c
theorem vM:upv σ d x d=some x:=by simp [upv]
theorem kI (h:c≠d):upv σ d x c=σ c:=by simp [upv,h]
theorem Qa (h:e≠d):upv (upv σ d x) e y=upv (upv σ e y) d x:=funext fun c=>by
 by_cases h1:c=d
 ·subst h1
  rw [vM,kI (Ne.symm h),vM]
 ·by_cases h2:c=e
  ·subst h2
   rw [vM,kI h1,vM]
  ·rw [kI h2,kI h1,kI h1,kI h2]
inductive Ch where
 |no
 |blk (b:Nat) (o o':AO)
 |al (d:Nat) (z:List D)
 |put (d:Nat) (z v:List D)
def Ch.plain:Ch->Bool
 | .no=>true
 | .blk _ _ _=>true
 |_=>false
structure Eff2 where
 e:Eff
 c:Ch
def Eff2.ap (x:Eff2) (H:AH×NV):AH×NV:=match x.c with
 | .blk b _ o=>(qM H.1 b o,H.2)
 | .no=>H
 | .al d z=>(H.1,upv H.2 d (false,z))
 | .put d _ v=>(H.1,upv H.2 d (true,v))
def Eff2.ok (x:Eff2) (H0:AH) (H:AH×NV):Prop:=match x.c with
 | .blk b o o'=>(∀H',Sub H0 H'->qn H' b=some o->Sub H0 (qM H' b o'))∧qn H.1 b=some o
 | .no=>True
 | .al d _=>H.2 d=none
 | .put d z _=>H.2 d=some (false,z)
def rP:NV:=fun _=>none
def Z1 (md:Region.Mode) (o:Oper) (i:Nat):Bool:=o.after.any fun e=>Region.binds md e&&e.on==i
def Eff2.sep (x:Eff2) (md:Region.Mode) (o:Oper) (S:List (Nat×Nat)):Prop:=match x.c with
 | .blk b _ _=>∀q∈S,q.2=b->Z1 md o q.1=true
 |_=>True
def Eff2.add (x:Eff2) (k:Nat) (S:List (Nat×Nat)):List (Nat×Nat):=match x.c with
 | .blk b _ _=>(k,b)::S
 |_=>S
theorem Eff2.sub {x:Eff2} {H0:AH} {H:AH×NV} (h:Sub H0 H.1) (hx:x.ok H0 H):Sub H0 (x.ap H).1:=by
 grind [Eff2.ap,Eff2.ok]
def Qs (P:Program) (H H':AH) (o:Oper) (F:List D) (e:Eff):Prop:=
 ∀ (K:Nat->BK) (w:World) (a:Act) (G:List D) (Q:Exit->Act->World->Prop),St K w G H a.tmps->(∀t,.tmp t∈o.op.operands.toList->G.getD t .any=F.getD t .any)->G.length=F.length->
  o.wp P a w (uq (fun G' H''=>G'=e.app o.dst G∧H''=H') K w a.defers) Q
def Vo:Op->Bool
 | .alloc _=>true
 |_=>false
def wY (al:List Nat):Op->Bool
 | .alloc _=>true
 | .store _ (.tmp d) _=>al.contains d
 |_=>false
def Ef (P:Program) (H0:AH) (al:List Nat) (ops:Array Oper) (o:Oper) (F:List D) (x:Eff2):Prop:=
 (gst ops.toList F o=some true∧x.c.plain=true∧wY al o.op=false∧(∀H,Sub H0 H->x.ok H0 (H,rP)->Qs P H (x.ap (H,rP)).1 o F x.e)∧∀s v,x.e.tk=some (s,v)->QX ops.toList o=some s)∨
 (gst ops.toList F o=some false∧x=⟨⟨none,.tup []⟩,.no⟩)∨
 (o.guard=none∧∃t d z,x=⟨⟨none,.any⟩,.al d z⟩∧o.op= .alloc t∧o.dst=some d∧yA P t=some z∧d∈al∧d<F.length)∨
 (o.guard=none∧∃t d y n z,x=⟨⟨none,.tup []⟩,.put d z (cellsOf (rv F y)++z.drop n)⟩∧o.op= .store t (.tmp d) y∧d∈al∧yr P t=some (true,n)∧okc (rv F y)=true∧(cellsOf (rv F y)).length=n∧n<=z.length)
section
variable {P:Program} {ops:Array Oper} {H0:AH} {al:List Nat} {md:Region.Mode} {o:Oper}
theorem Ef.congr (he:Ef P H0 al ops o F e) (h:∀t∈o.looksAt ops,G.getD t .any=F.getD t .any) (hl:G.length=F.length):Ef P H0 al ops o G e:=by
 rcases he with ⟨h1,ha,hb,h2,h3⟩|⟨h1,h2⟩|⟨h1,t,d,z,h2,h3,h4,h5,h6,h7⟩|⟨h1,t,d,y,n,z,h2,h3,h4,h5,h6,h7,h8⟩
 ·refine .inl ⟨by rw [vA h];exact h1,ha,hb,fun H q1 q2 K w a G' Q hs hG hlen=>?_,h3⟩
  exact h2 H q1 q2 K w a G' Q hs (fun t ht=>(hG t ht).trans (h t (kR ht))) (hlen.trans hl)
 ·exact .inr (.inl ⟨by rw [vA h];exact h1,h2⟩)
 ·exact .inr (.inr (.inl ⟨h1,t,d,z,h2,h3,h4,h5,h6,by rw [hl];exact h7⟩))
 ·have hy:rv G y=rv F y:=by
   unfold rv
   rw [jw (xs:=o.op.operands.toList) (fun t ht=>h t (kR ht)) (by simp [h3,Op.operands])]
  exact .inr (.inr (.inr ⟨h1,t,d,y,n,z,by rw [hy];exact h2,h3,h4,h5,by rw [hy];exact h6,by rw [hy];exact h7,h8⟩))
theorem Ef.tk (he:Ef P H0 al ops o F e):∀s v,e.e.tk=some (s,v)->QX ops.toList o=some s:=by
 rcases he with ⟨_,_,_,_,h⟩|⟨_,rfl⟩|⟨_,_,_,_,rfl,_⟩|⟨_,_,_,_,_,_,rfl,_⟩
 all_goals grind
theorem Ef.dstN (he:Ef P H0 al ops o F e) (hc:e.c= .al d z):o.dst=some d:=by
 rcases he with ⟨_,h,_⟩|⟨_,rfl⟩|⟨_,_,_,_,rfl,_,h,_⟩|⟨_,_,_,_,_,_,rfl,_⟩
 ·rw [hc] at h;cases h
 all_goals grind
theorem Ef.put (he:Ef P H0 al ops o F e) (hc:e.c= .put d z v):d∈o.looksAt ops:=by
 rcases he with ⟨_,h,_⟩|⟨_,rfl⟩|⟨_,_,_,_,rfl,_⟩|⟨_,_,_,_,_,_,rfl,h,_⟩
 ·rw [hc] at h;cases h
 ·cases hc
 ·cases hc
 ·cases hc;exact kR (by simp [h,Op.operands])
theorem Cb (hf:Far ops x y) (hx:Ef P H0 al ops x F e) (hy:Ef P H0 al ops y (e.e.app x.dst F) f):
  Ef P H0 al ops y F f∧Ef P H0 al ops x (f.e.app y.dst F) e∧f.e.app y.dst (e.e.app x.dst F)=e.e.app x.dst (f.e.app y.dst F):=by
 have hy':Ef P H0 al ops y F f:=hy.congr (fun t ht=>(Qc (fun h=>(hf.d t h).1 ht) (fun v h=>(hf.t t (hx.tk t v h)).1 ht)).symm) (ug _ _ _).symm
 refine ⟨hy',hx.congr (fun t ht=>Qc (fun h=>hf.d' t h ht) (fun v h=>(hf.t' t (hy.tk t v h)).1 ht)) (ug _ _ _),Z6 F (fun t h=>(hf.d t h).2) (fun s v h=>(hf.t s (hx.tk s v h)).2) (fun s v h=>(hf.t' s (hy.tk s v h)).2) (fun s v h v' h'=>?_)⟩
 exact (hf.t s (hx.tk s v h)).1 (Ye (hy.tk s v' h'))
theorem CS {e f:Eff2} {H:AH×NV} {S:List (Nat×Nat)} {i:Nat} {oj:Oper} (he:e.ok H0 H) (hf:f.ok H0 (e.ap H)) (hs:f.sep md oj (e.add i S)) (hn:Z1 md oj i=false) (hap:∀d z z' v,e.c= .al d z->f.c= .put d z' v->False):f.sep md oj S∧f.ok H0 H∧e.ok H0 (f.ap H)∧f.ap (e.ap H)=e.ap (f.ap H):=by
 obtain ⟨e0,ec⟩:=e
 obtain ⟨f0,fc⟩:=f
 have two:∀{σ:NV} {d d':Nat} {x y:Bool×List D} {q:Option (Bool×List D)},(d'=d->False)->upv σ d x d'=q->σ d'=q∧∀y,upv σ d' y d=σ d:=fun hne h=>⟨by rw [<-h,kI hne],fun y=>kI (fun e=>hne e.symm)⟩
 cases ec with
 |no=>exact ⟨hs,hf,trivial,rfl⟩
 | al d z=>
  cases fc with
  |no=>exact ⟨trivial,trivial,he,rfl⟩
  | al d' z'=>
   simp only [Eff2.ok,Eff2.ap] at he hf ⊢
   have hne:d'=d->False:=fun e=>by subst e;rw [vM] at hf;cases hf
   refine ⟨trivial,by rw [<-hf,kI hne],by rw [kI (fun e=>hne e.symm)];exact he,by rw [Qa hne]⟩
  | put d' z' v'=>
   simp only [Eff2.ok,Eff2.ap] at he hf ⊢
   have hne:d'=d->False:=fun e=>by subst e;exact hap _ _ _ _ rfl rfl
   refine ⟨trivial,by rw [<-hf,kI hne],by rw [kI (fun e=>hne e.symm)];exact he,by rw [Qa hne]⟩
  |blk c p1 p2=>exact ⟨hs,hf,he,rfl⟩
 | put d z v=>
  cases fc with
  |no=>exact ⟨trivial,trivial,he,rfl⟩
  | al d' z'=>
   simp only [Eff2.ok,Eff2.ap] at he hf ⊢
   have hne:d'=d->False:=fun e=>by subst e;rw [vM] at hf;cases hf
   refine ⟨trivial,by rw [<-hf,kI hne],by rw [kI (fun e=>hne e.symm)];exact he,by rw [Qa hne]⟩
  | put d' z' v'=>
   simp only [Eff2.ok,Eff2.ap] at he hf ⊢
   have hne:d'=d->False:=fun e=>by subst e;rw [vM] at hf;cases hf
   refine ⟨trivial,by rw [<-hf,kI hne],by rw [kI (fun e=>hne e.symm)];exact he,by rw [Qa hne]⟩
  |blk c p1 p2=>exact ⟨hs,hf,he,rfl⟩
 | blk b o1 o2=>
  cases fc with
  |no=>exact ⟨trivial,trivial,he,rfl⟩
  |al d' z'=>exact ⟨trivial,hf,he,rfl⟩
  |put d' z' v'=>exact ⟨trivial,hf,he,rfl⟩
  | blk c p1 p2=>
   simp only [Eff2.sep,Eff2.add,List.forall_mem_cons] at hs
   obtain ⟨hne,hs⟩:=hs
   have hne:c≠b:=fun e=>by rw [hne e.symm] at hn;cases hn
   simp only [Eff2.ok,Eff2.ap] at he hf ⊢
   refine ⟨hs,⟨hf.1,?_⟩,⟨he.1,?_⟩,by rw [WN hne]⟩
   ·rw [<-kM (x:=o2) hne];exact hf.2
   ·rw [kM (Ne.symm hne)];exact he.2
def gN (P:Program) (md:Region.Mode) (ops:Array Oper) (H0:AH) (al:List Nat) (n:Nat) (E:Array Bool->List D->AH×NV->Prop):Nat->List (Nat×Nat)->Array Bool->List D->AH×NV->Prop
 |0,_,listed,F,H=>E listed F H
 |fuel+1,S,listed,F,H=>Region.ready md ops listed≠ []∧∀i∈Region.ready md ops listed,i<n∧∃o x,ops[i]?=some o∧Ef P H0 al ops o F x∧x.ok H0 H∧x.sep md o S∧gN P md ops H0 al n E fuel S (listed.setIfInBounds i true) (x.e.app o.dst F) (x.ap H)
theorem J7 {E:Array Bool->List D->AH×NV->Prop} (h:∀b,b∈S->b∈S'):∀(fuel:Nat) (listed:Array Bool) (F:List D) (H:AH×NV),gN P md ops H0 al n E fuel S' listed F H->gN P md ops H0 al n E fuel S listed F H
 |0,_,_,_,hh=>hh
 | fuel+1,listed,F,H,hh=>⟨hh.1,fun i hi=>by
   obtain ⟨h1,o,x,h2,h3,h4,h5,h6⟩:=hh.2 i hi
   refine ⟨h1,o,x,h2,h3,h4,?_,J7 h fuel _ _ _ h6⟩
   unfold Eff2.sep at h5 ⊢
   split
   ·rename_i b _ _ hc
    simp only [hc] at h5
    exact fun q hq=>h5 q (h q hq)
   ·trivial⟩
theorem G4 (h:∀e∈oj.after,Region.binds md e=true->e.on≠i):Z1 md oj i=false:=by
 grind [Z1]
theorem VM {n i:Nat} {oi:Oper} {e:Eff2} {E:Array Bool->List D->AH×NV->Prop} (hi:ops[i]?=some oi) (hs:Region.sinkB md ops n=true) (hc:Region.chainB md ops n=true) (hn:n<ops.size) (hin:i<n)
  (hdone:∀listed F H,E listed F H->∀j∈Region.ready md ops listed,n<=j):
  ∀ (fuel:Nat) (S:List (Nat×Nat)) (listed:Array Bool) (F:List D) (H:AH×NV),HeadInv md ops n listed->
   (∀j oj,ops[j]?=some oj->j≠i->listed.getD j true=false->(∀e∈oj.after,Region.binds md e=true->e.on≠i)->Far ops oi oj)->
   i∈Region.ready md ops listed->Ef P H0 al ops oi F e->e.ok H0 H->e.sep md oi S->
   gN P md ops H0 al n E fuel (e.add i S) (listed.setIfInBounds i true) (e.e.app oi.dst F) (e.ap H)->gN P md ops H0 al n E (fuel+1) S listed F H:=by
 intro fuel
 induction fuel with
 | zero=>
  intro S listed F H inv _ hr hy hy1 hy2 Hh
  refine ⟨fun h=>(by rw [h] at hr;cases hr),fun j hj=>?_⟩
  have hjn:j<n:=by
   rcases Nq j n with h|h
   ·exact h
   ·exact absurd hj (tail_waits hs hc hn inv _ i rfl hin (mem_ready.1 hr).1 j h)
  refine ⟨hjn,?_⟩
  by_cases hji:j=i
  ·subst hji;exact ⟨oi,e,hi,hy,hy1,hy2,Hh⟩
  ·have:=hdone _ _ _ Hh j (ready_mono hj hji)
   omega
 | succ fuel ih=>
  intro S listed F H inv hfree hr hy hy1 hy2 Hh
  refine ⟨fun h=>(by rw [h] at hr;cases hr),fun j hj=>?_⟩
  have hjn:j<n:=by
   rcases Nq j n with h|h
   ·exact h
   ·exact absurd hj (tail_waits hs hc hn inv _ i rfl hin (mem_ready.1 hr).1 j h)
  refine ⟨hjn,?_⟩
  by_cases hji:j=i
  ·subst hji
   refine ⟨oi,e,hi,hy,hy1,hy2,?_⟩
   exact J7 (fun b hb=>by unfold Eff2.add;split<;>simp [hb]) _ _ _ _ Hh
  ·obtain ⟨_,oj,f,hoj,hyj,hyj1,hyj2,hk⟩:=Hh.2 j (ready_mono hj hji)
   obtain ⟨hjun,oj',hoj',hall⟩:=mem_ready.1 hj
   obtain rfl:oj=oj':=by rw [hoj] at hoj';exact Option.some.inj hoj'
   have hnot:∀e∈oj.after,Region.binds md e=true->e.on≠i:=fun e he hb heq=>by
    have h1:=hall e he hb
    rw [heq,getD_both (mem_ready.1 hr).1] at h1
    cases h1
   obtain ⟨s1,s2,s3⟩:=Cb (hfree j oj hoj hji hjun hnot) hy hyj
   obtain ⟨q1,q2,q3,q4⟩:=CS hy1 hyj1 hyj2 (G4 hnot) (fun d z z' v h1 h2=>((hfree j oj hoj hji hjun hnot).d d (hy.dstN h1)).1 (hyj.put h2))
   refine ⟨oj,f,hoj,s1,q2,q1,ih S _ _ _ (inv.set hj hjn) (fun k ok hk' hki hun hno=>?_) (ready_mono hr (Ne.symm hji)) s2 q3 hy2 ?_⟩
   ·refine hfree k ok hk' hki ?_ hno
    by_cases hjk:j=k
    ·subst hjk;exact hjun
    ·rw [getD_set_ne true hjk] at hun;exact hun
   ·rw [Array.setIfInBounds_comm _ _ hji,<-s3,<-q4]
    exact hk
def kC (P:Program) (md:Region.Mode) (H0:AH) (al:List Nat) (ops:Array Oper):List Oper->Nat->List (Nat×Nat)->List D->AH×NV->(List D->AH×NV->Prop)->Prop
 | [],_,_,F,H,k=>k F H
 |o::r,n,S,F,H,k=>∃x,Ef P H0 al ops o F x∧x.ok H0 H∧x.sep md o S∧kC P md H0 al ops r (n+1) (x.add n S) (x.e.app o.dst F) (x.ap H) k
theorem Yd {T:List D->AH×NV->Prop} (hs:Region.sinkB md ops n=true) (hc:Region.chainB md ops n=true) (hn:n<ops.size):
  ∀(l:List Oper) (k:Nat) (S:List (Nat×Nat)) (listed:Array Bool) (F:List D) (H:AH×NV),(∀j,j<l.length->l[j]?=ops[k+j]?)->k+l.length=n->HeadInv md ops n listed->VV md ops g l.length k listed=true->kC P md H0 al ops l k S F H T->
  gN P md ops H0 al n (fun listed' F' H'=>Region.seqB md ops g n listed'=true∧T F' H') l.length S listed F H
 | [],k,S,listed,F,H,_,hk,_,hB,h=>by
  have:k=n:=by simpa using hk
  subst this
  exact ⟨by simpa [VV] using hB,h⟩
 | o::l,k,S,listed,F,H,hl,hk,inv,hB,h=>by
  have h0:ops[k]?=some o:=by simpa using (hl 0 (by simp)).symm
  simp only [Ng,VV,Nl] at hB
  obtain ⟨⟨hr,hf⟩,hB'⟩:=hB
  have hkn:k<n:=by simp only [Ng] at hk;omega
  have hr':k∈Region.ready md ops listed:=by simpa using hr
  obtain ⟨e,he,he1,he2,hK⟩:=h
  exact VM h0 hs hc hn hkn (fun listed' F' H' hL=>seqB_ready hL.1) l.length S listed F H inv (gF h0 hf) hr' he he1 he2
   (Yd hs hc hn l (k+1) _ _ _ _ (fun j hj=>by have:=hl (j+1) (by simp;omega);simpa [Nat.add_assoc,Nat.add_comm 1 j] using this) (by simp only [Ng] at hk;omega) (inv.set hr' hkn) hB' hK)
def yg:List (Nat×Nat)->List D->List D
 | [],F=>F
 |(d,b)::r,F=>(yg r F).set d (.ptr b 0)
def ovl (σ:NV) (H:AH) (c:Nat):List (Nat×Nat)->Option AO
 | []=>qn H c
 |(d,b)::r=>if c=b then (σ d).map fun q=>.cells q.2 else ovl σ H c r
theorem uJ:∀{L:List (Nat×Nat)},(yg L F).length=F.length
 | []=>rfl
 |(d,b)::r=>by simp [yg,uJ (L:=r)]
theorem uR:∀{L:List (Nat×Nat)},i ∉ L.map (·.1)->(yg L F)[i]?=F[i]?
 | [],_=>rfl
 | (d,b)::r,h=>by
  simp only [List.map_cons,Nr,not_or] at h
  unfold yg
  rw [List.getElem?_set_ne (Ne.symm h.1)]
  exact uR h.2
theorem Q9 (hi:i<F.length):∀{L:List (Nat×Nat)},(L.map (·.1)).Nodup->(i,b)∈L->(yg L F)[i]?=some (.ptr b 0)
 | (d,c)::r,hn,h=>by
  simp only [List.map_cons,List.nodup_cons] at hn
  unfold yg
  rcases List.mem_cons.1 h with h|h
  ·injection h with h1 h2
   subst h1 h2
   rw [List.getElem?_set_self (by rw [uJ];exact hi)]
  ·have hne:d≠i:=fun e=>hn.1 (by rw [e];exact List.mem_map.2 ⟨(i,b),h,rfl⟩)
   rw [List.getElem?_set_ne hne]
   exact Q9 hi hn.2 h
theorem zu:∀{L:List (Nat×Nat)},i ∉ L.map (·.1)->yg L (F.set i v)=(yg L F).set i v
 | [],_=>rfl
 | (d,b)::r,h=>by
  simp only [List.map_cons,Nr,not_or] at h
  unfold yg
  rw [zu h.2,WD _ h.1]
theorem QY (h:∀t,dst=some t->t ∉ L.map (·.1)):yg L (qS F dst v)=qS (yg L F) dst v:=by
 cases dst with
 |none=>rfl
 |some t=>exact zu (h t rfl)
theorem cK {F:List D} {dst:Option Tmp} {e:Eff} {L:List (Nat×Nat)} (h:∀t,dst=some t->t ∉ L.map (·.1)) (ht:∀s v,e.tk=some (s,v)->s ∉ L.map (·.1)):e.app dst (yg L F)=yg L (e.app dst F):=by
 grind [Eff.app,QY,zu]
theorem Gg (hn:(L.map (·.1)).Nodup) (hn':(L'.map (·.1)).Nodup) (h:∀p,p∈L↔p∈L'):yg L F=yg L' F:=by
 apply List.ext_getElem?
 intro i
 rcases Nq i F.length with hi|hi
 ·by_cases hm:i∈L.map (·.1)
  ·obtain ⟨⟨j,b⟩,hb,rfl⟩:=List.mem_map.1 hm
   rw [Q9 hi hn hb,Q9 hi hn' ((h _).1 hb)]
  ·have hm':i ∉ L'.map (·.1):=fun hh=>by
    obtain ⟨p,hp,rfl⟩:=List.mem_map.1 hh
    exact hm (List.mem_map.2 ⟨p,(h p).2 hp,rfl⟩)
   rw [uR hm,uR hm']
 ·rw [Nt (by rw [uJ];exact hi),Nt (by rw [uJ];exact hi)]
theorem wg:∀{L:List (Nat×Nat)},c ∉ L.map (·.2)->ovl σ H c L=qn H c
 | [],_=>rfl
 | (d,b)::r,h=>by
  simp only [List.map_cons,Nr,not_or] at h
  unfold ovl
  rw [if_neg h.1]
  exact wg h.2
theorem uZ:∀{L:List (Nat×Nat)},(L.map (·.2)).Nodup->(d,c)∈L->ovl σ H c L=(σ d).map fun q=>.cells q.2
 | (e,b)::r,hn,h=>by
  simp only [List.map_cons,List.nodup_cons] at hn
  unfold ovl
  rcases List.mem_cons.1 h with h|h
  ·injection h with h1 h2
   subst h1 h2
   rw [if_pos rfl]
  ·have hne:c≠b:=fun e=>hn.1 (by rw [<-e];exact List.mem_map.2 ⟨(d,c),h,rfl⟩)
   rw [if_neg hne]
   exact uZ hn.2 h
theorem ay:∀{L:List (Nat×Nat)},d ∉ L.map (·.1)->ovl (upv σ d x) H c L=ovl σ H c L
 | [],_=>rfl
 | (e,b)::r,h=>by
  simp only [List.map_cons,Nr,not_or] at h
  unfold ovl
  rw [ay h.2,kI (Ne.symm h.1)]
structure Lft (al:List Nat) (F:List D) (H:AH×NV) (G:List D) (H':AH) (L:List (Nat×Nat)):Prop where
 n1:(L.map (·.1)).Nodup
 n2:(L.map (·.2)).Nodup
 inal:∀p∈L,p.1∈al∧p.1<F.length∧qH H.1 p.2
 dom:∀d,(H.2 d).isSome=true↔d∈L.map (·.1)
 g:G=yg L F
 nd:(H.1.map (·.1)).Nodup
 h:∀c,qn H' c=ovl H.2 H.1 c L
def Lone (al:List Nat) (ops:Array Oper) (n:Nat):Prop:=
 ∀j oj,j<n->ops[j]?=some oj->(wY al oj.op=true∧oj.guard=none∧∀t a y,oj.op= .store t a y->∀d∈al,y≠ .tmp d∧oj.dst≠some d)∨(wY al oj.op=false∧∀d∈al,d ∉ oj.looksAt ops∧oj.dst≠some d)
theorem Y3 {b c:Nat} {o:AO}:∀{H:AH},qH H b->qn H c=some o->c≠b
 | [],_,h=>by cases h
 | (e,x)::r,hf,h=>by
  unfold qn at h
  split at h
  ·rename_i e'
   intro hh
   exact hf.1 (hh.symm.trans e')
  ·exact Y3 hf.2 h
theorem freshH_set:∀{H:AH},qH (qM H c x) b↔qH H b
 | []=>Iff.rfl
 | (e,o)::r=>by
  unfold qM
  split
  ·rename_i h;subst h;exact Iff.rfl
  ·simp only [qH,freshH_set]
theorem zF {b:Nat} {x o:AO}:∀{H:AH},qn H b=some o->qn (qM H b x) b=some x
 | [],h=>by cases h
 | (e,q)::r,h=>by
  unfold qM
  split
  ·rename_i e'
   subst e'
   simp [qn]
  ·rename_i e'
   unfold qn at h ⊢
   rw [if_neg e'] at h ⊢
   exact zF h
theorem WR:∀{H:AH},(qM H b x).map (·.1)=H.map (·.1)
 | []=>rfl
 | (e,q)::r=>by
  unfold qM
  split
  ·rfl
  ·simp [WR]
theorem J4:∀{H:AH} {b:Nat},qH H b->qn H b=none
 | [],_,_=>rfl
 | (c,o)::r,b,h=>by
  unfold qn
  rw [if_neg h.1]
  exact J4 h.2
theorem Kh:∀{H:AH} {b:Nat},qn H b=none->qH H b
 | [],_,_=>trivial
 | (c,o)::r,b,h=>by
  unfold qn at h
  split at h
  ·cases h
  ·rename_i e
   exact ⟨e,Kh h⟩
theorem St.same (h:St K w F H t) (hn:(H'.map (·.1)).Nodup) (he:∀c,qn H' c=qn H c):St K w F H' t:=
 ⟨h.krel,⟨hn,fun b o hm=>h.hrel.ok b o (qW (by rw [<-he];exact wU hn hm))⟩,h.len,h.slot⟩
theorem WL {L:List (Nat×Nat)} (hn:(L.map (·.1)).Nodup) {d b c:Nat} (h1:(d,b)∈L) (h2:(d,c)∈L):b=c:=by
 induction L with
 |nil=>cases h1
 | cons p r ih=>
  simp only [List.map_cons,List.nodup_cons] at hn
  rcases List.mem_cons.1 h1 with h1|h1<;>rcases List.mem_cons.1 h2 with h2|h2
  ·rw [<-h1] at h2;injection h2 with _ h2;exact h2.symm
  ·exact (hn.1 (List.mem_map.2 ⟨_,h2,by rw [<-h1]⟩)).elim
  ·exact (hn.1 (List.mem_map.2 ⟨_,h1,by rw [<-h2]⟩)).elim
  ·exact ih hn.2 h1 h2
theorem vL {n g:Nat} {E:Array Bool->List D->AH×NV->Prop} {K:Nat->BK} {w:World} {a:Act} {Q':Exit->Act->World->Prop} (hL:Lone al ops n) (hokall:∀(i:Nat) (o:Oper),ops[i]?=some o->jA o=true)
  (hE:∀listed F H G H' L K1 w1 (a1:Act),E listed F H->Lft al F H G H' L->St K1 w1 G H' a1.tmps->FK K w K1 w1->a1.defers=a.defers->wpAny P md ops Q' g listed a1 w1):
  ∀(fuel:Nat) (S:List (Nat×Nat)) (listed:Array Bool) (F:List D) (H:AH×NV) (G:List D) (H':AH) (L:List (Nat×Nat)) (K1:Nat->BK) (w1:World) (a1:Act),Sub H0 H.1->Lft al F H G H' L->St K1 w1 G H' a1.tmps->FK K w K1 w1->a1.defers=a.defers->gN P md ops H0 al n E fuel S listed F H->wpAny P md ops Q' (fuel+g) listed a1 w1
 |0,S,_,F,H,G,H',L,K1,w1,a1,hsub,hlf,hs,hfk,hd,h=>by rw [Np];exact hE _ F H G H' L K1 w1 a1 h hlf hs hfk hd
 | fuel+1,S,listed,F,H,G,H',L,K1,w1,a1,hsub,hlf,hs,hfk,hd,h=>by
  rw [show fuel+1+g=(fuel+g)+1 by omega]
  refine ⟨fun h0=>absurd h0 h.1,fun i hi=>?_⟩
  obtain ⟨hin,o,e,ho,he,hok,hsp,hk⟩:=h.2 i hi
  unfold wpOp
  simp only [ho]
  have hal:∀d,d∈L.map (·.1)->d∈al:=fun d hd=>by
   obtain ⟨p,hp,rfl⟩:=List.mem_map.1 hd
   exact (hlf.inal p hp).1
  have hnew:∀c o',qn H.1 c=some o'->c ∉ L.map (·.2):=fun c o' hc hm=>by
   obtain ⟨p,hp,rfl⟩:=List.mem_map.1 hm
   exact Y3 (hlf.inal p hp).2.2 hc rfl
  have hlone:wY al o.op=false->∀d∈al,d ∉ o.looksAt ops∧o.dst≠some d:=fun hna=>by
   rcases hL i o hin ho with ⟨h1,_⟩|⟨_,h2⟩
   ·rw [hna] at h1;cases h1
   ·exact h2
  have hsubr:Sub H0 H':=fun c o' hc=>by
   obtain ⟨o2,h1,h2⟩:=hsub c o' hc
   exact ⟨o2,by rw [hlf.h c,wg (hnew c o2 h1)];exact h1,h2⟩
  have hlen:G.length=F.length:=by rw [hlf.g,uJ]
  have hagree:wY al o.op=false->∀t∈o.looksAt ops,G.getD t .any=F.getD t .any:=fun hna t ht=>by
   rw [hlf.g,Na,uR (fun hm=>((hlone hna) t (hal t hm)).1 ht),<-Na]
  rcases he with ⟨g1,gc,gna,g2,gtk⟩|⟨g1,rfl⟩|⟨gg,t,d,z,rfl,hop,hdst,hz,hdal,hdl⟩|⟨gg,t,d,y,m,z,rfl,hop,hdal,hty,hoc,hcl,hzl⟩
  ·have ha1:=hagree gna
   rw [if_pos (kg hs (by rw [vA ha1];exact g1))]
   have hop:∀t,.tmp t∈o.op.operands.toList->G.getD t .any=F.getD t .any:=fun t ht=>ha1 t (kR ht)
   have hok':e.ok H0 (H',rP):=by
    unfold Eff2.ok at hok ⊢
    split
    ·rename_i c o1 o2 hc
     simp only [hc] at hok
     exact ⟨hok.1,by rw [hlf.h,wg (hnew _ _ hok.2)];exact hok.2⟩
    ·trivial
    ·rename_i hc;rw [hc] at gc;cases gc
    ·rename_i hc;rw [hc] at gc;cases gc
   have happ:e.e.app o.dst G=yg L (e.e.app o.dst F):=by
    rw [hlf.g]
    exact cK (fun t ht hm=>((hlone gna) t (hal t hm)).2 ht) (fun s v hv hm=>((hlone gna) s (hal s hm)).1 (Ye (gtk s v hv)))
   refine .inl (Oper.wp_mono (fun a2 w2 h2=>?_) (g2 H' hsubr hok' K1 w1 a1 G Q' hs hop hlen))
   obtain ⟨F',H'',K',⟨hF',hH'⟩,q2,q3,q4⟩:=h2
   rw [hF',hH',happ] at q3
   refine vL hL hokall hE fuel S _ _ _ _ _ L K' w2 a2 (Eff2.sub hsub hok) ?_ q3 (hfk.trans q2) (q4.trans hd) hk
   have hdom:(e.ap H).2=H.2:=by
    unfold Eff2.ap
    split<;>first|rfl|(rename_i hc;rw [hc] at gc;cases gc)
   refine ⟨hlf.n1,hlf.n2,fun p hp=>⟨(hlf.inal p hp).1,by rw [ug];exact (hlf.inal p hp).2.1,?_⟩,fun d=>by rw [hdom];exact hlf.dom d,rfl,?_,fun c=>?_⟩
   ·unfold Eff2.ap
    split<;>first|exact (hlf.inal p hp).2.2|exact freshH_set.2 (hlf.inal p hp).2.2
   ·unfold Eff2.ap
    split<;>first|exact hlf.nd|(rw [WR];exact hlf.nd)
   ·unfold Eff2.ok at hok
    rw [hdom]
    unfold Eff2.ap
    split
    ·rename_i b o1 o2 hc
     simp only [hc] at hok
     have hb:=hnew _ _ hok.2
     by_cases hcb:c=b
     ·subst hcb
      rw [zF (o:=o1) (by rw [hlf.h,wg hb];exact hok.2),wg hb,zF hok.2]
     ·rw [kM hcb,hlf.h]
      by_cases hm:c∈L.map (·.2)
      ·obtain ⟨⟨d,c⟩,hp,rfl⟩:=List.mem_map.1 hm
       rw [uZ hlf.n2 hp,uZ hlf.n2 hp]
      ·rw [wg hm,wg hm,kM hcb]
    ·exact hlf.h c
    ·exact hlf.h c
    ·exact hlf.h c
  ·have hna:wY al o.op=false:=by
    rcases hL i o hin ho with ⟨_,h2,_⟩|⟨h1,_⟩
    ·unfold gst at g1;simp [h2] at g1
    ·exact h1
   rw [if_neg (by rw [kg hs (by rw [vA (hagree hna)];exact g1)];simp)]
   have hp:qS G o.dst (.tup [])=yg L (qS F o.dst (.tup [])):=by
    rw [hlf.g,QY (fun t ht hm=>((hlone hna) t (hal t hm)).2 ht)]
   refine vL hL hokall hE fuel S _ _ H _ _ L K1 w1 _ hsub ⟨hlf.n1,hlf.n2,fun p hp=>⟨(hlf.inal p hp).1,?_,(hlf.inal p hp).2.2⟩,hlf.dom,hp,hlf.nd,hlf.h⟩ (wJ hs o.dst) hfk ((qx o.dst undef).trans hd) hk
   have:=(hlf.inal p hp).2.1
   show p.1<(Eff.app ⟨none,.tup []⟩ o.dst F).length
   rw [ug]
   exact this
  ·have hgs:gst ops.toList G o=some true:=by unfold gst;rw [gg]
   rw [if_pos (kg hs hgs)]
   have hn:H.2 d=none:=hok
   have hdL:d ∉ L.map (·.1):=fun hm=>by
    have:=(hlf.dom d).2 hm
    rw [hn] at this
    cases this
   have hap:aop P ops.toList o G H' (fun F' H''=>∃b,qH H' b∧F'=G.set d (.ptr b 0)∧H''=(b,.cells z)::H'):=by
    simp only [aop,hop,hz,hdst]
    exact fun b hb=>⟨b,hb,rfl,rfl⟩
   refine .inl (Oper.wp_mono (fun a2 w2 h2=>?_) (kS (Q:=Q') hs (by unfold jA;simp [hop,Op.operands]) hap))
   obtain ⟨F',H'',K',⟨b,hb,hF',hH'⟩,q2,q3,q4⟩:=h2
   rw [hF',hH'] at q3
   have hbn:=J4 hb
   have hbL:b ∉ L.map (·.2):=fun hm=>by
    obtain ⟨⟨d',c⟩,hp,rfl⟩:=List.mem_map.1 hm
    rw [hlf.h,uZ hlf.n2 hp] at hbn
    have:=(hlf.dom d').2 (List.mem_map.2 ⟨_,hp,rfl⟩)
    cases hq:H.2 d' with
    |none=>rw [hq] at this;cases this
    |some q=>rw [hq] at hbn;cases hbn
   refine vL hL hokall hE fuel S _ (Eff.app ⟨none,.any⟩ o.dst F) (H.1,upv H.2 d (false,z)) _ _ ((d,b)::L) K' w2 a2 hsub ⟨?_,?_,fun p hp=>?_,fun c=>?_,?_,hlf.nd,fun c=>?_⟩ q3 (hfk.trans q2) (q4.trans hd) hk
   ·simp only [List.map_cons,List.nodup_cons];exact ⟨hdL,hlf.n1⟩
   ·simp only [List.map_cons,List.nodup_cons];exact ⟨hbL,hlf.n2⟩
   ·rw [ug]
    rcases List.mem_cons.1 hp with rfl|hp
    ·refine ⟨hdal,hdl,Kh ?_⟩
     rw [hlf.h,wg hbL] at hbn
     exact hbn
    ·exact hlf.inal p hp
   ·show (upv H.2 d _ c).isSome=true↔_
    simp only [List.map_cons,Nr]
    by_cases hc:c=d
    ·subst hc;simp [vM]
    ·rw [kI hc,hlf.dom c];simp [hc]
   ·rw [hdst]
    show G.set d (.ptr b 0)=(yg L (F.set d .any)).set d (.ptr b 0)
    rw [zu hdL,List.set_set,hlf.g]
   ·show qn ((b,.cells z)::H') c=ovl (upv H.2 d (false,z)) H.1 c ((d,b)::L)
    unfold qn ovl
    split
    ·rw [vM];rfl
    ·rw [ay hdL];exact hlf.h c
  ·have hgs:gst ops.toList G o=some true:=by unfold gst;rw [gg]
   rw [if_pos (kg hs hgs)]
   have hn:H.2 d=some (false,z):=hok
   have hdL:d∈L.map (·.1):=(hlf.dom d).1 (by rw [hn];rfl)
   obtain ⟨⟨d',b⟩,hpL,rfl⟩:=List.mem_map.1 hdL
   simp only at hop hn hdal hok hk hsp hdL
   have hst:=hL i o hin ho
   have hyd:∀d∈al,y≠ .tmp d∧o.dst≠some d:=by
    rcases hst with ⟨_,_,h3⟩|⟨h3,_⟩
    ·exact h3 _ _ _ hop
    ·rw [hop] at h3;simp [wY,hdal] at h3
   have hGd:rv G (.tmp d')= .ptr b 0:=by
    show (G.getD d' .any).view=_
    rw [hlf.g,Na,Q9 (hlf.inal _ hpL).2.1 hlf.n1 hpL]
    rfl
   have hGy:rv G y=rv F y:=by
    unfold rv
    cases y with
    | tmp s=>
     simp only [ev]
     rw [hlf.g,Na,uR (fun hm=>(hyd s (hal s hm)).1 rfl),<-Na]
    |_=>rfl
   have hb:qn H' b=some (.cells z):=by rw [hlf.h,uZ hlf.n2 hpL,hn];rfl
   have hap:aop P ops.toList o G H' (fun F' H''=>F'=qS G o.dst (.tup [])∧H''=qM H' b (.cells (cellsOf (rv F y)++z.drop m))):=by
    simp only [aop,hop,hty,hGd,hb,hGy]
    exact ⟨hoc,hcl,by omega,by first|rfl|trivial,by simp⟩
   refine .inl (Oper.wp_mono (fun a2 w2 h2=>?_) (kS (Q:=Q') hs (hokall i o ho) hap))
   obtain ⟨F',H'',K',⟨hF',hH'⟩,q2,q3,q4⟩:=h2
   rw [hF',hH'] at q3
   refine vL hL hokall hE fuel S _ (Eff.app ⟨none,.tup []⟩ o.dst F) (H.1,upv H.2 d' (true,cellsOf (rv F y)++z.drop m)) _ _ L K' w2 a2 hsub ⟨hlf.n1,hlf.n2,fun p hp=>?_,fun c=>?_,?_,hlf.nd,fun c=>?_⟩ q3 (hfk.trans q2) (q4.trans hd) hk
   ·rw [ug];exact hlf.inal p hp
   ·by_cases hc:c=d'
    ·subst hc;show (upv H.2 c _ c).isSome=true↔_;rw [vM];simp only [Option.isSome_some,true_iff];exact hdL
    ·show (upv H.2 d' _ c).isSome=true↔_;rw [kI hc,hlf.dom c]
   ·show qS G o.dst (.tup [])=yg L (qS F o.dst (.tup []))
    rw [hlf.g,QY (fun t ht hm=>(hyd t (hal t hm)).2 ht)]
   ·show qn (qM H' b _) c=ovl (upv H.2 d' _) H.1 c L
    by_cases hcb:c=b
    ·subst hcb
     rw [zF hb,uZ hlf.n2 hpL,vM]
     rfl
    ·rw [kM hcb,hlf.h]
     by_cases hm:c∈L.map (·.2)
     ·obtain ⟨⟨d2,c⟩,hp,rfl⟩:=List.mem_map.1 hm
      rw [uZ hlf.n2 hp,uZ hlf.n2 hp,kI]
      intro e
      simp only at e hcb
      subst e
      have:=WL hlf.n1 hp hpL
      exact hcb this
     ·rw [wg hm,wg hm]
def gC (ops:Array Oper) (n:Nat):Bool:=decide (n<ops.size)&&(Region.sinkB .any ops n&&Region.chainB .any ops n&&VV .any ops (ops.size - n) n 0 (Array.replicate ops.size false))
theorem iM {T:List D->AH×NV->Prop} {K:Nat->BK} {w:World} {F:List D} {H:AH} {a:Act} {Q':Exit->Act->World->Prop} {pre suf:List Oper} (hB:gC ops pre.length=true) (hps:pre++suf=ops.toList)
  (hs:St K w F H a.tmps) (hsub:Sub H0 H) (hL:Lone al ops pre.length) (hokall:∀o∈ops.toList,jA o=true) (hc:kC P .any H0 al ops pre 0 [] F (H,rP) T)
  (hT:∀F1 H1 G1 H2 L K1 w1 (a1:Act),T F1 H1->Lft al F1 H1 G1 H2 L->St K1 w1 G1 H2 a1.tmps->FK K w K1 w1->a1.defers=a.defers->wpList P ops Q' suf a1 w1):wpAny P .any ops Q' ops.size (Array.replicate ops.size false) a {w with drawn:=w.drawn+1}:=by
 obtain ⟨K',hfk,hs'⟩:=hs.drew
 have hlen:pre.length+suf.length=ops.size:=by rw [<-Nf,hps];simp
 unfold gC at hB
 simp only [Nl,decide_eq_true_eq] at hB
 obtain ⟨hne,⟨h1,h2⟩,h3⟩:=hB
 have inv0:HeadInv .any ops pre.length (Array.replicate ops.size false):=
  ⟨by simp,fun j oj _ hl=>(by rw [getD_replicate_false] at hl;cases hl),fun t _ ht=>getD_in (by simpa using ht) (getD_replicate_false _ _)⟩
 have hget:∀j:Nat,ops.toList[j]?=ops[j]?:=fun j=>Array.getElem?_toList
 have hlex:=Yd (P:=P) (H0:=H0) (al:=al) (md:= .any) (g:=ops.size - pre.length) h1 h2 hne pre 0 [] _ F (H,rP) (fun j hj=>by
  rw [Np,<-hget];conv=>{rhs;rw [<-hps]};rw [Nm hj]) (Np _) inv0 h3 hc
 have hg:suf.length=ops.size - pre.length:=by omega
 have:=vL (a:=a) (Q':=Q') (K:=K) (w:=w) (g:=ops.size - pre.length) hL (fun i o hi=>hokall o (by rw [<-Array.getElem?_toList] at hi;exact Nk hi)) (fun listed F1 H1 G1 H2 L K1 w1 a1 hE hlf hs1 hfk1 hd1=>by
  have hw:wpList P ops Q' suf a1 w1:=hT F1 H1 G1 H2 L K1 w1 a1 hE.2 hlf hs1 hfk1 hd1
  have:=wpAny_of_seq (md:= .any) (Q':=Q') suf pre.length listed a1 w1 (fun j=>by
   rw [<-hget];exact (sw hps j).symm) (by rw [hg];exact hE.1) hw
  rwa [hg] at this) _ _ _ F (H,rP) F H [] K' _ a hsub ⟨.nil,.nil,fun p hp=>(by cases hp),fun d=>(by simp [rP]),rfl,hs.hrel.nd,fun c=>rfl⟩ hs' hfk rfl hlex
 rw [show pre.length+(ops.size - pre.length)=ops.size by omega] at this
 exact this
theorem dD {T:List D->Prop} {Q':Exit->Act->World->Prop} (hB:gC ops pre.length=true) (hps:pre++suf=ops.toList)
  (hs:St K w F H a.tmps) (hc:chain P H ops pre F T)
  (hT:∀F1 K1 w1 (a1:Act),T F1->St K1 w1 F1 H a1.tmps->FK K w K1 w1->a1.defers=a.defers->wpList P ops Q' suf a1 w1):wpAny P .any ops Q' ops.size (Array.replicate ops.size false) a {w with drawn:=w.drawn+1}:=by
 obtain ⟨K',hfk,hs'⟩:=hs.drew
 have hlen:pre.length+suf.length=ops.size:=by rw [<-Nf,hps];simp
 unfold gC at hB
 simp only [Nl,decide_eq_true_eq] at hB
 obtain ⟨hne,⟨h1,h2⟩,h3⟩:=hB
 have inv0:HeadInv .any ops pre.length (Array.replicate ops.size false):=
  ⟨by simp,fun j oj _ hl=>(by rw [getD_replicate_false] at hl;cases hl),fun t _ ht=>getD_in (by simpa using ht) (getD_replicate_false _ _)⟩
 have hget:∀j:Nat,ops.toList[j]?=ops[j]?:=fun j=>Array.getElem?_toList
 have hlex:=gM (P:=P) (H:=H) (md:= .any) (g:=ops.size - pre.length) h1 h2 hne pre 0 _ F (fun j hj=>by
  rw [Np,<-hget];conv=>{rhs;rw [<-hps]};rw [Nm hj]) (Np _) inv0 h3 hc
 have hg:suf.length=ops.size - pre.length:=by omega
 have:=oh (a:=a) (Q':=Q') (K:=K) (w:=w) (g:=ops.size - pre.length) (fun listed F1 K1 w1 a1 hE hs1 hfk1 hd1=>by
  have hw:wpList P ops Q' suf a1 w1:=hT F1 K1 w1 a1 hE.2 hs1 hfk1 hd1
  have:=wpAny_of_seq (md:= .any) (Q':=Q') suf pre.length listed a1 w1 (fun j=>by
   rw [<-hget];exact (sw hps j).symm) (by rw [hg];exact hE.1) hw
  rwa [hg] at this) _ _ F K' _ a hs' hfk rfl hlex
 rw [show pre.length+(ops.size - pre.length)=ops.size by omega] at this
 exact this
end
section
variable {P:Program} {ops:List Oper} {o:Oper} {F:List D} {H0:AH} {K:Nat->BK} {w:World} {a:Act}
theorem qZ (hok:jA o=true) (h:∀G:List D,(∀t,.tmp t∈o.op.operands.toList->G.getD t .any=F.getD t .any)->G.length=F.length->aop P ops o G H (fun G' H''=>G'=e.app o.dst G∧H''=H')):Qs P H H' o F e:=
 fun K w a G Q hs hG hlen=>kS hs hok (h G hG hlen)
theorem bz (hs:St K w F H0 a.tmps) (hok:jA o=true) {k:List D->Prop} (h:qY P (rv F) H0 o.op fun d=>k (qS F o.dst d)):∃e:Eff,k (e.app o.dst F)∧e.tk=none∧∀H,Sub H0 H->Qs P H H o F e:=by
 have hr:=hs.ops (xs:=o.op.operands) (by unfold jA at hok;simp only [Nl] at hok;exact hok.1)
 obtain ⟨d,hd,hy⟩:=gL h ⟨K,w,a.eval,hs.krel,hs.hrel,hr⟩
 have hn:=hs.hrel.nd
 refine ⟨⟨none,d⟩,hd,rfl,fun H hsub K w a G Q hs hG hlen=>?_⟩
 have hr:∀x∈o.op.operands.toList,RepV K w (rv F x) (a.eval x):=fun x hx=>by
  have:=hs.ops (xs:=o.op.operands) (by unfold jA at hok;simp only [Nl] at hok;exact hok.1) x hx
  unfold rv at this ⊢
  rwa [jw hG hx] at this
 obtain ⟨v,K',w',h1,h2,h3,h4⟩:=hy K w a.eval (o.dst.getD 0) hs.krel (hsub.hrel hn hs.hrel) hr
 exact qP h1 ⟨_,H,K',⟨rfl,rfl⟩,h2.fk hs.krel,hs.put (h2.keep hs.krel) (fun _ _ h=>h) h3 (hs.hrel.pres hs.krel h2) o.dst (fun i hi=>by rw [hi] at h4;exact h4),qx _ _⟩
theorem cQ (hs:St K w F H0 a.tmps) (hok:jA o=true) {k:List D->Prop} (h:jJ P ops o F H0 k):∃e:Eff,k (e.app o.dst F)∧(∀s v,e.tk=some (s,v)->QX ops o=some s)∧∀H,Sub H0 H->Qs P H H o F e:=by
 have viaVal:∀h:qY P (rv F) H0 o.op (fun d=>k (qS F o.dst d)),∃e:Eff,k (e.app o.dst F)∧(∀s v,e.tk=some (s,v)->QX ops o=some s)∧∀H,Sub H0 H->Qs P H H o F e:=fun h=>by
  obtain ⟨e,h1,h2,h3⟩:=bz hs hok h
  exact ⟨e,h1,fun s v hsv=>(by rw [h2] at hsv;cases hsv),h3⟩
 have evG:∀(s:Nat),.tmp s∈o.op.operands.toList->∀G:List D,(∀t,.tmp t∈o.op.operands.toList->G.getD t .any=F.getD t .any)->ev G (.tmp s)=ev F (.tmp s):=fun s hm G hG=>hG s hm
 cases ho:o.op
 case move x=>
  cases x with
  | tmp s=>
   simp only [jJ,aop,ho] at h
   cases hd:o.dst with
   | none=>
    simp only [hd] at h
    refine ⟨⟨none,.any⟩,h,fun s v hsv=>(by cases hsv),fun H _=>qZ (ops:=ops) hok fun G hG hlen=>?_⟩
    simp only [aop,ho,hd]
    exact ⟨rfl,by trivial⟩
   | some d=>
    simp only [hd] at h
    by_cases ht:takes ops d=true
    ·rw [if_pos ht] at h
     refine ⟨⟨some (s,rv F (.tmp s)),ev F (.tmp s)⟩,h,fun s' v hsv=>?_,fun H _=>qZ (ops:=ops) hok fun G hG hlen=>?_⟩
     ·simp only [Option.some.injEq,Prod.mk.injEq] at hsv
      simp [QX,ho,hd,ht,hsv.1]
     ·have he:=evG s (by simp [ho,Op.operands]) G hG
      simp only [aop,ho,hd,if_pos ht,rv,he]
      exact ⟨rfl,by trivial⟩
    ·rw [if_neg ht] at h
     refine ⟨⟨none,rv F (.tmp s)⟩,h,fun s v hsv=>(by cases hsv),fun H _=>qZ (ops:=ops) hok fun G hG hlen=>?_⟩
     have he:=evG s (by simp [ho,Op.operands]) G hG
     simp only [aop,ho,hd,if_neg ht,rv,he]
     exact ⟨rfl,by trivial⟩
  | const c=>
   simp only [jJ,aop,ho] at h
   exact ⟨⟨none,ev F (.const c)⟩,h,fun s v hsv=>(by cases hsv),fun H _=>qZ (ops:=ops) hok fun G hG hlen=>by simp only [aop,ho];exact ⟨rfl,by trivial⟩⟩
  | global g=>
   simp only [jJ,aop,ho] at h
   exact ⟨⟨none,ev F (.global g)⟩,h,fun s v hsv=>(by cases hsv),fun H _=>qZ (ops:=ops) hok fun G hG hlen=>by simp only [aop,ho];exact ⟨rfl,by trivial⟩⟩
  | func f=>
   simp only [jJ,aop,ho] at h
   exact ⟨⟨none,ev F (.func f)⟩,h,fun s v hsv=>(by cases hsv),fun H _=>qZ (ops:=ops) hok fun G hG hlen=>by simp only [aop,ho];exact ⟨rfl,by trivial⟩⟩
 case assign x=>
  cases x with
  | tmp s=>
   simp only [jJ,aop,ho] at h
   cases hd:o.dst with
   | none=>
    simp only [hd] at h
    refine ⟨⟨none,.any⟩,h,fun s v hsv=>(by cases hsv),fun H _=>qZ (ops:=ops) hok fun G hG hlen=>?_⟩
    simp only [aop,ho,hd]
    exact ⟨rfl,by trivial⟩
   | some d=>
    simp only [hd] at h
    refine ⟨⟨some (s,rv F (.tmp s)),ev F (.tmp s)⟩,h,fun s' v hsv=>?_,fun H _=>qZ (ops:=ops) hok fun G hG hlen=>?_⟩
    ·simp only [Option.some.injEq,Prod.mk.injEq] at hsv
     simp [QX,ho,hsv.1]
    ·have he:=evG s (by simp [ho,Op.operands]) G hG
     simp only [aop,ho,hd,rv,he]
     exact ⟨rfl,by trivial⟩
  | const c=>
   simp only [jJ,aop,ho] at h
   exact ⟨⟨none,ev F (.const c)⟩,h,fun s v hsv=>(by cases hsv),fun H _=>qZ (ops:=ops) hok fun G hG hlen=>by simp only [aop,ho];exact ⟨rfl,by trivial⟩⟩
  | global g=>
   simp only [jJ,aop,ho] at h
   exact ⟨⟨none,ev F (.global g)⟩,h,fun s v hsv=>(by cases hsv),fun H _=>qZ (ops:=ops) hok fun G hG hlen=>by simp only [aop,ho];exact ⟨rfl,by trivial⟩⟩
  | func f=>
   simp only [jJ,aop,ho] at h
   exact ⟨⟨none,ev F (.func f)⟩,h,fun s v hsv=>(by cases hsv),fun H _=>qZ (ops:=ops) hok fun G hG hlen=>by simp only [aop,ho];exact ⟨rfl,by trivial⟩⟩
 case extract x ix=>
  cases x with
  | tmp s=>
   simp only [jJ,ho] at h
   cases hd:o.dst with
   |none=>simp only [hd] at h
   | some d=>
    simp only [hd] at h
    split at h
    ·rename_i d' ds hdd hev
     simp only [Option.some.injEq] at hdd
     subst hdd
     split at h
     ·rename_i c hc
      obtain ⟨hF,hT⟩:=zQ hs hev (by simp)
      obtain ⟨vs,hv,hl,hh⟩:=hs.slot s _ _ hF hT
      have hix:ix<vs.size:=by rw [hl];exact (List.getElem?_eq_some_iff.1 hc).1
      have hfact:=(hh ix c _ hc (Nu hix)).rep.fact
      refine ⟨⟨none,c.view1⟩,h hfact,fun s v hsv=>(by cases hsv),fun H _=>qZ (ops:= []) hok fun G hG hlen=>?_⟩
      have he:=evG s (by simp [ho,Op.operands]) G hG
      rw [hev] at he
      simp only [aop,ho,hd,he,hc,takes,List.any_nil,Bool.false_eq_true,if_false]
      exact fun _=>⟨rfl,by trivial⟩
     ·exact h.elim
    ·exact h.elim
  |_=>exact viaVal (by simpa only [jJ,aop,ho] using h)
 case alloc t=>simp only [jJ,ho] at h
 case box t x=>simp only [jJ,ho] at h
 case store t x y=>simp only [jJ,ho] at h
 case load t x=>exact viaVal (by simpa only [jJ,ho] using h)
 case binOp bo t x y ty=>exact viaVal (by simpa only [jJ,ho] using h)
 case call c=>
  cases hf:c.callee with
  | value f=>
   simp only [jJ,ho,hf] at h
   split at h
   ·rename_i g caps hg
    obtain ⟨d,hc',hk⟩:=h
    have hc:=hc' H0 (Sub.refl H0)
    have hops:o.op.operands=#[f]++c.args:=by simp only [ho,Op.operands,Call.operands,hf]
    have hse:∀H,Sub H0 H->Qs P H H o F ⟨none,d⟩:=fun H hsub=>qZ (ops:=ops) hok fun G hG hlen=>by
     have h1:rv G f= .fn g caps:=by rw [<-hg];unfold rv;rw [jw hG (by rw [hops];simp)]
     have h2:c.args.toList.map (rv G)=c.args.toList.map (rv F):=Ny fun x hx=>by
      unfold rv
      rw [jw hG (by rw [hops];simp;exact .inr (by simpa using hx))]
     simp only [aop,ho,hf,h1,h2]
     exact (hc' H hsub).mono fun d' H' ⟨e1,e2⟩ _=>by subst e1 e2;exact ⟨rfl,by trivial⟩
    refine ⟨⟨none,d⟩,hk ?_,fun s v hsv=>(by cases hsv),hse⟩
    -- what the call hands back obeys its bounds
    have hap:aop P ops o F H0 (fun _ _=>fact d.view):=by
     simp only [aop,ho,hf,hg]
     exact hc.mono fun d' H' ⟨e1,_⟩ hfct=>by subst e1;exact hfct
    obtain ⟨a',w',F',H',K',hfct,_⟩:=oe (kS (Q:=fun _ _ _=>False) hs hok hap)
    exact hfct
   ·exact h.elim
  |invoke r m=>exact viaVal (by simpa only [jJ,aop,ho,hf] using h)
  | builtin b=>
   cases b
   case append=>
    simp only [jJ,aop,ho,hf] at h
    split at h
    ·rename_i s x t u d hargs htys hd
     split at h
     ·rename_i xs e sz bs hev hap
      have hops:o.op.operands=#[]++c.args:=by simp only [ho,Op.operands,Call.operands,hf]
      have hms: .tmp s∈o.op.operands.toList:=by rw [hops,yl hargs];simp
      have hmx:x∈o.op.operands.toList:=by rw [hops,yl hargs];simp
      split at h
      ·rename_i ys hy
       obtain ⟨h1,h2,h3,h4⟩:=h
       refine ⟨⟨some (s,.slc xs),.own (xs++ys)⟩,by rw [hd];exact h4,fun s' v hsv=>?_,fun H _=>qZ (ops:=ops) hok fun G hG hlen=>?_⟩
       ·simp only [Option.some.injEq,Prod.mk.injEq] at hsv
        simp [QX,ho,hf,hargs,hsv.1]
       ·have he:=evG s hms G hG
        have hx:rv G x= .slc ys:=by rw [<-hy];unfold rv;rw [jw hG hmx]
        rw [hev] at he
        simp only [aop,ho,hf,hargs,htys,hd,he,hap,hx]
        exact ⟨h1,h2,h3,rfl,by trivial⟩
      ·rename_i l hy
       obtain ⟨h1,h2,h3,h4⟩:=h
       refine ⟨⟨some (s,.slc xs),.own (xs++l.map ql)⟩,by rw [hd];exact h4,fun s' v hsv=>?_,fun H _=>qZ (ops:=ops) hok fun G hG hlen=>?_⟩
       ·simp only [Option.some.injEq,Prod.mk.injEq] at hsv
        simp [QX,ho,hf,hargs,hsv.1]
       ·have he:=evG s hms G hG
        have hx:rv G x= .str l:=by rw [<-hy];unfold rv;rw [jw hG hmx]
        rw [hev] at he
        simp only [aop,ho,hf,hargs,htys,hd,he,hap,hx]
        exact ⟨h1,h2,h3,rfl,by trivial⟩
      ·rename_i b off n hy
       split at h
       ·rename_i cs hg
        obtain ⟨h0,h1,h2,h3,h4⟩:=h
        refine ⟨⟨some (s,.slc xs),.own (xs++((cs.drop off).take n).map fun e=>[e.view1])⟩,by rw [hd];exact h4,fun s' v hsv=>?_,fun H hsub=>qZ (ops:=ops) hok fun G hG hlen=>?_⟩
        ·simp only [Option.some.injEq,Prod.mk.injEq] at hsv
         simp [QX,ho,hf,hargs,hsv.1]
        ·have he:=evG s hms G hG
         have hx:rv G x= .hso b off n:=by rw [<-hy];unfold rv;rw [jw hG hmx]
         rw [hev] at he
         obtain ⟨o',g1,g2⟩:=hsub b _ hg
         have g3:∃cs',qn H b=some (.cells cs')∧cs'.length=cs.length∧((cs'.drop off).take n).map (fun e=>[e.view1])=((cs.drop off).take n).map (fun e=>[e.view1]):=by
          rcases g2 with rfl|g2
          ·exact ⟨cs,g1,rfl,rfl⟩
          ·cases o' with
           | cells cs'=>
            injection g2 with g2
            subst g2
            refine ⟨cs',g1,by simp,?_⟩
            rw [<-List.map_drop,<-List.map_take,List.map_map]
            apply Ny
            intro e _
            cases e<;>rfl
           |_=>cases g2
         obtain ⟨cs',g1,g4,g5⟩:=g3
         simp only [aop,ho,hf,hargs,htys,hd,he,hap,hx,g1,g5]
         exact ⟨h0,by rw [g4];exact h1,h2,h3,rfl,by trivial⟩
       ·exact h.elim
      ·exact h.elim
     ·exact h.elim
    ·exact h.elim
   case clear=>simp only [jJ,ho,hf] at h
   case copy=>simp only [jJ,ho,hf] at h
   all_goals exact viaVal (by simpa only [jJ,aop,ho,hf] using h)
 case makeMap=>simp only [jJ,ho] at h
 case mapUpdate=>simp only [jJ,ho] at h
 case mapEntry=>simp only [jJ,ho] at h
 case entryStore=>simp only [jJ,ho] at h
 all_goals exact viaVal (by simpa only [jJ,aop,ho] using h)
end
section
variable {P:Program} {ops:Array Oper} {H0:AH} {al:List Nat}
def Some (F:List D) (H:AH):Prop:=∃(K:Nat->BK) (w:World) (a:Act),St K w F H a.tmps
theorem vp {T:List D->AH×NV->Prop} {k:List D->Prop} (hn:(H0.map (·.1)).Nodup) (hsub:Sub H0 H):∀(l:List Oper) (n:Nat) (F:List D),(∀o∈l,jA o=true∧wY al o.op=false)->Some F H->yf P ops.toList l F H0 k->
  (∀F',Some F' H->k F'->kC P .any H0 al ops r (n+l.length) S F' (H,b) T)->kC P .any H0 al ops (l++r) n S F (H,b) T
 | [],n,F,_,hs,h,hk=>hk F hs h
 | o::l,n,F,hok,⟨K,w,a,hs⟩,h,hk=>by
  have hs0:St K w F H0 a.tmps:=hsub.st hn hs
  have hk':∀F',Some F' H->k F'->kC P .any H0 al ops r (n+1+l.length) S F' (H,b) T:=fun F' h1 h2=>by
   have:=hk F' h1 h2
   rwa [Ng,show n+(l.length+1)=n+1+l.length by omega] at this
  have hgo:gst ops.toList F o=some true->jJ P ops.toList o F H0 (fun F'=>yf P ops.toList l F' H0 k)->kC P .any H0 al ops (o::l++r) n S F (H,b) T:=fun hg h=>by
   obtain ⟨e,h1,h2,h3⟩:=cQ hs0 (hok o (.head _)).1 h
   refine ⟨⟨e,.no⟩,.inl ⟨hg,rfl,(hok o (.head _)).2,fun H hsub _=>h3 H hsub,h2⟩,trivial,trivial,?_⟩
   obtain ⟨a',w',F',H',K',⟨hF',hH'⟩,_,hs',_⟩:=oe (h3 H hsub K w a F (fun _ _ _=>False) hs (fun _ _=>rfl) rfl)
   rw [hF',hH'] at hs'
   exact vp hn hsub l _ _ (fun o ho=>hok o (.tail _ ho)) ⟨K',w',a',hs'⟩ h1 hk'
  have hskip:gst ops.toList F o=some false->yf P ops.toList l (qS F o.dst (.tup [])) H0 k->kC P .any H0 al ops (o::l++r) n S F (H,b) T:=fun hg h=>
   ⟨⟨⟨none,.tup []⟩,.no⟩,.inr (.inl ⟨hg,rfl⟩),trivial,trivial,vp hn hsub l _ _ (fun o ho=>hok o (.tail _ ho)) ⟨K,w,a.put o.dst undef,wJ hs o.dst⟩ h hk'⟩
  unfold gst at hgo hskip
  cases hg:o.guard with
  | none=>
   simp only [yf,hg] at h hgo
   exact hgo trivial h
  | some g=>
   obtain ⟨j,want⟩:=g
   simp only [yf,hg] at h hgo hskip
   cases hdd:(ops.toList[j]?).bind (·.dst) with
   | none=>
    simp only [hdd] at h hskip
    exact hskip trivial h
   | some t=>
    simp only [hdd] at h hgo hskip
    split at h
    ·rename_i b hb
     simp only [hb] at hgo hskip
     by_cases e:b=want
     ·exact hgo (by simp [e]) (h.1 e)
     ·exact hskip (by simp [e]) (h.2 (by cases b<;>cases want<;>simp_all))
    ·rename_i ds hb
     simp only [hb] at hskip
     exact hskip trivial h
    ·exact h.elim
theorem Sub.take (h:Sub H0 H) (hb:qn H b=some (.cells cs)) (ho:cs[off]?=some (.own xs)) (h0:qn H0 b=none∨qn H0 b=some (Up (.cells cs))):Sub H0 (qM H b (.cells (cs.set off (.slc xs)))):=by
 rcases h0 with h0|h0
 ·exact h.set h0
 ·intro c o hc
  by_cases e:c=b
  ·subst e
   rw [h0] at hc
   injection hc with hc
   refine ⟨_,zF hb,.inr ?_⟩
   rw [<-hc]
   show AO.cells (cs.map D.view1)=AO.cells ((cs.set off (.slc xs)).map D.view1)
   congr 1
   refine List.ext_getElem? fun i=>?_
   rw [Nc,Nc,List.getElem?_set]
   split
   ·rename_i e2
    subst e2
    rw [ho]
    split
    ·rfl
    ·rename_i h3
     rw [Nt (by omega)] at ho
     cases ho
   ·rfl
  ·obtain ⟨o',h1,h2⟩:=h c o hc
   exact ⟨o',by rw [kM e];exact h1,h2⟩
theorem vR {T:List D->AH×NV->Prop} (hg:o.guard=none) (hna:wY al o.op=false) (hb0:∀H',Sub H0 H'->qn H' b=some ob->Sub H0 (qM H' b ob')) (hb:qn H b=some ob) (hS:∀q∈S,q.2=b->Z1 .any o q.1=true) (htk:∀s v,e.tk=some (s,v)->QX ops.toList o=some s) (hsub:Sub H0 H)
  (hse:∀H,qn H b=some ob->Qs P H (qM H b ob') o F e) (hs:Some F H) (h:Some (e.app o.dst F) (qM H b ob')->kC P .any H0 al ops r (n+1) ((n,b)::S) (e.app o.dst F) (qM H b ob',dn) T):kC P .any H0 al ops (o::r) n S F (H,dn) T:=by
 refine ⟨⟨e,.blk b ob ob'⟩,.inl ⟨by simp [gst,hg],rfl,hna,fun H hsub hok=>hse H hok.2,htk⟩,⟨hb0,hb⟩,hS,h ?_⟩
 obtain ⟨K,w,a,hs⟩:=hs
 obtain ⟨a',w',F',H',K',⟨hF',hH'⟩,_,hs',_⟩:=oe (hse H hb K w a F (fun _ _ _=>False) hs (fun _ _=>rfl) rfl)
 rw [hF',hH'] at hs'
 exact ⟨K',w',a',hs'⟩
theorem bw {T:List D->AH×NV->Prop} {t:TypeId} (hg:o.guard=none) (hop:o.op= .alloc t) (hdst:o.dst=some d) (hz:yA P t=some z) (hal:d∈al) (hdl:d<F.length) (hσ:σ d=none) (hs:Some F H)
  (h:Some (F.set d .any) H->kC P .any H0 al ops r (n+1) S (F.set d .any) (H,upv σ d (false,z)) T):kC P .any H0 al ops (o::r) n S F (H,σ) T:=by
 refine ⟨⟨⟨none,.any⟩,.al d z⟩,.inr (.inr (.inl ⟨hg,t,d,z,rfl,hop,hdst,hz,hal,hdl⟩)),hσ,trivial,?_⟩
 have happ:Eff.app ⟨none,.any⟩ o.dst F=F.set d .any:=by rw [hdst];rfl
 show kC P .any H0 al ops r (n+1) S (Eff.app ⟨none,.any⟩ o.dst F) (H,upv σ d (false,z)) T
 rw [happ]
 refine h ?_
 obtain ⟨K,w,a,hs⟩:=hs
 refine ⟨K,w,a,hs.krel,hs.hrel,by simpa using hs.len,fun i dd v hd hv=>?_⟩
 rcases getElem?_set_some hd with ⟨rfl,rfl,_⟩|⟨_,hd⟩
 ·exact RepV.viewO (.any _)
 ·exact hs.slot i dd v hd hv
theorem ZP {T:List D->AH×NV->Prop} {t:TypeId} (hg:o.guard=none) (hop:o.op= .store t (.tmp d) y) (hal:d∈al) (hty:yr P t=some (true,m)) (h1:okc (rv F y)=true) (h2:(cellsOf (rv F y)).length=m) (h3:m<=z.length) (hσ:σ d=some (false,z)) (hs:Some F H)
  (h:Some (qS F o.dst (.tup [])) H->kC P .any H0 al ops r (n+1) S (qS F o.dst (.tup [])) (H,upv σ d (true,cellsOf (rv F y)++z.drop m)) T):kC P .any H0 al ops (o::r) n S F (H,σ) T:=by
 refine ⟨⟨⟨none,.tup []⟩,.put d z (cellsOf (rv F y)++z.drop m)⟩,.inr (.inr (.inr ⟨hg,t,d,y,m,z,rfl,hop,hal,hty,h1,h2,h3⟩)),hσ,trivial,?_⟩
 refine h ?_
 obtain ⟨K,w,a,hs⟩:=hs
 exact ⟨K,w,a.put o.dst undef,wJ hs o.dst⟩
end
end Go.Aw
end
section
namespace Go.Aw
open Go Go.RowKit
def Gz (F:List D) (H:AH) (k:List D->AH->Prop):Prop:=
 ∀(K:Nat->BK) (w:World) (t:Array Value),St K w F H t->∃F' H' K',k F' H'∧FK K w K' w∧St K' w F' H' t
section
variable {F:List D} {H:AH} {k:List D->AH->Prop}
theorem Gz.of_fz (hz:Fz F H F' H') (h:k F' H'):Gz F H k:=fun K w t hs=>
 let ⟨K',h1,h2⟩:=hz K w t hs
 ⟨F',H',K',h,h1,h2⟩
theorem Gz.mono {k':List D->AH->Prop} (h:∀F' H',k F' H'->k' F' H') (hg:Gz F H k):Gz F H k':=fun K w t hs=>
 let ⟨F',H',K',h1,h2,h3⟩:=hg K w t hs
 ⟨F',H',K',h F' H' h1,h2,h3⟩
theorem Gz.bind {k':List D->AH->Prop} (hg:Gz F H k) (h:∀F' H',k F' H'->Gz F' H' k'):Gz F H k':=fun K w t hs=>
 let ⟨F',H',K',h1,h2,h3⟩:=hg K w t hs
 let ⟨F'',H'',K'',g1,g2,g3⟩:=h F' H' h1 K' w t h3
 ⟨F'',H'',K'',g1,h2.trans g2,g3⟩
theorem Yw {p q:Who} {K:Nat->BK} {w:World} {bs:List Nat} (hp:∀c j,c ∉ bs->p≠ .cell c j) {H:AH} (hn:(H.map (·.1)).Nodup) (hb:∀c o,(c,o)∈H->c ∉ bs∧AO.at_ K w c o):HRel (relab (mvφ p q) K) w H:=by
 refine ⟨hn,fun c o hm=>?_⟩
 obtain ⟨h1,h2⟩:=hb c o hm
 have conv:∀b n j,K b= .tok n (.cell c j)->relab (mvφ p q) K b= .tok n (.cell c j):=fun b n j hb'=>by
  rw [qR hb']
  grind [mvφ]
 cases o with
 | cells cs=>
  obtain ⟨g1,c',T',g2,g3,g4⟩:=h2
  refine ⟨relab_priv.2 g1,c',T',g2,g3,fun j d' hd'=>?_⟩
  obtain ⟨u',q1,q2,q3⟩:=g4 j d' hd'
  exact ⟨u',q1,q2,q3.conv (qA _ K w) (fun b n hb'=>conv b n j hb')⟩
 |room cap xs=>exact ⟨h2.1,h2.2.conv (qA _ K w) (fun b n hb'=>conv b n 0 hb')⟩
 |mp es=>exact ⟨relab_priv.2 h2.1,h2.2.ext (qA _ K w) rfl⟩
 |cst cs=>exact CstAt.ext h2 (qA _ K w)
 | lp J pre=>
  obtain ⟨⟨n,j,g1⟩,g2,g3⟩:=h2
  exact ⟨⟨n,j,conv _ _ _ g1⟩,g3 pre K w _ w g2 fun c n j h=>⟨conv c n j h,rfl⟩,g3⟩
theorem RepV.osl_inv (h:RepV K w (.osl b cap xs) v):(xs= []∧∃a,v= .slice a 0 0)∨(xs≠ []∧v= .slice (some ⟨b,0,none⟩) xs.length cap):=by
 cases h with
 |osl _ _ _ hp _=>exact .inr ⟨fun e=>by subst e;simp at hp,rfl⟩
 |oslnil _ _ a=>exact .inl ⟨rfl,a,rfl⟩
def jF (H:AH) (b:Nat) (xs:List (List D)):AH:=if xs= [] then H else qT H b
theorem dropR_sub:(jF H b xs).Sublist H:=by
 grind [jF,erase_sub]
theorem ou:∀{H:AH},qH H b->∀{x:Nat×AO},x∈H->x.1≠b
 | [],_,x,h=>by cases h
 | (c,o)::r,hf,x,h=>by
  rcases List.mem_cons.1 h with rfl|h
  ·exact Ne.symm hf.1
  ·exact ou hf.2 h
theorem Gz.take {bx j b cap:Nat} {cs:List D} {xs:List (List D)} (hj:cs[j]?=some (.osl b cap xs)) (hr:xs≠ []->qn H b=some (.room cap xs)) (h:k F ((bx,.cells (cs.set j (.own xs)))::jF H b xs)):Gz F ((bx,.cells cs)::H) k:=by
 intro K w t hs
 have hnd:=hs.hrel.nd
 simp only [List.map_cons,List.nodup_cons] at hnd
 obtain ⟨hbx,hnd⟩:=hnd
 obtain ⟨hpb,c,T,hb,hcs,hrc⟩:=hs.hrel.ok bx _ (.head _)
 obtain ⟨u,e1,e2,e3⟩:=hrc j _ hj
 have hu:RepV K w (.osl b cap xs) u:=e3
 by_cases hx:xs= []
 ·subst hx
  have ho:∃a,u= .slice a 0 0:=by
   rcases hu.osl_inv with ⟨_,h⟩|⟨h,_⟩
   all_goals grind
  obtain ⟨a,rfl⟩:=ho
  refine ⟨F,_,K,h,.refl K w,hs.krel,⟨?_,fun c' o' hm=>?_⟩,hs.len,hs.slot⟩
  ·grind [jF]
  ·simp only [jF,if_true] at hm
   rcases List.mem_cons.1 hm with hm|hm
   ·injection hm with g1 g2
    subst g1 g2
    refine ⟨hpb,c,T,hb,by simpa using hcs,fun q d hd=>?_⟩
    rcases getElem?_set_some hd with ⟨rfl,rfl,_⟩|⟨hne,hd⟩
    ·exact ⟨_,e1,e2,.inl ⟨rfl,a,rfl⟩⟩
    ·exact hrc q d hd
   ·exact hs.hrel.ok c' o' (.tail _ hm)
 ·have hm:=hr hx
  have hmem:=qW hm
  obtain ⟨hp,hown⟩:=hs.hrel.ok b _ (.tail _ hmem)
  have hbne:b≠bx:=fun e=>hbx (List.mem_map.2 ⟨(b,_),hmem,e⟩)
  have huv:u= .slice (some ⟨b,0,none⟩) xs.length cap:=by
   rcases hu.osl_inv with ⟨h,_⟩|⟨_,h⟩
   all_goals grind
  subst huv
  let φ:=mvφ (.cell b 0) (.cell bx j)
  have hk:∀{xs':List (List D)} {v:Value},OwnAt K w (.cell b 0) xs' v->OwnAt (relab φ K) w (.cell bx j) xs' v:=fun ho=>OwnAt.conv (qA φ K w) (fun b' n hb'=>by rw [qR hb'];simp [φ,mvφ]) ho
  have hbcell:∀b' n j',K b'= .tok n (.cell bx j')->relab φ K b'= .tok n (.cell bx j'):=fun b' n j' hb'=>by
   rw [qR hb']
   grind [mvφ]
  have hin:=Yw (p:= .cell b 0) (q:= .cell bx j) (K:=K) (w:=w) (bs:= [b]) (fun c j hc e=>by injection e with e _;exact hc (by simp [e])) (H:=qT H b) ((erase_sub.map (·.1)).nodup hnd) (fun c o hm=>⟨by simpa using kn hnd hm,hs.hrel.ok c o (.tail _ (erase_sub.subset hm))⟩)
  refine ⟨F,_,relab φ K,h,Kv (by simp) (by simp),jN hs.krel,⟨?_,fun c' o' hm'=>?_⟩,hs.len,fun i d v hd hv=>zx (fun j e=>by cases e) (hs.slot i d v hd hv)⟩
  ·simp only [jF,if_neg hx,List.map_cons,List.nodup_cons]
   exact ⟨fun hh=>hbx ((erase_sub.map (·.1)).subset hh),hin.nd⟩
  ·simp only [jF,if_neg hx] at hm'
   rcases List.mem_cons.1 hm' with hm'|hm'
   ·injection hm' with g1 g2
    subst g1 g2
    refine ⟨relab_priv.2 hpb,c,T,hb,by simpa using hcs,fun q d hd=>?_⟩
    rcases getElem?_set_some hd with ⟨rfl,rfl,_⟩|⟨hne,hd⟩
    ·exact ⟨_,e1,e2,hk hown⟩
    ·obtain ⟨u',f1,f2,f3⟩:=hrc q d hd
     exact ⟨u',f1,f2,f3.conv (qA φ K w) (fun b' n hb'=>hbcell b' n q hb')⟩
   ·exact hin.ok c' o' hm'
theorem Gz.give (hx:xs≠ []) (hg:qn H bx=some (.cells cs)) (hj:cs[j]?=some (.own xs)) (h:∀b cap,qH H b->k F ((b,.room cap xs)::qM H bx (.cells (cs.set j (.osl b cap xs))))):Gz F H k:=by
 intro K w t hs
 obtain ⟨hpb,c,T,hb,hcs,hrc⟩:=hs.hrel.ok bx _ (qW hg)
 obtain ⟨u,e1,e2,e3⟩:=hrc j _ hj
 have hown:OwnAt K w (.cell bx j) xs u:=e3
 rcases hown with ⟨rfl,_⟩|⟨b,cap,sz,c2,T2,rfl,hkb,hh,hcs2,hp,hl,hm,hbg,hs2,hrep⟩
 ·exact (hx rfl).elim
 ·have hown:OwnAt K w (.cell bx j) xs (.slice (some ⟨b,0,none⟩) xs.length cap):= .inr ⟨b,cap,sz,c2,T2,rfl,hkb,hh,hcs2,hp,hl,hm,hbg,hs2,hrep⟩
  have hfr:qH H b:=zI fun x hx' e=>by
   obtain ⟨c',o'⟩:=x
   simp only at e
   subst e
   have:=hs.hrel.ok c' o' hx'
   cases o' with
   |cells cs'=>rw [this.1] at hkb;cases hkb
   |mp es'=>rw [this.1] at hkb;cases hkb
   |cst cs'=>rw [this.1] at hkb;cases hkb
   | lp J pre=>
    by_cases e':bx=c'
    ·subst e';rw [hpb] at hkb;cases hkb
    ·obtain ⟨⟨n,j',g1⟩,_⟩:=this;rw [hkb] at g1;injection g1 with _ g1;injection g1 with g1 _;exact (e' g1).elim
   | room cap' xs'=>
    rcases this.2 with ⟨q1,_⟩|⟨b',cap',sz',c3,T3,q1,q2,_⟩
    ·have:=this.1;rw [q1] at this;simp at this
    all_goals grind
  let φ:=mvφ (.cell bx j) (.cell b 0)
  have hk:∀{xs':List (List D)} {v:Value},OwnAt K w (.cell bx j) xs' v->OwnAt (relab φ K) w (.cell b 0) xs' v:=fun ho=>OwnAt.conv (qA φ K w) (fun b' n hb'=>by rw [qR hb'];simp [φ,mvφ]) ho
  have conv:∀c' j',(c'≠bx∨j'≠j)->∀b' n,K b'= .tok n (.cell c' j')->relab φ K b'= .tok n (.cell c' j'):=fun c' j' hne b' n hb'=>by
   rw [qR hb']
   grind [mvφ]
  refine ⟨F,_,relab φ K,h b cap hfr,Kv (by simp) (by simp),jN hs.krel,⟨?_,fun c' o' hm'=>?_⟩,hs.len,fun i d v hd hv=>zx (fun j e=>by cases e) (hs.slot i d v hd hv)⟩
  ·simp only [List.map_cons,List.nodup_cons]
   refine ⟨fun hh'=>?_,by rw [jW];exact hs.hrel.nd⟩
   rw [jW] at hh'
   obtain ⟨x,hx1,hx2⟩:=List.mem_map.1 hh'
   grind [ou]
  ·rcases List.mem_cons.1 hm' with hm'|hm'
   ·injection hm' with g1 g2
    subst g1 g2
    exact ⟨hp,hk hown⟩
   ·rcases kY hs.hrel.nd hm' with ⟨rfl,rfl⟩|⟨hne,hm'⟩
    ·refine ⟨relab_priv.2 hpb,c,T,hb,by simpa using hcs,fun q d hd=>?_⟩
     rcases getElem?_set_some hd with ⟨rfl,rfl,_⟩|⟨hneq,hd⟩
     ·exact ⟨_,e1,e2,RepV.mono (qA φ K w) (.osl b cap xs hp (OwnAt.rep hown))⟩
     ·obtain ⟨u',f1,f2,f3⟩:=hrc q d hd
      exact ⟨u',f1,f2,f3.conv (qA φ K w) (fun b' n hb'=>conv _ q (.inr (Ne.symm hneq)) b' n hb')⟩
    ·have:=hs.hrel.ok c' o' hm'
     cases o' with
     | cells cs'=>
      obtain ⟨g1,c3,T',g2,g3,g4⟩:=this
      refine ⟨relab_priv.2 g1,c3,T',g2,g3,fun q d' hd'=>?_⟩
      obtain ⟨u',q1,q2,q3⟩:=g4 q d' hd'
      exact ⟨u',q1,q2,q3.conv (qA φ K w) (fun b' n hb'=>conv c' q (.inl hne) b' n hb')⟩
     |room cap' xs'=>exact ⟨this.1,this.2.conv (qA φ K w) (fun b' n hb'=>conv c' 0 (.inl hne) b' n hb')⟩
     |mp es=>exact ⟨relab_priv.2 this.1,this.2.ext (qA _ K w) rfl⟩
     |cst cs=>exact CstAt.ext this (qA _ K w)
     | lp J pre=>
      obtain ⟨⟨n,j,g1⟩,g2,g3⟩:=this
      exact ⟨⟨n,j,conv c' j (.inl hne) _ _ g1⟩,g3 pre K w _ w g2 fun c n j h=>⟨conv c' j (.inl hne) c n h,rfl⟩,g3⟩
def Sb (H' H:AH):Prop:=(H'.map (·.1)).Nodup∧∀p∈H',p∈H
theorem St.sb (h:St K w F H t) (hs:Sb H' H):St K w F H' t:=
 ⟨h.krel,⟨hs.1,fun b o hm=>h.hrel.ok b o (hs.2 _ hm)⟩,h.len,h.slot⟩
theorem Gz.sb (hs:(H.map (·.1)).Nodup->Sb H' H) (h:k F H'):Gz F H k:=fun K w t hst=>⟨F,H',K,h,.refl K w,hst.sb (hs hst.hrel.nd)⟩
def D.wk:D->D
 | .osl _ _ xs=>.slc xs
 | .own xs=>.own xs
 |d=>d
theorem RepV.wk (h:RepV K w d v):RepV K w d.wk v:=by
 cases d<;>first|exact h|(cases h<;>first|assumption|exact .slcnil _)
theorem Gz.weak (hg:qn H bx=some (.cells cs)) (h:k F (qM H bx (.cells (cs.map D.wk)))):Gz F H k:=by
 intro K w t hs
 refine ⟨F,_,K,h,.refl K w,hs.krel,⟨by rw [jW];exact hs.hrel.nd,fun c' o' hm'=>?_⟩,hs.len,hs.slot⟩
 rcases kY hs.hrel.nd hm' with ⟨rfl,rfl⟩|⟨hne,hm'⟩
 ·obtain ⟨hpb,c,T,hb,hcs,hrc⟩:=hs.hrel.ok c' _ (qW hg)
  refine ⟨hpb,c,T,hb,by simpa using hcs,fun j d hd=>?_⟩
  rw [Nc,Ni] at hd
  obtain ⟨d',e1,rfl⟩:=hd
  obtain ⟨u,f1,f2,f3⟩:=hrc j d' e1
  refine ⟨u,f1,f2,?_⟩
  cases d'<;>first|exact f3|exact RepV.wk f3
 ·exact hs.hrel.ok c' o' hm'
def Ue:D->D
 | .own []=>.osl 0 0 []
 |d=>d.view1
def lk (P:Program) (t:TypeId) (ps:List (Nat×Operand)) (dst:Option Tmp) (F:List D) (H:AH) (k:List D->AH->Prop):Prop:=
 match yA P t with
 |some z=>jZ P t=true∧(∀p∈ps.map fun p=>(p.1,rv F p.2),okc p.2=true)∧wS P t ((ps.map fun p=>(p.1,rv F p.2)).map fun p=>(p.1,cellsOf p.2)) (z.map Ue) fun cs=>k (qS F dst (.agg cs)) H
 |none=>False
theorem GQ {Q:Exit->Act->World->Prop} (hs:St K w F H a.tmps) (hok:jA o=true) {t:TypeId} (ho:o.op= .build t ps) (h:lk P t ps.toList o.dst F H k):o.wp P a w (uq k K w a.defers) Q:=by
 have hops:=hs.ops (xs:=o.op.operands) (by unfold jA at hok;simp only [Nl] at hok;exact hok.1)
 unfold lk at h
 split at h
 ·rename_i z hz
  obtain ⟨hfo,hokc,h⟩:=h
  obtain ⟨i,zv,hi,hzv,z1,z2,z3,z4⟩:=ye hz
  obtain ⟨place,hplace,hbuild⟩:=Jt hfo
  ·have e:=zr (P:=P) (t:=t) (K:=K) (w:=w) place hplace (ps.toList.map fun p=>(p.1,rv F p.2)) (ps.toList.map fun p=>(p.1,a.eval p.2)) (z.map Ue) zv.cells (fun cs=>k (qS F o.dst (.agg cs)) H)
    hokc (by simp)
    (fun i p q hp hq=>by
     simp only [Nc,Ni] at hp hq
     obtain ⟨x,hx,rfl⟩:=hp
     obtain ⟨b,hb,rfl⟩:=hq
     rw [hx] at hb
     obtain rfl:=Option.some.inj hb
     exact ⟨rfl,hops x.2 (by simp only [ho,Op.operands];simp only [Nv];exact ⟨x,Nk hx,rfl⟩)⟩)
    (by rw [z1];simp) (fun j u hu=>(z3 j u hu).1)
    (fun j d u hd hu=>by
     rw [Nc,Ni] at hd
     obtain ⟨d',e1,rfl⟩:=hd
     have hc:=z4 j d' u e1 hu
     rcases Zj K w (z3 j u hu).2 with h1|⟨x,h1,h2⟩
     ·rw [<-hc] at h1
      have:Ue d'=d':=by cases d'<;>first|rfl|exact h1.not_own.elim
      grind
     ·rw [hc,h1,h2]
      exact .oslnil 0 0 x) h
   obtain ⟨cs,r,g1,g2,g3,g4⟩:=e
   have hrun:(Instr.build t (ps.map fun p=>(p.1,a.eval p.2))).run P w= .ok (.agg r) w:=by
    refine hbuild w i zv _ r hi hzv ?_
    have:(ps.map fun p=>(p.1,a.eval p.2)).toList=ps.toList.map fun p=>(p.1,a.eval p.2):=by simp
    rw [this,g3]
   refine qP (v:= .agg r) (w':=w) ?_ ⟨_,H,K,g1,.refl K w,hs.put ((Pres.refl K w).keep hs.krel) (fun _ _ h=>h) hs.krel hs.hrel o.dst (fun i _=>g4.viewO),qx _ _⟩
   simp only [execOp,ho,Sem.run_bind]
   have:(ps.map fun x=>match x with|(i,x)=>(i,a.eval x))=ps.map fun p=>(p.1,a.eval p.2):=rfl
   rw [this,hrun]
   rfl
 ·exact h.elim
theorem Gz.giveS {s:Nat} {xs:List (List D)} (hx:xs≠ []) (hF:F.getD s .any= .own xs) (h:∀b cap,qH H b->k (F.set s (.osl b cap xs)) ((b,.room cap xs)::H)):Gz F H k:=by
 intro K w t hs
 have hlt:s<F.length:=by
  grind
 have h1:F[s]?=some (.own xs):=by
  grind
 have hts:s<t.size:=by rw [hs.len];exact hlt
 have hown:OwnAt K w (.slot s 0) xs t[s]:=hs.slot s _ _ h1 (Nu hts)
 have hrep:=hown.rep
 generalize htv:t[s]=tv at hown hrep
 rcases hown with ⟨rfl,_⟩|⟨b,cap,sz,c2,T2,rfl,hkb,hh,hcs2,hp,hl,hm,hbg,hs2,hrp⟩
 ·exact (hx rfl).elim
 ·have hown:OwnAt K w (.slot s 0) xs (.slice (some ⟨b,0,none⟩) xs.length cap):= .inr ⟨b,cap,sz,c2,T2,rfl,hkb,hh,hcs2,hp,hl,hm,hbg,hs2,hrp⟩
  have hfr:qH H b:=zI fun x hx' e=>by
   obtain ⟨c',o'⟩:=x
   simp only at e
   subst e
   have:=hs.hrel.ok c' o' hx'
   cases o' with
   |cells cs'=>rw [this.1] at hkb;cases hkb
   |mp es'=>rw [this.1] at hkb;cases hkb
   |cst cs'=>rw [this.1] at hkb;cases hkb
   |lp J pre=>obtain ⟨⟨n,j',g1⟩,_⟩:=this;rw [hkb] at g1;injection g1 with _ g1;cases g1
   | room cap' xs'=>
    rcases this.2 with ⟨q1,_⟩|⟨b',cap',sz',c3,T3,q1,q2,_⟩
    ·have:=this.1;rw [q1] at this;simp at this
    all_goals grind
  let φ:=mvφ (.slot s 0) (.cell b 0)
  have hH:=Yw (p:= .slot s 0) (q:= .cell b 0) (K:=K) (w:=w) (bs:= []) (fun c j _ e=>by cases e) hs.hrel.nd (fun c o hm=>⟨by simp,hs.hrel.ok c o hm⟩)
  refine ⟨_,_,relab φ K,h b cap hfr,Kv (by simp) (by simp),jN hs.krel,⟨?_,fun c' o' hm'=>?_⟩,by simpa using hs.len,fun i d v hd hv=>?_⟩
  ·simp only [List.map_cons,List.nodup_cons]
   refine ⟨fun hh'=>?_,hs.hrel.nd⟩
   obtain ⟨x,hx1,hx2⟩:=List.mem_map.1 hh'
   exact ou hfr hx1 hx2
  ·rcases List.mem_cons.1 hm' with hm'|hm'
   ·injection hm' with g1 g2
    subst g1 g2
    exact ⟨hp,OwnAt.conv (qA φ K w) (fun b' n hb'=>by rw [qR hb'];simp [φ,mvφ]) hown⟩
   ·exact hH.ok c' o' hm'
  ·rcases getElem?_set_some hd with ⟨rfl,rfl,_⟩|⟨hne,hd⟩
   ·have hv':v= .slice (some ⟨b,0,none⟩) xs.length cap:=by
     rw [Nu hts,htv] at hv
     exact (Option.some.inj hv).symm
    subst hv'
    exact (RepV.osl b cap xs hp (RepV.mono (qA φ K w) hrep)).viewO
   ·exact zx (fun j e=>by injection e with e1 _;exact hne e1) (hs.slot i d v hd hv)
theorem Gz.takeS {s b cap:Nat} {xs:List (List D)} (hF:F.getD s .any= .osl b cap xs) (hr:xs≠ []->qn H b=some (.room cap xs)) (h:k (F.set s (.own xs)) (jF H b xs)):Gz F H k:=by
 intro K w t hs
 have hlt:s<F.length:=by
  rcases Nq s F.length with h'|h'
  ·exact h'
  ·rw [Na,Nt h'] at hF
   cases hF
 have h1:F[s]?=some (.osl b cap xs):=by
  rw [Na,Nb hlt] at hF
  rw [Nb hlt]
  exact congrArg some hF
 have hts:s<t.size:=by rw [hs.len];exact hlt
 have hu:RepV K w (.osl b cap xs) t[s]:=hs.slot s _ _ h1 (Nu hts)
 by_cases hx:xs= []
 ·subst hx
  have ho:∃a,t[s]= .slice a 0 0:=by
   rcases hu.osl_inv with ⟨_,h⟩|⟨h,_⟩
   ·exact h
   ·exact (h rfl).elim
  refine ⟨_,_,K,h,.refl K w,hs.krel,by simpa only [jF,if_true] using hs.hrel,by simpa using hs.len,fun i d v hd hv=>?_⟩
  rcases getElem?_set_some hd with ⟨rfl,rfl,_⟩|⟨hne,hd⟩
  ·rw [Nu hts] at hv
   obtain rfl:=Option.some.inj hv
   exact .inl ⟨rfl,ho⟩
  ·exact hs.slot i d v hd hv
 ·have hmem:=qW (hr hx)
  obtain ⟨hp,hown⟩:=hs.hrel.ok b _ hmem
  have huv:t[s]= .slice (some ⟨b,0,none⟩) xs.length cap:=by
   rcases hu.osl_inv with ⟨h,_⟩|⟨_,h⟩
   ·exact (hx h).elim
   ·exact h
  let φ:=mvφ (.cell b 0) (.slot s 0)
  have hin:=Yw (p:= .cell b 0) (q:= .slot s 0) (K:=K) (w:=w) (bs:= [b]) (fun c j hc e=>by injection e with e _;exact hc (by simp [e])) (H:=qT H b) ((erase_sub.map (·.1)).nodup hs.hrel.nd) (fun c o hm=>⟨by simpa using kn hs.hrel.nd hm,hs.hrel.ok c o (erase_sub.subset hm)⟩)
  refine ⟨_,_,relab φ K,h,Kv (by simp) (by simp),jN hs.krel,by simpa only [jF,if_neg hx] using hin,by simpa using hs.len,fun i d v hd hv=>?_⟩
  rcases getElem?_set_some hd with ⟨rfl,rfl,_⟩|⟨hne,hd⟩
  ·rw [Nu hts,huv] at hv
   obtain rfl:=Option.some.inj hv
   exact OwnAt.conv (qA φ K w) (fun b' n hb'=>by rw [qR hb'];simp [φ,mvφ]) hown
  ·exact zx (fun j e=>by cases e) (hs.slot i d v hd hv)
theorem Gz.viewC (hg:qn H bx=some (.cells cs)) (hj:cs[j]?=some (.own xs)) (h:k F (qM H bx (.cells (cs.set j (.slc xs))))):Gz F H k:=by
 intro K w t hs
 refine ⟨F,_,K,h,.refl K w,hs.krel,⟨by rw [jW];exact hs.hrel.nd,fun c' o' hm'=>?_⟩,hs.len,hs.slot⟩
 rcases kY hs.hrel.nd hm' with ⟨rfl,rfl⟩|⟨hne,hm'⟩
 ·obtain ⟨hpb,c,T,hb,hcs,hrc⟩:=hs.hrel.ok c' _ (qW hg)
  refine ⟨hpb,c,T,hb,by simpa using hcs,fun q d hd=>?_⟩
  rcases getElem?_set_some hd with ⟨rfl,rfl,_⟩|⟨_,hd⟩
  ·obtain ⟨u,f1,f2,f3⟩:=hrc _ _ hj
   exact ⟨u,f1,f2,(show OwnAt K w _ xs u from f3).rep⟩
  ·exact hrc q d hd
 ·exact hs.hrel.ok c' o' hm'
def Ce (P:Program) (t:TypeId) (args:List Operand) (dst:Option Tmp) (F:List D) (H:AH) (k:List D->AH->Prop):Prop:=match yb P t,dst with
 | some (e,sz),some d=>args≠ []∧d<F.length∧(∀x∈args,okc (rv F x)=true∧(cellsOf (rv F x)).length=sz)∧args.length*sz<=16777216∧(yA P e).isSome=true∧
  ∀b cap,qH H b->k (F.set d (.osl b cap (args.map fun x=>cellsOf (rv F x)))) ((b,.room cap (args.map fun x=>cellsOf (rv F x)))::H)
 |_,_=>False
theorem po {P:Program} {o:Oper} {ops:List Oper} {K:Nat->BK} {w:World} {a:Act} {Q:Exit->Act->World->Prop} (hs:St K w F H a.tmps) (hok:jA o=true) {t:TypeId} {args:List Operand} (ho:o.op= .buildSlice t args.length ((List.range args.length).zip args).toArray) (h:Ce P t args o.dst F H k):o.wp P a w (uq k K w a.defers) Q:=by
 unfold Ce at h
 split at h
 ·rename_i e sz d hsl hd
  obtain ⟨hne,hlt,hargs,hn,hz,h⟩:=h
  have hz2:∀(l:List Operand) (s:Nat),(((List.range' s l.length).zip l).map fun p=>cellsOf (rv F p.2))=l.map fun x=>cellsOf (rv F x):=fun l=>by
   induction l with
   |nil=>intro s;rfl
   |cons x r ih=>intro s;simp only [Ng,List.range'_succ,List.zip_cons_cons,List.map_cons,ih]
  have hz3:∀(l:List Operand) (s:Nat),(((List.range' s l.length).zip l).map (·.1))=List.range' s l.length:=fun l=>by
   induction l with
   |nil=>intro s;rfl
   |cons x r ih=>intro s;simp only [Ng,List.range'_succ,List.zip_cons_cons,List.map_cons,ih]
  have hap:aop P ops o F H (fun F' H'=>F'=F.set d (.own (args.map fun x=>cellsOf (rv F x)))∧H'=H):=by
   simp only [aop,ho,qY,hsl]
   refine ⟨by rw [List.range_eq_range'];exact hz3 args 0,fun p hp=>hargs p.2 (List.of_mem_zip hp).2,hn,hz,?_⟩
   rw [hd]
   refine ⟨?_,by trivial⟩
   simp only [qS]
   rw [List.range_eq_range',hz2 args 0]
  refine Oper.wp_mono (fun a' w' ⟨F',H',K',⟨e1,e2⟩,q2,q3,q4⟩=>?_) (kS (Q:=Q) hs hok hap)
  subst e1 e2
  obtain ⟨F'',H'',K'',r1,r2,r3⟩:=Gz.giveS (k:=k) (s:=d) (xs:=args.map fun x=>cellsOf (rv F x)) (by simpa using hne) (by simp [hlt]) (fun b cap hb=>by rw [List.set_set];exact h b cap hb) K' w' a'.tmps q3
  exact ⟨F'',H'',K'',r1,q2.trans r2,r3,q4⟩
 ·exact h.elim
def Sbn (H' H:AH):Prop:=(H.map (·.1)).Nodup->Sb H' H
theorem Sbn.sub (h:H'.Sublist H):Sbn H' H:=fun hn=>⟨(h.map (·.1)).nodup hn,fun p hp=>h.subset hp⟩
theorem Y4 {P:Program} {fn:Func} {K:Nat->BK} {w:World} {F:List D} {H:AH} {a:Act} {R:D->AH->Prop} (hk:pE fn.results.toList=true) (hs:St K w F H a.tmps) (h:QC P fn.results.toList F H fun d=>∃H',Sbn H' H∧R d H'):
  ∃v d H' K',(results fn a.tmps).run P w= .ok v w∧R d H'∧FK K w K' w∧KRel K' w∧HRel K' w H'∧RepO K' w 0 d v:=by
 have hres:∀vs:List Value,(fn.results.toList.mapM (zq a.tmps)).run P w= .ok vs w->(results fn a.tmps).run P w= .ok (if h:vs.length=1 then vs[0] else .tuple vs.toArray) w:=fun vs hv=>by
  have he:results fn a.tmps=(fn.results.mapM (zq a.tmps)>>=fun vs=>pure (if h:vs.size=1 then vs[0] else .tuple vs)):=by
   unfold results
   congr 2
  rw [he,Array.mapM_eq_mapM_toList,Sem.run_bind,Sem.run_map,hv]
  simp only [Result.andThen_ok,Sem.run_pure,List.size_toArray]
  split<;>simp
 unfold QC at h
 split at h
 ·rename_i r hr
  split at h
  ·rename_i d hd
   obtain ⟨v,h1,h2⟩:=gP (P:=P) hs hd
   have hrun:=hres [v] (by rw [hr];simp [h1])
   simp only [Ng,List.length_nil,Np,dite_true,List.getElem_cons_zero] at hrun
   rcases h2 with ⟨t,rfl,h2⟩|⟨_,h2⟩
   ·let φ:Who->Who:=fun o=>match o with
     | .slot i j=>if i=t then .slot 0 j else .slot 1 j
     |x=>x
    obtain ⟨H',hsb,h⟩:=h
    have hsub:HRel K w H':=(hs.sb (hsb hs.hrel.nd)).hrel
    refine ⟨v,d,H',relab φ K,hrun,h,slotφ_fk rfl (fun _ _=>rfl) (fun i j=>?_),jN hs.krel,yN ⟨fun _ _=>rfl,rfl⟩ hsub,G8 (h2.conv (qA φ K w) (fun b m hb=>by rw [qR hb];simp [φ]))⟩
    simp only [φ]
    split
    ·exact ⟨_,_,rfl⟩
    ·exact ⟨_,_,rfl⟩
   ·obtain ⟨H',hsb,h⟩:=h
    exact ⟨v,d,H',K,hrun,h,.refl K w,hs.krel,(hs.sb (hsb hs.hrel.nd)).hrel,h2.viewO⟩
  ·exact h.elim
 ·rename_i rs hnr
  split at h
  ·rename_i ds hds
   obtain ⟨vs,g1,g2,g3,g4⟩:=gR (P:=P) hs _ _ hds
   have hrun:=hres vs g1
   have hl1:vs.length≠1:=fun e=>by
    have hl:fn.results.toList.length=1:=by omega
    match hq:fn.results.toList,hl with
    | [r],_=>exact hnr r hq
   rw [dif_neg hl1] at hrun
   let φ:Who->Who:=fun o=>match o with
    | .slot i j=>YG fn.results.toList 0 i
    |x=>x
   obtain ⟨H',hsb,h⟩:=h
   have hsub:HRel K w H':=(hs.sb (hsb hs.hrel.nd)).hrel
   refine ⟨.tuple vs.toArray,.tup ds,H',relab φ K,hrun,h,slotφ_fk rfl (fun _ _=>rfl) (fun i j=>zH _ _ _),jN hs.krel,yN ⟨fun _ _=>rfl,rfl⟩ hsub,vs.toArray,rfl,by simp [g2],fun j d u hd hu=>?_⟩
   have hu':vs[j]?=some u:=by simpa using hu
   have hj:j<fn.results.toList.length:=by rw [g3];exact (List.getElem?_eq_some_iff.1 hd).1
   rcases g4 j _ d u (Nb hj) hd hu' with ⟨t,ht,hc⟩|⟨_,hc⟩
   ·refine hc.conv (qA φ K w) (fun b m hb=>?_)
    rw [qR hb]
    have hp:=JU fn.results.toList 0 j t hk (by rw [Nb hj,ht])
    simp [φ,hp]
   ·exact (RepV.mono (qA φ K w) hc).repC (fun xs e=>by subst e;exact hc.not_own)
  ·exact h.elim
end
end Go.Aw
end
section
namespace Go.Aw
open Go Go.RowKit
def uy (o:Oper):Bool:=match o.op with
 | .defer _=>false
 |_=>true
theorem US (h:uy o=true):∀c,o.op≠ .defer c:=fun c hc=>by
 unfold uy at h
 rw [hc] at h
 cases h
section
variable {P:Program} {ops:Array Oper} {Q:Exit->Act->World->Prop} {l n:Nat} {md:Region.Mode}
theorem fN {K:Act->World->Prop} (hd:uy o=true) (h:o.wp P a w K Q):o.wpIn (Fence.wide.inRound l) n P a w K Q:=by
 refine ⟨fun _ _=>trivial,?_⟩
 rw [Oper.semAt_eq _ _ _ (US hd)]
 unfold Oper.wp at h
 generalize (execOp a.eval o).run P w=r at h
 cases r with
 | ok x w'=>
  cases x<;>simp only [Oper.upon,Oper.uponIn] at h ⊢<;>first
   |exact h
   |exact h.elim
   |exact ⟨fun h=>(by cases h),callsIn_wide.2 h⟩
   |exact ⟨fun h=>(by cases h),fun c cs _=>let ⟨v,w',r,s⟩:=h c cs;⟨v,w',r,stepsIn_wide.2 s⟩⟩
 |halt x w'=>cases x<;>simp only [Oper.upon,Oper.uponIn] at h ⊢<;>first|exact h|exact h.elim
theorem xc {K:Act->World->Prop} (hQ:∀a w,¬Q .outgrown a w) (hd:∀o∈ops.toList,uy o=true) (h:wpOp P ops Q i K a w):wpOpIn (Fence.wide.inRound l) n P ops Q i K a w:=by
 unfold wpOp at h
 unfold wpOpIn
 split
 ·grind
 ·rename_i o ho
  simp only [ho] at h
  have hm:o∈ops.toList:=by rw [<-Array.getElem?_toList] at ho;exact Nk ho
  split
  ·rename_i hw;simp only [hw,if_true] at h;exact fN (hd o hm) (h.resolve_right fun ⟨_,a,w,hq⟩=>hQ a w hq)
  ·rename_i hw;simp only [hw] at h;exact ⟨fun _ _=>trivial,h⟩
theorem dT (hQ:∀a w,¬Q .outgrown a w) (hd:∀o∈ops.toList,uy o=true):∀(fuel:Nat) (listed:Array Bool) (a:Act) (w:World),wpAny P md ops Q fuel listed a w->wpAnyIn (Fence.wide.inRound l) n P md ops Q fuel listed a w
 |0,listed,a,w,h=>h
 |fuel+1,listed,a,w,h=>⟨h.1,fun i hi=>wpOpIn_mono (fun a' w' h'=>dT hQ hd fuel _ a' w' h') (xc hQ hd (h.2 i hi))⟩
theorem Ve (hQ:∀a w,¬Q .outgrown a w):∀(os:List Oper) (a:Act) (w:World),(∀o∈os,uy o=true)->wpList P ops Q os a w->wpListIn (Fence.wide.inRound l) n P ops Q os a w
 | [],a,w,hd,h=>h
 | o::r,a,w,hd,h=>by
  unfold wpList at h
  unfold wpListIn
  split
  ·rename_i hw
   simp only [hw,if_true] at h
   exact fN (hd o (.head _)) (Oper.wp_mono (fun a' w' h'=>Ve hQ r a' w' (fun o ho=>hd o (.tail _ ho)) h') (h.resolve_right fun ⟨_,a,w,hq⟩=>hQ a w hq))
  ·rename_i hw
   simp only [hw] at h
   exact ⟨fun _ _=>trivial,Ve hQ r _ _ (fun o ho=>hd o (.tail _ ho)) h⟩
end
end Go.Aw
end
section
namespace Go.Aw
open Go Go.RowKit
def isC (w:World) (b:Nat):Bool:=match w.heap[b]? with
  |some (.cells _ _ _)=>true
  |some (.map _ _)=>true
  |_=>false
theorem GB {T:TypeId} (h:w.heap[b]?=some (.cells c T fz)):isC w b=true:=by simp [isC,h]
theorem ax (h:w.heap[b]?=some (.map c n)):isC w b=true:=by simp [isC,h]
theorem UK (h:w.cell? ⟨b,j,none⟩=some v):isC w b=true:=by
  unfold World.cell? at h
  grind [isC]
def pC (K K':Nat->BK) (w:World):Prop:=(∀b,isC w b=true->K b≠ .priv->K b≠ .tok 0 .outer->K' b=K b)∧∀b n c j,K b= .tok n (.cell c j)->K' b=K b
section
variable {K K':Nat->BK} {w:World}
theorem eP (h:pC K K' w) (hv:Vis K w b off n) (hc:0<n->isC w b=true):Vis K' w b off n:=by
  refine ⟨hv.1,?_⟩
  rcases Nat.eq_zero_or_pos n with h0|hp
  · grind
  · have h2:=hv.2
    have hne:K b≠ .priv:=fun e=>by rw [e] at h2;have h2':n=0:=h2;omega
    have hno:K b≠ .tok 0 .outer:=fun e=>by rw [e] at h2;have h2':n=0∨off+n<=0:=h2;omega
    rw [h.1 b (hc hp) hne hno]
    exact h2
theorem RepV.re (h:pC K K' w) (hr:RepV K w d v):RepV K' w d v:=by
  induction hr with
  |int k n h=>exact .int k n h
  |bool b=>exact .bool b
  |str s h=>exact .str s h
  |slcnil a=>exact .slcnil a
  | slc xs b off cap sz f hb hc hm hs hv hcell hone hrep ih=>
    refine .slc xs b off cap sz f hb hc hm hs (eP h hv fun hp=>?_) hcell hone ih
    have h1:0<xs.length:=Nat.pos_of_ne_zero fun e=>by rw [e] at hp;simp at hp
    have h2:0<sz:=Nat.pos_of_ne_zero fun e=>by rw [e] at hp;simp at hp
    have h3:=Nb h1
    have h4:=hs 0 _ h3
    exact UK (hcell 0 _ h3 0 _ (Nb (by rw [h4];exact h2)))
  |ptr b off=>exact .ptr b off
  | eptr cs b off f hv hcell hone hrep ih=>
    exact .eptr cs b off f (eP h hv fun hp=>UK (hcell 0 _ (Nb hp))) hcell hone ih
  |bnd g fs vs hl hrep ih=>exact .bnd g fs vs hl ih
  |fn g caps vs hb hl hrep ih=>exact .fn g caps vs hb hl ih
  |nilp=>exact .nilp
  |nilfn=>exact .nilfn
  |mp r=>exact .mp r
  |hsl b n cap hc hm hb=>exact .hsl b n cap hc hm hb
  |osl b cap xs hp h ih=>exact .osl b cap xs hp ih
  |oslnil b cap a=>exact .oslnil b cap a
  |agg cs vs hl hone hrep ih=>exact .agg cs vs hl hone ih
  |tup cs vs hl hrep ih=>exact .tup cs vs hl ih
  |mpv es b c hk hb hh hl hkey hval ih1 ih2=>exact .mpv es b c ((h.1 b (ax hh) (by rw [hk];simp) (by rw [hk];simp)).trans hk) hb hh hl ih1 ih2
  |yld l=>exact .yld l
  |hso b off n cap hp hc hm hb=>exact .hso b off n cap hp hc hm hb
  |hgs b n cap hc hm hb=>exact .hgs b n cap hc hm hb
  |any v=>exact .any v
theorem OwnAt.re (h:pC K K' w) (hno:o≠ .outer) (ho:OwnAt K w o xs v):OwnAt K' w o xs v:=by
  rcases ho with ho|⟨b,cap,sz,c,T,hv,hk,hh,hcs,hp,hl,hm,hb,hs,hrep⟩
  · exact .inl ho
  · refine .inr ⟨b,cap,sz,c,T,hv,(h.1 b (GB hh) (by rw [hk];simp) (by rw [hk];simpa using fun _=>hno)).trans hk,hh,hcs,hp,hl,hm,hb,hs,fun i x hi j d hj=>?_⟩
    obtain ⟨u,e1,e2,e3⟩:=hrep i x hi j d hj
    exact ⟨u,e1,e2,e3.re h⟩
theorem RepC.re (h:pC K K' w) (hno:o≠ .outer) (hr:RepC K w o d v):RepC K' w o d v:=by
  cases d<;>first|exact OwnAt.re h hno hr|exact RepV.re h hr
theorem RepO.re (h:pC K K' w) (hr:RepO K w i d v):RepO K' w i d v:=by
  cases d<;>first
    |exact OwnAt.re h (by simp) hr
    |exact RepV.re h hr
    | (obtain ⟨vs,hv,hl,hh⟩:=hr
       exact ⟨vs,hv,hl,fun j d u hd hu=>(hh j d u hd hu).re h (by simp)⟩)
theorem AO.re (h:pC K K' w) {b:Nat} (hp:K b= .priv->K' b= .priv) {o:AO} (ho:o.at_ K w b):o.at_ K' w b:=by
  cases o with
  | cells cs=>
    obtain ⟨hk,c,T,hh,hc,hr⟩:=ho
    refine ⟨hp hk,c,T,hh,hc,fun j d hd=>?_⟩
    obtain ⟨u,e1,e2,e3⟩:=hr j d hd
    exact ⟨u,e1,e2,RepC.re h (by simp) e3⟩
  |room cap xs=>exact ⟨ho.1,OwnAt.re h (by simp) ho.2⟩
  | cst cs=>
    obtain ⟨h1,h2,c,T,fz,h3,h4,h5⟩:=ho
    refine ⟨(h.1 b (by simp [isC,h3]) (by rw [h1];simp) (by rw [h1];simp)).trans h1,h2,c,T,fz,h3,h4,fun j d hd=>?_⟩
    obtain ⟨u,e1,e2,e3⟩:=h5 j d hd
    exact ⟨u,e1,e2,e3.re h⟩
  | mp es=>
    obtain ⟨h1,c,h2,h3,h4⟩:=ho
    refine ⟨hp h1,c,h2,h3,fun j p hj=>?_⟩
    obtain ⟨e,e1,e2,e3,e4⟩:=h4 j p hj
    exact ⟨e,e1,e2,e3.re h,e4.re h⟩
  | lp J pre=>
    obtain ⟨⟨n,j,h1⟩,h2,h3⟩:=ho
    exact ⟨⟨n,j,(h.2 _ _ _ _ h1).trans h1⟩,h3 pre K w _ w h2 fun c n j hc=>⟨(h.2 _ _ _ _ hc).trans hc,rfl⟩,h3⟩
theorem St.re (h:pC K K' w) (hs:St K w F H t) (hk:KRel K' w) (hp:∀b o,(b,o)∈H->K b= .priv->K' b= .priv):St K' w F H t:=
  ⟨hk,⟨hs.hrel.nd,fun b o hm=>AO.re h (hp b o hm) (hs.hrel.ok b o hm)⟩,hs.len,fun i d v hd hv=>(hs.slot i d v hd hv).re h⟩
theorem HRel.isC (h:HRel K w H) (hm:(b,o)∈H) (hp:K b= .priv):isC w b=true:=by
  have:=h.ok b o hm
  cases o with
  |cells cs=>obtain ⟨_,c,T,hh,_⟩:=this;exact GB hh
  |mp es=>obtain ⟨_,c,hh,_⟩:=this;exact ax hh
  |cst cs=>rw [this.1] at hp;cases hp
  |lp J pre=>obtain ⟨⟨n,j,h1⟩,_⟩:=this;rw [hp] at h1;cases h1
  | room cap xs=>
    obtain ⟨hp,h2⟩:=this
    rcases h2 with ⟨rfl,_⟩|⟨b',cap',sz,c,T,hv,hk,hh,_⟩
    · simp at hp
    · injection hv with e
      injection e with e
      injection e with e
      subst e
      exact GB hh
def LE:BK->Bool
  | .tok _ (.cell _ _)=>true
  |_=>false
def Qr (s:Nat) (w:World) (K:Nat->BK):Nat->BK:=fun b=>if s<=b∧b<w.heap.size∧isC w b=false∧LE (K b)=false then .priv else K b
theorem ml:pC K (Qr s w K) w:=by
  refine ⟨fun b hb _ _=>?_,fun b n c j hb=>?_⟩
  · unfold Qr
    rw [if_neg]
    rintro ⟨_,_,h,_⟩
    rw [hb] at h
    cases h
  · unfold Qr
    rw [if_neg]
    rintro ⟨_,_,_,h⟩
    rw [hb] at h
    cases h
theorem cJ (hk:KRel K w):KRel (Qr s w K) w:=fun b hb=>by
  unfold Qr
  rw [if_neg (by omega)]
  exact hk b hb
theorem St.dem (hs:St K w F H t):St (Qr s w K) w F H t:=
  hs.re ml (cJ hs.krel) fun b o hm hp=>by
    unfold Qr
    split
    · rfl
    · exact hp
theorem FKm.dem (hk:KRel K w) (h:FKm K w K' w'):FK K w (Qr w.heap.size w' K') w':=by
  have hd:∀b,b<w.heap.size->Qr w.heap.size w' K' b=K' b:=fun b hb=>by
    unfold Qr
    rw [if_neg (by omega)]
  refine ⟨⟨h.ext.os,h.ext.tape,h.ext.output,h.ext.size,fun b hb hi=>?_,fun b n o hb hp=>?_,fun b hb=>?_⟩,fun b n hb=>?_,fun b n hb=>?_⟩
  · rw [hd b hb];exact h.ext.imm b hb hi
  · rw [hd b (hk.lt_of (by rw [hb];simp))];exact h.ext.tok b n o hb hp
  · rw [hd b (hk.lt_of (by rw [hb];simp))];exact h.ext.priv b hb
  · rw [hd b (hk.lt_of (by rw [hb];simp))];exact h.own b n hb
  · unfold Qr at hb
    split at hb
    · cases hb
    · rename_i hn
      rcases h.new b n hb with h1|⟨h1,h2⟩
      · exact h1
      · exact (hn ⟨h1,(Array.getElem?_eq_some_iff.1 h2).1,by simp [isC,h2],by rw [hb];rfl⟩).elim
structure Sh (K:Nat->BK) (w w':World):Prop where
  os:w'.os=w.os
  tape:w'.tape=w.tape
  output:w'.output=w.output∧w.drawn<=w'.drawn
  size:w'.heap.size=w.heap.size
  same:∀b,K b≠ .priv∨isC w b=true->w'.heap[b]?=w.heap[b]?
theorem Sh.refl (K:Nat->BK) (w:World):Sh K w w:=⟨rfl,rfl,⟨rfl,No _⟩,rfl,fun _ _=>rfl⟩
theorem dN (h:w'.heap[b]?=w.heap[b]?):isC w' b=isC w b:=by unfold isC;rw [h]
theorem Sh.trans (h:Sh K w w') (g:Sh K w' w''):Sh K w w'':=
  ⟨g.os.trans h.os,g.tape.trans h.tape,⟨g.output.1.trans h.output.1,Nn h.output.2 g.output.2⟩,g.size.trans h.size,fun b hb=>by
    have h1:=h.same b hb
    refine (g.same b ?_).trans h1
    rcases hb with hb|hb
    · exact .inl hb
    · exact .inr ((dN h1).trans hb)⟩
theorem Sh.keep (h:Sh K w w'):Keep n9 (fun b=>isC w b=false∧K b= .priv) K w K w':=by
  refine ⟨⟨h.os,h.tape,h.output,Nat.le_of_eq h.size.symm,fun b hb hi=>⟨hi,h.same b (.inl (by rw [hi];simp))⟩,fun b n o hb _=>⟨n,o,hb,No _,fun j _=>jb (h.same b (.inl (by rw [hb];simp))) j⟩,fun b hb=>.inl hb⟩,
    fun b n o hb _=>⟨hb,h.same b (.inl (by rw [hb];simp))⟩,fun b n hb=>hb,fun b hb hB=>⟨hb,h.same b (.inr (by cases hc:isC w b with|true=>rfl|false=>exact (hB ⟨hc,hb⟩).elim))⟩⟩
theorem Sh.st (h:Sh K w w') (hs:St K w F H t):St K w' F H t:=
  ⟨fun b hb=>hs.krel b (by rw [<-h.size];exact hb),hs.hrel.keep h.keep (fun b o hm=>⟨fun hc=>(by have h2:=hc.1;rw [hs.hrel.isC hm hc.2] at h2;cases h2),fun _ h=>h⟩),hs.len,fun i d v hd hv=>(hs.slot i d v hd hv).keep h.keep (fun _ h=>h)⟩
theorem Sh.fk (h:Sh K w w'):FK K w K w':=h.keep.fk (fun h=>h)
theorem Sh.put (hp:K b= .priv) (hc:isC w b=false):Sh K w (w.putObj b o):=
  ⟨rfl,rfl,⟨rfl,No _⟩,by simp,fun c hb=>World.putObj_heap_other fun e=>by
    subst e
    rcases hb with hb|hb
    · exact hb hp
    · rw [hc] at hb;cases hb⟩
theorem aK {R:Ending->World->Prop}:∀(Ds:List Nat) (w:World),Ds.Nodup->(∀D∈Ds,K D= .priv∧w.heap[D]?=some (.deferred (some [])))->
    (∀w',Sh K w w'->∃v,(results fn tmps).run P w'= .ok v w'∧R (.returned v) w')->LeavesInM Fence.wide n P fn tmps R (Ds.map fun D=>{target:= .collected D,args:=#[]}) .returning w
  | [],w,_,_,h=>h w (.refl K w)
  | D::Ds,w,hn,hD,h=>by
    obtain ⟨h1,h2⟩:=hD D (.head _)
    have hsh:Sh K w (w.putObj D (.deferred none)):=Sh.put h1 (by simp [isC,h2])
    refine ⟨by simp,.inl ⟨D,_,rfl,run_takeDeferred h2,aK Ds _ (List.nodup_cons.1 hn).2 (fun D' hD'=>⟨(hD D' (.tail _ hD')).1,?_⟩) fun w' hw=>h w' (hsh.trans hw)⟩⟩
    rw [World.putObj_heap_other]
    · exact (hD D' (.tail _ hD')).2
    · rintro rfl
      exact (List.nodup_cons.1 hn).1 hD'
end
theorem J9 {R:Ending->World->Prop} (hf:P.funcs[f]?=some fn) (hb:fn.body=some c)
    (hw:AW P c F H Q) (hst:St K w F H (vs++Array.replicate (fn.ntmps - vs.size) undef))
    (hend:∀e F' H' K' w' (a':Act),Q e F' H'->FK K w K' w'->St K' w' F' H' a'.tmps->(e= .normal∨e= .ret)∧∃v,(results fn a'.tmps).run P w'= .ok v w'∧R (.returned v) w'):Calls P f vs w R:=by
  refine (callsIn_wide (n:=3)).1 (callsIn_of_wp_marks hf hb trivial (wpIn_wide.2 (wp_mono (hw K w {tmps:=vs++Array.replicate (fn.ntmps - vs.size) undef,defers:= []} w.heap.size hst ⟨No _,Mk.nil K w _⟩) fun e a' w' ⟨F',H',K',g1,g2,g3,g4,g5⟩=>?_)) rfl)
  obtain ⟨Ds,d1,d2,d3⟩:=g5
  have hfk:=g2.dem hst.krel
  have hst':St (Qr w.heap.size w' K') w' F' H' a'.tmps:=g3.dem
  have key:LeavesInM Fence.wide 3 P fn a'.tmps R a'.defers .returning w':=by
    rw [d2]
    refine aK (K:=Qr w.heap.size w' K') Ds w' d1 (fun D hD=>⟨?_,(d3 D hD).2.2⟩) fun w'' hw'=>(hend e F' H' _ w'' a' g1 (hfk.trans hw'.fk) (hw'.st hst')).2
    unfold Qr
    rw [if_pos ⟨(d3 D hD).1,(Array.getElem?_eq_some_iff.1 (d3 D hD).2.2).1,by simp [isC,(d3 D hD).2.2],by rw [(d3 D hD).2.1];rfl⟩]
  rcases (hend e F' H' _ w' a' g1 hfk hst').1 with rfl|rfl
  · exact key
  · exact key
end Go.Aw
end
section
namespace Go.Aw
open Go Go.RowKit
structure XO where
  op:Op
  dst:Option Tmp
  g:Option (Option (Tmp×Bool))
  tk:Bool
  ta:Bool
inductive XC where
  |skip
  |reg (l:List XO)
  |regD (l:List XO)
  |seq (x y:XC)
  |cond (c:Operand) (x y:XC)
  |block (id:Nat) (c:XC)
  |exit (id:Nat)
  |ret
  |loop (c:XC)
  |gh (c:XC)
  |scope (c:XC)
  |regV (l tail:List XO)
  |regW (q:Tmp) (segs:List (List XO×XO×Bool)) (last tail:List XO)
  |regT (qs:List Tmp) (segs:List (List XO×XO×Bool)) (last tail:List XO)
  |rgf (g:Operand) (p t:Tmp) (c:XC)
  |rga (g:Operand) (p:Tmp) (a c:XC)
  |regY (pre:List XO) (y:XO) (post:List XO)
  |bad
def xof (ops:List Oper) (o:Oper):XO:=
  ⟨o.op,o.dst,(match o.guard with|none=>none|some (j,want)=>match (ops[j]?).bind (·.dst) with|some t=>some (some (t,want))|none=>some none),
    (match o.dst with|some d=>takes ops d|none=>false),(match o.dst with|some d=>Vd ops d|none=>false)⟩
def Zi:Code->Option (Tmp×Tmp)
  | .region _ ops false=>match ops.toList with
    | [o]=>match o.op,o.dst,o.guard with
      | .assign (.tmp p),some t,none=>some (p,t)
      |_,_,_=>none
    |_=>none
  |_=>none
def KM (g:Operand) (ps:Array Tmp) (asg:Code) (z x:XC):XC:=match ps.toList,Zi asg with
  | [p],some (p',t)=>if p'=p then .rgf g p t x else .bad
  | [p],none=>.rga g p z x
  |_,_=>.bad
def cmp:Code->XC
  | .skip=>.skip
  | .label _=>.skip
  | .region _ ops false=>.reg (ops.toList.map (xof ops.toList))
  | .region _ ops true=>.regD (ops.toList.map (xof ops.toList))
  | .seq x y=>.seq (cmp x) (cmp y)
  | .cond c x y=>.cond c (cmp x) (cmp y)
  | .block id c=>.block id (cmp c)
  | .exit id=>.exit id
  | .ret=>.ret
  | .loop c=>.loop (cmp c)
  | .scope c=>.scope (cmp c)
  | .rangeFunc g ps asg c=>KM g ps asg (cmp asg) (cmp c)
  |_=>.bad
def kH:XC->Bool
  | .rgf _ _ _ _=>true
  | .rga _ _ _ _=>true
  | .bad=>true
  |_=>false
theorem jn (h:KM g ps asg z x=y):kH y=true:=by
  subst h
  unfold KM
  split
  · split<;>rfl
  · rfl
  · rfl
theorem nu (h:KM g ps asg z x= .rgf g' p t y):g=g'∧ps.toList= [p]∧Zi asg=some (p,t)∧x=y:=by
  grind [KM]
theorem nZ (h:KM g ps asg z x= .rga g' p a y):g=g'∧ps.toList= [p]∧z=a∧x=y:=by
  grind [KM]
def bE:XC->Bool
  | .skip=>true
  | .reg _=>true
  | .regT _ _ _ _=>true
  | .seq x y=>bE x&&bE y
  | .block _ x=>bE x
  | .gh x=>bE x
  |_=>false
def QL:Code->Bool
  | .region _ ops _=>ops.toList.all fun o=>match o.op with
    | .defer _=>false
    |_=>true
  | .seq x y=>QL x&&QL y
  | .block _ c=>QL c
  |_=>true
abbrev HK:=List D->AH->Prop
def vq (P:Program) (m:Bool) (x:XO) (F:List D) (H:AH) (k:HK):Prop:=
  match x.op with
  | .move (.tmp s)=>match x.dst with
    |some d=>if x.tk=true then k ((F.set s (rv F (.tmp s))).set d (ev F (.tmp s))) H else k (F.set d (rv F (.tmp s))) H
    |none=>k F H
  | .assign (.tmp s)=>match x.dst with
    |some d=>k ((F.set s (rv F (.tmp s))).set d (ev F (.tmp s))) H
    |none=>k F H
  | .move y=>k (qS F x.dst (ev F y)) H
  | .assign y=>k (qS F x.dst (ev F y)) H
  | .extract (.tmp s) ix=>match x.dst,ev F (.tmp s) with
    | some d,.tup ds=>match ds[ix]? with
      |some c=>if (x.tk&& !m)=true then fact c.view1->k ((F.set s (.tup (ds.set ix c.view1))).set d c) H else fact c.view1->k (F.set d c.view1) H
      |none=>False
    |_,_=>False
  | .alloc t=>m=false∧match yA P t with
    |some z=>∀b,qH H b->k (qS F x.dst (.ptr b 0)) ((b,.cells z)::H)
    |none=>False
  | .makeMap t r=>m=false∧ma r H fun d H'=>k (qS F x.dst d) H'
  | .mapUpdate t q i v=>m=false∧ni P t H (rv F q) (rv F i) (rv F v) fun H'=>k (qS F x.dst (.tup [])) H'
  | .mapEntry t q i=>m=false∧rN P t H (rv F q) (rv F i) fun d H'=>k (qS F x.dst d) H'
  | .entryStore t q s v=>m=false∧xA H (rv F q) (rv F s) (rv F v) fun H'=>k (qS F x.dst (.tup [])) H'
  | .box t y=>m=false∧okc (rv F y)=true∧∀b,qH H b->k (qS F x.dst (.ptr b 0)) ((b,.cells (cellsOf (rv F y)))::H)
  | .store t a y=>m=false∧match yr P t,rv F a with
    | some (true,n),.ptr b off=>match qn H b with
      |some (.cells cs)=>okc (rv F y)=true∧(cellsOf (rv F y)).length=n∧off+n<=cs.length∧k (qS F x.dst (.tup [])) (qM H b (.cells (cs.take off++(cellsOf (rv F y)++cs.drop (off+n)))))
      |_=>False
    | some (false,n),.ptr b off=>match qn H b with
      | some (.cells cs)=>n=1∧off<cs.length∧one1 (ev F y)=true∧x.dst=none∧(match y with
        | .tmp s=>k (F.set s (rv F y)) (qM H b (.cells (cs.set off (ev F y))))
        |_=>k F (qM H b (.cells (cs.set off (ev F y)))))
      |_=>False
    |_,_=>False
  | .call c=>match c.callee with
    | .value f=>match rv F f with
      | .fn g caps=>if m=true then ∃d,(∀H1,Sub H H1->ACall P g (uv (c.args.toList.map (rv F)) caps) H1 (fun d' H'=>d'=d∧H'=H1))∧(fact d.view->k (qS F x.dst d) H)
        else ACall P g (uv (c.args.toList.map (rv F)) caps) H fun d H'=>fact d.view->k (qS F x.dst d) H'
      |_=>False
    | .builtin .append=>match c.args.toList,c.argTypes.toList,x.dst with
      | [.tmp s,y],[t,u],some d=>match ev F (.tmp s),Ko P t u with
        | .own xs,some (_,sz,bs)=>match rv F y with
          | .slc ys=>(∀y∈xs,y.length=sz)∧(∀y∈ys,y.length=sz)∧(xs.length+ys.length)*bs<=140737488355328∧k ((F.set s (.slc xs)).set d (.own (xs++ys))) H
          | .str l=>sz=1∧(∀y∈xs,y.length=1)∧(xs.length+l.length)*bs<=140737488355328∧k ((F.set s (.slc xs)).set d (.own (xs++l.map ql))) H
          | .hso b off n=>match qn H b with
            |some (.cells cs)=>sz=1∧off+n<=cs.length∧(∀y∈xs,y.length=1)∧(xs.length+n)*bs<=140737488355328∧k ((F.set s (.slc xs)).set d (.own (xs++((cs.drop off).take n).map fun e=>[e.view1]))) H
            |_=>False
          |_=>False
        |_,_=>False
      |_,_,_=>False
    | .builtin .copy=>m=false∧nw P H (c.args.toList.map (rv F)) c.argTypes.toList fun d H'=>k (qS F x.dst d) H'
    | .builtin .clear=>m=false∧rO P H (c.args.toList.map (rv F)) c.argTypes.toList fun H'=>k (qS F x.dst (.tup [])) H'
    |_=>qY P (rv F) H x.op fun d=>k (qS F x.dst d) H
  | .binOp bo t y z _=>if m=false∧gH z=true then nilcmp P bo t (rv F y) fun d=>k (qS F x.dst d) H else qY P (rv F) H x.op fun d=>k (qS F x.dst d) H
  | .load t (.tmp s)=>match x.dst with
    | some d=>if m=false∧x.ta=true then (match yr P t,rv F (.tmp s) with
        | some (false,_),.ptr b off=>match qn H b with
          | some (.cells cs)=>match cs[off]? with
            |some (.own xs)=>k (F.set d (.own xs)) (qM H b (.cells (cs.set off (.slc xs))))
            |some (.hgs b' n c)=>k (F.set d (.hgs b' n c)) H
            |_=>False
          |_=>False
        |_,_=>False)
      else qY P (rv F) H x.op fun c=>k (qS F x.dst c) H
    |none=>qY P (rv F) H x.op fun c=>k (qS F x.dst c) H
  |_=>qY P (rv F) H x.op fun d=>k (qS F x.dst d) H
def nilr (F:List D) (x:Operand):D:=if gH x=true then .osl 0 0 [] else rv F x
def ea (P:Program) (f:D) (args:List D) (dst:Option Tmp) (F:List D) (H:AH) (k:HK):Prop:=match f with
  | .fn g caps=>ACall P g (uv args caps) H fun d H'=>fact d.view->k (qS F dst d) H'
  |_=>False
theorem eT {K:Nat->BK} {w:World} {F:List D} {H:AH} {a:Act} (hs:St K w F H a.tmps) {x:Operand} (hx:jP x=true):RepV K w (nilr F x) (a.eval x):=by
  unfold nilr
  split
  · rename_i h
    unfold gH at h
    split at h
    · exact .oslnil 0 0 none
    · cases h
  · exact hs.rep hx
theorem ck {Q:Exit->Act->World->Prop} (hs:St K w F H a.tmps) (hok:jA o=true) (ho:o.op= .call c) (hf:c.callee= .value f) (h:ea P (rv F f) (c.args.toList.map (nilr F)) o.dst F H k):o.wp P a w (uq k K w a.defers) Q:=by
  unfold ea at h
  split at h
  · rename_i g caps hg
    have hall:jP f=true∧c.args.all jP=true:=by
      unfold jA at hok
      simp only [ho,Op.operands,Call.operands,hf,Nl] at hok
      grind
    obtain ⟨fs,vs,hv,hcap⟩:=(hg▸hs.rep hall.1).fn_call
    obtain ⟨hcall,hR⟩:=h
    unfold QJ at hcall
    split at hcall
    · rename_i fn hfn
      simp only [Nl,Bool.not_eq_true'] at hcall
      have hrun:(execOp a.eval o).run P w= .ok (.enter g (fs++c.args.map a.eval++vs)) w:=by
        have hb:fn.body.isNone=false:=by cases hbb:fn.body<;>simp_all
        simp only [execOp,ho,resolve,hf,hv,Deferred.ofValue,Sem.run_bind,Sem.run_pure,Result.andThen_ok,invoke,callFunc,run_program,hfn,hcall.2,hb,Bool.false_eq_true,if_false]
      obtain ⟨hl,hcap⟩:=hcap (c.args.toList.map (nilr F)) (c.args.map a.eval) (by simp) (fun j d v hd hv'=>by
        rw [Nc,Ni] at hd
        rw [Array.getElem?_map,Ni] at hv'
        obtain ⟨x,h1,rfl⟩:=hd
        obtain ⟨y,h2,rfl⟩:=hv'
        rw [Array.getElem?_toList,h2] at h1
        obtain rfl:=Option.some.inj h1
        exact eT hs ((Array.all_eq_true'.1 hall.2) _ (Array.mem_of_getElem? h2)))
      have hc:=hR (relab outerize K) w (fs++c.args.map a.eval++vs) (jN hs.krel) (Qk K) (yN ⟨fun _ _=>rfl,rfl⟩ hs.hrel) hl (fun j d v hd hv'=>(hcap j d v hd hv').mono (qA outerize K w))
      unfold Oper.wp
      rw [hrun,Oper.upon_enter]
      refine hc.mono fun e w' ⟨v,d,H',K',he,hk,hfk,hk',hh',hr⟩=>?_
      subst he
      have key:∀dst,(∀i,o.dst=some i->i=dst)->St (kZ K K' dst) w' (qS F o.dst d) H' (a.put o.dst v).tmps:=by
        intro dst hd
        obtain ⟨hkeep,hext⟩:=vw hfk dst
        have hkr:KRel (kZ K K' dst) w':=fun b hb=>by simp [kZ,hk' b hb]
        have hhr:HRel (kZ K K' dst) w' H':=hh'.conv hext (fun b h=>by simp [kZ,h]) (fun b n c j hb=>by simp [kZ,hb])
        exact hs.put hkeep (fun _ _ h=>h) hkr hhr o.dst (fun i hi=>by
            obtain rfl:=hd i hi
            exact hr.conv hext (fun b n j hb=>by simp [kZ,hb]))
      have hkk:=hk hr.rep.fact
      cases hd:o.dst with
      |none=>exact ⟨_,H',_,hkk,(vw hfk 0).1.fk (fun h=>h),hd▸key 0 (fun i hi=>by rw [hd] at hi;cases hi),qx _ _⟩
      |some t=>exact ⟨_,H',_,hkk,(vw hfk t).1.fk (fun h=>h),hd▸key t (fun i hi=>by rw [hd] at hi;exact (Option.some.inj hi).symm),qx _ _⟩
    · cases hcall
  · exact h.elim
def VZ (P:Program) (op:Op) (dst:Option Tmp) (F:List D) (H:AH) (k:HK):Prop:=
  ∀(o:Oper) (K:Nat->BK) (w:World) (a:Act) (Q:Exit->Act->World->Prop),o.op=op->o.dst=dst->St K w F H a.tmps->o.wp P a w (uq k K w a.defers) Q
def kJ:Op->Option Op
  | .call ⟨.builtin .append,args,tys⟩=>match args.toList,tys.toList with
    | [l,c],[t]=>some (.makeSlice t l c)
    | [x,y],[t,u,_]=>some (.call ⟨.builtin .append,#[x,y],#[t,u]⟩)
    | [x,y],[t,u,_,_]=>some (.call ⟨.builtin .append,#[x,y],#[t,u]⟩)
    |_,_=>none
  | .call ⟨.builtin .imag,args,tys⟩=>match args.toList,tys.toList with
    | [m,i],[t]=>some (.lookup t m i false)
    | [m,s,v],[t]=>some (.entryStore t m s v)
    | [],[t]=>some (.alloc t)
    | [x],[t]=>some (.range t x)
    | [x],[]=>some (.next x false)
    | [x],[_,_]=>some (.entry x)
    |_,_=>none
  | .call ⟨.builtin .complex,args,tys⟩=>match tys.toList with
    |t::is=>some (.build t (is.zip args.toList).toArray)
    | []=>none
  | .call ⟨.builtin .real,args,tys⟩=>match tys.toList with
    | [t]=>some (.buildSlice t args.toList.length ((List.range args.toList.length).zip args.toList).toArray)
    |_=>none
  | .call ⟨.builtin .println,args,tys⟩=>match args.toList with
    |f::as=>some (.call ⟨.value f,as.toArray,tys⟩)
    | []=>none
  |_=>none
def ZR (P:Program) (op:Op) (dst:Option Tmp) (F:List D) (H:AH) (k:HK):Prop:=match op with
  | .call ⟨.builtin .append,args,tys⟩=>match args.toList,tys.toList with
    | [l,c],[t]=>BI P t l c dst F H k
    | [x,y],[t,u,_]=>D9 P t u x y dst F H k
    | [x,y],[t,u,_,_]=>Gz F H fun F' H'=>vq P false ⟨.call ⟨.builtin .append,#[x,y],#[t,u]⟩,dst,none,false,false⟩ F' H' k
    |_,_=>False
  | .call ⟨.builtin .imag,args,tys⟩=>match args.toList,tys.toList with
    | [m,i],[t]=>Yi P false t H (rv F m) (rv F i) false fun d=>k (qS F dst d) H
    | [m,s,v],[t]=>Gz F H fun F' H'=>vq P false ⟨.entryStore t m s v,dst,none,false,false⟩ F' H' k
    | [],[t]=>VZ P (.alloc t) dst F H k
    | [x],[t]=>VZ P (.range t x) dst F H k
    | [x],[]=>VZ P (.next x false) dst F H k
    | [x],[_,_]=>VZ P (.entry x) dst F H k
    |_,_=>False
  | .call ⟨.builtin .complex,args,tys⟩=>match tys.toList with
    |t::is=>lk P t (is.zip args.toList) dst F H k
    | []=>False
  | .call ⟨.builtin .real,args,tys⟩=>match tys.toList with
    | [t]=>Ce P t args.toList dst F H k
    |_=>False
  | .call ⟨.builtin .println,args,tys⟩=>match args.toList with
    |f::as=>ea P (rv F f) (as.map (nilr F)) dst F H k
    | []=>False
  |_=>False
def Uo (x:XO):XO:=match kJ x.op with
  |some op=>{x with op:=op}
  |none=>x
def xop (P:Program) (m:Bool) (x:XO) (F:List D) (H:AH) (k:HK):Prop:=match kJ x.op with
  |some _=>m=false∧ZR P x.op x.dst F H k
  |none=>vq P m x F H k
def ow:List (List XO×XO×Bool)->List XO
  | []=>[]
  |(l,x,_)::r=>l++x::ow r
def gS (x:XO):Bool:=(kJ x.op).isNone&& !gu x.op
def iz (x:XO):Bool:=(kJ x.op).isNone&&x.g.isNone
def EY (segs:List (List XO×XO×Bool)) (last:List XO):Bool:=segs.all (fun p=>p.1.all gS&&iz p.2.1)&&last.all gS
def YP:List (List XO×XO×Bool)->List Nat
  | []=>[]
  | (_,x,_)::r=>match x.op,x.dst with
    | .alloc _,some d=>d::YP r
    |_,_=>YP r
def aC (ops:Array Oper) (n:Nat) (al:List Nat):Bool:=(ops.toList.take n).all fun o=>
  if wY al o.op=true then o.guard.isNone&&(match o.op with
    | .store _ _ y=>al.all fun d=>!(Ws (some y) d)&&o.dst !=some d
    |_=>true)
  else al.all fun d=>!(o.looksAt ops).contains d&&o.dst !=some d
def Zw (x:XO) (seen:List Nat):List Nat:=match x.op,x.dst with
  | .alloc _,some d=>d::seen
  |_,_=>seen
def hZ (al:List Nat):List Nat->List (List XO×XO×Bool)->Bool
  |_,[]=>true
  | seen,(_,x,_)::r=>(match x.op with
    | .store _ (.tmp d) _=>!al.contains d||seen.contains d
    |_=>true)&&hZ al (Zw x seen) r
def Y8 (ops:Array Oper):Nat->List Nat->List (List XO×XO×Bool)->Bool
  |_,_,[]=>true
  |k,ps,(l,_,fl)::r=>(!fl||ps.all fun i=>match ops[k+l.length]? with|some o=>Z1 .any o i|none=>false)&&Y8 ops (k+l.length+1) ((k+l.length)::ps) r
def vOk (l:List XO):Bool:=l.all fun x=>(kJ x.op).isNone&& !gu x.op
def er:XC->XC
  | .regV l tail=>if vOk l=true then .regD (l++tail.map Uo) else .gh .bad
  | .regW _ segs last tail=>if EY segs last=true then .regD ((ow segs++last)++tail.map Uo) else .gh .bad
  | .regT _ segs last tail=>if EY segs last=true then .regD ((ow segs++last)++tail.map Uo) else .gh .bad
  | .regY pre y post=>if (kJ y.op).isNone=true then .reg (pre.map Uo++y::post.map Uo) else .gh .bad
  | .reg l=>.reg (l.map Uo)
  | .regD l=>if l.all (fun x=>(kJ x.op).isNone)=true then .regD l else .gh .bad
  | .seq x y=>.seq (er x) (er y)
  | .cond c x y=>.cond c (er x) (er y)
  | .block id c=>.block id (er c)
  | .loop c=>.loop (er c)
  | .gh c=>er c
  | .scope c=>.scope (er c)
  | .rgf g p t c=>.rgf g p t (er c)
  | .rga g p a c=>.rga g p (er a) (er c)
  |x=>x
def jy:Code->Bool
  | .region _ ops _=>ops.all jA
  | .seq x y=>jy x&&jy y
  | .cond c x y=>jP c&&jy x&&jy y
  | .block _ c=>jy c
  | .loop c=>jy c
  | .scope c=>jy c
  | .rangeFunc _ _ a c=>jy a&&jy c
  |_=>true
def KA (fn:Func):Bool:=match fn.body with
  |some c=>jy c&&pE fn.results.toList
  |none=>false
def oF:XC->Code->Bool
  | .regV l _,.region _ ops true=>gC ops l.length
  | .regD _,.region _ ops true=>Uk ops
  | .regY _ _ _,.region _ ops false=>ops.toList.all uy
  | .regW _ segs last _,.region _ ops true=>gC ops (ow segs++last).length&&Y8 ops 0 [] segs&&(aC ops (ow segs++last).length (YP segs)&&hZ (YP segs) [] segs)
  | .regT _ segs last _,.region _ ops true=>gC ops (ow segs++last).length&&Y8 ops 0 [] segs&&(aC ops (ow segs++last).length (YP segs)&&hZ (YP segs) [] segs)
  | .seq x y,.seq c d=>oF x c&&oF y d
  | .cond _ x y,.cond _ c d=>oF x c&&oF y d
  | .block _ x,.block _ c=>oF x c
  | .loop x,.loop c=>oF x c
  | .gh x,c=>oF x c
  | .scope x,.scope c=>oF x c
  | .rgf _ _ _ x,.rangeFunc _ _ _ c=>oF x c&&bE x&&QL c
  | .rga _ _ x y,.rangeFunc _ _ a c=>oF x a&&oF y c&&bE x&&bE y&&QL a&&QL c
  |_,_=>true
def xops (P:Program):Bool->List XO->List D->AH->HK->Prop
  |_,[],F,H,k=>k F H
  | m,x::r,F,H,k=>match x.g with
    |none=>xop P (!gu x.op&&m) x F H fun F' H'=>xops P (!gu x.op&&m) r F' H' k
    |some none=>xops P m r (qS F x.dst (.tup [])) H k
    | some (some (t,want))=>match F.getD t .any with
      | .bool b=>(b=want->xop P (!gu x.op&&m) x (F.set t (.bool want)) H fun F' H'=>xops P (!gu x.op&&m) r F' H' k)∧(b=(!want)->xops P m r (qS (F.set t (.bool (!want))) x.dst (.tup [])) H k)
      | .tup _=>xops P m r (qS F x.dst (.tup [])) H k
      |_=>False
theorem yZ {F:List D} {t:Nat} {d:D} (h:F.getD t .any=d) (hd:d≠ .any):F.set t d=F:=by
  rcases Nq t F.length with h'|h'
  · rw [Na,Nb h'] at h
    simp only [Nd] at h
    rw [<-h,List.set_getElem_self]
  all_goals grind
section
variable {P:Program} {ops:List Oper} {o:Oper} {F:List D} {H:AH}
theorem UW:vq P false (xof ops o) F H k=aop P ops o F H k:=by
  obtain ⟨dst,op,ty,pos,af,g⟩:=o
  unfold vq aop
  simp only [xof,Bool.false_eq_true,if_false,true_and,Bool.not_false,Bool.and_true]
  cases dst<;>cases op
  all_goals first
    |rfl
    |(rename_i x;cases x<;>rfl)
    |(rename_i x y;cases x<;>rfl)
    | (rename_i c
       obtain ⟨callee,cargs,ctys⟩:=c
       cases callee<;>first|rfl|(rename_i b;cases b<;>rfl))
    |(rename_i x y;cases y<;>rfl)
    | (rename_i x y;cases x<;>first
        |rfl
        |(dsimp only;generalize ev F _=e;cases e<;>rfl))
theorem cU:vq P true (xof ops o) F H k=jJ P ops o F H (fun F'=>k F' H):=by
  obtain ⟨dst,op,ty,pos,af,g⟩:=o
  unfold vq jJ
  simp only [xof,Bool.true_eq_false,if_true,false_and,if_false,Bool.not_true,Bool.and_false,Bool.false_eq_true]
  cases dst<;>cases op
  all_goals first
    |rfl
    |(rename_i x;cases x<;>rfl)
    |(rename_i x y;cases x<;>rfl)
    | (rename_i c
       obtain ⟨callee,cargs,ctys⟩:=c
       cases callee<;>first|rfl|(rename_i b;cases b<;>rfl))
    |(rename_i x y;cases y<;>rfl)
    | (rename_i x y;cases x<;>first
        |rfl
        |(dsimp only [aop];generalize ev F _=e;cases e<;>rfl))
theorem Ug {F:List D} {t:Nat} {want:Bool} {A B:List D->Prop} {N T:Prop}:
    (match F.getD t .any with
      | .bool b=>(b=want->A (F.set t (.bool want)))∧(b=(!want)->B (F.set t (.bool (!want))))
      | .tup _=>T
      |_=>N)=
    (match F.getD t .any with
      | .bool b=>(b=want->A F)∧(b=(!want)->B F)
      | .tup _=>T
      |_=>N):=by
  grind [yZ]
theorem YZ {Q:Exit->Act->World->Prop} (hs:St K w F H a.tmps) (hok:jA o=true) (he:Uo x=xof ops o) (h:xop P false x F H k):o.wp P a w (uq k K w a.defers) Q:=by
  unfold Uo at he
  unfold xop at h
  cases hal:kJ x.op with
  | none=>
    simp only [hal] at he h
    subst he
    rw [UW] at h
    exact kS hs hok h
  | some op=>
    simp only [hal] at he h
    have ho:o.op=op:=(congrArg XO.op he).symm
    have hd:o.dst=x.dst:=(congrArg XO.dst he).symm
    obtain ⟨_,h⟩:=h
    unfold kJ at hal
    unfold ZR at h
    split at hal
    · rename_i args tys hxo
      rw [hxo] at h
      simp only at h
      split at hal
      · rename_i l c t h1 h2
        simp only [Option.some.injEq] at hal
        simp only [h1,h2] at h
        rw [<-hd] at h
        exact mu hs hok (ho.trans hal.symm) h
      · rename_i x1 y1 t u v h1 h2
        simp only [Option.some.injEq] at hal
        simp only [h1,h2] at h
        rw [<-hd] at h
        exact ly hs hok (ho.trans hal.symm) rfl rfl rfl h
      · rename_i x1 y1 t u v1 v2 h1 h2
        simp only [Option.some.injEq] at hal
        simp only [h1,h2] at h
        rw [<-hd] at h
        obtain ⟨F',H',K',g1,g2,g3⟩:=h K w a.tmps hs
        have g4:aop P ops o F' H' k:=by
          simp only [aop,ho.trans hal.symm]
          exact g1
        refine Oper.wp_mono (fun a2 w2 h2=>?_) (Y7 g3 hok (ho.trans hal.symm) rfl g4)
        obtain ⟨F'',H'',K'',q1,q2,q3,q4⟩:=h2
        exact ⟨F'',H'',K'',q1,g2.trans q2,q3,q4⟩
      · cases hal
    · rename_i args tys hxo
      rw [hxo] at h
      simp only at h
      split at hal
      · rename_i m i t h1 h2
        simp only [Option.some.injEq] at hal
        simp only [h1,h2] at h
        rw [<-hd] at h
        exact bJ hs hok (ho.trans hal.symm) h
      · rename_i m s v t h1 h2
        simp only [Option.some.injEq] at hal
        simp only [h1,h2] at h
        rw [<-hd] at h
        obtain ⟨F',H',K',g1,g2,g3⟩:=h K w a.tmps hs
        have g4:aop P ops o F' H' k:=by
          simp only [aop,ho.trans hal.symm]
          exact g1.2
        refine Oper.wp_mono (fun a2 w2 h2=>?_) (oU g3 hok (ho.trans hal.symm) g4)
        obtain ⟨F'',H'',K'',q1,q2,q3,q4⟩:=h2
        exact ⟨F'',H'',K'',q1,g2.trans q2,q3,q4⟩
      · rename_i t h1 h2
        simp only [Option.some.injEq] at hal
        simp only [h1,h2] at h
        exact h o K w a Q (ho.trans hal.symm) hd hs
      · rename_i x1 t h1 h2
        simp only [Option.some.injEq] at hal
        simp only [h1,h2] at h
        exact h o K w a Q (ho.trans hal.symm) hd hs
      · rename_i x1 h1 h2
        simp only [Option.some.injEq] at hal
        simp only [h1,h2] at h
        exact h o K w a Q (ho.trans hal.symm) hd hs
      · rename_i x1 t1 t2 h1 h2
        simp only [Option.some.injEq] at hal
        simp only [h1,h2] at h
        exact h o K w a Q (ho.trans hal.symm) hd hs
      · cases hal
    · rename_i args tys hxo
      rw [hxo] at h
      simp only at h
      split at hal
      · rename_i t is h2
        simp only [Option.some.injEq] at hal
        simp only [h2] at h
        rw [<-hd] at h
        exact GQ hs hok (ho.trans hal.symm) (by simpa using h)
      · cases hal
    · rename_i args tys hxo
      rw [hxo] at h
      simp only at h
      split at hal
      · rename_i t h2
        simp only [Option.some.injEq] at hal
        simp only [h2] at h
        rw [<-hd] at h
        exact po (ops:=ops) hs hok (ho.trans hal.symm) h
      · cases hal
    · rename_i args tys hxo
      rw [hxo] at h
      simp only at h
      split at hal
      · rename_i f as h2
        simp only [Option.some.injEq] at hal
        simp only [h2] at h
        rw [<-hd] at h
        exact ck hs hok (ho.trans hal.symm) rfl (by simpa using h)
      · cases hal
    · cases hal
theorem wF {k:HK} {K:Nat->BK} {w:World} {a:Act} {Q:Exit->Act->World->Prop} {opA:Array Oper} (hQ:∀a' w',uq k K w a.defers a' w'->Q .normal a' w'):∀(l:List XO) (os:List Oper) (F:List D) (H:AH) (K1:Nat->BK) (w1:World) (a1:Act),l.map Uo=os.map (xof opA.toList)->(∀o∈os,jA o=true)->St K1 w1 F H a1.tmps->FK K w K1 w1->a1.defers=a.defers->
    xops P false l F H k->wpList P opA Q os a1 w1
  | [],[],F,H,K1,w1,a1,_,_,hs,hfk,hd,h=>wpList_nil (hQ a1 w1 ⟨F,H,K1,h,hfk,hs,hd⟩)
  | [],o::os,F,H,K1,w1,a1,hl,_,hs,hfk,hd,h=>by simp at hl
  |x::r,[],F,H,K1,w1,a1,hl,_,hs,hfk,hd,h=>by simp at hl
  | x::r,o::os,F,H,K1,w1,a1,hl,hok,hs,hfk,hd,h=>by
    simp only [List.map_cons,List.cons.injEq] at hl
    obtain ⟨hx,hl⟩:=hl
    have hgo:∀F1,St K1 w1 F1 H a1.tmps->xop P false x F1 H (fun F' H'=>xops P false r F' H' k)->o.wp P a1 w1 (wpList P opA Q os) Q:=fun F1 hs h=>by
      refine Oper.wp_mono (fun a2 w2 h2=>?_) (YZ (ops:=opA.toList) (Q:=Q) hs (hok o (.head _)) hx h)
      obtain ⟨F',H',K',g1,g2,g3,g4⟩:=h2
      exact wF hQ r os F' H' K' w2 a2 hl (fun o ho=>hok o (.tail _ ho)) g3 (hfk.trans g2) (g4.trans hd) g1
    have hdst:x.dst=o.dst:=by
      have:=congrArg XO.dst hx
      unfold Uo at this
      split at this<;>exact this
    have hgx:x.g=(xof opA.toList o).g:=by
      have:=congrArg XO.g hx
      unfold Uo at this
      split at this<;>exact this
    have hskip:∀F1,St K1 w1 F1 H a1.tmps->xops P false r (qS F1 x.dst (.tup [])) H k->wpList P opA Q os (a1.put o.dst undef) w1:=fun F1 hs h=>
      wF hQ r os _ H K1 w1 _ hl (fun o ho=>hok o (.tail _ ho)) (by rw [hdst];exact wJ hs o.dst) hfk ((qx o.dst undef).trans hd) h
    have hw:=fun b=>kg (ops:=opA) (o:=o) hs (b:=b)
    unfold gst at hw
    unfold wpList
    simp only [xops,hgx,Bool.and_false] at h
    cases hg:o.guard with
    | none=>
      simp only [xof,hg] at h
      simp only [hg] at hw
      rw [if_pos (hw true rfl)]
      exact .inl (hgo F hs h)
    | some g=>
      obtain ⟨j,want⟩:=g
      simp only [xof,hg] at h
      simp only [hg] at hw
      cases hdd:(opA.toList[j]?).bind (·.dst) with
      | none=>
        simp only [hdd] at h hw
        rw [if_neg (by rw [hw false rfl];simp)]
        exact hskip F hs h
      | some t=>
        simp only [hdd] at h hw
        split at h
        · rename_i b hb
          simp only [hb] at hw
          by_cases e:b=want
          · rw [if_pos (by rw [hw true (by simp [e])])]
            exact .inl (hgo F hs (by have:=h.1 e;rwa [yZ (by rw [hb,e]) (by simp)] at this))
          · rw [if_neg (by rw [hw false (by simp [e])];simp)]
            have hbw:b=(!want):=by cases b<;>cases want<;>simp_all
            exact hskip F hs (by have:=h.2 hbw;rwa [yZ (by rw [hb,hbw]) (by simp)] at this)
        · rename_i ds hb
          simp only [hb] at hw
          rw [if_neg (by rw [hw false rfl];simp)]
          exact hskip F hs h
        · exact h.elim
theorem zE:∀(l:List Oper) (F:List D) (H:AH),(∀o∈l,kJ o.op=none)->xops P false (l.map (xof ops)) F H k=aops P ops l F H k
  | [],F,H,_=>rfl
  | o::r,F,H,hn=>by
    have ih:(fun F' H'=>xops P false (r.map (xof ops)) F' H' k)=fun F' H'=>aops P ops r F' H' k:=funext fun F'=>funext fun H'=>zE r F' H' (fun o ho=>hn o (.tail _ ho))
    have hx0:∀{F':List D} {H':AH} {k':HK},xop P false (xof ops o) F' H' k'=aop P ops o F' H' k':=fun {F' H' k'}=>by
      unfold xop
      have:kJ (xof ops o).op=none:=hn o (.head _)
      rw [this]
      exact UW
    simp only [List.map_cons,xops,Bool.and_false]
    unfold aops
    cases hg:o.guard with
    | none=>
      have hx:(xof ops o).g=none:=by simp [xof,hg]
      simp only [hx,hx0,ih]
    | some g=>
      obtain ⟨j,want⟩:=g
      simp only
      cases hd:(ops[j]?).bind (·.dst) with
      | none=>
        have hx:(xof ops o).g=some none:=by simp [xof,hg,hd]
        simp only [hx]
        exact zE r _ _ (fun o ho=>hn o (.tail _ ho))
      | some t=>
        have hx:(xof ops o).g=some (some (t,want)):=by simp [xof,hg,hd]
        simp only [hx,hx0,ih]
        have h1:∀F',xops P false (r.map (xof ops)) F' H k=aops P ops r F' H k:=fun F'=>zE r F' H (fun o ho=>hn o (.tail _ ho))
        simp only [h1]
        exact Ug (A:=fun F=>aop P ops o F H fun F' H'=>aops P ops r F' H' k) (B:=fun F=>aops P ops r (qS F (xof ops o).dst (.tup [])) H k)
theorem cj (h:gu x.op=true) (hg:x.g=none):xops P true (x::r) F H k=xops P false (x::r) F H k:=by
  grind [xops]
theorem gK:∀(l:List Oper) (F:List D),(∀o∈l,kJ o.op=none)->(∀o∈l,gu o.op=true->o.guard=none)->xops P true (l.map (xof ops)) F H k=yf P ops (yS l) F H (fun F'=>aops P ops (uw l) F' H k)
  | [],F,_,_=>rfl
  | o::r,F,hn,hgd=>by
    cases hp:gu o.op with
    | true=>
      have e1:yS (o::r)= []:=by simp [yS,hp]
      have e2:uw (o::r)=o::r:=by simp [uw,hp]
      rw [e1,e2,List.map_cons,cj (x:=xof ops o) hp (by simp [xof,hgd o (.head _) hp]),<-List.map_cons,zE (o::r) F H hn]
      rfl
    | false=>
      have e1:yS (o::r)=o::yS r:=by simp [yS,hp]
      have e2:uw (o::r)=uw r:=by simp [uw,hp]
      rw [e1,e2]
      have hpx:gu (xof ops o).op=false:=hp
      have h1:∀F',xops P true (r.map (xof ops)) F' H k=yf P ops (yS r) F' H (fun F'=>aops P ops (uw r) F' H k):=fun F'=>gK r F' (fun o ho=>hn o (.tail _ ho)) (fun o ho=>hgd o (.tail _ ho))
      have hx0:∀{F':List D} {k':HK},xop P true (xof ops o) F' H k'=jJ P ops o F' H (fun F'=>k' F' H):=fun {F' k'}=>by
        unfold xop
        have:kJ (xof ops o).op=none:=hn o (.head _)
        rw [this]
        exact cU
      simp only [List.map_cons,xops,hpx,Bool.not_false,Bool.true_and]
      unfold yf
      cases hg:o.guard with
      | none=>
        have hx:(xof ops o).g=none:=by simp [xof,hg]
        simp only [hx,hx0,h1]
      | some g=>
        obtain ⟨j,want⟩:=g
        simp only
        cases hd:(ops[j]?).bind (·.dst) with
        | none=>
          have hx:(xof ops o).g=some none:=by simp [xof,hg,hd]
          simp only [hx]
          exact h1 _
        | some t=>
          have hx:(xof ops o).g=some (some (t,want)):=by simp [xof,hg,hd]
          simp only [hx,hx0,h1]
          exact Ug (A:=fun F=>jJ P ops o F H fun F'=>yf P ops (yS r) F' H (fun F'=>aops P ops (uw r) F' H k)) (B:=fun F=>yf P ops (yS r) (qS F (xof ops o).dst (.tup [])) H (fun F'=>aops P ops (uw r) F' H k))
end
end Go.Aw
end
section
namespace Go.Aw
open Go Go.RowKit
section
variable {P:Program} {ops:List Oper} {o:Oper} {F:List D} {H:AH}
theorem tO {Q:Exit->Act->World->Prop} {K:Act->World->Prop} (hd:uy o=true) (h:o.wp P a w K Q):o.wpIn Fence.wide n P a w K Q:=by
 refine ⟨fun _ _=>trivial,?_⟩
 rw [Oper.semAt_eq _ _ _ (US hd)]
 unfold Oper.wp at h
 generalize (execOp a.eval o).run P w=r at h
 cases r with
 | ok x w'=>
  cases x<;>simp only [Oper.upon,Oper.uponIn] at h ⊢<;>first
   |exact h
   |exact h.elim
   |exact ⟨fun h=>(by cases h),callsIn_wide.2 h⟩
   |exact ⟨fun h=>(by cases h),fun c cs _=>let ⟨v,w',r,s⟩:=h c cs;⟨v,w',r,stepsIn_wide.2 s⟩⟩
 |halt x w'=>cases x<;>simp only [Oper.upon,Oper.uponIn] at h ⊢<;>first|exact h|exact h.elim
theorem u7 {n:Nat} {rest:List Oper} {k:HK} {K:Nat->BK} {w:World} {a:Act} {Q:Exit->Act->World->Prop} {opA:Array Oper} (hQ:∀a' w',uq k K w a.defers a' w'->wpListIn Fence.wide n P opA Q rest a' w'):∀(l:List XO) (os:List Oper) (F:List D) (H:AH) (K1:Nat->BK) (w1:World) (a1:Act),l.map Uo=os.map (xof opA.toList)->(∀o∈os,jA o=true)->(∀o∈os,uy o=true)->St K1 w1 F H a1.tmps->FK K w K1 w1->a1.defers=a.defers->
  xops P false l F H k->wpListIn Fence.wide n P opA Q (os++rest) a1 w1
 | [],[],F,H,K1,w1,a1,_,_,_,hs,hfk,hd,h=>hQ a1 w1 ⟨F,H,K1,h,hfk,hs,hd⟩
 | [],o::os,F,H,K1,w1,a1,hl,_,_,hs,hfk,hd,h=>by simp at hl
 |x::r,[],F,H,K1,w1,a1,hl,_,_,hs,hfk,hd,h=>by simp at hl
 | x::r,o::os,F,H,K1,w1,a1,hl,hok,hnd,hs,hfk,hd,h=>by
  simp only [List.map_cons,List.cons.injEq] at hl
  obtain ⟨hx,hl⟩:=hl
  have hgo:∀F1,St K1 w1 F1 H a1.tmps->xop P false x F1 H (fun F' H'=>xops P false r F' H' k)->o.wpIn Fence.wide n P a1 w1 (wpListIn Fence.wide n P opA Q (os++rest)) Q:=fun F1 hs h=>by
   refine tO (hnd o (.head _)) (Oper.wp_mono (fun a2 w2 h2=>?_) (YZ (ops:=opA.toList) (Q:=Q) hs (hok o (.head _)) hx h))
   obtain ⟨F',H',K',g1,g2,g3,g4⟩:=h2
   exact u7 hQ r os F' H' K' w2 a2 hl (fun o ho=>hok o (.tail _ ho)) (fun o ho=>hnd o (.tail _ ho)) g3 (hfk.trans g2) (g4.trans hd) g1
  have hdst:x.dst=o.dst:=by
   have:=congrArg XO.dst hx
   unfold Uo at this
   split at this<;>exact this
  have hgx:x.g=(xof opA.toList o).g:=by
   grind [Uo]
  have hskip:∀F1,St K1 w1 F1 H a1.tmps->xops P false r (qS F1 x.dst (.tup [])) H k->wpListIn Fence.wide n P opA Q (os++rest) (a1.put o.dst undef) w1:=fun F1 hs h=>
   u7 hQ r os _ H K1 w1 _ hl (fun o ho=>hok o (.tail _ ho)) (fun o ho=>hnd o (.tail _ ho)) (by rw [hdst];exact wJ hs o.dst) hfk ((qx o.dst undef).trans hd) h
  have hw:=fun b=>kg (ops:=opA) (o:=o) hs (b:=b)
  unfold gst at hw
  rw [Nw]
  unfold wpListIn
  simp only [xops,hgx,Bool.and_false] at h
  cases hg:o.guard with
  | none=>
   simp only [xof,hg] at h
   simp only [hg] at hw
   grind
  | some g=>
   obtain ⟨j,want⟩:=g
   simp only [xof,hg] at h
   simp only [hg] at hw
   cases hdd:(opA.toList[j]?).bind (·.dst) with
   | none=>
    simp only [hdd] at h hw
    rw [if_neg (by rw [hw false rfl];simp)]
    exact ⟨fun _ _=>trivial,hskip F hs h⟩
   | some t=>
    simp only [hdd] at h hw
    split at h
    ·rename_i b hb
     simp only [hb] at hw
     by_cases e:b=want
     ·rw [if_pos (by rw [hw true (by simp [e])])]
      exact (hgo F hs (by have:=h.1 e;rwa [yZ (by rw [hb,e]) (by simp)] at this))
     ·rw [if_neg (by rw [hw false (by simp [e])];simp)]
      have hbw:b=(!want):=by cases b<;>cases want<;>simp_all
      exact ⟨fun _ _=>trivial,hskip F hs (by have:=h.2 hbw;rwa [yZ (by rw [hb,hbw]) (by simp)] at this)⟩
    ·rename_i ds hb
     simp only [hb] at hw
     rw [if_neg (by rw [hw false rfl];simp)]
     exact ⟨fun _ _=>trivial,hskip F hs h⟩
    ·exact h.elim
def Bh (P:Program) (l:Nat) (J:List D->(Nat->BK)->World->Prop) (pre:List D) (x:D):Prop:=∀(m:Nat) (K:Nat->BK) (w:World) (v:Value),KRel K w->J pre K w->RepV K w x v->
 YieldAt Fence.wide m P l #[v] w fun e w'=>e= .returned (.bool true)∧∃K',J (pre++ [x]) K' w'∧Keep (fun o=>∃j,o= .cell l j) dz K w K' w'∧KRel K' w'∧∃n j,K' l= .tok n (.cell l j)
def BR (P:Program) (l:Nat) (x:D) (o:Option AO) (dst:Option Tmp) (F:List D) (H:AH) (k:HK):Prop:=match o with
 |some (.lp J pre)=>Bh P l J pre x∧k (qS F dst (.bool true)) (qM H l (.lp J (pre++ [x])))
 |_=>False
def eD (P:Program) (c:Call) (dst:Option Tmp) (F:List D) (H:AH) (k:HK):Prop:=match c.callee,c.args.toList with
 | .value f,[x]=>match rv F f with
  | .yld l=>BR P l (rv F x) (qn H l) dst F H k
  |_=>False
 |_,_=>False
def lT (P:Program) (y:XO) (F:List D) (H:AH) (k:HK):Prop:=match y.op with
 | .call c=>match y.g with
  |none=>eD P c y.dst F H k
  | some (some (t,want))=>match F.getD t .any with
   | .bool b=>(b=want->eD P c y.dst (F.set t (.bool want)) H k)∧(b=(!want)->k (qS (F.set t (.bool (!want))) y.dst (.tup [])) H)
   |_=>False
  |_=>False
 |_=>False
theorem RepV.yld_inv (h:RepV K w (.yld l) v):v= .func (.yield l) #[] #[]:=by cases h;rfl
theorem cz {Q:Exit->Act->World->Prop} (hs:St K w F H a.tmps) (hok:jA o=true) (ho:o.op= .call c) (h:eD P c o.dst F H k):o.wpIn Fence.wide n P a w (uq k K w a.defers) Q:=by
 unfold eD at h
 split at h
 ·rename_i f x hc hx
  split at h
  ·rename_i l hf
   unfold BR at h
   split at h
   ·rename_i J pre hg
    obtain ⟨hy,h⟩:=h
    obtain ⟨⟨n0,j0,hl⟩,hJ,hJs⟩:=hs.hrel.ok l _ (qW hg)
    have hxs:c.args=#[x]:=by apply Array.ext';simpa using hx
    have hops:o.op.operands=#[f,x]:=by rw [ho];simp [Op.operands,Call.operands,hc,hxs]
    obtain ⟨of,ox⟩:=fV hok hops
    have hfv:a.eval f= .func (.yield l) #[] #[]:=(hf▸hs.rep of).yld_inv
    obtain ⟨fn,tmps,asg,body,h1,h2⟩:=hy (n - 1) K w (a.eval x) hs.krel hJ (hs.rep ox)
    refine ⟨fun _ _=>trivial,?_⟩
    rw [Oper.semAt_eq _ _ _ (fun c' e=>by rw [ho] at e;cases e)]
    have hrun:(execOp a.eval o).run P w= .ok (.round l fn tmps asg body) w:=by
     simp only [execOp,ho,resolve,hc,hfv,hxs,Deferred.ofValue,Sem.run_bind,Sem.run_pure,Result.andThen_ok,invoke]
     simpa using h1
    rw [hrun]
    refine ⟨fun h=>(by cases h),h2.mono ?_⟩
    rintro e w' ⟨rfl,K',g1,g2,g3,g4⟩
    refine ⟨_,_,K',h,g2.fk (fun ⟨j,h⟩=>by cases h),hs.put g2 (fun i j ⟨q,h⟩=>by cases h) g3 ⟨by rw [jW];exact hs.hrel.nd,fun b' o' hm=>?_⟩ o.dst (fun i _=>RepV.viewO (.bool true)),qx _ _⟩
    rcases kY hs.hrel.nd hm with ⟨rfl,rfl⟩|⟨hne,hm⟩
    ·exact ⟨g4,g1,hJs⟩
    ·exact AO.keep g2 (fun h=>h) (fun j ⟨q,h⟩=>by injection h with h _;exact hne h) (hs.hrel.ok b' o' hm)
   ·exact h.elim
  ·exact h.elim
 ·exact h.elim
theorem GE {opA:Array Oper} {id:Nat} {pre post:List XO} {y:XO} {k:HK} {K:Nat->BK} {w:World} {a:Act} {Q:Exit->Act->World->Prop} (hs:St K w F H a.tmps)
  (hy:kJ y.op=none) (he:opA.toList.map (xof opA.toList)=pre.map Uo++y::post.map Uo) (hok:∀o∈opA.toList,jA o=true) (hnd:∀o∈opA.toList,uy o=true)
  (hQ:∀a' w',uq k K w a.defers a' w'->Q .normal a' w') (h:xops P false pre F H fun F' H'=>lT P y F' H' fun F'' H''=>xops P false post F'' H'' k):(Code.region id opA false).wp P Q a w:=by
 refine (wpIn_wide (n:=1)).1 (wpIn_region_list ?_)
 obtain ⟨os1,os2,h1,h2,h3⟩:=List.map_eq_append_iff.1 he
 obtain ⟨o,os3,rfl,h4,h5⟩:=List.map_eq_cons_iff.1 h3
 rw [h1] at hok hnd ⊢
 refine u7 (k:=fun F' H'=>lT P y F' H' fun F'' H''=>xops P false post F'' H'' k) (K:=K) (w:=w) (a:=a) (fun a1 w1 ⟨F1,H1,K1,g1,g2,g3,g4⟩=>?_) pre os1 F H K w a h2.symm (fun o ho=>hok o (List.mem_append_left _ ho)) (fun o ho=>hnd o (List.mem_append_left _ ho)) hs (.refl K w) rfl h
 have hyok:=hok o (List.mem_append_right _ (.head _))
 have rest:∀F2 H2 K2 w2 a2,xops P false post F2 H2 k->FK K1 w1 K2 w2->St K2 w2 F2 H2 a2.tmps->a2.defers=a1.defers->wpListIn Fence.wide 1 P opA Q os3 a2 w2:=fun F2 H2 K2 w2 a2 q1 q2 q3 q4=>by
  have:=u7 (rest:= []) (n:=1) (k:=k) (K:=K) (w:=w) (a:=a) (Q:=Q) (opA:=opA) (fun a' w' hh=>hQ a' w' hh) post os3 F2 H2 K2 w2 a2 h5.symm (fun o ho=>hok o (List.mem_append_right _ (.tail _ ho))) (fun o ho=>hnd o (List.mem_append_right _ (.tail _ ho))) q3 (g2.trans q2) (q4.trans g4) q1
  grind
 have hdst:o.dst=y.dst:=congrArg XO.dst h4
 have hop:o.op=y.op:=congrArg XO.op h4
 have hw:=fun b=>kg (ops:=opA) (o:=o) g3 (b:=b)
 unfold gst at hw
 unfold wpListIn
 unfold lT at g1
 split at g1
 ·rename_i c hc
  have hoc:o.op= .call c:=hop.trans hc
  have go:∀F1',St K1 w1 F1' H1 a1.tmps->eD P c y.dst F1' H1 (fun F'' H''=>xops P false post F'' H'' k)->o.wpIn Fence.wide 1 P a1 w1 (wpListIn Fence.wide 1 P opA Q os3) Q:=fun F1' hs1 hh=>by
   rw [<-hdst] at hh
   refine Oper.wpIn_mono (fun a2 w2 ⟨F2,H2,K2,q1,q2,q3,q4⟩=>rest F2 H2 K2 w2 a2 q1 q2 q3 q4) (cz hs1 hyok hoc hh)
  have hg4:=congrArg XO.g h4
  cases hg:o.guard with
  | none=>
   simp only [xof,hg] at hg4
   simp only [hg] at hw
   grind
  | some g=>
   obtain ⟨j,want⟩:=g
   simp only [xof,hg] at hg4
   simp only [hg] at hw
   cases hdd:(opA.toList[j]?).bind (·.dst) with
   | none=>
    grind
   | some t=>
    simp only [hdd] at hg4
    simp only [hdd] at hw
    rw [<-hg4] at g1
    simp only at g1
    split at g1
    ·rename_i b hb
     simp only [hb] at hw
     by_cases e:b=want
     ·rw [if_pos (by rw [hw true (by simp [e])])]
      exact go F1 g3 (by have:=g1.1 e;rwa [yZ (by rw [hb,e]) (by simp)] at this)
     ·rw [if_neg (by rw [hw false (by simp [e])];simp)]
      have hbw:b=(!want):=by cases b<;>cases want<;>simp_all
      exact ⟨fun _ _=>trivial,rest _ H1 K1 w1 _ (by have:=g1.2 hbw;rwa [yZ (by rw [hb,hbw]) (by simp)] at this) (.refl K1 w1) (by rw [<-hdst];exact wJ g3 o.dst) (qx o.dst undef)⟩
    ·exact g1.elim
 ·exact g1.elim
end
end Go.Aw
end
section
namespace Go.Aw
open Go Go.RowKit
def XW (P:Program) (x:XC) (F:List D) (H:AH) (Q:AQ):Prop:=∀c,cmp c=er x->jy c=true->oF x c=true->AW P (.loop c) F H Q
def XRF (P:Program) (g:Operand) (p t:Tmp) (x:XC) (F:List D) (H:AH) (Q:AQ):Prop:=∀ps asg c,ps.toList= [p]->Zi asg=some (p,t)->cmp c=er x->jy c=true->oF x c=true->bE x=true->QL c=true->AW P (.rangeFunc g ps asg c) F H Q
def XRG (P:Program) (g:Operand) (p:Tmp) (x y:XC) (F:List D) (H:AH) (Q:AQ):Prop:=∀ps a c,ps.toList= [p]->cmp a=er x->cmp c=er y->jy a=true->jy c=true->oF x a=true->oF y c=true->bE x=true->bE y=true->QL a=true->QL c=true->AW P (.rangeFunc g ps a c) F H Q
theorem Z4 {t:TypeId}:∀{l:List (Nat×List D)} {z:List D} {k:List D->Prop},wS P t l z k->∃cs,k cs∧wS P t l z (fun c=>c=cs)
 | [],z,k,h=>⟨z,h,rfl⟩
 | (i,cs)::r,z,k,h=>by
  unfold wS at h ⊢
  split at h
  ·rename_i off b n he
   obtain ⟨h1,h2,h3⟩:=h
   obtain ⟨c,g1,g2⟩:=Z4 h3
   exact ⟨c,g1,h1,h2,g2⟩
  ·exact h.elim
theorem tu {t:TypeId} {k:List D->AH->Prop} (h:lk P t ps dst F H k):
  ∃cs,k (qS F dst (.agg cs)) H∧∀(G:List D) (H1:AH),(∀p∈ps,rv G p.2=rv F p.2)->lk P t ps dst G H1 (fun G' H''=>G'=qS G dst (.agg cs)∧H''=H1):=by
 unfold lk at h ⊢
 split at h
 ·rename_i z hz
  obtain ⟨h1,h2,h3⟩:=h
  obtain ⟨cs,g1,g2⟩:=Z4 h3
  refine ⟨cs,g1,fun G H1 hG=>?_⟩
  have e:(ps.map fun p=>(p.1,rv G p.2))=ps.map fun p=>(p.1,rv F p.2):=Ny fun p hp=>by rw [hG p hp]
  rw [e]
  refine ⟨h1,h2,?_⟩
  have:∀{l:List (Nat×List D)} {z:List D} {k k':List D->Prop},(∀c,k c->k' c)->wS P t l z k->wS P t l z k':=by
   intro l
   induction l with
   |nil=>intro z k k' hk h;exact hk _ h
   | cons x r ih=>
    intro z k k' hk h
    obtain ⟨i,cs⟩:=x
    unfold wS at h ⊢
    split at h
    ·exact ⟨h.1,h.2.1,ih hk h.2.2⟩
    ·exact h.elim
  grind
 ·exact h.elim
abbrev gw:=List (Nat×Bool×List D)
def lookv:gw->Nat->Option (Bool×List D)
 | [],_=>none
 |(d,q)::r,c=>if c=d then some q else lookv r c
def setv:gw->Nat->Bool×List D->gw
 | [],_,_=>[]
 |(d,q)::r,c,x=>if c=d then (d,x)::r else (d,q)::setv r c x
def cq (A:gw):Operand->Option (Nat×Bool×List D)
 | .tmp d=>(lookv A d).map fun q=>(d,q)
 |_=>none
theorem Gp:upv (lookv A) d x=lookv ((d,x)::A):=rfl
theorem Wa:∀{A:gw},lookv A d≠none->upv (lookv A) d x=lookv (setv A d x)
 | [],h=>(h rfl).elim
 | (e,q)::r,h=>funext fun c=>by
  unfold setv
  by_cases hd:d=e
  ·subst hd
   rw [if_pos rfl]
   unfold upv lookv
   split<;>rfl
  ·rw [if_neg hd]
   have h':lookv r d≠none:=by unfold lookv at h;rwa [if_neg hd] at h
   have ih:=congrFun (Wa (x:=x) h') c
   unfold upv at ih ⊢
   unfold lookv
   by_cases hc:c=d
   ·subst hc
    rw [if_pos rfl] at ih ⊢
    rw [if_neg hd]
    exact ih
   ·rw [if_neg hc] at ih ⊢
    split
    ·rfl
    ·exact ih
theorem QQ:∀{A:gw},(setv A d x).map (·.1)=A.map (·.1)
 | []=>rfl
 | (e,q)::r=>by
  unfold setv
  split
  ·rfl
  ·simp [QQ]
theorem uD:∀{A:gw},lookv A d≠none↔d∈A.map (·.1)
 | []=>by simp [lookv]
 | (e,q)::r=>by
  unfold lookv
  split
  ·rename_i h;subst h;simp
  ·rename_i h;rw [uD];simp [h]
theorem Qv:∀{A:gw},(A.map (·.1)).Nodup->(d,q)∈A->lookv A d=some q
 | (e,x)::r,hn,h=>by
  simp only [List.map_cons,List.nodup_cons] at hn
  unfold lookv
  rcases List.mem_cons.1 h with h|h
  ·injection h with h1 h2
   subst h1 h2
   rw [if_pos rfl]
  ·rw [if_neg (fun e'=>hn.1 (by rw [<-e'];exact List.mem_map.2 ⟨_,h,rfl⟩))]
   exact Qv hn.2 h
def xtk (P:Program) (x:XO) (fl:Bool) (H0:AH) (S:List Nat) (A:gw) (F:List D) (H:AH) (k:gw->List Nat->List D->AH->Prop):Prop:=
 match x.op with
 | .load t (.tmp s)=>match x.dst with
  | some d=>x.ta=true∧(match yr P t,rv F (.tmp s) with
    | some (false,_),.ptr b off=>match qn H b with
     | some (.cells cs)=>match cs[off]? with
      |some (.own xs)=>(qn H0 b=none∨qn H0 b=some (Up (.cells cs)))∧(fl=true∨b ∉ S)∧k A (b::S) (F.set d (.own xs)) (qM H b (.cells (cs.set off (.slc xs))))
      |_=>False
     |_=>False
    |_,_=>False)
  |none=>False
 | .store t a y=>match cq A a with
  | some (d,f,z)=>f=false∧(match yr P t with
   |some (true,n)=>okc (rv F y)=true∧(cellsOf (rv F y)).length=n∧n<=z.length∧k (setv A d (true,cellsOf (rv F y)++z.drop n)) S (qS F x.dst (.tup [])) H
   |_=>False)
  | none=>match yr P t,rv F a with
   | some (true,n),.ptr b off=>match qn H b with
    |some (.cells cs)=>okc (rv F y)=true∧(cellsOf (rv F y)).length=n∧off+n<=cs.length∧qn H0 b=none∧(fl=true∨b ∉ S)∧k A (b::S) (qS F x.dst (.tup [])) (qM H b (.cells (cs.take off++(cellsOf (rv F y)++cs.drop (off+n)))))
    |_=>False
   | some (false,n),.ptr b off=>match qn H b with
    | some (.cells cs)=>n=1∧off<cs.length∧one1 (ev F y)=true∧x.dst=none∧qn H0 b=none∧(fl=true∨b ∉ S)∧(match y with
     | .tmp s=>k A (b::S) (F.set s (rv F y)) (qM H b (.cells (cs.set off (ev F y))))
     |_=>k A (b::S) F (qM H b (.cells (cs.set off (ev F y)))))
    |_=>False
   |_,_=>False
 | .alloc t=>match x.dst,yA P t with
  |some d,some z=>d<F.length∧lookv A d=none∧k ((d,false,z)::A) S (F.set d .any) H
  |_,_=>False
 | .call c=>match c.callee with
  | .value f=>match rv F f with
   | .fn g caps=>∃d b ob ob',qn H0 b=none∧(fl=true∨b ∉ S)∧qn H b=some ob∧(∀H,qn H b=some ob->ACall P g (uv (c.args.toList.map (rv F)) caps) H (fun d' H'=>d'=d∧H'=qM H b ob'))∧(fact d.view->k A (b::S) (qS F x.dst d) (qM H b ob'))
   |_=>False
  |_=>False
 | .build t ps=>lk P t ps.toList x.dst F H fun F' _=>k A S F' H
 |_=>False
def YW (P:Program):gw->List XO->List D->AH->HK->Prop
 | [],tail,F,H,k=>xops P false tail F H k
 |(d,_,z)::r,tail,F,H,k=>∀b,qH H b->YW P r tail (F.set d (.ptr b 0)) ((b,.cells z)::H) k
def xsegs (P:Program):List (List XO×XO×Bool)->List XO->List XO->AH->List Nat->gw->List D->AH->HK->Prop
 | [],last,tail,H0,_,A,F,H,k=>xops P true last F H0 fun F' _=>YW P A tail F' H k
 |(l,x,fl)::r,last,tail,H0,S,A,F,H,k=>xops P true l F H0 fun F' _=>xtk P x fl H0 S A F' H fun A' S' F'' H''=>xsegs P r last tail H0 S' A' F'' H'' k
def lG:D->AH->AH
 | .ptr b _,H=>qT H b
 | .hsl b _,H=>qT H b
 | .hso b _ _,H=>qT H b
 | .hgs b _ _,H=>qT H b
 |_,H=>H
def wkB (b:Nat) (o:Option AO) (H:AH):AH:=match o with
 |some o=>qM H b (Up o)
 |none=>H
def EL (d:D) (H:AH):AH:=match d with
 | .ptr b _=>wkB b (qn H b) H
 |_=>H
def VD (F:List D):List Tmp->AH->AH
 | [],H=>H
 |q::r,H=>VD F r (lG (F.getD q .any) H)
theorem ey:(lG d H).Sublist H:=by
 cases d<;>first|exact List.Sublist.refl _|exact erase_sub
theorem Yo:∀{qs:List Tmp} {H:AH},(VD F qs H).Sublist H
 | [],H=>List.Sublist.refl _
 |q::r,H=>(Yo (qs:=r)).trans ey
section
variable {P:Program} {ops:Array Oper} {H0:AH}
theorem gU {k:List D->Prop} (l:List Oper) (h:∀o∈l,kJ o.op=none∧gu o.op=false):xops P true (l.map (xof ops.toList)) F H0 (fun F' _=>k F')=yf P ops.toList l F H0 k:=by
 rw [gK l F (fun o ho=>(h o ho).1) (fun o ho hp=>by rw [(h o ho).2] at hp;cases hp)]
 have e1:yS l=l:=by
  unfold yS
  have:=List.takeWhile_append_of_pos (p:=fun o:Oper=>!gu o.op) (l₁:=l) (l₂:= []) (fun o ho=>by simp [(h o ho).2])
  simpa using this
 have e2:uw l= []:=by
  have:=GK l
  rw [e1] at this
  simpa using this
 rw [e1,e2]
 rfl
theorem bv (h:gS (xof ops.toList o)=true):kJ o.op=none∧gu o.op=false:=by
 unfold gS at h
 simp only [Nl,Option.isNone_iff_eq_none,Bool.not_eq_true'] at h
 exact ⟨h.1,h.2⟩
theorem WF {l:List XO} {os:List Oper} (he:os.map (xof ops.toList)=l) (h:l.all gS=true):∀o∈os,kJ o.op=none∧gu o.op=false:=fun o ho=>
 bv (List.all_eq_true.1 h _ (he▸List.mem_map.2 ⟨o,ho,rfl⟩))
theorem Gm {T:List D->AH×NV->Prop} {k:gw->List Nat->List D->AH->Prop} (hok:jA o=true) (hg:o.guard=none) (hfl:fl=true->∀q∈S,Z1 .any o q.1=true) (hsub:Sub H0 H) (hs:Some F H)
  (hal:∀t d,o.op= .alloc t->o.dst=some d->d∈al) (hA:∀d,lookv A d≠none->d∈al) (hso:∀t d y,o.op= .store t (.tmp d) y->d∈al->lookv A d≠none) (hAn:(A.map (·.1)).Nodup)
  (h:xtk P (xof ops.toList o) fl H0 (S.map (·.2)) A F H k)
  (hk:∀A' S' F' H',(S'=S∨∃b,S'=(n,b)::S)->Sub H0 H'->Some F' H'->(A'.map (·.1)).Nodup->(∀d,lookv A' d≠none↔lookv A d≠none∨(Vo o.op=true∧o.dst=some d))->k A' (S'.map (·.2)) F' H'->kC P .any H0 al ops r (n+1) S' F' (H',lookv A') T):kC P .any H0 al ops (o::r) n S F (H,lookv A) T:=by
 have kp:Vo o.op=false->∀S' F' H',(S'=S∨∃b,S'=(n,b)::S)->Sub H0 H'->Some F' H'->k A (S'.map (·.2)) F' H'->kC P .any H0 al ops r (n+1) S' F' (H',lookv A) T:=fun hna S' F' H' h1 h2 h3 h4=>
  hk A S' F' H' h1 h2 h3 hAn (fun d=>by rw [hna];simp) h4
 have ord:∀{b:Nat},(fl=true∨b ∉ S.map (·.2))->∀q∈S,q.2=b->Z1 .any o q.1=true:=fun hb q hq hqb=>by
  grind
 unfold xtk at h
 split at h
 ·rename_i t s hop
  have ho:o.op= .load t (.tmp s):=hop
  have hna':Vo o.op=false:=by rw [ho];rfl
  have hna:wY al o.op=false:=by rw [ho];rfl
  split at h
  ·rename_i d hd
   have hdst:o.dst=some d:=hd
   obtain ⟨hta,h⟩:=h
   have hta':Vd ops.toList d=true:=by simpa [xof,hdst] using hta
   split at h
   ·rename_i n b off hty hp
    split at h
    ·rename_i cs hgb
     split at h
     ·rename_i xs hc
      obtain ⟨q1,q2,q3⟩:=h
      refine vR (e:=⟨none,.own xs⟩) (ob':= .cells (cs.set off (.slc xs))) hg hna (fun H' hs' hb'=>hs'.take hb' hc q1) hgb (ord q2) (fun s v h=>by cases h) hsub (fun H1 hb1=>qZ (ops:=ops.toList) hok fun G hG hlen=>?_) hs fun hs'=>?_
      ·have he:rv G (.tmp s)= .ptr b off:=by rw [<-hp];unfold rv;rw [jw hG (by simp [ho,Op.operands])]
       simp only [aop,ho,hdst,hta',if_true,hty,he,hb1,hc]
       exact ⟨rfl,by trivial⟩
      ·rw [hdst] at hs' ⊢
       exact kp hna' _ _ _ (.inr ⟨b,rfl⟩) (hsub.take hgb hc q1) hs' q3
     ·exact h.elim
    ·exact h.elim
   ·exact h.elim
  ·exact h.elim
 ·rename_i t a y hop
  have ho:o.op= .store t a y:=hop
  have hna':Vo o.op=false:=by rw [ho];rfl
  have hma:a∈o.op.operands.toList:=by simp [ho,Op.operands]
  have hmy:y∈o.op.operands.toList:=by simp [ho,Op.operands]
  split at h
  ·rename_i d f z hA1
   obtain ⟨rfl,h⟩:=h
   cases a with
   | tmp s=>
    simp only [cq] at hA1
    cases hl:lookv A s with
    |none=>rw [hl] at hA1;cases hA1
    | some q=>
     rw [hl] at hA1
     simp only [Option.map_some,Option.some.injEq,Prod.mk.injEq] at hA1
     obtain ⟨rfl,rfl⟩:=hA1
     split at h
     ·rename_i m hty
      obtain ⟨h1,h2,h3,h4⟩:=h
      have hne:lookv A s≠none:=by rw [hl];simp
      refine ZP hg ho (hA s hne) hty h1 h2 h3 hl hs fun hs'=>?_
      rw [Wa hne]
      refine hk _ S _ _ (.inl rfl) hsub hs' (by rw [QQ];exact hAn) (fun d=>?_) h4
      rw [uD,QQ,<-uD,hna']
      simp
     ·exact h.elim
   |_=>cases hA1
  ·rename_i hA1
   have hna:wY al o.op=false:=by
    rw [ho]
    cases a with
    | tmp s=>
     simp only [wY]
     cases hc:al.contains s with
     |false=>rfl
     | true=>
      have:=hso t s y ho (by simpa using hc)
      simp only [cq,Option.map_eq_none_iff] at hA1
      exact (this hA1).elim
    |_=>rfl
   split at h
   ·rename_i n' b off hty hp
    split at h
    ·rename_i cs hgb
     obtain ⟨h1,h2,h3,q1,q2,q3⟩:=h
     refine vR (e:=⟨none,.tup []⟩) (ob':= .cells (cs.take off++(cellsOf (rv F y)++cs.drop (off+n')))) hg hna (fun H' hs' _=>hs'.set q1) hgb (ord q2) (fun s v h=>by cases h) hsub (fun H1 hb1=>qZ (ops:=ops.toList) hok fun G hG hlen=>?_) hs fun hs'=>?_
     ·have he:rv G a= .ptr b off:=by rw [<-hp];unfold rv;rw [jw hG hma]
      have hy:rv G y=rv F y:=by unfold rv;rw [jw hG hmy]
      simp only [aop,ho,hty,he,hb1,hy]
      exact ⟨h1,h2,h3,rfl,by trivial⟩
     ·exact kp hna' _ _ _ (.inr ⟨b,rfl⟩) (hsub.set q1) hs' q3
    ·exact h.elim
   ·rename_i n' b off hty hp
    split at h
    ·rename_i cs hgb
     obtain ⟨h1,h2,h3,h4,q1,q2,q3⟩:=h
     have hdst:o.dst=none:=h4
     have hoth:∀{e:Eff},e.app o.dst F=F->(∀G:List D,e.app o.dst G=G)->(∀s v,e.tk=some (s,v)->QX ops.toList o=some s)->(∀s,y≠ .tmp s)->k A (b::S.map (·.2)) F (qM H b (.cells (cs.set off (ev F y))))->kC P .any H0 al ops (o::r) n S F (H,lookv A) T:=fun {e} hF hG' htk hyn hkk=>by
      refine vR (e:=e) (ob':= .cells (cs.set off (ev F y))) hg hna (fun H' hs' _=>hs'.set q1) hgb (ord q2) htk hsub (fun H1 hb1=>qZ (ops:=ops.toList) hok fun G hG hlen=>?_) hs fun hs'=>?_
      ·have he:rv G a= .ptr b off:=by rw [<-hp];unfold rv;rw [jw hG hma]
       have hy:ev G y=ev F y:=jw hG hmy
       simp only [aop,ho,hty,he,hb1,hy,hG']
       refine ⟨h1,h2,h3,hdst,?_⟩
       cases y<;>first|exact (hyn _ rfl).elim|exact ⟨trivial,by trivial⟩|simp
      ·rw [hF] at hs' ⊢
       exact kp hna' _ _ _ (.inr ⟨b,rfl⟩) (hsub.set q1) hs' hkk
     split at q3
     ·rename_i s
      refine vR (e:=⟨some (s,rv F (.tmp s)),.any⟩) (ob':= .cells (cs.set off (ev F (.tmp s)))) hg hna (fun H' hs' _=>hs'.set q1) hgb (ord q2) (fun s' v h=>by
       simp only [Option.some.injEq,Prod.mk.injEq] at h
       simp [QX,ho,h.1]) hsub (fun H1 hb1=>qZ (ops:=ops.toList) hok fun G hG hlen=>?_) hs fun hs'=>?_
      ·have he:rv G a= .ptr b off:=by rw [<-hp];unfold rv;rw [jw hG hma]
       have hy:ev G (.tmp s)=ev F (.tmp s):=jw hG hmy
       have hyr:rv G (.tmp s)=rv F (.tmp s):=by unfold rv;rw [hy]
       simp only [aop,ho,hty,he,hb1,hy,hyr]
       refine ⟨h1,h2,h3,hdst,?_,by trivial⟩
       rw [hdst]
       rfl
      ·rw [hdst] at hs' ⊢
       exact kp hna' _ _ _ (.inr ⟨b,rfl⟩) (hsub.set q1) hs' q3
     ·rename_i hyn
      refine hoth (e:=⟨none,.any⟩) (by rw [hdst];rfl) (fun G=>by rw [hdst];rfl) (fun s v h=>by cases h) (fun s e=>hyn s e) q3
    ·exact h.elim
   ·exact h.elim
 ·rename_i t hop
  have ho:o.op= .alloc t:=hop
  have hia:Vo o.op=true:=by rw [ho];rfl
  split at h
  ·rename_i d z hd hz
   have hdst:o.dst=some d:=hd
   grind [bw,Gp,uD,lookv]
  ·exact h.elim
 ·rename_i c hop
  have ho:o.op= .call c:=hop
  have hna':Vo o.op=false:=by rw [ho];rfl
  have hna:wY al o.op=false:=by rw [ho];rfl
  split at h
  ·rename_i f hf
   split at h
   ·rename_i g caps hgv
    obtain ⟨d,b,ob,ob',q1,q2,q3,q4,q5⟩:=h
    have hops:o.op.operands=#[f]++c.args:=by simp only [ho,Op.operands,Call.operands,hf]
    have hse:∀H,qn H b=some ob->Qs P H (qM H b ob') o F ⟨none,d⟩:=fun H1 hb1=>qZ (ops:=ops.toList) hok fun G hG hlen=>by
     have h1:rv G f= .fn g caps:=by rw [<-hgv];unfold rv;rw [jw hG (by rw [hops];simp)]
     have h2:c.args.toList.map (rv G)=c.args.toList.map (rv F):=Ny fun x hx=>by
      unfold rv
      rw [jw hG (by rw [hops];simp;exact .inr (by simpa using hx))]
     simp only [aop,ho,hf,h1,h2]
     exact (q4 H1 hb1).mono fun d' H' ⟨e1,e2⟩ _=>by subst e1 e2;exact ⟨rfl,by trivial⟩
    have hfact:fact d.view:=by
     obtain ⟨K,w,a,hs⟩:=hs
     have hap:aop P ops.toList o F H (fun _ _=>fact d.view):=by
      simp only [aop,ho,hf,hgv]
      exact (q4 H q3).mono fun d' H' ⟨e1,_⟩ hfct=>by subst e1;exact hfct
     obtain ⟨a',w',F',H',K',hfct,_⟩:=oe (kS (Q:=fun _ _ _=>False) hs hok hap)
     exact hfct
    refine vR (e:=⟨none,d⟩) hg hna (fun H' hs' _=>hs'.set q1) q3 (ord q2) (fun s v h=>by cases h) hsub hse hs fun hs'=>?_
    exact kp hna' _ _ _ (.inr ⟨b,rfl⟩) (hsub.set q1) hs' (q5 hfact)
   ·exact h.elim
  ·exact h.elim
 ·rename_i t ps hop
  have ho:o.op= .build t ps:=hop
  have hna':Vo o.op=false:=by rw [ho];rfl
  have hna:wY al o.op=false:=by rw [ho];rfl
  have h:lk P t ps.toList o.dst F H (fun F' _=>k A (S.map (·.2)) F' H):=h
  obtain ⟨cs,hk',hz⟩:=tu h
  have hse:∀H1,Qs P H1 H1 o F ⟨none,.agg cs⟩:=fun H1 K w a G Q hs hG hlen=>GQ hs hok ho (hz G H1 fun p hp=>by
   unfold rv
   rw [jw hG (by simp only [ho,Op.operands,Nv];exact ⟨p,hp,rfl⟩)])
  refine ⟨⟨⟨none,.agg cs⟩,.no⟩,.inl ⟨by simp [gst,hg],rfl,hna,fun H1 _ _=>hse H1,fun s v h=>by cases h⟩,trivial,trivial,?_⟩
  obtain ⟨K,w,a,hs0⟩:=hs
  obtain ⟨a',w',F',H',K',⟨hF',hH'⟩,_,hs',_⟩:=oe (hse H K w a F (fun _ _ _=>False) hs0 (fun _ _=>rfl) rfl)
  rw [hF',hH'] at hs'
  exact kp hna' S _ _ (.inl rfl) hsub ⟨K',w',a',hs'⟩ hk'
 ·exact h.elim
theorem cF {x:XO} {seen:List Nat} {d:Nat}:d∈Zw x seen↔d∈seen∨(Vo x.op=true∧x.dst=some d):=by
 obtain ⟨op,dst,g,tk,ta⟩:=x
 cases op<;>cases dst<;>simp [Zw,Vo,eq_comm,or_comm]
theorem Jh {al:List Nat} {last tail:List XO} {k:HK} (hn:(H0.map (·.1)).Nodup) (hl:last.all gS=true):∀(segs:List (List XO×XO×Bool)) (os:List Oper) (n:Nat) (ps:List Nat) (S:List (Nat×Nat)) (seen:List Nat) (A:gw) (F:List D) (H:AH),os.map (xof ops.toList)=ow segs++last->(∀o∈os,jA o=true)->(∀j,j<os.length->os[j]?=ops[n+j]?)->
  segs.all (fun p=>p.1.all gS&&iz p.2.1)=true->Y8 ops n ps segs=true->(∀q∈S,q.1∈ps)->(∀d∈YP segs,d∈al)->(∀d∈seen,d∈al)->hZ al seen segs=true->(A.map (·.1)).Nodup->(∀d,lookv A d≠none↔d∈seen)->Sub H0 H->Some F H->xsegs P segs last tail H0 (S.map (·.2)) A F H k->kC P .any H0 al ops os n S F (H,lookv A) (fun F' H'=>∃A,H'.2=lookv A∧(A.map (·.1)).Nodup∧YW P A tail F' H'.1 k)
 | [],os,n,ps,S,seen,A,F,H,he,hok,hget,hsg,hso,hS,hd1,hd2,hst,hAn,hAs,hsub,hs,h=>by
  simp only [ow,List.nil_append] at he
  have hp:=WF he hl
  simp only [xsegs] at h
  rw [<-he,gU os (fun o ho=>⟨(hp o ho).1,(hp o ho).2⟩)] at h
  have:=vp (al:=al) (b:=lookv A) (T:=fun F' H'=>∃A,H'.2=lookv A∧(A.map (·.1)).Nodup∧YW P A tail F' H'.1 k) (S:=S) hn hsub (r:= []) os n F (fun o ho=>⟨hok o ho,by have:=(hp o ho).2;cases ho':o.op<;>simp_all [wY,gu]⟩) hs h (fun F' _ hk=>⟨A,rfl,hAn,hk⟩)
  rwa [List.append_nil] at this
 | (l,x,fl)::r,os,n,ps,S,seen,A,F,H,he,hok,hget,hsg,hso,hS,hd1,hd2,hst,hAn,hAs,hsub,hs,h=>by
  simp only [ow,List.append_assoc,Nw] at he
  simp only [List.all_cons,Nl] at hsg
  obtain ⟨⟨hl1,hx1⟩,hr1⟩:=hsg
  simp only [Y8,Nl] at hso
  obtain ⟨hso1,hso2⟩:=hso
  simp only [hZ,Nl] at hst
  obtain ⟨hst1,hst2⟩:=hst
  obtain ⟨os1,os2,rfl,e1,e2⟩:=List.map_eq_append_iff.1 he
  obtain ⟨ox,os3,rfl,e3,e4⟩:=List.map_eq_cons_iff.1 e2
  have hp:=WF e1 hl1
  have hlen:os1.length=l.length:=by rw [<-e1,Nh]
  simp only [xsegs] at h
  rw [<-e1,gU os1 (fun o ho=>⟨(hp o ho).1,(hp o ho).2⟩)] at h
  subst e3
  have hgx:ox.guard=none:=by
   unfold iz at hx1
   simp only [Nl,Option.isNone_iff_eq_none] at hx1
   have:=hx1.2
   simp only [xof] at this
   split at this
   ·assumption
   ·split at this<;>cases this
  have hox:ops[n+l.length]?=some ox:=by
   have:=hget os1.length (by simp)
   rw [hlen] at this
   rw [<-this,<-hlen]
   simp
  have hr2:∀d∈YP r,d∈al:=fun d hd=>hd1 d (by
   unfold YP
   split
   ·exact .tail _ hd
   ·exact hd)
  have hxd:∀t d,ox.op= .alloc t->ox.dst=some d->d∈al:=fun t d h1 h2=>hd1 d (by
   unfold YP
   simp [xof,h1,h2])
  refine vp hn hsub os1 n F (fun o ho=>⟨hok o (List.mem_append_left _ ho),by have:=(hp o ho).2;cases ho':o.op<;>simp_all [wY,gu]⟩) hs h fun F' hs' hk=>?_
  rw [hlen]
  refine Gm (hok ox (by simp)) hgx (fun hf q hq=>?_) hsub hs' hxd (fun d hd=>hd2 d ((hAs d).1 hd)) (fun t d y h1 h2=>(hAs d).2 ?_) hAn hk fun A' S' F'' H'' hS' hsub' hs'' hAn' hA' hk'=>?_
  ·rw [hf] at hso1
   simp only [Bool.not_true,Bool.false_or] at hso1
   have:=List.all_eq_true.1 hso1 q.1 (hS q hq)
   rw [hox] at this
   exact this
  ·simp only [xof,h1] at hst1
   simpa [h2] using hst1
  ·refine Jh hn hl r os3 (n+l.length+1) ((n+l.length)::ps) S' (Zw (xof ops.toList ox) seen) A' F'' H'' e4 (fun o ho=>hok o (by simp [ho])) (fun j hj=>?_) hr1 hso2 (fun q hq=>?_) hr2 (fun d hd=>?_) hst2 hAn' (fun d=>?_) hsub' hs'' hk'
   ·have:=hget (os1.length+(j+1)) (by simp only [Nf,Ng];omega)
    rw [List.getElem?_append_right (by omega),show os1.length+(j+1) - os1.length=j+1 by omega,List.getElem?_cons_succ] at this
    rw [this,hlen]
    congr 1
    omega
   ·rcases hS' with rfl|⟨b,rfl⟩
    ·exact .tail _ (hS q hq)
    ·rcases List.mem_cons.1 hq with rfl|hq
     ·exact .head _
     ·exact .tail _ (hS q hq)
   ·unfold Zw at hd
    split at hd
    ·rename_i t e h1 h2
     rcases List.mem_cons.1 hd with rfl|hd
     ·exact hxd t _ h1 h2
     ·exact hd2 d hd
    ·exact hd2 d hd
   ·rw [hA' d,hAs d]
    exact (cF (x:=xof ops.toList ox)).symm
theorem nK (h:aC ops n al=true):Lone al ops n:=by
 intro j oj hj hoj
 unfold aC at h
 have hm:oj∈ops.toList.take n:=by
  rw [List.mem_take_iff_getElem]
  obtain ⟨hlt,rfl⟩:=Array.getElem?_eq_some_iff.1 hoj
  exact ⟨j,by simp;omega,by simp⟩
 have:=List.all_eq_true.1 h oj hm
 split at this
 ·rename_i hnw
  simp only [Nl,Option.isNone_iff_eq_none] at this
  refine .inl ⟨hnw,this.1,fun t a y hop d hd=>?_⟩
  have h2:=this.2
  rw [hop] at h2
  have h3:=List.all_eq_true.1 h2 d hd
  simp only [Nl,bne_iff_ne,ne_eq,Bool.not_eq_true'] at h3
  exact ⟨fun e=>by rw [e] at h3;simp [Ws] at h3,h3.2⟩
 all_goals grind
def EP:Option (Nat×Bool×List D)->Option AO->Option AO
 |some q,_=>some (.cells q.2.2)
 |none,o=>o
theorem Zf {P:Program} {tail:List XO} {k:HK} {B:Nat->Nat}:∀{A:gw} {F:List D} {H:AH},YW P A tail F H k->(∀q∈A,qH H (B q.1))->(A.map fun q=>B q.1).Nodup->
  ∃F' H',xops P false tail F' H' k∧F'=yg ((A.map fun q=>(q.1,B q.1)).reverse) F∧H'.map (·.1)=(A.map fun q=>B q.1).reverse++H.map (·.1)∧∀c,qn H' c=EP (A.reverse.find? fun q=>c==B q.1) (qn H c)
 | [],F,H,h,_,_=>⟨F,H,h,rfl,rfl,fun c=>rfl⟩
 | (d,f,z)::r,F,H,h,hf,hn=>by
  simp only [List.map_cons,List.nodup_cons] at hn
  have hb:=hf _ (.head _)
  obtain ⟨F',H',h1,h2,h3,h4⟩:=Zf (B:=B) (h (B d) hb) (fun q hq=>⟨fun e=>hn.1 (List.mem_map.2 ⟨q,hq,e⟩),hf q (.tail _ hq)⟩) hn.2
  refine ⟨F',H',h1,?_,?_,fun c=>?_⟩
  ·rw [h2]
   simp only [List.map_cons,List.reverse_cons]
   generalize (r.map fun q=>(q.1,B q.1)).reverse=L
   clear h1 h2 h3 h4 hf hn h
   induction L with
   |nil=>rfl
   | cons p r ih=>
    obtain ⟨e,b⟩:=p
    simp only [Nw,yg]
    rw [ih]
  ·rw [h3];simp
  ·rw [h4 c]
   simp only [List.reverse_cons,List.find?_append]
   cases List.find? (fun q=>c==B q.1) r.reverse with
   |some q=>rfl
   | none=>
    show (if c=B d then some (.cells z) else qn H c)=EP ([(d,f,z)].find? fun q=>c==B q.1) (qn H c)
    by_cases e:c=B d
    ·rw [if_pos e]
     subst e
     simp [EP]
    ·rw [if_neg e]
     have:(c==B d)=false:=by simpa using e
     simp [EP,this]
end
def V0 (Q:AQ):AQ
 | .goto _,_,_=>False
 |e,F,H=>Q e F H
def xcode (P:Program):XC->List D->AH->AQ->Prop
 | .skip,F,H,Q=>Q .normal F H
 | .reg l,F,H,Q=>xops P false l F H (Q .normal)
 | .regD l,F,H,Q=>xops P true l F H (Q .normal)
 | .seq x y,F,H,Q=>xcode P x F H (Jf (fun F' H'=>xcode P y F' H' Q) Q)
 | .cond (.tmp t) x y,F,H,Q=>match F.getD t .any with
  | .bool b=>(b=true->xcode P x (F.set t (.bool true)) H Q)∧(b=false->xcode P y (F.set t (.bool false)) H Q)
  |_=>False
 | .cond (.const (.bool true)) x y,F,H,Q=>xcode P x F H Q
 | .cond (.const (.bool false)) x y,F,H,Q=>xcode P y F H Q
 | .block id c,F,H,Q=>xcode P c F H (kU id Q)
 | .exit id,F,H,Q=>Q (.exit id) F H
 | .ret,F,H,Q=>Q .ret F H
 | .loop c,F,H,Q=>XW P c F H Q
 | .rgf g p t c,F,H,Q=>XRF P g p t c F H Q
 | .rga g p x y,F,H,Q=>XRG P g p x y F H Q
 | .regY pre y post,F,H,Q=>xops P false pre F H fun F' H'=>lT P y F' H' fun F'' H''=>xops P false post F'' H'' (Q .normal)
 | .scope c,F,H,Q=>xcode P c F H (V0 Q)
 | .regV l tail,F,H,Q=>xops P true l F H fun F' _=>xops P false tail F' H (Q .normal)
 | .regW q segs last tail,F,H,Q=>xsegs P segs last tail (EL (F.getD q .any) H) [] [] F H (Q .normal)
 | .regT qs segs last tail,F,H,Q=>xsegs P segs last tail (VD F qs H) [] [] F H (Q .normal)
 | .gh c,F,H,Q=>Gz F H fun F' H'=>xcode P c F' H' Q
 |_,_,_,_=>False
theorem AW.fromG (hz:Gz F H fun F' H'=>AW P c F' H' Q):AW P c F H Q:=fun K w a s hs hd=>
 let ⟨_,_,K1,hk,h1,h2⟩:=hz K w a.tmps hs
 wp_mono (hk K1 w a s h2 ⟨hd.1,hd.2.keep h1.m⟩) fun _ _ _ ⟨F',H',K',g1,g2,g3⟩=>⟨F',H',K',g1,h1.m.trans g2,g3⟩
theorem Kd (h:(H.map (·.1)).Nodup):((VD F qs H).map (·.1)).Nodup∧Sub (VD F qs H) H:=
 ⟨((Yo (F:=F) (qs:=qs)).map (·.1)).nodup h,Sub.of fun b o hb=>wU h ((Yo (F:=F) (qs:=qs)).subset (qW hb))⟩
theorem dI (h:(H.map (·.1)).Nodup):((EL d H).map (·.1)).Nodup∧Sub (EL d H) H:=by
 unfold EL
 split
 ·rename_i b off
  unfold wkB
  split
  ·rename_i o ho
   refine ⟨by rw [jW];exact h,fun c x hc=>?_⟩
   grind [zF,kM]
  ·exact ⟨h,Sub.refl H⟩
 ·exact ⟨h,Sub.refl H⟩
theorem Y0 {P:Program} {ops:Array Oper} {qs:List Tmp} {segs:List (List XO×XO×Bool)} {last tail:List XO} {F:List D} {H:AH} {k:HK} {K:Nat->BK} {w:World} {a:Act} {Q':Exit->Act->World->Prop} {id:Nat}
  (hall:EY segs last=true) (he:ops.toList.map (xof ops.toList)=(ow segs++last)++tail.map Uo) (hok:∀o∈ops.toList,jA o=true) (hv:oF (.regT qs segs last tail) (.region id ops true)=true) (hs:St K w F H a.tmps) (hQ:∀a' w',uq k K w a.defers a' w'->Q' .normal a' w')
  {H0:AH} (hn:(H0.map (·.1)).Nodup) (hsub:Sub H0 H) (h:xsegs P segs last tail H0 [] [] F H k):wpAny P .any ops Q' ops.size (Array.replicate ops.size false) a {w with drawn:=w.drawn+1}:=by
 simp only [oF,Nl] at hv
 obtain ⟨⟨hv1,hv2⟩,hv3,hv4⟩:=hv
 obtain ⟨os1,os2,e0,e1,e2⟩:=List.map_eq_append_iff.1 he
 unfold EY at hall
 simp only [Nl] at hall
 obtain ⟨a1,a2⟩:=hall
 have hlen1:(ow segs++last).length=os1.length:=by rw [<-e1,Nh]
 rw [hlen1] at hv1 hv3
 refine iM (a:=a) (pre:=os1) (suf:=os2) hv1 e0.symm hs hsub (nK hv3) hok
  (Jh hn a2 segs os1 0 [] [] [] [] F H e1 (fun o hoo=>hok o (by rw [e0];exact List.mem_append_left _ hoo)) (fun j hj=>by
   rw [Np,<-Array.getElem?_toList,e0,Nm hj]) a1 hv2 (fun q hq=>by cases hq) (fun d hd=>hd) (fun d hd=>by cases hd) hv4 .nil (fun d=>by simp [lookv]) hsub ⟨K,w,a,hs⟩ h) fun F1 H1 G0 H00 L K1 w1 a1 hT hlf hs0 hfk1 hd1=>?_
 obtain ⟨A,hA,hAn,hT2⟩:=hT
 have hdom:∀d,d∈A.map (·.1)↔d∈L.map (·.1):=fun d=>by
  rw [<-uD,<-hlf.dom d,hA]
  cases lookv A d<;>simp
 have hB:∃B:Nat->Nat,∀p∈L,B p.1=p.2:=⟨fun d=>((L.find? fun p=>p.1==d).map (·.2)).getD 0,fun p hp=>by
  have:(L.find? fun q=>q.1==p.1).isSome=true:=List.find?_isSome.2 ⟨p,hp,by simp⟩
  obtain ⟨q,hq⟩:=Option.isSome_iff_exists.1 this
  have h1:=List.find?_some hq
  have h2:=List.mem_of_find?_eq_some hq
  simp only [beq_iff_eq] at h1
  obtain ⟨q1,q2⟩:=q
  obtain ⟨p1,p2⟩:=p
  simp only at h1
  subst h1
  simp only [hq,Option.map_some,Nd]
  exact WL hlf.n1 h2 hp⟩
 obtain ⟨B,hB⟩:=hB
 have hin:∀q∈A,(q.1,B q.1)∈L:=fun q hq=>by
  obtain ⟨p,hp,e⟩:=List.mem_map.1 ((hdom q.1).1 (List.mem_map.2 ⟨q,hq,rfl⟩))
  grind
 have hBi:∀p∈L,∀q∈L,p.2=q.2->p=q:=fun p hp q hq e=>by
  obtain ⟨i,hi,rfl⟩:=Nj hp
  obtain ⟨j,hj,rfl⟩:=Nj hq
  have:=(List.getElem_inj (i:=i) (j:=j) (h₀:=by simpa using hi) (h₁:=by simpa using hj) hlf.n2).1 (by simpa using e)
  grind
 have hnB:(A.map fun q=>B q.1).Nodup:=by
  have:∀(A:gw),(A.map (·.1)).Nodup->(∀q∈A,(q.1,B q.1)∈L)->(A.map fun q=>B q.1).Nodup:=by
   intro A
   induction A with
   |nil=>intro _ _;exact .nil
   | cons q r ih=>
    intro h1 h2
    simp only [List.map_cons,List.nodup_cons] at h1 ⊢
    refine ⟨fun hm=>h1.1 ?_,ih h1.2 fun q hq=>h2 q (.tail _ hq)⟩
    obtain ⟨q',hq',e⟩:=List.mem_map.1 hm
    have:=hBi _ (h2 q' (.tail _ hq')) _ (h2 q (.head _)) e
    injection this with e1 _
    exact List.mem_map.2 ⟨q',hq',e1⟩
  grind
 obtain ⟨G1,H2,hfin,hG1,hk2,hg2⟩:=Zf (B:=B) hT2 (fun q hq=>(hlf.inal _ (hin q hq)).2.2) hnB
 have hL':((A.map fun q=>(q.1,B q.1)).reverse.map (·.1)).Nodup:=by
  grind
 have hmem:∀p,p∈(A.map fun q=>(q.1,B q.1)).reverse↔p∈L:=fun p=>by
  rw [List.mem_reverse]
  constructor
  ·grind
  ·intro hp
   obtain ⟨q,hq,e⟩:=List.mem_map.1 ((hdom p.1).2 (List.mem_map.2 ⟨p,hp,rfl⟩))
   grind
 have hGG:G1=G0:=by rw [hG1,hlf.g];exact Gg hL' hlf.n1 hmem
 have hs1:St K1 w1 G1 H2 a1.tmps:=by
  rw [hGG]
  have hnd1:(H1.1.map (·.1)).Nodup∧True:=⟨?_,trivial⟩
  refine hs0.same ?_ fun c=>?_
  ·rw [hk2,List.nodup_append]
   refine ⟨(List.reverse_perm _).nodup_iff.2 hnB,hnd1.1,fun x hx y hy e=>?_⟩
   subst e
   obtain ⟨q,hq,e⟩:=List.mem_map.1 (List.mem_reverse.1 hx)
   obtain ⟨⟨y1,o⟩,hy,e2⟩:=List.mem_map.1 hy
   have h1:=J4 (hlf.inal _ (hin q hq)).2.2
   simp only at h1 e2
   rw [e,<-e2,wU hnd1.1 hy] at h1
   cases h1
  ·rw [hg2,hlf.h]
   by_cases hm:c∈L.map (·.2)
   ·obtain ⟨p,hp,rfl⟩:=List.mem_map.1 hm
    obtain ⟨d,c⟩:=p
    rw [uZ hlf.n2 hp,hA]
    have hd:=(hmem (d,c)).2 hp
    rw [List.mem_reverse] at hd
    obtain ⟨q,hq,e⟩:=List.mem_map.1 hd
    injection e with e1 e2
    have hfd:A.reverse.find? (fun q=>c==B q.1)=some q:=by
     have hsm:(A.reverse.find? fun q=>c==B q.1).isSome=true:=List.find?_isSome.2 ⟨q,List.mem_reverse.2 hq,by simp [e2]⟩
     obtain ⟨q',hq'⟩:=Option.isSome_iff_exists.1 hsm
     have t1:=List.find?_some hq'
     have t2:=List.mem_reverse.1 (List.mem_of_find?_eq_some hq')
     simp only [beq_iff_eq] at t1
     have:=hBi _ (hin q' t2) _ (hin q hq) (by simp only;rw [<-t1,e2])
     injection this with t3 _
     rw [hq']
     obtain ⟨q1,q2⟩:=q
     obtain ⟨q3,q4⟩:=q'
     simp only at t3
     subst t3
     have a1:=Qv hAn hq
     have a2:=Qv hAn t2
     rw [a1] at a2
     injection a2 with a2
     rw [a2]
    rw [hfd]
    obtain ⟨q1,q2⟩:=q
    simp only at e1
    subst e1
    rw [Qv hAn hq]
    rfl
   ·rw [wg hm]
    have:A.reverse.find? (fun q=>c==B q.1)=none:=List.find?_eq_none.2 fun q hq=>by
     simp only [beq_iff_eq]
     intro e
     exact hm (List.mem_map.2 ⟨_,hin q (List.mem_reverse.1 hq),e.symm⟩)
    rw [this]
    rfl
  exact hlf.nd
 exact wF (opA:=ops) (k:=k) (w:=w) (a:=a) (K:=K) hQ tail os2 G1 H2 K1 w1 a1 e2.symm (fun o hoo=>hok o (by rw [e0];exact List.mem_append_right _ hoo)) hs1 hfk1 hd1 hfin
theorem kB {P:Program} (hm:P.follows .mixedOrders=true):∀(x:XC) (c:Code) (F:List D) (H:AH) (Q:AQ),cmp c=er x->jy c=true->oF x c=true->xcode P x F H Q->AW P c F H Q
 | .gh x,c,F,H,Q,he,ho,hv,h=>by
   exact AW.fromG (Gz.mono (fun F' H' h=>kB hm x c F' H' Q he ho (by unfold oF at hv;exact hv) h) h)
 | .skip,c,F,H,Q,he,ho,hv,h=>by
   cases c<;>simp only [cmp,er] at he<;>first|(cases he;done)|exact ko hm _ F H Q rfl h|(exact absurd (jn he) (by simp [kH]))|(rename_i id ops d;cases d<;>cases he)
 | .exit id,c,F,H,Q,he,ho,hv,h=>by
   cases c<;>simp only [cmp,er] at he<;>first|(cases he;done)|(injection he with he;subst he;exact ko hm _ F H Q rfl h)|(exact absurd (jn he) (by simp [kH]))|(rename_i id ops d;cases d<;>cases he)
 | .ret,c,F,H,Q,he,ho,hv,h=>by
   cases c<;>simp only [cmp,er] at he<;>first|(cases he;done)|exact ko hm _ F H Q rfl h|(exact absurd (jn he) (by simp [kH]))|(rename_i id ops d;cases d<;>cases he)
 | .bad,c,F,H,Q,he,ho,hv,h=>h.elim
 | .loop x,c,F,H,Q,he,ho,hv,h=>by
   cases c<;>simp only [cmp,er] at he<;>first|(cases he;done)|(exact absurd (jn he) (by simp [kH]))|(rename_i id ops d;cases d<;>cases he)|skip
   injection he with he
   exact h _ he (by simpa [jy] using ho) (by simpa [oF] using hv)
 | .rgf g p t x,c,F,H,Q,he,ho,hv,h=>by
   cases c<;>simp only [cmp,er] at he<;>first|(cases he;done)|(rename_i id ops d;cases d<;>cases he;done)|skip
   obtain ⟨rfl,h1,h2,h3⟩:=nu he
   simp only [oF,Nl] at hv
   simp only [jy,Nl] at ho
   exact h _ _ _ h1 h2 h3 ho.2 hv.1.1 hv.1.2 hv.2
 | .rga g p x y,c,F,H,Q,he,ho,hv,h=>by
   cases c<;>simp only [cmp,er] at he<;>first|(cases he;done)|(rename_i id ops d;cases d<;>cases he;done)|skip
   obtain ⟨rfl,h1,h2,h3⟩:=nZ he
   simp only [oF,Nl] at hv
   simp only [jy,Nl] at ho
   exact h _ _ _ h1 h2 h3 ho.1 ho.2 hv.1.1.1.1.1 hv.1.1.1.1.2 hv.1.1.1.2 hv.1.1.2 hv.1.2 hv.2
 | .regY pre y post,c,F,H,Q,he,ho,hv,h=>by
   simp only [er] at he
   split at he
   ·rename_i hy
    cases c<;>(try simp only [cmp] at he)<;>first|(cases he;done)|(exact absurd (jn he) (by simp [kH]))|skip
    rename_i id ops d
    cases d<;>(try simp only [cmp] at he)<;>first|(cases he;done)|skip
    injection he with he
    intro K w a s hs hd
    simp only [jy] at ho
    simp only [oF] at hv
    simp only [xcode] at h
    exact GE (opA:=ops) (k:=fun F' H'=>Q .normal F' H') hs (by simpa using hy) he (fun o hoo=>(Array.all_eq_true'.1 ho) o (by simpa using hoo)) (fun o hoo=>List.all_eq_true.1 hv o hoo)
     (fun a' w' ⟨F',H',K',g1,g2,g3,g4⟩=>⟨F',H',K',g1,g2.m,g3,Nn hd.1 g2.ext.size,hd.2.step g2 g4⟩) h
   ·cases c<;>(try simp only [cmp] at he)<;>first|(cases he;done)|(exact absurd (jn he) (by simp [kH]))|(rename_i id ops d;cases d<;>cases he)
 | .reg l,c,F,H,Q,he,ho,hv,h=>by
   cases c<;>simp only [cmp,er] at he<;>first|(cases he;done)|(exact absurd (jn he) (by simp [kH]))|skip
   rename_i id ops d
   cases d<;>(try simp only [cmp] at he)<;>first|(cases he;done)|skip
   injection he with he
   intro K w a s hs hd
   simp only [jy] at ho
   simp only [xcode] at h
   exact wp_region_list (wF (opA:=ops) (k:=fun F' H'=>Q .normal F' H') (w:=w) (a:=a) (K:=K) (fun a' w' ⟨F',H',K',g1,g2,g3,g4⟩=>⟨F',H',K',g1,g2.m,g3,Nn hd.1 g2.ext.size,hd.2.step g2 g4⟩) l ops.toList F H K w a he.symm (fun o hoo=>(Array.all_eq_true'.1 ho) o (by simpa using hoo)) hs (.refl K w) rfl h)
 | .regD l,c,F,H,Q,he,ho,hv,h=>by
   simp only [er] at he
   split at he
   ·rename_i hall
    cases c<;>(try simp only [cmp] at he)<;>first|(cases he;done)|(exact absurd (jn he) (by simp [kH]))|skip
    rename_i id ops d
    cases d<;>(try simp only [cmp] at he)<;>first|(cases he;done)|skip
    injection he with he
    subst he
    simp only [jy] at ho
    simp only [oF] at hv
    refine ko hm _ F H Q (by simp only [wA,Nl];exact ⟨ho,hv⟩) ?_
    simp only [xcode] at h
    rw [gK _ _ (fun o hoo=>by
     have:=List.all_eq_true.1 hall (xof ops.toList o) (List.mem_map.2 ⟨o,hoo,rfl⟩)
     exact (show kJ (xof ops.toList o).op=none by simpa using this)) (fun o hoo hp=>by
     simp only [Uk,Nl] at hv
     have:=List.all_eq_true.1 hv.1 o hoo
     simpa [hp] using this)] at h
    exact h
   ·cases c<;>(try simp only [cmp] at he)<;>first|(cases he;done)|(exact absurd (jn he) (by simp [kH]))|(rename_i id ops d;cases d<;>cases he)
 | .regW q segs last tail,c,F,H,Q,he,ho,hv,h=>by
   simp only [er] at he
   split at he
   ·rename_i hall
    cases c<;>(try simp only [cmp] at he)<;>first|(cases he;done)|(exact absurd (jn he) (by simp [kH]))|skip
    rename_i id ops d
    cases d<;>(try simp only [cmp] at he)<;>first|(cases he;done)|skip
    injection he with he
    simp only [jy] at ho
    intro K w a s hs hd
    simp only [xcode] at h
    exact wp_region_any hm (Y0 (qs:= []) (id:=id) hall he (fun o hoo=>(Array.all_eq_true'.1 ho) o (by simpa using hoo)) hv hs (fun a' w' ⟨F',H',K',g1,g2,g3,g4⟩=>⟨F',H',K',g1,g2.m,g3,Nn hd.1 g2.ext.size,hd.2.step g2 g4⟩) (dI hs.hrel.nd).1 (dI hs.hrel.nd).2 h)
   ·cases c<;>(try simp only [cmp] at he)<;>first|(cases he;done)|(exact absurd (jn he) (by simp [kH]))|(rename_i id ops d;cases d<;>cases he)
 | .regT qs segs last tail,c,F,H,Q,he,ho,hv,h=>by
   simp only [er] at he
   split at he
   ·rename_i hall
    cases c<;>(try simp only [cmp] at he)<;>first|(cases he;done)|(exact absurd (jn he) (by simp [kH]))|skip
    rename_i id ops d
    cases d<;>(try simp only [cmp] at he)<;>first|(cases he;done)|skip
    injection he with he
    simp only [jy] at ho
    intro K w a s hs hd
    simp only [xcode] at h
    exact wp_region_any hm (Y0 hall he (fun o hoo=>(Array.all_eq_true'.1 ho) o (by simpa using hoo)) hv hs (fun a' w' ⟨F',H',K',g1,g2,g3,g4⟩=>⟨F',H',K',g1,g2.m,g3,Nn hd.1 g2.ext.size,hd.2.step g2 g4⟩) (Kd hs.hrel.nd).1 (Kd hs.hrel.nd).2 h)
   ·cases c<;>(try simp only [cmp] at he)<;>first|(cases he;done)|(exact absurd (jn he) (by simp [kH]))|(rename_i id ops d;cases d<;>cases he)
 | .regV l tail,c,F,H,Q,he,ho,hv,h=>by
   simp only [er] at he
   split at he
   ·rename_i hall
    cases c<;>(try simp only [cmp] at he)<;>first|(cases he;done)|(exact absurd (jn he) (by simp [kH]))|skip
    rename_i id ops d
    cases d<;>(try simp only [cmp] at he)<;>first|(cases he;done)|skip
    injection he with he
    simp only [jy] at ho
    simp only [oF] at hv
    obtain ⟨os1,os2,e0,e1,e2⟩:=List.map_eq_append_iff.1 he
    have hok:∀o∈ops.toList,jA o=true:=fun o hoo=>(Array.all_eq_true'.1 ho) o (by simpa using hoo)
    have hp:∀o∈os1,kJ o.op=none∧gu o.op=false:=fun o hoo=>by
     have:=List.all_eq_true.1 hall (xof ops.toList o) (e1▸List.mem_map.2 ⟨o,hoo,rfl⟩)
     simp only [Nl,Option.isNone_iff_eq_none,Bool.not_eq_true'] at this
     exact this
    intro K w a s hs hd
    simp only [xcode] at h
    rw [<-e1,gU os1 hp] at h
    refine wp_region_any hm (dD (a:=a) (pre:=os1) (suf:=os2) (by rw [<-e1,Nh] at hv;exact hv) e0.symm hs
     (Qf (ops:=ops) os1 F K w a (fun o hoo=>hok o (by rw [e0];exact List.mem_append_left _ hoo)) hs h) fun F1 K1 w1 a1 hT hs1 hfk1 hd1=>?_)
    exact wF (opA:=ops) (k:=fun F' H'=>Q .normal F' H') (w:=w) (a:=a) (K:=K) (fun a' w' ⟨F',H',K',g1,g2,g3,g4⟩=>⟨F',H',K',g1,g2.m,g3,Nn hd.1 g2.ext.size,hd.2.step g2 g4⟩) tail os2 F1 H K1 w1 a1 e2.symm (fun o hoo=>hok o (by rw [e0];exact List.mem_append_right _ hoo)) hs1 hfk1 hd1 hT
   ·cases c<;>(try simp only [cmp] at he)<;>first|(cases he;done)|(exact absurd (jn he) (by simp [kH]))|(rename_i id ops d;cases d<;>cases he)
 | .scope x,c,F,H,Q,he,ho,hv,h=>by
   cases c<;>simp only [cmp,er] at he<;>first|(cases he;done)|(exact absurd (jn he) (by simp [kH]))|(rename_i id ops d;cases d<;>cases he)|skip
   injection he with he
   simp only [jy] at ho
   simp only [oF] at hv
   simp only [xcode] at h
   intro K w a s hs hd
   refine wp_scope_straight (wp_mono (kB hm x _ F H _ he ho hv h K w a s hs hd) fun e a' w' ⟨F',H',K',g1,g2⟩=>?_)
   cases e<;>first|exact g1.elim|exact ⟨F',H',K',g1,g2⟩
 | .seq x y,c,F,H,Q,he,ho,hv,h=>by
   cases c<;>simp only [cmp,er] at he<;>first|(cases he;done)|(exact absurd (jn he) (by simp [kH]))|(rename_i id ops d;cases d<;>cases he)|skip
   injection he with h1 h2
   simp only [jy,Nl] at ho
   simp only [oF,Nl] at hv
   refine AW.and_then ((kB hm x _ F H _ h1 ho.1 hv.1 h).mono fun e F' H' hq=>?_)
   cases e with
   |normal=>exact kB hm y _ F' H' Q h2 ho.2 hv.2 hq
   |_=>exact hq
 | .cond (.tmp t) x y,c,F,H,Q,he,ho,hv,h=>by
   cases c<;>simp only [cmp,er] at he<;>first|(cases he;done)|(exact absurd (jn he) (by simp [kH]))|(rename_i id ops d;cases d<;>cases he)|skip
   injection he with h0 h1 h2
   subst h0
   intro K w a s hs hd
   simp only [jy,Nl] at ho
   simp only [xcode] at h
   split at h
   ·rename_i b hb
    simp only [oF,Nl] at hv
    have hvb:=(show rv F (.tmp t)=D.bool b by show (F.getD t D.any).view=_;rw [hb];rfl)▸hs.rep ho.1.1
    cases b with
    |true=>exact wp_cond_true hvb.bool_inv (kB hm x _ F H Q h1 ho.1.2 hv.1 (by have:=h.1 rfl;rwa [yZ hb (by simp)] at this) K w a s hs hd)
    |false=>exact wp_cond_false hvb.bool_inv (kB hm y _ F H Q h2 ho.2 hv.2 (by have:=h.2 rfl;rwa [yZ hb (by simp)] at this) K w a s hs hd)
   ·exact h.elim
 | .cond (.const v) x y,c,F,H,Q,he,ho,hv,h=>by
   cases c<;>simp only [cmp,er] at he<;>first|(cases he;done)|(exact absurd (jn he) (by simp [kH]))|(rename_i id ops d;cases d<;>cases he)|skip
   injection he with h0 h1 h2
   subst h0
   intro K w a s hs hd
   simp only [jy,Nl] at ho
   simp only [oF,Nl] at hv
   cases v<;>first|exact h.elim|skip
   rename_i b
   cases b with
   |true=>exact wp_cond_true rfl (kB hm x _ F H Q h1 ho.1.2 hv.1 h K w a s hs hd)
   |false=>exact wp_cond_false rfl (kB hm y _ F H Q h2 ho.2 hv.2 h K w a s hs hd)
 | .cond (.global g) x y,c,F,H,Q,he,ho,hv,h=>h.elim
 | .cond (.func g) x y,c,F,H,Q,he,ho,hv,h=>h.elim
 | .block id x,c,F,H,Q,he,ho,hv,h=>by
   cases c<;>simp only [cmp,er] at he<;>first|(cases he;done)|(exact absurd (jn he) (by simp [kH]))|(rename_i id ops d;cases d<;>cases he)|skip
   injection he with h0 h1
   subst h0
   intro K w a s hs hd
   simp only [jy] at ho
   refine wp_block (wp_mono (kB hm x _ F H _ h1 ho (by simpa only [oF] using hv) h K w a s hs hd) fun e a' w' ⟨F',H',K',g1,g2⟩=>?_)
   cases e with
   | exit id'=>
    simp only [kU] at g1
    simp only [Exit.inBlock]
    split
    ·rename_i e;rw [if_pos e] at g1;exact ⟨F',H',K',g1,g2⟩
    ·rename_i e;rw [if_neg e] at g1;exact ⟨F',H',K',g1,g2⟩
   |_=>exact ⟨F',H',K',g1,g2⟩
def pV (I:List D->AH->Prop) (μ:List D->AH->Nat) (F:List D) (H:AH) (Q:AQ):AQ:=Jf (fun F' H'=>I F' (back H.length H')∧μ F' (back H.length H')<μ F H) Q
theorem XW.loop (hm:P.follows .mixedOrders=true) (I:List D->AH->Prop) (μ:List D->AH->Nat) (h0:I F H)
  (round:∀F H,I F H->xcode P x F H (pV I μ F H Q)):XW P x F H Q:=by
 intro c hc ho hv K0 w0 a0 s0 hs0 hd0
 let R:Act->World->Nat->Prop:=fun a w n=>∃F H K,I F H∧μ F H=n∧FKm K0 w0 K w∧St K w F H a.tmps∧s0<=w.heap.size∧Mk K w s0 a.defers
 refine wp_loop (fun a w=>∃n,R a w n) (fun a w=>open Classical in if h:∃n,R a w n then Classical.choose (least (R a w) h.choose h.choose_spec) else 0) ⟨_,F,H,K0,h0,rfl,.refl K0 w0,hs0,hd0⟩ ?_
 intro a w hR
 have hmin:=Classical.choose_spec (least (R a w) hR.choose hR.choose_spec)
 simp only [dif_pos hR]
 generalize Classical.choose (least (R a w) hR.choose hR.choose_spec)=m at hmin
 obtain ⟨⟨F1,H1,K1,i1,i2,i3,i4,i5⟩,hleast⟩:=hmin
 refine wp_mono (kB hm x c F1 H1 _ hc ho hv (round F1 H1 i1) K1 w a s0 i4 i5) fun e a' w' ⟨F',H',K',g1,g2,g3,g4⟩=>?_
 cases e with
 | normal=>
  obtain ⟨q1,q2⟩:=g1
  have hR':R a' w' (μ F' (back H1.length H')):=⟨F',_,K',q1,rfl,i3.trans g2,g3.sub (Zz _ _),g4⟩
  have hex:∃n,R a' w' n:=⟨_,hR'⟩
  refine ⟨hex,?_⟩
  simp only [dif_pos hex]
  have hmin':=Classical.choose_spec (least (R a' w') hex.choose hex.choose_spec)
  generalize Classical.choose (least (R a' w') hex.choose hex.choose_spec)=m' at hmin'
  have:m'<=μ F' (back H1.length H'):=Nat.le_of_not_lt fun hlt=>hmin'.2 _ hlt hR'
  omega
 |_=>exact ⟨F',H',K',g1,i3.trans g2,g3,g4⟩
def iL (I:List D->AH->Prop) (μ:List D->AH->Nat) (F:List D) (H:AH) (Q:AQ):AQ:=Jf (fun F' H'=>∃H'',Sbn H'' H'∧I F' H''∧μ F' H''<μ F H) Q
theorem XW.loopR (hm:P.follows .mixedOrders=true) (I:List D->AH->Prop) (μ:List D->AH->Nat) (h0:I F H)
  (round:∀F H,I F H->xcode P x F H (iL I μ F H Q)):XW P x F H Q:=by
 intro c hc ho hv K0 w0 a0 s0 hs0 hd0
 let R:Act->World->Nat->Prop:=fun a w n=>∃F H K,I F H∧μ F H=n∧FKm K0 w0 K w∧St K w F H a.tmps∧s0<=w.heap.size∧Mk K w s0 a.defers
 refine wp_loop (fun a w=>∃n,R a w n) (fun a w=>open Classical in if h:∃n,R a w n then Classical.choose (least (R a w) h.choose h.choose_spec) else 0) ⟨_,F,H,K0,h0,rfl,.refl K0 w0,hs0,hd0⟩ ?_
 intro a w hR
 have hmin:=Classical.choose_spec (least (R a w) hR.choose hR.choose_spec)
 simp only [dif_pos hR]
 generalize Classical.choose (least (R a w) hR.choose hR.choose_spec)=m at hmin
 obtain ⟨⟨F1,H1,K1,i1,i2,i3,i4,i5⟩,hleast⟩:=hmin
 refine wp_mono (kB hm x c F1 H1 _ hc ho hv (round F1 H1 i1) K1 w a s0 i4 i5) fun e a' w' ⟨F',H',K',g1,g2,g3,g4⟩=>?_
 cases e with
 | normal=>
  obtain ⟨H'',hsb,q1,q2⟩:=g1
  have hR':R a' w' (μ F' H''):=⟨F',_,K',q1,rfl,i3.trans g2,g3.sb (hsb g3.hrel.nd),g4⟩
  have hex:∃n,R a' w' n:=⟨_,hR'⟩
  refine ⟨hex,?_⟩
  simp only [dif_pos hex]
  have hmin':=Classical.choose_spec (least (R a' w') hex.choose hex.choose_spec)
  generalize Classical.choose (least (R a' w') hex.choose hex.choose_spec)=m' at hmin'
  have:m'<=μ F' H'':=Nat.le_of_not_lt fun hlt=>hmin'.2 _ hlt hR'
  omega
 |_=>exact ⟨F',H',K',g1,i3.trans g2,g3,g4⟩
def Um (P:Program) (rs:List ResultVar) (R:D->AH->Prop):AQ
 | .normal,F,H=>QC P rs F H fun d=>∃H',Sbn H' H∧R d H'
 | .ret,F,H=>QC P rs F H fun d=>∃H',Sbn H' H∧R d H'
 |_,_,_=>False
theorem Gw (hm:P.follows .mixedOrders=true) (hf:P.funcs[f]?=some fn) (hb:fn.body=some c) (hk:KA fn=true) (hcall:QJ P f=true) (hx:cmp c=er x) (hxv:oF x c=true) (hn:fn.ntmps=n) (hr:fn.results.toList=rs)
  {R:D->AH->Prop} (h:facts args->xcode P x (args++List.replicate (n - args.length) (.tup [])) H (jX P rs H.length R)):ACall P f args H R:=by
 subst hn hr
 refine ⟨hcall,fun K w vs h1 h2 h3 h4 h5=>?_⟩
 unfold KA at hk
 simp only [hb,Nl] at hk
 have hfacts:facts args:=Yt args vs.toList (by simpa using h4) (fun j d v hd hv=>h5 j d v hd (by simpa using hv))
 have hst:St K w (args++List.replicate (fn.ntmps - args.length) (.tup [])) H (vs++Array.replicate (fn.ntmps - vs.size) undef):=by
  refine ⟨h1,h3,by simp [h4],fun i d v hd hv=>?_⟩
  rw [List.getElem?_append] at hd
  split at hd
  ·rename_i hi
   rw [Array.getElem?_append_left (by rw [h4];exact hi)] at hv
   exact (h5 i d v hd hv).viewO
  ·rename_i hi
   rw [Array.getElem?_append_right (by rw [h4];omega)] at hv
   have hd':=List.eq_of_mem_replicate (Nk hd)
   have hv':v=undef:=by
    have:=Array.mem_of_getElem? hv
    simpa using (Array.mem_replicate.1 this).2
   rw [hd',hv']
   exact undef_rep.viewO
 refine J9 hf hb (kB hm x c _ H _ hx hk.1 hxv (h hfacts)) hst fun e F' H' K' w' a' g1 g2 g3=>?_
 cases e with
 | normal=>
  obtain ⟨v,d,H'',K'',e1,e2,e3,e4,e5,e6⟩:=WG (fn:=fn) hk.2 g3 g1
  exact ⟨.inl rfl,v,e1,v,d,H'',K'',rfl,e2,g2.trans e3,e4,e5,e6⟩
 | ret=>
  obtain ⟨v,d,H'',K'',e1,e2,e3,e4,e5,e6⟩:=WG (fn:=fn) hk.2 g3 g1
  exact ⟨.inr rfl,v,e1,v,d,H'',K'',rfl,e2,g2.trans e3,e4,e5,e6⟩
 |exit id=>exact g1.elim
 |goto l=>exact g1.elim
 |panic ch=>exact g1.elim
 |outgrown=>exact g1.elim
theorem yV (hm:P.follows .mixedOrders=true) (hf:P.funcs[f]?=some fn) (hb:fn.body=some c) (hk:KA fn=true) (hcall:QJ P f=true) (hx:cmp c=er x) (hxv:oF x c=true) (hn:fn.ntmps=n) (hr:fn.results.toList=rs)
  {R:D->AH->Prop} (h:facts args->xcode P x (args++List.replicate (n - args.length) (.tup [])) H (Um P rs R)):ACall P f args H R:=by
 subst hn hr
 refine ⟨hcall,fun K w vs h1 h2 h3 h4 h5=>?_⟩
 unfold KA at hk
 simp only [hb,Nl] at hk
 have hfacts:facts args:=Yt args vs.toList (by simpa using h4) (fun j d v hd hv=>h5 j d v hd (by simpa using hv))
 have hst:St K w (args++List.replicate (fn.ntmps - args.length) (.tup [])) H (vs++Array.replicate (fn.ntmps - vs.size) undef):=by
  refine ⟨h1,h3,by simp [h4],fun i d v hd hv=>?_⟩
  rw [List.getElem?_append] at hd
  split at hd
  ·rename_i hi
   rw [Array.getElem?_append_left (by rw [h4];exact hi)] at hv
   exact (h5 i d v hd hv).viewO
  ·rename_i hi
   rw [Array.getElem?_append_right (by rw [h4];omega)] at hv
   have hd':=List.eq_of_mem_replicate (Nk hd)
   have hv':v=undef:=by
    have:=Array.mem_of_getElem? hv
    simpa using (Array.mem_replicate.1 this).2
   rw [hd',hv']
   exact undef_rep.viewO
 refine J9 hf hb (kB hm x c _ H _ hx hk.1 hxv (h hfacts)) hst fun e F' H' K' w' a' g1 g2 g3=>?_
 cases e with
 | normal=>
  obtain ⟨v,d,H'',K'',e1,e2,e3,e4,e5,e6⟩:=Y4 (fn:=fn) hk.2 g3 g1
  exact ⟨.inl rfl,v,e1,v,d,H'',K'',rfl,e2,g2.trans e3,e4,e5,e6⟩
 | ret=>
  obtain ⟨v,d,H'',K'',e1,e2,e3,e4,e5,e6⟩:=Y4 (fn:=fn) hk.2 g3 g1
  exact ⟨.inr rfl,v,e1,v,d,H'',K'',rfl,e2,g2.trans e3,e4,e5,e6⟩
 |exit id=>exact g1.elim
 |goto l=>exact g1.elim
 |panic ch=>exact g1.elim
 |outgrown=>exact g1.elim
end Go.Aw
end
section
namespace Go.Aw
open Go Go.RowKit
theorem ak {id:Nat} {ops:Array Oper} {b:Bool} (h:QL (.region id ops b)=true):∀o∈ops.toList,uy o=true:=fun o ho=>by
 have:=List.all_eq_true.1 h o ho
 unfold uy
 exact this
theorem oV {P:Program} (hm:P.follows .mixedOrders=true) {l n:Nat}:∀(x:XC) (c:Code) (F:List D) (H:AH) (Q:AQ),bE x=true->QL c=true->cmp c=er x->jy c=true->oF x c=true->(∀F H,¬Q .outgrown F H)->xcode P x F H Q->
  ∀(K:Nat->BK) (w:World) (a:Act),St K w F H a.tmps->c.wpIn (Fence.wide.inRound l) n P (fun e a' w'=>∃F' H' K',Q e F' H'∧FK K w K' w'∧St K' w' F' H' a'.tmps) a w
 | .gh x,c,F,H,Q,hb,hd,he,ho,hv,hq,h=>fun K w a hs=>by
   obtain ⟨F',H',K1,hk,h1,h2⟩:=h K w a.tmps hs
   exact wpIn_mono (oV hm x c F' H' Q hb hd he ho (by unfold oF at hv;exact hv) hq hk K1 w a h2) fun e a' w' ⟨F'',H'',K'',g1,g2,g3⟩=>⟨F'',H'',K'',g1,h1.trans g2,g3⟩
 | .skip,c,F,H,Q,hb,hd,he,ho,hv,hq,h=>fun K w a hs=>by
   cases c<;>simp only [cmp,er] at he<;>first|(cases he;done)|(exact absurd (jn he) (by simp [kH]))|(rename_i id ops d;cases d<;>cases he;done)|exact wpIn_skip ⟨F,H,K,h,.refl K w,hs⟩|exact wpIn_label ⟨F,H,K,h,.refl K w,hs⟩
 | .reg l,c,F,H,Q,hb,hd,he,ho,hv,hq,h=>fun K w a hs=>by
   cases c<;>simp only [cmp,er] at he<;>first|(cases he;done)|(exact absurd (jn he) (by simp [kH]))|skip
   rename_i id ops d
   cases d<;>(try simp only [cmp] at he)<;>first|(cases he;done)|skip
   injection he with he
   simp only [jy] at ho
   simp only [xcode] at h
   exact wpIn_region_list (Ve (fun a w ⟨F',H',K',h1,_⟩=>hq F' H' h1) _ _ _ (ak hd) (wF (opA:=ops) (k:=fun F' H'=>Q .normal F' H') (w:=w) (a:=a) (K:=K) (fun a' w' ⟨F',H',K',g1,g2,g3,g4⟩=>⟨F',H',K',g1,g2,g3⟩) l ops.toList F H K w a he.symm (fun o hoo=>(Array.all_eq_true'.1 ho) o (by simpa using hoo)) hs (.refl K w) rfl h))
 | .regT qs segs last tail,c,F,H,Q,hb,hd,he,ho,hv,hq,h=>fun K w a hs=>by
   simp only [er] at he
   split at he
   ·rename_i hall
    cases c<;>(try simp only [cmp] at he)<;>first|(cases he;done)|(exact absurd (jn he) (by simp [kH]))|skip
    rename_i id ops d
    cases d<;>(try simp only [cmp] at he)<;>first|(cases he;done)|skip
    injection he with he
    simp only [jy] at ho
    simp only [xcode] at h
    exact wpIn_region_any hm (dT (fun a w ⟨F',H',K',h1,_⟩=>hq F' H' h1) (ak hd) _ _ _ _ (Y0 hall he (fun o hoo=>(Array.all_eq_true'.1 ho) o (by simpa using hoo)) hv hs (fun a' w' ⟨F',H',K',g1,g2,g3,g4⟩=>⟨F',H',K',g1,g2,g3⟩) (Kd hs.hrel.nd).1 (Kd hs.hrel.nd).2 h))
   ·cases c<;>(try simp only [cmp] at he)<;>first|(cases he;done)|(exact absurd (jn he) (by simp [kH]))|(rename_i id ops d;cases d<;>cases he)
 | .seq x y,c,F,H,Q,hb,hd,he,ho,hv,hq,h=>fun K w a hs=>by
   cases c<;>simp only [cmp,er] at he<;>first|(cases he;done)|(exact absurd (jn he) (by simp [kH]))|(rename_i id ops d;cases d<;>cases he)|skip
   injection he with h1 h2
   simp only [jy,Nl] at ho
   simp only [oF,Nl] at hv
   simp only [bE,Nl] at hb
   simp only [QL,Nl] at hd
   simp only [xcode] at h
   refine wpIn_seq (wpIn_mono (oV hm x _ F H (Jf (fun F' H'=>xcode P y F' H' Q) Q) hb.1 hd.1 h1 ho.1 hv.1 (fun F H hh=>hq F H hh) h K w a hs) fun e a' w' ⟨F',H',K',g1,g2,g3⟩=>?_)
   cases e with
   |normal=>exact wpIn_mono (oV hm y _ F' H' Q hb.2 hd.2 h2 ho.2 hv.2 hq g1 K' w' a' g3) fun e a'' w'' ⟨F'',H'',K'',q1,q2,q3⟩=>⟨F'',H'',K'',q1,g2.trans q2,q3⟩
   |_=>exact ⟨F',H',K',g1,g2,g3⟩
 | .block id x,c,F,H,Q,hb,hd,he,ho,hv,hq,h=>fun K w a hs=>by
   cases c<;>simp only [cmp,er] at he<;>first|(cases he;done)|(exact absurd (jn he) (by simp [kH]))|(rename_i id ops d;cases d<;>cases he)|skip
   injection he with h0 h1
   subst h0
   rename_i id c
   simp only [jy] at ho
   simp only [bE] at hb
   simp only [QL] at hd
   simp only [xcode] at h
   refine wpIn_block (wpIn_mono (oV hm x _ F H (kU id Q) hb hd h1 ho (by simpa only [oF] using hv) (fun F H hh=>hq F H hh) h K w a hs) fun e a' w' ⟨F',H',K',g1,g2⟩=>?_)
   cases e with
   | exit id'=>
    simp only [kU] at g1
    simp only [Exit.inBlock]
    split
    ·rename_i e;rw [if_pos e] at g1;exact ⟨F',H',K',g1,g2⟩
    ·rename_i e;rw [if_neg e] at g1;exact ⟨F',H',K',g1,g2⟩
   |_=>exact ⟨F',H',K',g1,g2⟩
 | .exit _,c,F,H,Q,hb,hd,he,ho,hv,hq,h=>by cases hb
 | .ret,c,F,H,Q,hb,hd,he,ho,hv,hq,h=>by cases hb
 | .bad,c,F,H,Q,hb,hd,he,ho,hv,hq,h=>by cases hb
 | .cond _ _ _,c,F,H,Q,hb,hd,he,ho,hv,hq,h=>by cases hb
 | .loop _,c,F,H,Q,hb,hd,he,ho,hv,hq,h=>by cases hb
 | .scope _,c,F,H,Q,hb,hd,he,ho,hv,hq,h=>by cases hb
 | .regV _ _,c,F,H,Q,hb,hd,he,ho,hv,hq,h=>by cases hb
 | .regW _ _ _ _,c,F,H,Q,hb,hd,he,ho,hv,hq,h=>by cases hb
 | .regD _,c,F,H,Q,hb,hd,he,ho,hv,hq,h=>by cases hb
 | .rgf _ _ _ _,c,F,H,Q,hb,hd,he,ho,hv,hq,h=>by cases hb
 | .rga _ _ _ _,c,F,H,Q,hb,hd,he,ho,hv,hq,h=>by cases hb
 | .regY _ _ _,c,F,H,Q,hb,hd,he,ho,hv,hq,h=>by cases hb
end Go.Aw
end
section
namespace Go.Aw
open Go Go.RowKit
end Go.Aw
end
section
namespace Go.Aw
open Go Go.RowKit
end Go.Aw
end
