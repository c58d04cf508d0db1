/- A part of the proof of what the last text says: AwT. Conditions: those in each theorem. -/
import Derived.Test.YtpdhandimdibhaaGreatDoorN7
set_option linter.unusedVariables false
set_option linter.unusedSimpArgs false
set_option maxRecDepth 100000
set_option maxHeartbeats 16000000
open Nat renaming reduceSub → qa,reduceAdd → qb,reduceMul → qc,reduceEqDiff → qd,reduceLeDiff → qe,reduceBEq → qf
section
namespace Go.Aw
open Go Go.RowKit
theorem wi:∀{H:AH},(H.map (·.1)).Nodup→∀{b:Nat} {o:AO},(b,o)∈H→qu H b=some o
 | [],_,b,o,h=>by simp at h
 | (c,x)::r,hn,b,o,h=>by
  simp only [List.map_cons,List.nodup_cons] at hn
  unfold qu
  rcases List.mem_cons.1 h with h|h
  ·injection h with h1 h2
   subst h1 h2
   simp
  ·have hne:b≠c:=fun e=>hn.1 (by rw [←e];exact List.mem_map.2 ⟨(b,o),h,rfl⟩)
   rw [if_neg hne]
   exact wi hn.2 h
theorem RepC.view1 {K:Nat→BK} {w:World} {o:Who} {d:D} {v:Value} (h:RepC K w o d v):RepC K w o d.view1 v:=by
 cases d<;>first|exact h|exact OwnAt.rep h
theorem wkO_at {K:Nat→BK} {w:World} {b:Nat} {o:AO} (h:AO.at_ K w b o):AO.at_ K w b (wkO o):=by
 cases o with
 | cells cs=>
  obtain ⟨hp,c,T,h1,h2,h3⟩:=h
  refine ⟨hp,c,T,h1,by simpa using h2,fun j d hd=>?_⟩
  rw [List.getElem?_map,Option.map_eq_some_iff] at hd
  obtain ⟨d',e1,rfl⟩:=hd
  obtain ⟨u,f1,f2,f3⟩:=h3 j d' e1
  exact ⟨u,f1,f2,f3.view1⟩
 |_=>exact h
theorem Sub.hrel {K:Nat→BK} {w:World} {H0 H:AH} (hn:(H0.map (·.1)).Nodup) (hs:Sub H0 H) (h:HRel K w H):HRel K w H0:=
 ⟨hn,fun b o hm=>by
  obtain ⟨o',h1,h2⟩:=hs b o (wi hn hm)
  rcases h2 with rfl|rfl
  ·exact h.ok b _ (j4 h1)
  ·exact wkO_at (h.ok b _ (j4 h1))⟩
theorem Sub.st {K:Nat→BK} {w:World} {F:List D} {t:Array Value} {H0 H:AH} (hn:(H0.map (·.1)).Nodup) (hs:Sub H0 H) (h:St K w F H t):St K w F H0 t:=
 ⟨h.krel,hs.hrel hn h.hrel,h.len,h.slot⟩
theorem kM {b c:Nat} {x:AO} (hne:c≠b):∀{H:AH},qu (qF H b x) c=qu H c
 | []=>rfl
 | (e,o)::r=>by
  unfold qF
  split
  ·rename_i h
   subst h
   unfold qu
   rw [if_neg hne,if_neg hne]
  ·unfold qu
   rw [kM hne]
theorem J0 {b c:Nat} {x y:AO} (hne:c≠b):∀{H:AH},qF (qF H b x) c y=qF (qF H c y) b x
 | []=>rfl
 | (e,o)::r=>by
  by_cases h1:b=e
  ·subst h1
   have h2:c≠b:=hne
   simp [qF,h2]
  ·by_cases h2:c=e
   ·subst h2
    simp [qF,h1]
   ·simp [qF,h1,h2,J0 hne]
theorem Sub.set {H0 H:AH} {b:Nat} {x:AO} (h:Sub H0 H) (hb:qu H0 b=none):Sub H0 (qF H b x):=fun c o hc=>by
 have hne:c≠b:=fun e=>by subst e;rw [hb] at hc;cases hc
 obtain ⟨o',h1,h2⟩:=h c o hc
 exact ⟨o',by rw [kM hne];exact h1,h2⟩
abbrev NV:=Nat→Option (Bool×List D)
def upv (σ:NV) (d:Nat) (x:Bool×List D):NV:=fun c=>if c=d then some x else σ c
theorem wW {σ:NV} {d:Nat} {x:Bool×List D}:upv σ d x d=some x:=by simp [upv]
theorem kC {σ:NV} {d c:Nat} {x:Bool×List D} (h:c≠d):upv σ d x c=σ c:=by simp [upv,h]
theorem oX {σ:NV} {d e:Nat} {x y:Bool×List D} (h:e≠d):upv (upv σ d x) e y=upv (upv σ e y) d x:=funext fun c=>by
 by_cases h1:c=d
 ·subst h1
  rw [wW,kC (Ne.symm h),wW]
 ·by_cases h2:c=e
  ·subst h2
   rw [wW,kC h1,wW]
  ·rw [kC h2,kC h1,kC h1,kC h2]
inductive Ch where
 |no
 |blk (b:Nat) (o o':AO)
 |al (d:Nat) (z:List D)
 |put (d:Nat) (z v:List D)
def Ch.plain:Ch→Bool
 | .no=>true
 | .blk _ _ _=>true
 |_=>false
structure Eff2 where
 e:Eff
 c:Ch
def Eff2.ap (x:Eff2) (H:AH×NV):AH×NV:=match x.c with
 | .blk b _ o=>(qF H.1 b o,H.2)
 | .no=>H
 | .al d z=>(H.1,upv H.2 d (false,z))
 | .put d _ v=>(H.1,upv H.2 d (true,v))
def Eff2.ok (x:Eff2) (H0:AH) (H:AH×NV):Prop:=match x.c with
 | .blk b o o'=>(∀H',Sub H0 H'→qu H' b=some o→Sub H0 (qF H' b o'))∧qu H.1 b=some o
 | .no=>True
 | .al d _=>H.2 d=none
 | .put d z _=>H.2 d=some (false,z)
def nv0:NV:=fun _=>none
def Y2 (md:Region.Mode) (o:Oper) (i:Nat):Bool:=o.after.any fun e=>Region.binds md e&&e.on==i
def Eff2.sep (x:Eff2) (md:Region.Mode) (o:Oper) (S:List (Nat×Nat)):Prop:=match x.c with
 | .blk b _ _=>∀q∈S,q.2=b→Y2 md o q.1=true
 |_=>True
def Eff2.add (x:Eff2) (k:Nat) (S:List (Nat×Nat)):List (Nat×Nat):=match x.c with
 | .blk b _ _=>(k,b)::S
 |_=>S
theorem Eff2.sub {x:Eff2} {H0:AH} {H:AH×NV} (h:Sub H0 H.1) (hx:x.ok H0 H):Sub H0 (x.ap H).1:=by
 unfold Eff2.ap
 unfold Eff2.ok at hx
 split
 ·rename_i b o o' hc
  simp only [hc] at hx
  exact hx.1 _ h hx.2
 ·exact h
 ·exact h
 ·exact h
def oN (P:Program) (H H':AH) (o:Oper) (F:List D) (e:Eff):Prop:=
 ∀ (K:Nat→BK) (w:World) (a:Act) (G:List D) (Q:Exit→Act→World→Prop),St K w G H a.tmps→(∀t,.tmp t∈o.op.operands.toList→G.getD t .any=F.getD t .any)→G.length=F.length→
  o.wp P a w (OKd (fun G' H''=>G'=e.app o.dst G∧H''=H') K w a.defers) Q
def QQ:Op→Bool
 | .alloc _=>true
 |_=>false
def wj (al:List Nat):Op→Bool
 | .alloc _=>true
 | .store _ (.tmp d) _=>al.contains d
 |_=>false
def Ef (P:Program) (H0:AH) (al:List Nat) (ops:Array Oper) (o:Oper) (F:List D) (x:Eff2):Prop:=
 (gst ops.toList F o=some true∧x.c.plain=true∧wj al o.op=false∧(∀H,Sub H0 H→x.ok H0 (H,nv0)→oN P H (x.ap (H,nv0)).1 o F x.e)∧∀s v,x.e.tk=some (s,v)→g7 ops.toList o=some s)∨
 (gst ops.toList F o=some false∧x=⟨⟨none,.tup []⟩,.no⟩)∨
 (o.guard=none∧∃t d z,x=⟨⟨none,.any⟩,.al d z⟩∧o.op= .alloc t∧o.dst=some d∧yK P t=some z∧d∈al∧d<F.length)∨
 (o.guard=none∧∃t d y n z,x=⟨⟨none,.tup []⟩,.put d z (cellsOf (rv F y)++z.drop n)⟩∧o.op= .store t (.tmp d) y∧d∈al∧wb P t=some (true,n)∧okc (rv F y)=true∧(cellsOf (rv F y)).length=n∧n≤z.length)
section
variable {P:Program} {ops:Array Oper} {H0:AH} {al:List Nat} {md:Region.Mode} {o:Oper}
theorem Ef.congr {F G:List D} {e:Eff2} (he:Ef P H0 al ops o F e) (h:∀t∈o.looksAt ops,G.getD t .any=F.getD t .any) (hl:G.length=F.length):Ef P H0 al ops o G e:=by
 rcases he with ⟨h1,ha,hb,h2,h3⟩|⟨h1,h2⟩|⟨h1,t,d,z,h2,h3,h4,h5,h6,h7⟩|⟨h1,t,d,y,n,z,h2,h3,h4,h5,h6,h7,h8⟩
 ·refine .inl ⟨by rw [wO h];exact h1,ha,hb,fun H q1 q2 K w a G' Q hs hG hlen=>?_,h3⟩
  exact h2 H q1 q2 K w a G' Q hs (fun t ht=>(hG t ht).trans (h t (kV ht))) (hlen.trans hl)
 ·exact .inr (.inl ⟨by rw [wO h];exact h1,h2⟩)
 ·exact .inr (.inr (.inl ⟨h1,t,d,z,h2,h3,h4,h5,h6,by rw [hl];exact h7⟩))
 ·have hy:rv G y=rv F y:=by
   unfold rv
   rw [jw (xs:=o.op.operands.toList) (fun t ht=>h t (kV ht)) (by simp [h3,Op.operands])]
  exact .inr (.inr (.inr ⟨h1,t,d,y,n,z,by rw [hy];exact h2,h3,h4,h5,by rw [hy];exact h6,by rw [hy];exact h7,h8⟩))
theorem Ef.tk {F:List D} {e:Eff2} (he:Ef P H0 al ops o F e):∀s v,e.e.tk=some (s,v)→g7 ops.toList o=some s:=by
 rcases he with ⟨_,_,_,_,h⟩|⟨_,rfl⟩|⟨_,_,_,_,rfl,_⟩|⟨_,_,_,_,_,_,rfl,_⟩
 ·exact h
 ·intro s v h;cases h
 ·intro s v h;cases h
 ·intro s v h;cases h
theorem Ef.dstN {F:List D} {e:Eff2} {d:Nat} {z:List D} (he:Ef P H0 al ops o F e) (hc:e.c= .al d z):o.dst=some d:=by
 rcases he with ⟨_,h,_⟩|⟨_,rfl⟩|⟨_,_,_,_,rfl,_,h,_⟩|⟨_,_,_,_,_,_,rfl,_⟩
 ·rw [hc] at h;cases h
 ·cases hc
 ·cases hc;exact h
 ·cases hc
theorem Ef.put {F:List D} {e:Eff2} {d:Nat} {z v:List D} (he:Ef P H0 al ops o F e) (hc:e.c= .put d z v):d∈o.looksAt ops:=by
 rcases he with ⟨_,h,_⟩|⟨_,rfl⟩|⟨_,_,_,_,rfl,_⟩|⟨_,_,_,_,_,_,rfl,h,_⟩
 ·rw [hc] at h;cases h
 ·cases hc
 ·cases hc
 ·cases hc;exact kV (by simp [h,Op.operands])
theorem swapT {x y:Oper} {F:List D} {e f:Eff2} (hf:Far ops x y) (hx:Ef P H0 al ops x F e) (hy:Ef P H0 al ops y (e.e.app x.dst F) f):
  Ef P H0 al ops y F f∧Ef P H0 al ops x (f.e.app y.dst F) e∧f.e.app y.dst (e.e.app x.dst F)=e.e.app x.dst (f.e.app y.dst F):=by
 have hy':Ef P H0 al ops y F f:=hy.congr (fun t ht=>(za (fun h=>(hf.d t h).1 ht) (fun v h=>(hf.t t (hx.tk t v h)).1 ht)).symm) (vd _ _ _).symm
 refine ⟨hy',hx.congr (fun t ht=>za (fun h=>hf.d' t h ht) (fun v h=>(hf.t' t (hy.tk t v h)).1 ht)) (vd _ _ _),Yd F (fun t h=>(hf.d t h).2) (fun s v h=>(hf.t s (hx.tk s v h)).2) (fun s v h=>(hf.t' s (hy.tk s v h)).2) (fun s v h v' h'=>?_)⟩
 exact (hf.t s (hx.tk s v h)).1 (gY (hy.tk s v' h'))
theorem swapH {e f:Eff2} {H:AH×NV} {S:List (Nat×Nat)} {i:Nat} {oj:Oper} (he:e.ok H0 H) (hf:f.ok H0 (e.ap H)) (hs:f.sep md oj (e.add i S)) (hn:Y2 md oj i=false) (hap:∀d z z' v,e.c= .al d z→f.c= .put d z' v→False):f.sep md oj S∧f.ok H0 H∧e.ok H0 (f.ap H)∧f.ap (e.ap H)=e.ap (f.ap H):=by
 obtain ⟨e0,ec⟩:=e
 obtain ⟨f0,fc⟩:=f
 have two:∀{σ:NV} {d d':Nat} {x y:Bool×List D} {q:Option (Bool×List D)},(d'=d→False)→upv σ d x d'=q→σ d'=q∧∀y,upv σ d' y d=σ d:=fun hne h=>⟨by rw [←h,kC hne],fun y=>kC (fun e=>hne e.symm)⟩
 cases ec with
 |no=>exact ⟨hs,hf,trivial,rfl⟩
 | al d z=>
  cases fc with
  |no=>exact ⟨trivial,trivial,he,rfl⟩
  | al d' z'=>
   simp only [Eff2.ok,Eff2.ap] at he hf ⊢
   have hne:d'=d→False:=fun e=>by subst e;rw [wW] at hf;cases hf
   refine ⟨trivial,by rw [←hf,kC hne],by rw [kC (fun e=>hne e.symm)];exact he,by rw [oX hne]⟩
  | put d' z' v'=>
   simp only [Eff2.ok,Eff2.ap] at he hf ⊢
   have hne:d'=d→False:=fun e=>by subst e;exact hap _ _ _ _ rfl rfl
   refine ⟨trivial,by rw [←hf,kC hne],by rw [kC (fun e=>hne e.symm)];exact he,by rw [oX hne]⟩
  |blk c p1 p2=>exact ⟨hs,hf,he,rfl⟩
 | put d z v=>
  cases fc with
  |no=>exact ⟨trivial,trivial,he,rfl⟩
  | al d' z'=>
   simp only [Eff2.ok,Eff2.ap] at he hf ⊢
   have hne:d'=d→False:=fun e=>by subst e;rw [wW] at hf;cases hf
   refine ⟨trivial,by rw [←hf,kC hne],by rw [kC (fun e=>hne e.symm)];exact he,by rw [oX hne]⟩
  | put d' z' v'=>
   simp only [Eff2.ok,Eff2.ap] at he hf ⊢
   have hne:d'=d→False:=fun e=>by subst e;rw [wW] at hf;cases hf
   refine ⟨trivial,by rw [←hf,kC hne],by rw [kC (fun e=>hne e.symm)];exact he,by rw [oX hne]⟩
  |blk c p1 p2=>exact ⟨hs,hf,he,rfl⟩
 | blk b o1 o2=>
  cases fc with
  |no=>exact ⟨trivial,trivial,he,rfl⟩
  |al d' z'=>exact ⟨trivial,hf,he,rfl⟩
  |put d' z' v'=>exact ⟨trivial,hf,he,rfl⟩
  | blk c p1 p2=>
   simp only [Eff2.sep,Eff2.add,List.forall_mem_cons] at hs
   obtain ⟨hne,hs⟩:=hs
   have hne:c≠b:=fun e=>by rw [hne e.symm] at hn;cases hn
   simp only [Eff2.ok,Eff2.ap] at he hf ⊢
   refine ⟨hs,⟨hf.1,?_⟩,⟨he.1,?_⟩,by rw [J0 hne]⟩
   ·rw [←kM (x:=o2) hne];exact hf.2
   ·rw [kM (Ne.symm hne)];exact he.2
def oB (P:Program) (md:Region.Mode) (ops:Array Oper) (H0:AH) (al:List Nat) (n:Nat) (E:Array Bool→List D→AH×NV→Prop):Nat→List (Nat×Nat)→Array Bool→List D→AH×NV→Prop
 |0,_,listed,F,H=>E listed F H
 |fuel+1,S,listed,F,H=>Region.ready md ops listed≠ []∧∀i∈Region.ready md ops listed,i<n∧∃o x,ops[i]?=some o∧Ef P H0 al ops o F x∧x.ok H0 H∧x.sep md o S∧oB P md ops H0 al n E fuel S (listed.setIfInBounds i true) (x.e.app o.dst F) (x.ap H)
theorem g8 {n:Nat} {E:Array Bool→List D→AH×NV→Prop} {S S':List (Nat×Nat)} (h:∀b,b∈S→b∈S'):∀(fuel:Nat) (listed:Array Bool) (F:List D) (H:AH×NV),oB P md ops H0 al n E fuel S' listed F H→oB P md ops H0 al n E fuel S listed F H
 |0,_,_,_,hh=>hh
 | fuel+1,listed,F,H,hh=>⟨hh.1,fun i hi=>by
   obtain ⟨h1,o,x,h2,h3,h4,h5,h6⟩:=hh.2 i hi
   refine ⟨h1,o,x,h2,h3,h4,?_,g8 h fuel _ _ _ h6⟩
   unfold Eff2.sep at h5 ⊢
   split
   ·rename_i b _ _ hc
    simp only [hc] at h5
    exact fun q hq=>h5 q (h q hq)
   ·trivial⟩
theorem Yz {oj:Oper} {i:Nat} (h:∀e∈oj.after,Region.binds md e=true→e.on≠i):Y2 md oj i=false:=by
 unfold Y2
 cases hb:oj.after.any fun e=>Region.binds md e&&e.on==i with
 |false=>rfl
 | true=>
  obtain ⟨e,he,h2⟩:=Array.any_eq_true'.1 hb
  simp only [Bool.and_eq_true,beq_iff_eq] at h2
  exact (h e he h2.1 h2.2).elim
theorem JG {n i:Nat} {oi:Oper} {e:Eff2} {E:Array Bool→List D→AH×NV→Prop} (hi:ops[i]?=some oi) (hs:Region.sinkB md ops n=true) (hc:Region.chainB md ops n=true) (hn:n<ops.size) (hin:i<n)
  (hdone:∀listed F H,E listed F H→∀j∈Region.ready md ops listed,n≤j):
  ∀ (fuel:Nat) (S:List (Nat×Nat)) (listed:Array Bool) (F:List D) (H:AH×NV),HeadInv md ops n listed→
   (∀j oj,ops[j]?=some oj→j≠i→listed.getD j true=false→(∀e∈oj.after,Region.binds md e=true→e.on≠i)→Far ops oi oj)→
   i∈Region.ready md ops listed→Ef P H0 al ops oi F e→e.ok H0 H→e.sep md oi S→
   oB P md ops H0 al n E fuel (e.add i S) (listed.setIfInBounds i true) (e.e.app oi.dst F) (e.ap H)→oB P md ops H0 al n E (fuel+1) S listed F H:=by
 intro fuel
 induction fuel with
 | zero=>
  intro S listed F H inv _ hr hy hy1 hy2 Hh
  refine ⟨fun h=>(by rw [h] at hr;cases hr),fun j hj=>?_⟩
  have hjn:j<n:=by
   rcases Nat.lt_or_ge j n with h|h
   ·exact h
   ·exact absurd hj (tail_waits hs hc hn inv _ i rfl hin (mem_ready.1 hr).1 j h)
  refine ⟨hjn,?_⟩
  by_cases hji:j=i
  ·subst hji;exact ⟨oi,e,hi,hy,hy1,hy2,Hh⟩
  ·have:=hdone _ _ _ Hh j (ready_mono hj hji)
   omega
 | succ fuel ih=>
  intro S listed F H inv hfree hr hy hy1 hy2 Hh
  refine ⟨fun h=>(by rw [h] at hr;cases hr),fun j hj=>?_⟩
  have hjn:j<n:=by
   rcases Nat.lt_or_ge j n with h|h
   ·exact h
   ·exact absurd hj (tail_waits hs hc hn inv _ i rfl hin (mem_ready.1 hr).1 j h)
  refine ⟨hjn,?_⟩
  by_cases hji:j=i
  ·subst hji
   refine ⟨oi,e,hi,hy,hy1,hy2,?_⟩
   exact g8 (fun b hb=>by unfold Eff2.add;split<;>simp [hb]) _ _ _ _ Hh
  ·obtain ⟨_,oj,f,hoj,hyj,hyj1,hyj2,hk⟩:=Hh.2 j (ready_mono hj hji)
   obtain ⟨hjun,oj',hoj',hall⟩:=mem_ready.1 hj
   obtain rfl:oj=oj':=by rw [hoj] at hoj';exact Option.some.inj hoj'
   have hnot:∀e∈oj.after,Region.binds md e=true→e.on≠i:=fun e he hb heq=>by
    have h1:=hall e he hb
    rw [heq,getD_both (mem_ready.1 hr).1] at h1
    cases h1
   obtain ⟨s1,s2,s3⟩:=swapT (hfree j oj hoj hji hjun hnot) hy hyj
   obtain ⟨q1,q2,q3,q4⟩:=swapH hy1 hyj1 hyj2 (Yz hnot) (fun d z z' v h1 h2=>((hfree j oj hoj hji hjun hnot).d d (hy.dstN h1)).1 (hyj.put h2))
   refine ⟨oj,f,hoj,s1,q2,q1,ih S _ _ _ (inv.set hj hjn) (fun k ok hk' hki hun hno=>?_) (ready_mono hr (Ne.symm hji)) s2 q3 hy2 ?_⟩
   ·refine hfree k ok hk' hki ?_ hno
    by_cases hjk:j=k
    ·subst hjk;exact hjun
    ·rw [getD_set_ne true hjk] at hun;exact hun
   ·rw [Array.setIfInBounds_comm _ _ hji,←s3,←q4]
    exact hk
def kz (P:Program) (md:Region.Mode) (H0:AH) (al:List Nat) (ops:Array Oper):List Oper→Nat→List (Nat×Nat)→List D→AH×NV→(List D→AH×NV→Prop)→Prop
 | [],_,_,F,H,k=>k F H
 |o::r,n,S,F,H,k=>∃x,Ef P H0 al ops o F x∧x.ok H0 H∧x.sep md o S∧kz P md H0 al ops r (n+1) (x.add n S) (x.e.app o.dst F) (x.ap H) k
theorem Qi {n g:Nat} {T:List D→AH×NV→Prop} (hs:Region.sinkB md ops n=true) (hc:Region.chainB md ops n=true) (hn:n<ops.size):
  ∀(l:List Oper) (k:Nat) (S:List (Nat×Nat)) (listed:Array Bool) (F:List D) (H:AH×NV),(∀j,j<l.length→l[j]?=ops[k+j]?)→k+l.length=n→HeadInv md ops n listed→Kb md ops g l.length k listed=true→kz P md H0 al ops l k S F H T→
  oB P md ops H0 al n (fun listed' F' H'=>Region.seqB md ops g n listed'=true∧T F' H') l.length S listed F H
 | [],k,S,listed,F,H,_,hk,_,hB,h=>by
  have:k=n:=by simpa using hk
  subst this
  exact ⟨by simpa [Kb] using hB,h⟩
 | o::l,k,S,listed,F,H,hl,hk,inv,hB,h=>by
  have h0:ops[k]?=some o:=by simpa using (hl 0 (by simp)).symm
  simp only [List.length_cons,Kb,Bool.and_eq_true] at hB
  obtain ⟨⟨hr,hf⟩,hB'⟩:=hB
  have hkn:k<n:=by simp only [List.length_cons] at hk;omega
  have hr':k∈Region.ready md ops listed:=by simpa using hr
  obtain ⟨e,he,he1,he2,hK⟩:=h
  exact JG h0 hs hc hn hkn (fun listed' F' H' hL=>seqB_ready hL.1) l.length S listed F H inv (oe h0 hf) hr' he he1 he2
   (Qi hs hc hn l (k+1) _ _ _ _ (fun j hj=>by have:=hl (j+1) (by simp;omega);simpa [Nat.add_assoc,Nat.add_comm 1 j] using this) (by simp only [List.length_cons] at hk;omega) (inv.set hr' hkn) hB' hK)
def y5:List (Nat×Nat)→List D→List D
 | [],F=>F
 |(d,b)::r,F=>(y5 r F).set d (.ptr b 0)
def ovl (σ:NV) (H:AH) (c:Nat):List (Nat×Nat)→Option AO
 | []=>qu H c
 |(d,b)::r=>if c=b then (σ d).map fun q=>.cells q.2 else ovl σ H c r
theorem vL {F:List D}:∀{L:List (Nat×Nat)},(y5 L F).length=F.length
 | []=>rfl
 |(d,b)::r=>by simp [y5,vL (L:=r)]
theorem vA {F:List D} {i:Nat}:∀{L:List (Nat×Nat)},i ∉ L.map (·.1)→(y5 L F)[i]?=F[i]?
 | [],_=>rfl
 | (d,b)::r,h=>by
  simp only [List.map_cons,List.mem_cons,not_or] at h
  unfold y5
  rw [List.getElem?_set_ne (Ne.symm h.1)]
  exact vA h.2
theorem zi {F:List D} {i b:Nat} (hi:i<F.length):∀{L:List (Nat×Nat)},(L.map (·.1)).Nodup→(i,b)∈L→(y5 L F)[i]?=some (.ptr b 0)
 | (d,c)::r,hn,h=>by
  simp only [List.map_cons,List.nodup_cons] at hn
  unfold y5
  rcases List.mem_cons.1 h with h|h
  ·injection h with h1 h2
   subst h1 h2
   rw [List.getElem?_set_self (by rw [vL];exact hi)]
  ·have hne:d≠i:=fun e=>hn.1 (by rw [e];exact List.mem_map.2 ⟨(i,b),h,rfl⟩)
   rw [List.getElem?_set_ne hne]
   exact zi hi hn.2 h
theorem uH {F:List D} {i:Nat} {v:D}:∀{L:List (Nat×Nat)},i ∉ L.map (·.1)→y5 L (F.set i v)=(y5 L F).set i v
 | [],_=>rfl
 | (d,b)::r,h=>by
  simp only [List.map_cons,List.mem_cons,not_or] at h
  unfold y5
  rw [uH h.2,jA _ h.1]
theorem zF {F:List D} {dst:Option Tmp} {v:D} {L:List (Nat×Nat)} (h:∀t,dst=some t→t ∉ L.map (·.1)):y5 L (qG F dst v)=qG (y5 L F) dst v:=by
 cases dst with
 |none=>rfl
 |some t=>exact uH (h t rfl)
theorem VE {F:List D} {dst:Option Tmp} {e:Eff} {L:List (Nat×Nat)} (h:∀t,dst=some t→t ∉ L.map (·.1)) (ht:∀s v,e.tk=some (s,v)→s ∉ L.map (·.1)):e.app dst (y5 L F)=y5 L (e.app dst F):=by
 unfold Eff.app
 rw [zF h]
 cases htk:e.tk with
 |none=>rfl
 | some q=>
  obtain ⟨s,v⟩:=q
  simp only [uH (ht s v htk)]
theorem YY {F:List D} {L L':List (Nat×Nat)} (hn:(L.map (·.1)).Nodup) (hn':(L'.map (·.1)).Nodup) (h:∀p,p∈L↔p∈L'):y5 L F=y5 L' F:=by
 apply List.ext_getElem?
 intro i
 rcases Nat.lt_or_ge i F.length with hi|hi
 ·by_cases hm:i∈L.map (·.1)
  ·obtain ⟨⟨j,b⟩,hb,rfl⟩:=List.mem_map.1 hm
   rw [zi hi hn hb,zi hi hn' ((h _).1 hb)]
  ·have hm':i ∉ L'.map (·.1):=fun hh=>by
    obtain ⟨p,hp,rfl⟩:=List.mem_map.1 hh
    exact hm (List.mem_map.2 ⟨p,(h p).2 hp,rfl⟩)
   rw [vA hm,vA hm']
 ·rw [List.getElem?_eq_none (by rw [vL];exact hi),List.getElem?_eq_none (by rw [vL];exact hi)]
theorem yJ {σ:NV} {H:AH} {c:Nat}:∀{L:List (Nat×Nat)},c ∉ L.map (·.2)→ovl σ H c L=qu H c
 | [],_=>rfl
 | (d,b)::r,h=>by
  simp only [List.map_cons,List.mem_cons,not_or] at h
  unfold ovl
  rw [if_neg h.1]
  exact yJ h.2
theorem vZ {σ:NV} {H:AH} {c d:Nat}:∀{L:List (Nat×Nat)},(L.map (·.2)).Nodup→(d,c)∈L→ovl σ H c L=(σ d).map fun q=>.cells q.2
 | (e,b)::r,hn,h=>by
  simp only [List.map_cons,List.nodup_cons] at hn
  unfold ovl
  rcases List.mem_cons.1 h with h|h
  ·injection h with h1 h2
   subst h1 h2
   rw [if_pos rfl]
  ·have hne:c≠b:=fun e=>hn.1 (by rw [←e];exact List.mem_map.2 ⟨(d,c),h,rfl⟩)
   rw [if_neg hne]
   exact vZ hn.2 h
theorem WD {σ:NV} {H:AH} {c d:Nat} {x:Bool×List D}:∀{L:List (Nat×Nat)},d ∉ L.map (·.1)→ovl (upv σ d x) H c L=ovl σ H c L
 | [],_=>rfl
 | (e,b)::r,h=>by
  simp only [List.map_cons,List.mem_cons,not_or] at h
  unfold ovl
  rw [WD h.2,kC (Ne.symm h.1)]
structure Lft (al:List Nat) (F:List D) (H:AH×NV) (G:List D) (H':AH) (L:List (Nat×Nat)):Prop where
 n1:(L.map (·.1)).Nodup
 n2:(L.map (·.2)).Nodup
 inal:∀p∈L,p.1∈al∧p.1<F.length∧qD H.1 p.2
 dom:∀d,(H.2 d).isSome=true↔d∈L.map (·.1)
 g:G=y5 L F
 nd:(H.1.map (·.1)).Nodup
 h:∀c,qu H' c=ovl H.2 H.1 c L
def Lone (al:List Nat) (ops:Array Oper) (n:Nat):Prop:=
 ∀j oj,j<n→ops[j]?=some oj→(wj al oj.op=true∧oj.guard=none∧∀t a y,oj.op= .store t a y→∀d∈al,y≠ .tmp d∧oj.dst≠some d)∨(wj al oj.op=false∧∀d∈al,d ∉ oj.looksAt ops∧oj.dst≠some d)
theorem gT {b c:Nat} {o:AO}:∀{H:AH},qD H b→qu H c=some o→c≠b
 | [],_,h=>by cases h
 | (e,x)::r,hf,h=>by
  unfold qu at h
  split at h
  ·rename_i e'
   intro hh
   exact hf.1 (hh.symm.trans e')
  ·exact gT hf.2 h
theorem freshH_set {b c:Nat} {x:AO}:∀{H:AH},qD (qF H c x) b↔qD H b
 | []=>Iff.rfl
 | (e,o)::r=>by
  unfold qF
  split
  ·rename_i h;subst h;exact Iff.rfl
  ·simp only [qD,freshH_set]
theorem uR {b:Nat} {x o:AO}:∀{H:AH},qu H b=some o→qu (qF H b x) b=some x
 | [],h=>by cases h
 | (e,q)::r,h=>by
  unfold qF
  split
  ·rename_i e'
   subst e'
   simp [qu]
  ·rename_i e'
   unfold qu at h ⊢
   rw [if_neg e'] at h ⊢
   exact uR h
theorem Jo {b:Nat} {x:AO}:∀{H:AH},(qF H b x).map (·.1)=H.map (·.1)
 | []=>rfl
 | (e,q)::r=>by
  unfold qF
  split
  ·rfl
  ·simp [Jo]
theorem zu:∀{H:AH} {b:Nat},qD H b→qu H b=none
 | [],_,_=>rfl
 | (c,o)::r,b,h=>by
  unfold qu
  rw [if_neg h.1]
  exact zu h.2
theorem Qc:∀{H:AH} {b:Nat},qu H b=none→qD H b
 | [],_,_=>trivial
 | (c,o)::r,b,h=>by
  unfold qu at h
  split at h
  ·cases h
  ·rename_i e
   exact ⟨e,Qc h⟩
theorem St.same {K:Nat→BK} {w:World} {F:List D} {t:Array Value} {H H':AH} (h:St K w F H t) (hn:(H'.map (·.1)).Nodup) (he:∀c,qu H' c=qu H c):St K w F H' t:=
 ⟨h.krel,⟨hn,fun b o hm=>h.hrel.ok b o (j4 (by rw [←he];exact wi hn hm))⟩,h.len,h.slot⟩
theorem Je {L:List (Nat×Nat)} (hn:(L.map (·.1)).Nodup) {d b c:Nat} (h1:(d,b)∈L) (h2:(d,c)∈L):b=c:=by
 induction L with
 |nil=>cases h1
 | cons p r ih=>
  simp only [List.map_cons,List.nodup_cons] at hn
  rcases List.mem_cons.1 h1 with h1|h1<;>rcases List.mem_cons.1 h2 with h2|h2
  ·rw [←h1] at h2;injection h2 with _ h2;exact h2.symm
  ·exact (hn.1 (List.mem_map.2 ⟨_,h2,by rw [←h1]⟩)).elim
  ·exact (hn.1 (List.mem_map.2 ⟨_,h1,by rw [←h2]⟩)).elim
  ·exact ih hn.2 h1 h2
theorem wS {n g:Nat} {E:Array Bool→List D→AH×NV→Prop} {K:Nat→BK} {w:World} {a:Act} {Q':Exit→Act→World→Prop} (hL:Lone al ops n) (hokall:∀(i:Nat) (o:Oper),ops[i]?=some o→jq o=true)
  (hE:∀listed F H G H' L K1 w1 (a1:Act),E listed F H→Lft al F H G H' L→St K1 w1 G H' a1.tmps→FK K w K1 w1→a1.defers=a.defers→wpAny P md ops Q' g listed a1 w1):
  ∀(fuel:Nat) (S:List (Nat×Nat)) (listed:Array Bool) (F:List D) (H:AH×NV) (G:List D) (H':AH) (L:List (Nat×Nat)) (K1:Nat→BK) (w1:World) (a1:Act),Sub H0 H.1→Lft al F H G H' L→St K1 w1 G H' a1.tmps→FK K w K1 w1→a1.defers=a.defers→oB P md ops H0 al n E fuel S listed F H→wpAny P md ops Q' (fuel+g) listed a1 w1
 |0,S,_,F,H,G,H',L,K1,w1,a1,hsub,hlf,hs,hfk,hd,h=>by rw [Nat.zero_add];exact hE _ F H G H' L K1 w1 a1 h hlf hs hfk hd
 | fuel+1,S,listed,F,H,G,H',L,K1,w1,a1,hsub,hlf,hs,hfk,hd,h=>by
  rw [show fuel+1+g=(fuel+g)+1 by omega]
  refine ⟨fun h0=>absurd h0 h.1,fun i hi=>?_⟩
  obtain ⟨hin,o,e,ho,he,hok,hsp,hk⟩:=h.2 i hi
  unfold wpOp
  simp only [ho]
  have hal:∀d,d∈L.map (·.1)→d∈al:=fun d hd=>by
   obtain ⟨p,hp,rfl⟩:=List.mem_map.1 hd
   exact (hlf.inal p hp).1
  have hnew:∀c o',qu H.1 c=some o'→c ∉ L.map (·.2):=fun c o' hc hm=>by
   obtain ⟨p,hp,rfl⟩:=List.mem_map.1 hm
   exact gT (hlf.inal p hp).2.2 hc rfl
  have hlone:wj al o.op=false→∀d∈al,d ∉ o.looksAt ops∧o.dst≠some d:=fun hna=>by
   rcases hL i o hin ho with ⟨h1,_⟩|⟨_,h2⟩
   ·rw [hna] at h1;cases h1
   ·exact h2
  have hsubr:Sub H0 H':=fun c o' hc=>by
   obtain ⟨o2,h1,h2⟩:=hsub c o' hc
   exact ⟨o2,by rw [hlf.h c,yJ (hnew c o2 h1)];exact h1,h2⟩
  have hlen:G.length=F.length:=by rw [hlf.g,vL]
  have hagree:wj al o.op=false→∀t∈o.looksAt ops,G.getD t .any=F.getD t .any:=fun hna t ht=>by
   rw [hlf.g,List.getD_eq_getElem?_getD,vA (fun hm=>((hlone hna) t (hal t hm)).1 ht),←List.getD_eq_getElem?_getD]
  rcases he with ⟨g1,gc,gna,g2,gtk⟩|⟨g1,rfl⟩|⟨gg,t,d,z,rfl,hop,hdst,hz,hdal,hdl⟩|⟨gg,t,d,y,m,z,rfl,hop,hdal,hty,hoc,hcl,hzl⟩
  ·have ha1:=hagree gna
   rw [if_pos (k8 hs (by rw [wO ha1];exact g1))]
   have hop:∀t,.tmp t∈o.op.operands.toList→G.getD t .any=F.getD t .any:=fun t ht=>ha1 t (kV ht)
   have hok':e.ok H0 (H',nv0):=by
    unfold Eff2.ok at hok ⊢
    split
    ·rename_i c o1 o2 hc
     simp only [hc] at hok
     exact ⟨hok.1,by rw [hlf.h,yJ (hnew _ _ hok.2)];exact hok.2⟩
    ·trivial
    ·rename_i hc;rw [hc] at gc;cases gc
    ·rename_i hc;rw [hc] at gc;cases gc
   have happ:e.e.app o.dst G=y5 L (e.e.app o.dst F):=by
    rw [hlf.g]
    exact VE (fun t ht hm=>((hlone gna) t (hal t hm)).2 ht) (fun s v hv hm=>((hlone gna) s (hal s hm)).1 (gY (gtk s v hv)))
   refine .inl (Oper.wp_mono (fun a2 w2 h2=>?_) (g2 H' hsubr hok' K1 w1 a1 G Q' hs hop hlen))
   obtain ⟨F',H'',K',⟨hF',hH'⟩,q2,q3,q4⟩:=h2
   rw [hF',hH',happ] at q3
   refine wS hL hokall hE fuel S _ _ _ _ _ L K' w2 a2 (Eff2.sub hsub hok) ?_ q3 (hfk.trans q2) (q4.trans hd) hk
   have hdom:(e.ap H).2=H.2:=by
    unfold Eff2.ap
    split<;>first|rfl|(rename_i hc;rw [hc] at gc;cases gc)
   refine ⟨hlf.n1,hlf.n2,fun p hp=>⟨(hlf.inal p hp).1,by rw [vd];exact (hlf.inal p hp).2.1,?_⟩,fun d=>by rw [hdom];exact hlf.dom d,rfl,?_,fun c=>?_⟩
   ·unfold Eff2.ap
    split<;>first|exact (hlf.inal p hp).2.2|exact freshH_set.2 (hlf.inal p hp).2.2
   ·unfold Eff2.ap
    split<;>first|exact hlf.nd|(rw [Jo];exact hlf.nd)
   ·unfold Eff2.ok at hok
    rw [hdom]
    unfold Eff2.ap
    split
    ·rename_i b o1 o2 hc
     simp only [hc] at hok
     have hb:=hnew _ _ hok.2
     by_cases hcb:c=b
     ·subst hcb
      rw [uR (o:=o1) (by rw [hlf.h,yJ hb];exact hok.2),yJ hb,uR hok.2]
     ·rw [kM hcb,hlf.h]
      by_cases hm:c∈L.map (·.2)
      ·obtain ⟨⟨d,c⟩,hp,rfl⟩:=List.mem_map.1 hm
       rw [vZ hlf.n2 hp,vZ hlf.n2 hp]
      ·rw [yJ hm,yJ hm,kM hcb]
    ·exact hlf.h c
    ·exact hlf.h c
    ·exact hlf.h c
  ·have hna:wj al o.op=false:=by
    rcases hL i o hin ho with ⟨_,h2,_⟩|⟨h1,_⟩
    ·unfold gst at g1;simp [h2] at g1
    ·exact h1
   rw [if_neg (by rw [k8 hs (by rw [wO (hagree hna)];exact g1)];simp)]
   have hp:qG G o.dst (.tup [])=y5 L (qG F o.dst (.tup [])):=by
    rw [hlf.g,zF (fun t ht hm=>((hlone hna) t (hal t hm)).2 ht)]
   refine wS hL hokall hE fuel S _ _ H _ _ L K1 w1 _ hsub ⟨hlf.n1,hlf.n2,fun p hp=>⟨(hlf.inal p hp).1,?_,(hlf.inal p hp).2.2⟩,hlf.dom,hp,hlf.nd,hlf.h⟩ (w8 hs o.dst) hfk ((qy o.dst undef).trans hd) hk
   have:=(hlf.inal p hp).2.1
   show p.1<(Eff.app ⟨none,.tup []⟩ o.dst F).length
   rw [vd]
   exact this
  ·have hgs:gst ops.toList G o=some true:=by unfold gst;rw [gg]
   rw [if_pos (k8 hs hgs)]
   have hn:H.2 d=none:=hok
   have hdL:d ∉ L.map (·.1):=fun hm=>by
    have:=(hlf.dom d).2 hm
    rw [hn] at this
    cases this
   have hap:aop P ops.toList o G H' (fun F' H''=>∃b,qD H' b∧F'=G.set d (.ptr b 0)∧H''=(b,.cells z)::H'):=by
    simp only [aop,hop,hz,hdst]
    exact fun b hb=>⟨b,hb,rfl,rfl⟩
   refine .inl (Oper.wp_mono (fun a2 w2 h2=>?_) (kS (Q:=Q') hs (by unfold jq;simp [hop,Op.operands]) hap))
   obtain ⟨F',H'',K',⟨b,hb,hF',hH'⟩,q2,q3,q4⟩:=h2
   rw [hF',hH'] at q3
   have hbn:=zu hb
   have hbL:b ∉ L.map (·.2):=fun hm=>by
    obtain ⟨⟨d',c⟩,hp,rfl⟩:=List.mem_map.1 hm
    rw [hlf.h,vZ hlf.n2 hp] at hbn
    have:=(hlf.dom d').2 (List.mem_map.2 ⟨_,hp,rfl⟩)
    cases hq:H.2 d' with
    |none=>rw [hq] at this;cases this
    |some q=>rw [hq] at hbn;cases hbn
   refine wS hL hokall hE fuel S _ (Eff.app ⟨none,.any⟩ o.dst F) (H.1,upv H.2 d (false,z)) _ _ ((d,b)::L) K' w2 a2 hsub ⟨?_,?_,fun p hp=>?_,fun c=>?_,?_,hlf.nd,fun c=>?_⟩ q3 (hfk.trans q2) (q4.trans hd) hk
   ·simp only [List.map_cons,List.nodup_cons];exact ⟨hdL,hlf.n1⟩
   ·simp only [List.map_cons,List.nodup_cons];exact ⟨hbL,hlf.n2⟩
   ·rw [vd]
    rcases List.mem_cons.1 hp with rfl|hp
    ·refine ⟨hdal,hdl,Qc ?_⟩
     rw [hlf.h,yJ hbL] at hbn
     exact hbn
    ·exact hlf.inal p hp
   ·show (upv H.2 d _ c).isSome=true↔_
    simp only [List.map_cons,List.mem_cons]
    by_cases hc:c=d
    ·subst hc;simp [wW]
    ·rw [kC hc,hlf.dom c];simp [hc]
   ·rw [hdst]
    show G.set d (.ptr b 0)=(y5 L (F.set d .any)).set d (.ptr b 0)
    rw [uH hdL,List.set_set,hlf.g]
   ·show qu ((b,.cells z)::H') c=ovl (upv H.2 d (false,z)) H.1 c ((d,b)::L)
    unfold qu ovl
    split
    ·rw [wW];rfl
    ·rw [WD hdL];exact hlf.h c
  ·have hgs:gst ops.toList G o=some true:=by unfold gst;rw [gg]
   rw [if_pos (k8 hs hgs)]
   have hn:H.2 d=some (false,z):=hok
   have hdL:d∈L.map (·.1):=(hlf.dom d).1 (by rw [hn];rfl)
   obtain ⟨⟨d',b⟩,hpL,rfl⟩:=List.mem_map.1 hdL
   simp only at hop hn hdal hok hk hsp hdL
   have hst:=hL i o hin ho
   have hyd:∀d∈al,y≠ .tmp d∧o.dst≠some d:=by
    rcases hst with ⟨_,_,h3⟩|⟨h3,_⟩
    ·exact h3 _ _ _ hop
    ·rw [hop] at h3;simp [wj,hdal] at h3
   have hGd:rv G (.tmp d')= .ptr b 0:=by
    show (G.getD d' .any).view=_
    rw [hlf.g,List.getD_eq_getElem?_getD,zi (hlf.inal _ hpL).2.1 hlf.n1 hpL]
    rfl
   have hGy:rv G y=rv F y:=by
    unfold rv
    cases y with
    | tmp s=>
     simp only [ev]
     rw [hlf.g,List.getD_eq_getElem?_getD,vA (fun hm=>(hyd s (hal s hm)).1 rfl),←List.getD_eq_getElem?_getD]
    |_=>rfl
   have hb:qu H' b=some (.cells z):=by rw [hlf.h,vZ hlf.n2 hpL,hn];rfl
   have hap:aop P ops.toList o G H' (fun F' H''=>F'=qG G o.dst (.tup [])∧H''=qF H' b (.cells (cellsOf (rv F y)++z.drop m))):=by
    simp only [aop,hop,hty,hGd,hb,hGy]
    exact ⟨hoc,hcl,by omega,by first|rfl|trivial,by simp⟩
   refine .inl (Oper.wp_mono (fun a2 w2 h2=>?_) (kS (Q:=Q') hs (hokall i o ho) hap))
   obtain ⟨F',H'',K',⟨hF',hH'⟩,q2,q3,q4⟩:=h2
   rw [hF',hH'] at q3
   refine wS hL hokall hE fuel S _ (Eff.app ⟨none,.tup []⟩ o.dst F) (H.1,upv H.2 d' (true,cellsOf (rv F y)++z.drop m)) _ _ L K' w2 a2 hsub ⟨hlf.n1,hlf.n2,fun p hp=>?_,fun c=>?_,?_,hlf.nd,fun c=>?_⟩ q3 (hfk.trans q2) (q4.trans hd) hk
   ·rw [vd];exact hlf.inal p hp
   ·by_cases hc:c=d'
    ·subst hc;show (upv H.2 c _ c).isSome=true↔_;rw [wW];simp only [Option.isSome_some,true_iff];exact hdL
    ·show (upv H.2 d' _ c).isSome=true↔_;rw [kC hc,hlf.dom c]
   ·show qG G o.dst (.tup [])=y5 L (qG F o.dst (.tup []))
    rw [hlf.g,zF (fun t ht hm=>(hyd t (hal t hm)).2 ht)]
   ·show qu (qF H' b _) c=ovl (upv H.2 d' _) H.1 c L
    by_cases hcb:c=b
    ·subst hcb
     rw [uR hb,vZ hlf.n2 hpL,wW]
     rfl
    ·rw [kM hcb,hlf.h]
     by_cases hm:c∈L.map (·.2)
     ·obtain ⟨⟨d2,c⟩,hp,rfl⟩:=List.mem_map.1 hm
      rw [vZ hlf.n2 hp,vZ hlf.n2 hp,kC]
      intro e
      simp only at e hcb
      subst e
      have:=Je hlf.n1 hp hpL
      exact hcb this
     ·rw [yJ hm,yJ hm]
def oC (ops:Array Oper) (n:Nat):Bool:=decide (n<ops.size)&&(Region.sinkB .any ops n&&Region.chainB .any ops n&&Kb .any ops (ops.size - n) n 0 (Array.replicate ops.size false))
theorem ZN {T:List D→AH×NV→Prop} {K:Nat→BK} {w:World} {F:List D} {H:AH} {a:Act} {Q':Exit→Act→World→Prop} {pre suf:List Oper} (hB:oC ops pre.length=true) (hps:pre++suf=ops.toList)
  (hs:St K w F H a.tmps) (hsub:Sub H0 H) (hL:Lone al ops pre.length) (hokall:∀o∈ops.toList,jq o=true) (hc:kz P .any H0 al ops pre 0 [] F (H,nv0) T)
  (hT:∀F1 H1 G1 H2 L K1 w1 (a1:Act),T F1 H1→Lft al F1 H1 G1 H2 L→St K1 w1 G1 H2 a1.tmps→FK K w K1 w1→a1.defers=a.defers→wpList P ops Q' suf a1 w1):wpAny P .any ops Q' ops.size (Array.replicate ops.size false) a {w with drawn:=w.drawn+1}:=by
 obtain ⟨K',hfk,hs'⟩:=hs.drew
 have hlen:pre.length+suf.length=ops.size:=by rw [←List.length_append,hps];simp
 unfold oC at hB
 simp only [Bool.and_eq_true,decide_eq_true_eq] at hB
 obtain ⟨hne,⟨h1,h2⟩,h3⟩:=hB
 have inv0:HeadInv .any ops pre.length (Array.replicate ops.size false):=
  ⟨by simp,fun j oj _ hl=>(by rw [getD_replicate_false] at hl;cases hl),fun t _ ht=>getD_in (by simpa using ht) (getD_replicate_false _ _)⟩
 have hget:∀j:Nat,ops.toList[j]?=ops[j]?:=fun j=>Array.getElem?_toList
 have hlex:=Qi (P:=P) (H0:=H0) (al:=al) (md:= .any) (g:=ops.size - pre.length) h1 h2 hne pre 0 [] _ F (H,nv0) (fun j hj=>by
  rw [Nat.zero_add,←hget];conv=>{rhs;rw [←hps]};rw [List.getElem?_append_left hj]) (Nat.zero_add _) inv0 h3 hc
 have hg:suf.length=ops.size - pre.length:=by omega
 have:=wS (a:=a) (Q':=Q') (K:=K) (w:=w) (g:=ops.size - pre.length) hL (fun i o hi=>hokall o (by rw [←Array.getElem?_toList] at hi;exact List.mem_of_getElem? hi)) (fun listed F1 H1 G1 H2 L K1 w1 a1 hE hlf hs1 hfk1 hd1=>by
  have hw:wpList P ops Q' suf a1 w1:=hT F1 H1 G1 H2 L K1 w1 a1 hE.2 hlf hs1 hfk1 hd1
  have:=wpAny_of_seq (md:= .any) (Q':=Q') suf pre.length listed a1 w1 (fun j=>by
   rw [←hget];exact (idx2 hps j).symm) (by rw [hg];exact hE.1) hw
  rwa [hg] at this) _ _ _ F (H,nv0) F H [] K' _ a hsub ⟨.nil,.nil,fun p hp=>(by cases hp),fun d=>(by simp [nv0]),rfl,hs.hrel.nd,fun c=>rfl⟩ hs' hfk rfl hlex
 rw [show pre.length+(ops.size - pre.length)=ops.size by omega] at this
 exact this
theorem Ze {T:List D→Prop} {K:Nat→BK} {w:World} {F:List D} {H:AH} {a:Act} {Q':Exit→Act→World→Prop} {pre suf:List Oper} (hB:oC ops pre.length=true) (hps:pre++suf=ops.toList)
  (hs:St K w F H a.tmps) (hc:chain P H ops pre F T)
  (hT:∀F1 K1 w1 (a1:Act),T F1→St K1 w1 F1 H a1.tmps→FK K w K1 w1→a1.defers=a.defers→wpList P ops Q' suf a1 w1):wpAny P .any ops Q' ops.size (Array.replicate ops.size false) a {w with drawn:=w.drawn+1}:=by
 obtain ⟨K',hfk,hs'⟩:=hs.drew
 have hlen:pre.length+suf.length=ops.size:=by rw [←List.length_append,hps];simp
 unfold oC at hB
 simp only [Bool.and_eq_true,decide_eq_true_eq] at hB
 obtain ⟨hne,⟨h1,h2⟩,h3⟩:=hB
 have inv0:HeadInv .any ops pre.length (Array.replicate ops.size false):=
  ⟨by simp,fun j oj _ hl=>(by rw [getD_replicate_false] at hl;cases hl),fun t _ ht=>getD_in (by simpa using ht) (getD_replicate_false _ _)⟩
 have hget:∀j:Nat,ops.toList[j]?=ops[j]?:=fun j=>Array.getElem?_toList
 have hlex:=oD (P:=P) (H:=H) (md:= .any) (g:=ops.size - pre.length) h1 h2 hne pre 0 _ F (fun j hj=>by
  rw [Nat.zero_add,←hget];conv=>{rhs;rw [←hps]};rw [List.getElem?_append_left hj]) (Nat.zero_add _) inv0 h3 hc
 have hg:suf.length=ops.size - pre.length:=by omega
 have:=vO (a:=a) (Q':=Q') (K:=K) (w:=w) (g:=ops.size - pre.length) (fun listed F1 K1 w1 a1 hE hs1 hfk1 hd1=>by
  have hw:wpList P ops Q' suf a1 w1:=hT F1 K1 w1 a1 hE.2 hs1 hfk1 hd1
  have:=wpAny_of_seq (md:= .any) (Q':=Q') suf pre.length listed a1 w1 (fun j=>by
   rw [←hget];exact (idx2 hps j).symm) (by rw [hg];exact hE.1) hw
  rwa [hg] at this) _ _ F K' _ a hs' hfk rfl hlex
 rw [show pre.length+(ops.size - pre.length)=ops.size by omega] at this
 exact this
end
section
variable {P:Program} {ops:List Oper} {o:Oper} {F:List D} {H0:AH} {K:Nat→BK} {w:World} {a:Act}
theorem qS {H H':AH} {e:Eff} (hok:jq o=true) (h:∀G:List D,(∀t,.tmp t∈o.op.operands.toList→G.getD t .any=F.getD t .any)→G.length=F.length→aop P ops o G H (fun G' H''=>G'=e.app o.dst G∧H''=H')):oN P H H' o F e:=
 fun K w a G Q hs hG hlen=>kS hs hok (h G hG hlen)
theorem VC (hs:St K w F H0 a.tmps) (hok:jq o=true) {k:List D→Prop} (h:qO P (rv F) H0 o.op fun d=>k (qG F o.dst d)):∃e:Eff,k (e.app o.dst F)∧e.tk=none∧∀H,Sub H0 H→oN P H H o F e:=by
 have hr:=hs.ops (xs:=o.op.operands) (by unfold jq at hok;simp only [Bool.and_eq_true] at hok;exact hok.1)
 obtain ⟨d,hd,hy⟩:=oA h ⟨K,w,a.eval,hs.krel,hs.hrel,hr⟩
 have hn:=hs.hrel.nd
 refine ⟨⟨none,d⟩,hd,rfl,fun H hsub K w a G Q hs hG hlen=>?_⟩
 have hr:∀x∈o.op.operands.toList,RepV K w (rv F x) (a.eval x):=fun x hx=>by
  have:=hs.ops (xs:=o.op.operands) (by unfold jq at hok;simp only [Bool.and_eq_true] at hok;exact hok.1) x hx
  unfold rv at this ⊢
  rwa [jw hG hx] at this
 obtain ⟨v,K',w',h1,h2,h3,h4⟩:=hy K w a.eval (o.dst.getD 0) hs.krel (hsub.hrel hn hs.hrel) hr
 exact qL h1 ⟨_,H,K',⟨rfl,rfl⟩,h2.fk hs.krel,hs.put (h2.keep hs.krel) (fun _ _ h=>h) h3 (hs.hrel.pres hs.krel h2) o.dst (fun i hi=>by rw [hi] at h4;exact h4),qy _ _⟩
theorem VL (hs:St K w F H0 a.tmps) (hok:jq o=true) {k:List D→Prop} (h:jD P ops o F H0 k):∃e:Eff,k (e.app o.dst F)∧(∀s v,e.tk=some (s,v)→g7 ops o=some s)∧∀H,Sub H0 H→oN P H H o F e:=by
 have viaVal:∀h:qO P (rv F) H0 o.op (fun d=>k (qG F o.dst d)),∃e:Eff,k (e.app o.dst F)∧(∀s v,e.tk=some (s,v)→g7 ops o=some s)∧∀H,Sub H0 H→oN P H H o F e:=fun h=>by
  obtain ⟨e,h1,h2,h3⟩:=VC hs hok h
  exact ⟨e,h1,fun s v hsv=>(by rw [h2] at hsv;cases hsv),h3⟩
 have evG:∀(s:Nat),.tmp s∈o.op.operands.toList→∀G:List D,(∀t,.tmp t∈o.op.operands.toList→G.getD t .any=F.getD t .any)→ev G (.tmp s)=ev F (.tmp s):=fun s hm G hG=>hG s hm
 cases ho:o.op
 case move x=>
  cases x with
  | tmp s=>
   simp only [jD,aop,ho] at h
   cases hd:o.dst with
   | none=>
    simp only [hd] at h
    refine ⟨⟨none,.any⟩,h,fun s v hsv=>(by cases hsv),fun H _=>qS (ops:=ops) hok fun G hG hlen=>?_⟩
    simp only [aop,ho,hd]
    exact ⟨rfl,by trivial⟩
   | some d=>
    simp only [hd] at h
    by_cases ht:takes ops d=true
    ·rw [if_pos ht] at h
     refine ⟨⟨some (s,rv F (.tmp s)),ev F (.tmp s)⟩,h,fun s' v hsv=>?_,fun H _=>qS (ops:=ops) hok fun G hG hlen=>?_⟩
     ·simp only [Option.some.injEq,Prod.mk.injEq] at hsv
      simp [g7,ho,hd,ht,hsv.1]
     ·have he:=evG s (by simp [ho,Op.operands]) G hG
      simp only [aop,ho,hd,if_pos ht,rv,he]
      exact ⟨rfl,by trivial⟩
    ·rw [if_neg ht] at h
     refine ⟨⟨none,rv F (.tmp s)⟩,h,fun s v hsv=>(by cases hsv),fun H _=>qS (ops:=ops) hok fun G hG hlen=>?_⟩
     have he:=evG s (by simp [ho,Op.operands]) G hG
     simp only [aop,ho,hd,if_neg ht,rv,he]
     exact ⟨rfl,by trivial⟩
  | const c=>
   simp only [jD,aop,ho] at h
   exact ⟨⟨none,ev F (.const c)⟩,h,fun s v hsv=>(by cases hsv),fun H _=>qS (ops:=ops) hok fun G hG hlen=>by simp only [aop,ho];exact ⟨rfl,by trivial⟩⟩
  | global g=>
   simp only [jD,aop,ho] at h
   exact ⟨⟨none,ev F (.global g)⟩,h,fun s v hsv=>(by cases hsv),fun H _=>qS (ops:=ops) hok fun G hG hlen=>by simp only [aop,ho];exact ⟨rfl,by trivial⟩⟩
  | func f=>
   simp only [jD,aop,ho] at h
   exact ⟨⟨none,ev F (.func f)⟩,h,fun s v hsv=>(by cases hsv),fun H _=>qS (ops:=ops) hok fun G hG hlen=>by simp only [aop,ho];exact ⟨rfl,by trivial⟩⟩
 case assign x=>
  cases x with
  | tmp s=>
   simp only [jD,aop,ho] at h
   cases hd:o.dst with
   | none=>
    simp only [hd] at h
    refine ⟨⟨none,.any⟩,h,fun s v hsv=>(by cases hsv),fun H _=>qS (ops:=ops) hok fun G hG hlen=>?_⟩
    simp only [aop,ho,hd]
    exact ⟨rfl,by trivial⟩
   | some d=>
    simp only [hd] at h
    refine ⟨⟨some (s,rv F (.tmp s)),ev F (.tmp s)⟩,h,fun s' v hsv=>?_,fun H _=>qS (ops:=ops) hok fun G hG hlen=>?_⟩
    ·simp only [Option.some.injEq,Prod.mk.injEq] at hsv
     simp [g7,ho,hsv.1]
    ·have he:=evG s (by simp [ho,Op.operands]) G hG
     simp only [aop,ho,hd,rv,he]
     exact ⟨rfl,by trivial⟩
  | const c=>
   simp only [jD,aop,ho] at h
   exact ⟨⟨none,ev F (.const c)⟩,h,fun s v hsv=>(by cases hsv),fun H _=>qS (ops:=ops) hok fun G hG hlen=>by simp only [aop,ho];exact ⟨rfl,by trivial⟩⟩
  | global g=>
   simp only [jD,aop,ho] at h
   exact ⟨⟨none,ev F (.global g)⟩,h,fun s v hsv=>(by cases hsv),fun H _=>qS (ops:=ops) hok fun G hG hlen=>by simp only [aop,ho];exact ⟨rfl,by trivial⟩⟩
  | func f=>
   simp only [jD,aop,ho] at h
   exact ⟨⟨none,ev F (.func f)⟩,h,fun s v hsv=>(by cases hsv),fun H _=>qS (ops:=ops) hok fun G hG hlen=>by simp only [aop,ho];exact ⟨rfl,by trivial⟩⟩
 case extract x ix=>
  cases x with
  | tmp s=>
   simp only [jD,aop,ho] at h
   cases hd:o.dst with
   |none=>simp only [hd] at h
   | some d=>
    simp only [hd] at h
    split at h
    ·rename_i d' ds hdd hev
     simp only [Option.some.injEq] at hdd
     subst hdd
     split at h
     ·rename_i c hc
      obtain ⟨hF,hT⟩:=uI hs hev (by simp)
      obtain ⟨vs,hv,hl,hh⟩:=hs.slot s _ _ hF hT
      have hix:ix<vs.size:=by rw [hl];exact (List.getElem?_eq_some_iff.1 hc).1
      have hfact:=(hh ix c _ hc (Array.getElem?_eq_getElem hix)).rep.fact
      refine ⟨⟨none,c.view1⟩,h hfact,fun s v hsv=>(by cases hsv),fun H _=>qS (ops:= []) hok fun G hG hlen=>?_⟩
      have he:=evG s (by simp [ho,Op.operands]) G hG
      rw [hev] at he
      simp only [aop,ho,hd,he,hc,takes,List.any_nil,Bool.false_eq_true,if_false]
      exact fun _=>⟨rfl,by trivial⟩
     ·exact h.elim
    ·exact h.elim
  |_=>exact viaVal (by simpa only [jD,aop,ho] using h)
 case alloc t=>simp only [jD,ho] at h
 case box t x=>simp only [jD,ho] at h
 case store t x y=>simp only [jD,ho] at h
 case load t x=>exact viaVal (by simpa only [jD,ho] using h)
 case binOp bo t x y ty=>exact viaVal (by simpa only [jD,ho] using h)
 case call c=>
  cases hf:c.callee with
  | value f=>
   simp only [jD,ho,hf] at h
   split at h
   ·rename_i g caps hg
    obtain ⟨d,hc',hk⟩:=h
    have hc:=hc' H0 (Sub.refl H0)
    have hops:o.op.operands=#[f]++c.args:=by simp only [ho,Op.operands,Call.operands,hf]
    have hse:∀H,Sub H0 H→oN P H H o F ⟨none,d⟩:=fun H hsub=>qS (ops:=ops) hok fun G hG hlen=>by
     have h1:rv G f= .fn g caps:=by rw [←hg];unfold rv;rw [jw hG (by rw [hops];simp)]
     have h2:c.args.toList.map (rv G)=c.args.toList.map (rv F):=List.map_congr_left fun x hx=>by
      unfold rv
      rw [jw hG (by rw [hops];simp;exact .inr (by simpa using hx))]
     simp only [aop,ho,hf,h1,h2]
     exact (hc' H hsub).mono fun d' H' ⟨e1,e2⟩ _=>by subst e1 e2;exact ⟨rfl,by trivial⟩
    refine ⟨⟨none,d⟩,hk ?_,fun s v hsv=>(by cases hsv),hse⟩
    -- what the call hands back obeys its bounds
    have hap:aop P ops o F H0 (fun _ _=>fact d.view):=by
     simp only [aop,ho,hf,hg]
     exact hc.mono fun d' H' ⟨e1,_⟩ hfct=>by subst e1;exact hfct
    obtain ⟨a',w',F',H',K',hfct,_⟩:=vT (kS (Q:=fun _ _ _=>False) hs hok hap)
    exact hfct
   ·exact h.elim
  |invoke r m=>exact viaVal (by simpa only [jD,aop,ho,hf] using h)
  | builtin b=>
   cases b
   case append=>
    simp only [jD,aop,ho,hf] at h
    split at h
    ·rename_i s x t u d hargs htys hd
     split at h
     ·rename_i xs e sz bs hev hap
      have hops:o.op.operands=#[]++c.args:=by simp only [ho,Op.operands,Call.operands,hf]
      have hms: .tmp s∈o.op.operands.toList:=by rw [hops,kI hargs];simp
      have hmx:x∈o.op.operands.toList:=by rw [hops,kI hargs];simp
      split at h
      ·rename_i ys hy
       obtain ⟨h1,h2,h3,h4⟩:=h
       refine ⟨⟨some (s,.slc xs),.own (xs++ys)⟩,by rw [hd];exact h4,fun s' v hsv=>?_,fun H _=>qS (ops:=ops) hok fun G hG hlen=>?_⟩
       ·simp only [Option.some.injEq,Prod.mk.injEq] at hsv
        simp [g7,ho,hf,hargs,hsv.1]
       ·have he:=evG s hms G hG
        have hx:rv G x= .slc ys:=by rw [←hy];unfold rv;rw [jw hG hmx]
        rw [hev] at he
        simp only [aop,ho,hf,hargs,htys,hd,he,hap,hx]
        exact ⟨h1,h2,h3,rfl,by trivial⟩
      ·rename_i l hy
       obtain ⟨h1,h2,h3,h4⟩:=h
       refine ⟨⟨some (s,.slc xs),.own (xs++l.map qA)⟩,by rw [hd];exact h4,fun s' v hsv=>?_,fun H _=>qS (ops:=ops) hok fun G hG hlen=>?_⟩
       ·simp only [Option.some.injEq,Prod.mk.injEq] at hsv
        simp [g7,ho,hf,hargs,hsv.1]
       ·have he:=evG s hms G hG
        have hx:rv G x= .str l:=by rw [←hy];unfold rv;rw [jw hG hmx]
        rw [hev] at he
        simp only [aop,ho,hf,hargs,htys,hd,he,hap,hx]
        exact ⟨h1,h2,h3,rfl,by trivial⟩
      ·exact h.elim
     ·exact h.elim
    ·exact h.elim
   case clear=>simp only [jD,ho,hf] at h
   all_goals exact viaVal (by simpa only [jD,aop,ho,hf] using h)
 case makeMap=>simp only [jD,ho] at h
 case mapUpdate=>simp only [jD,ho] at h
 case mapEntry=>simp only [jD,ho] at h
 case entryStore=>simp only [jD,ho] at h
 all_goals exact viaVal (by simpa only [jD,aop,ho] using h)
end
section
variable {P:Program} {ops:Array Oper} {H0:AH} {al:List Nat}
def Some (F:List D) (H:AH):Prop:=∃(K:Nat→BK) (w:World) (a:Act),St K w F H a.tmps
theorem wL {T:List D→AH×NV→Prop} {k:List D→Prop} (hn:(H0.map (·.1)).Nodup) {H:AH} {b:NV} {S:List (Nat×Nat)} (hsub:Sub H0 H) {r:List Oper}:∀(l:List Oper) (n:Nat) (F:List D),(∀o∈l,jq o=true∧wj al o.op=false)→Some F H→ya P ops.toList l F H0 k→
  (∀F',Some F' H→k F'→kz P .any H0 al ops r (n+l.length) S F' (H,b) T)→kz P .any H0 al ops (l++r) n S F (H,b) T
 | [],n,F,_,hs,h,hk=>hk F hs h
 | o::l,n,F,hok,⟨K,w,a,hs⟩,h,hk=>by
  have hs0:St K w F H0 a.tmps:=hsub.st hn hs
  have hk':∀F',Some F' H→k F'→kz P .any H0 al ops r (n+1+l.length) S F' (H,b) T:=fun F' h1 h2=>by
   have:=hk F' h1 h2
   rwa [List.length_cons,show n+(l.length+1)=n+1+l.length by omega] at this
  have hgo:gst ops.toList F o=some true→jD P ops.toList o F H0 (fun F'=>ya P ops.toList l F' H0 k)→kz P .any H0 al ops (o::l++r) n S F (H,b) T:=fun hg h=>by
   obtain ⟨e,h1,h2,h3⟩:=VL hs0 (hok o (.head _)).1 h
   refine ⟨⟨e,.no⟩,.inl ⟨hg,rfl,(hok o (.head _)).2,fun H hsub _=>h3 H hsub,h2⟩,trivial,trivial,?_⟩
   obtain ⟨a',w',F',H',K',⟨hF',hH'⟩,_,hs',_⟩:=vT (h3 H hsub K w a F (fun _ _ _=>False) hs (fun _ _=>rfl) rfl)
   rw [hF',hH'] at hs'
   exact wL hn hsub l _ _ (fun o ho=>hok o (.tail _ ho)) ⟨K',w',a',hs'⟩ h1 hk'
  have hskip:gst ops.toList F o=some false→ya P ops.toList l (qG F o.dst (.tup [])) H0 k→kz P .any H0 al ops (o::l++r) n S F (H,b) T:=fun hg h=>
   ⟨⟨⟨none,.tup []⟩,.no⟩,.inr (.inl ⟨hg,rfl⟩),trivial,trivial,wL hn hsub l _ _ (fun o ho=>hok o (.tail _ ho)) ⟨K,w,a.put o.dst undef,w8 hs o.dst⟩ h hk'⟩
  unfold gst at hgo hskip
  cases hg:o.guard with
  | none=>
   simp only [ya,hg] at h hgo
   exact hgo trivial h
  | some g=>
   obtain ⟨j,want⟩:=g
   simp only [ya,hg] at h hgo hskip
   cases hdd:(ops.toList[j]?).bind (·.dst) with
   | none=>
    simp only [hdd] at h hskip
    exact hskip trivial h
   | some t=>
    simp only [hdd] at h hgo hskip
    split at h
    ·rename_i b hb
     simp only [hb] at hgo hskip
     by_cases e:b=want
     ·exact hgo (by simp [e]) (h.1 e)
     ·exact hskip (by simp [e]) (h.2 (by cases b<;>cases want<;>simp_all))
    ·rename_i ds hb
     simp only [hb] at hskip
     exact hskip trivial h
    ·exact h.elim
theorem Sub.take {H0 H:AH} {b off:Nat} {cs:List D} {xs:List (List D)} (h:Sub H0 H) (hb:qu H b=some (.cells cs)) (ho:cs[off]?=some (.own xs)) (h0:qu H0 b=none∨qu H0 b=some (wkO (.cells cs))):Sub H0 (qF H b (.cells (cs.set off (.slc xs)))):=by
 rcases h0 with h0|h0
 ·exact h.set h0
 ·intro c o hc
  by_cases e:c=b
  ·subst e
   rw [h0] at hc
   injection hc with hc
   refine ⟨_,uR hb,.inr ?_⟩
   rw [←hc]
   show AO.cells (cs.map D.view1)=AO.cells ((cs.set off (.slc xs)).map D.view1)
   congr 1
   refine List.ext_getElem? fun i=>?_
   rw [List.getElem?_map,List.getElem?_map,List.getElem?_set]
   split
   ·rename_i e2
    subst e2
    rw [ho]
    split
    ·rfl
    ·rename_i h3
     rw [List.getElem?_eq_none (by omega)] at ho
     cases ho
   ·rfl
  ·obtain ⟨o',h1,h2⟩:=h c o hc
   exact ⟨o',by rw [kM e];exact h1,h2⟩
theorem wY {T:List D→AH×NV→Prop} {F:List D} {H:AH} {dn:NV} {n:Nat} {S:List (Nat×Nat)} {o:Oper} {r:List Oper} {e:Eff} {b:Nat} {ob ob':AO} (hg:o.guard=none) (hna:wj al o.op=false) (hb0:∀H',Sub H0 H'→qu H' b=some ob→Sub H0 (qF H' b ob')) (hb:qu H b=some ob) (hS:∀q∈S,q.2=b→Y2 .any o q.1=true) (htk:∀s v,e.tk=some (s,v)→g7 ops.toList o=some s) (hsub:Sub H0 H)
  (hse:∀H,qu H b=some ob→oN P H (qF H b ob') o F e) (hs:Some F H) (h:Some (e.app o.dst F) (qF H b ob')→kz P .any H0 al ops r (n+1) ((n,b)::S) (e.app o.dst F) (qF H b ob',dn) T):kz P .any H0 al ops (o::r) n S F (H,dn) T:=by
 refine ⟨⟨e,.blk b ob ob'⟩,.inl ⟨by simp [gst,hg],rfl,hna,fun H hsub hok=>hse H hok.2,htk⟩,⟨hb0,hb⟩,hS,h ?_⟩
 obtain ⟨K,w,a,hs⟩:=hs
 obtain ⟨a',w',F',H',K',⟨hF',hH'⟩,_,hs',_⟩:=vT (hse H hb K w a F (fun _ _ _=>False) hs (fun _ _=>rfl) rfl)
 rw [hF',hH'] at hs'
 exact ⟨K',w',a',hs'⟩
theorem Ug {T:List D→AH×NV→Prop} {F:List D} {H:AH} {σ:NV} {n:Nat} {S:List (Nat×Nat)} {o:Oper} {r:List Oper} {t:TypeId} {d:Nat} {z:List D} (hg:o.guard=none) (hop:o.op= .alloc t) (hdst:o.dst=some d) (hz:yK P t=some z) (hal:d∈al) (hdl:d<F.length) (hσ:σ d=none) (hs:Some F H)
  (h:Some (F.set d .any) H→kz P .any H0 al ops r (n+1) S (F.set d .any) (H,upv σ d (false,z)) T):kz P .any H0 al ops (o::r) n S F (H,σ) T:=by
 refine ⟨⟨⟨none,.any⟩,.al d z⟩,.inr (.inr (.inl ⟨hg,t,d,z,rfl,hop,hdst,hz,hal,hdl⟩)),hσ,trivial,?_⟩
 have happ:Eff.app ⟨none,.any⟩ o.dst F=F.set d .any:=by rw [hdst];rfl
 show kz P .any H0 al ops r (n+1) S (Eff.app ⟨none,.any⟩ o.dst F) (H,upv σ d (false,z)) T
 rw [happ]
 refine h ?_
 obtain ⟨K,w,a,hs⟩:=hs
 refine ⟨K,w,a,hs.krel,hs.hrel,by simpa using hs.len,fun i dd v hd hv=>?_⟩
 rcases getElem?_set_some hd with ⟨rfl,rfl,_⟩|⟨_,hd⟩
 ·exact RepV.viewO (.any _)
 ·exact hs.slot i dd v hd hv
theorem Wo {T:List D→AH×NV→Prop} {F:List D} {H:AH} {σ:NV} {n m:Nat} {S:List (Nat×Nat)} {o:Oper} {r:List Oper} {t:TypeId} {d:Nat} {y:Operand} {z:List D} (hg:o.guard=none) (hop:o.op= .store t (.tmp d) y) (hal:d∈al) (hty:wb P t=some (true,m)) (h1:okc (rv F y)=true) (h2:(cellsOf (rv F y)).length=m) (h3:m≤z.length) (hσ:σ d=some (false,z)) (hs:Some F H)
  (h:Some (qG F o.dst (.tup [])) H→kz P .any H0 al ops r (n+1) S (qG F o.dst (.tup [])) (H,upv σ d (true,cellsOf (rv F y)++z.drop m)) T):kz P .any H0 al ops (o::r) n S F (H,σ) T:=by
 refine ⟨⟨⟨none,.tup []⟩,.put d z (cellsOf (rv F y)++z.drop m)⟩,.inr (.inr (.inr ⟨hg,t,d,y,m,z,rfl,hop,hal,hty,h1,h2,h3⟩)),hσ,trivial,?_⟩
 refine h ?_
 obtain ⟨K,w,a,hs⟩:=hs
 exact ⟨K,w,a.put o.dst undef,w8 hs o.dst⟩
end
end Go.Aw
end
