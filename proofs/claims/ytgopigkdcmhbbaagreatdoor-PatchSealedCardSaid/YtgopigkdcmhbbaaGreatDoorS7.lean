/- A part of the proof of what the last text says: Gi1, Gq3, Gq4, Gq5, Gr0, XcD, XcF, Gr1, Gr2, Gr3, Gr4, Gr5, Gq1, Gr6, Gq2, Gq6, Gr7, Gs1, Gs2, Gf5, Gf3, Gf6, Gf7. Conditions: those in each theorem. -/
import Derived.Test.YtgopigkdcmhbbaaGreatDoorS6
set_option autoImplicit true
set_option relaxedAutoImplicit true
set_option linter.unusedVariables false
set_option linter.unusedSimpArgs false
set_option maxRecDepth 100000
set_option maxHeartbeats 16000000
open List renaming getD_eq_getElem?_getD -> Ma,getElem?_eq_getElem -> Mb,getD_cons_succ -> Mc,getD_cons_zero -> Md,getElem?_map -> Me,length_append -> Mh,length_cons -> Mi,length_nil -> Mj,length_map -> Ml,length_singleton -> Mm,getElem_of_mem -> Mn,mem_of_getElem? -> Mo,map_append -> Mp,append_assoc -> Mq,mem_cons -> Mx,length_take -> Mz,length_range -> M0,append_nil -> M3,nil_append -> M4,cons_append -> M5,map_map -> M6,not_mem_nil -> M7
open Option renaming getD_some -> Mf
open Int renaming toNat_natCast -> Mg,reduceToNat -> Mt,reduceLE -> Mu,reduceLT -> Mv,eq_ofNat_of_zero_le -> My
open Nat renaming le_trans -> Mr,lt_of_lt_of_le -> Ms,zero_add -> Mw,reduceSub -> qa,reduceAdd -> qb,reduceMul -> qc,reduceEqDiff -> qd,reduceLeDiff -> qe,reduceBEq -> qf
section
namespace Go.Proofs.YtgopigkdcmhbbaaGreatDoor
open Go Go.Aw
def U9 (o:OpP):Prop:=o.k=16->o.ids.length=2
structure More (p p':Pt) (c:Nat) (more:List OpP):Prop where
 eq:p'={p with ops:=p.ops++more}
 len:more.length<=c
 ok:∀o∈more,U9 o
theorem More.refl (p:Pt):More p p 0 []:=⟨by simp,by simp,by simp⟩
theorem More.trans {p p' p'':Pt} {c c':Nat} {a b:List OpP} (h:More p p' c a) (g:More p' p'' c' b):More p p'' (c+c') (a++b):=by
 refine ⟨?_,by have:=h.len;have:=g.len;rw [Mh];omega,fun o ho=>(List.mem_append.1 ho).elim (h.ok o) (g.ok o)⟩
 rw [g.eq,h.eq]
 simp only [Mq]
theorem More.le {p p':Pt} {c c':Nat} {a:List OpP} (h:More p p' c a) (hc:c<=c'):More p p' c' a:=⟨h.eq,Mr h.len hc,h.ok⟩
theorem More.one (p:Pt) {o:OpP} (h:U9 o):More p (qU p o) 1 [o]:=⟨rfl,by simp,fun x hx=>by rw [List.mem_singleton.1 hx];exact h⟩
theorem kL {o:OpP} (h:o.k≠16):U9 o:=fun h'=>(h h').elim
theorem yU (p:Pt) (on:Id3) (m:List Int):∃more,More p (meaning p on m) 3 more:=by
 unfold meaning
 simp only []
 have h1:=(More.one p (o:={jQ with k:=2,on:=on,n:=qy m 2 5}) (kL (by simp))).trans (More.one _ (o:={jQ with k:=7,on:=jA p,text:=gloss (m.drop 3)}) (kL (by simp)))
 split
 ·exact ⟨_,h1.le (by omega)⟩
 ·exact ⟨_,h1.trans (More.one _ (kL (by simp)))⟩
theorem WS (x:Gs) (seen:List Bool) (p:Pt) (sense:Id3) (m:List Int):∃more,More p (quoted x seen p sense m) 2 more:=by
 unfold quoted
 simp only []
 split
 ·exact ⟨_,(More.one p (kL (by simp))).trans (More.one _ (kL (by simp)))⟩
 ·exact ⟨_,(More.one p (kL (by simp))).le (by omega)⟩
theorem WE (p:Pt) (entry sense:Id3) (m:List Int):∃more,More p (divided p entry sense m) 7 more:=by
 unfold divided
 simp only []
 obtain ⟨a,h1⟩:=yU p entry m
 obtain ⟨b,h2⟩:=yU (meaning p entry m) entry (m.drop 1)
 exact ⟨_,(h1.trans h2).trans (More.one _ (fun _=>rfl))⟩
theorem dX {sense other:Id3} {n:Int} {m:List Int}:U9 (small sense other n m):=by
 refine kL ?_
 unfold small
 repeat' split
 all_goals simp
theorem za (p:Pt) (sense other:Id3) (n:Int) (m:List Int):∃more,More p (yA p sense other n m) 1 more:=⟨_,More.one p dX⟩
theorem Yp (x:Gs) (seen:List Bool) (p:Pt) (m:List Int):∃more,More p (step x seen p m) 7 more∧((visible x seen p 2).length=0->∃o∈more,o.k=1):=by
 have one:(visible x seen p 2).length≠0->∀{p':Pt} {c:Nat},(∃more,More p p' c more)->c<=7->∃more,More p p' 7 more∧((visible x seen p 2).length=0->∃o∈more,o.k=1):=fun hv p' c ⟨more,h⟩ hc=>⟨more,h.le hc,fun h=>(hv h).elim⟩
 have w:∀{o:OpP},o.k≠16->∃more,More p (qU p o) 1 more:=fun h=>⟨_,More.one p (kL h)⟩
 unfold step
 dsimp only
 by_cases c0:(visible x seen p 2).length=0∨qy m 0 24<=5
 ·rw [if_pos c0]
  obtain ⟨b,h2⟩:=yU (qU p {jQ with k:=1,name:=cls5.getD (jL m 1 5) [],text:=heads8.getD (jL m 2 8) []}) (jA p) (m.drop 3)
  exact ⟨_,((More.one p (kL (by show (1:Int)≠16;decide))).trans h2).le (by omega),fun _=>⟨_,List.mem_append_left _ (List.mem_singleton.2 rfl),rfl⟩⟩
 ·rw [if_neg c0]
  refine one (fun h=>c0 (.inl h)) (c:=7) ?_ (by omega)
  have le:∀{p':Pt} {c:Nat},(∃more,More p p' c more)->c<=7->∃more,More p p' 7 more:=fun ⟨more,h⟩ hc=>⟨more,h.le hc⟩
  generalize (visible x seen p 1).getD _ _=entry
  generalize (visible x seen p 2).getD (jL m 1 _) _=sense
  generalize (visible x seen p 2).getD (jL m 2 _) _=other
  generalize qy m 0 24=n
  by_cases c1:n=6
  ·rw [if_pos c1];exact le (yU _ _ _) (by omega)
  rw [if_neg c1]
  by_cases c2:n=7
  ·rw [if_pos c2];exact le (yU _ _ _) (by omega)
  rw [if_neg c2]
  by_cases c3:n=8∨n=9
  ·rw [if_pos c3];exact le (WS _ _ _ _ _) (by omega)
  rw [if_neg c3]
  by_cases c4:n=10
  ·rw [if_pos c4];exact le (WE _ _ _ _) (by omega)
  rw [if_neg c4]
  by_cases c5:n=11
  ·rw [if_pos c5]
   by_cases d1:other=sense
   ·rw [if_pos d1];exact le (za _ _ _ _ _) (by omega)
   ·rw [if_neg d1];exact le (w (by show (17:Int)≠16;decide)) (by omega)
  rw [if_neg c5]
  by_cases c6:n=12
  ·rw [if_pos c6]
   by_cases d1:(splits x seen p).length=0
   ·rw [if_pos d1];exact le (za _ _ _ _ _) (by omega)
   ·rw [if_neg d1];exact le (w (by show (18:Int)≠16;decide)) (by omega)
  rw [if_neg c6]
  by_cases c7:n=13
  ·rw [if_pos c7]
   by_cases d1:qy m 2 2=0
   ·rw [if_pos d1];exact le (w (by show (5:Int)≠16;decide)) (by omega)
   ·rw [if_neg d1];exact le (w (by show (6:Int)≠16;decide)) (by omega)
  rw [if_neg c7]
  by_cases c8:n=14
  ·rw [if_pos c8]
   by_cases d1:(visible x seen p 3).length=0
   ·rw [if_pos d1];exact le (za _ _ _ _ _) (by omega)
   ·rw [if_neg d1];exact le (w (by show (11:Int)≠16;decide)) (by omega)
  rw [if_neg c8]
  exact le (za _ _ _ _ _) (by omega)
theorem mem_visOne {p:Pt} {kind:Int} {ok:Bool} {i:Id3}:i∈kw p kind ok↔ok=true∧∃k,k<p.ops.length∧(p.ops.getD k default).k=kind∧i=⟨p.o,p.s,k⟩:=by
 unfold kw
 rw [upto_mem]
 constructor
 ·rintro ⟨k,hk,h⟩
  unfold kx at h
  split at h
  ·rename_i hc
   exact ⟨hc.1,k,hk,hc.2,List.mem_singleton.1 h⟩
  ·cases h
 ·rintro ⟨h1,k,hk,h2,h3⟩
  refine ⟨k,hk,?_⟩
  unfold kx
  rw [if_pos ⟨h1,h2⟩,h3]
  exact List.mem_singleton.2 rfl
theorem l7 {p:Pt} {kind:Int}:(kw p kind true).length≠0↔∃o∈p.ops,o.k=kind:=by
 constructor
 ·intro h
  obtain ⟨i,hi⟩:=List.exists_mem_of_length_pos (Nat.pos_of_ne_zero h)
  obtain ⟨_,k,hk,h2,_⟩:=mem_visOne.1 hi
  exact ⟨p.ops.getD k default,by rw [jJ hk];exact List.getElem_mem hk,h2⟩
 ·rintro ⟨o,ho,h2⟩ h
  obtain ⟨k,hk,rfl⟩:=List.mem_iff_getElem.1 ho
  have:=List.eq_nil_of_length_eq_zero h▸(mem_visOne (p:=p) (kind:=kind) (ok:=true) (i:=⟨p.o,p.s,k⟩)).2 ⟨rfl,k,hk,by rw [jJ hk];exact h2,rfl⟩
  cases this
theorem vis_ne {x:Gs} {seen:List Bool} {p:Pt} {kind:Int}:(visible x seen p kind).length≠0↔(∃i,i<x.l.length∧seen.getD i false=true∧∃o∈(x.l.getD i default).ops,o.k=kind)∨∃o∈p.ops,o.k=kind:=by
 unfold visible
 rw [Mh,<-l7]
 constructor
 ·intro h
  by_cases hp:(kw p kind true).length=0
  ·left
   obtain ⟨i,hi⟩:=List.exists_mem_of_length_pos (l:=upto (fun i=>kw (x.l.getD i default) kind (seen.getD i false)) x.l.length) (by omega)
   obtain ⟨j,hj,h2⟩:=upto_mem.1 hi
   obtain ⟨h3,k,hk,h4,_⟩:=mem_visOne.1 h2
   exact ⟨j,hj,h3,(x.l.getD j default).ops.getD k default,by rw [jJ hk];exact List.getElem_mem hk,h4⟩
  ·exact .inr hp
 ·rintro (⟨i,hi,hs,o,ho,h2⟩|h)
  ·obtain ⟨k,hk,rfl⟩:=List.mem_iff_getElem.1 ho
   have:(⟨(x.l.getD i default).o,(x.l.getD i default).s,k⟩:Id3)∈upto (fun i=>kw (x.l.getD i default) kind (seen.getD i false)) x.l.length:=upto_mem.2 ⟨i,hi,mem_visOne.2 ⟨hs,k,hk,by rw [jJ hk];exact h2,rfl⟩⟩
   have:=List.length_pos_of_mem this
   omega
  ·omega
def Cl (x:Gs) (seen:List Bool) (n:Nat):Prop:=∀i,i<n->seen.getD i false=true->∀j,j<i->(x.past.getD i []).getD j false=true->seen.getD j false=true
structure GInv (x:Gs):Prop where
 np:x.past.length=x.l.length
 pk:∀k,k<x.l.length->(x.past.getD k []).length=k
 sq:∀p∈x.l,0<=p.s∧p.s<=x.l.length
 op:∀p∈x.l,p.ops.length<=14
 dy:∀p∈x.l,1<=p.day∧p.day<=1+4*x.l.length
 ne:∀p∈x.l,p.needs.length<=10
 spl:∀p∈x.l,∀o∈p.ops,U9 o
 ent:∀i,i<x.l.length->(∃o∈(x.l.getD i default).ops,o.k=2)->∃j,(j=i∨(j<i∧(x.past.getD i []).getD j false=true))∧∃o∈(x.l.getD j default).ops,o.k=1
 cl:∀k,k<x.l.length->Cl x (x.past.getD k []) k
theorem GInv.nil:GInv ⟨[],[]⟩:=⟨rfl,by simp,by simp,by simp,by simp,by simp,by simp,by simp,by simp⟩
theorem W6 {x:Gs} {seen:List Bool} {k i:Nat} (h:i<seen.length):(kQ x seen k).getD i false=if i=k then true else if i<k then seen.getD i false||(x.past.getD k []).getD i false else seen.getD i false:=by
 simp [kQ,h]
theorem lh {x:Gs} (hx:GInv x) {seen:List Bool} (hl:seen.length=x.l.length) {k:Nat} (hk:k<x.l.length) (h:Cl x seen x.l.length):Cl x (kQ x seen k) x.l.length:=by
 intro i hi h1 j hj h2
 rw [W6 (by omega)] at h1 ⊢
 by_cases hjk:j=k
 ·rw [if_pos hjk]
 ·rw [if_neg hjk]
  by_cases hik:i=k
  ·subst hik
   rw [if_pos hj,h2,Bool.or_true]
  ·rw [if_neg hik] at h1
   by_cases hik':i<k
   ·rw [if_pos hik',Bool.or_eq_true] at h1
    rw [if_pos (by omega),Bool.or_eq_true]
    rcases h1 with h1|h1
    ·exact .inl (h i hi h1 j hj h2)
    ·exact .inr (hx.cl k hk i hik' h1 j hj h2)
   ·rw [if_neg hik'] at h1
    have:=h i hi h1 j hj h2
    split
    ·rw [this,Bool.true_or]
    ·exact this
theorem wi {x:Gs} (hx:GInv x) {o:Int} {m:List Int}:∀q,Cl x (qr x o m q).seen x.l.length∧0<=(qr x o m q).p.s∧(qr x o m q).p.s<=x.l.length+1∧1<=(qr x o m q).p.day∧(qr x o m q).p.day<=1+4*x.l.length
 | 0=>by
  refine ⟨fun i hi h1=>?_,by simp only [qr];omega,by simp only [qr];omega,by simp only [qr];omega,by simp only [qr];omega⟩
  simp only [qr] at h1
  rw [Ma,List.getElem?_replicate] at h1
  split at h1<;>cases h1
 | q+1=>by
  obtain ⟨h1,h2,h3,h5,h6⟩:=wi hx (o:=o) (m:=m) q
  obtain ⟨_,_,_,h4⟩:=kq (x:=x) (o:=o) (m:=m) q
  obtain ⟨r1,r2⟩:=yN (x:=x) (q:=q) x.l.length
  simp only [qr]
  generalize qr x o m q=s at h1 h2 h3 h4 h5 h6 ⊢
  unfold kT
  simp only []
  split
  ·exact ⟨h1,h2,h3,h5,h6⟩
  ·rename_i hc
   have hk:(last x q).toNat<x.l.length:=by
    unfold last at hc ⊢
    have:¬kE x q x.l.length<0:=fun h=>hc (.inl h)
    omega
   have hd:=hx.dy (x.l.getD (last x q).toNat default) (by rw [jJ hk];exact List.getElem_mem hk)
   have hs:=hx.sq (x.l.getD (last x q).toNat default) (by rw [jJ hk];exact List.getElem_mem hk)
   refine ⟨lh hx h4 hk h1,?_⟩
   split
   ·exact ⟨by simp only [];omega,by simp only [];omega,by simp only [];omega,by simp only [];omega⟩
   ·exact ⟨h2,h3,by simp only [];omega,by simp only [];omega⟩
def VOk (x:Gs) (seen:List Bool) (p:Pt):Prop:=(visible x seen p 2).length≠0->(visible x seen p 1).length≠0
theorem VOk.step {x:Gs} {seen:List Bool} {p:Pt} (h:VOk x seen p) (m:List Int):VOk x seen (step x seen p m):=by
 obtain ⟨more,h1,h2⟩:=Yp x seen p m
 generalize Go.Proofs.YtgopigkdcmhbbaaGreatDoor.step x seen p m=p' at h1 ⊢
 intro _
 by_cases hv:(visible x seen p 2).length=0
 ·obtain ⟨o,ho,hk⟩:=h2 hv
  exact vis_ne.2 (.inr ⟨o,by rw [h1.eq];exact List.mem_append_right _ ho,hk⟩)
 ·rcases vis_ne.1 (h hv) with h3|⟨o,ho,hk⟩
  ·exact vis_ne.2 (.inl h3)
  ·exact vis_ne.2 (.inr ⟨o,by rw [h1.eq];exact List.mem_append_left _ ho,hk⟩)
theorem VOk.base {x:Gs} (hx:GInv x) {seen:List Bool} (hc:Cl x seen x.l.length) {p:Pt} (hp:p.ops= []):VOk x seen p:=by
 intro h
 rcases vis_ne.1 h with ⟨i,hi,hs,o,ho,hk⟩|⟨o,ho,_⟩
 ·obtain ⟨j,hj,h1⟩:=hx.ent i hi ⟨o,ho,hk⟩
  rcases hj with rfl|⟨hj,h2⟩
  ·exact vis_ne.2 (.inl ⟨j,hi,hs,h1⟩)
  ·exact vis_ne.2 (.inl ⟨j,by omega,hc i hi hs j hj h2,h1⟩)
 ·rw [hp] at ho;cases ho
theorem vn {x:Gs} {seen:List Bool} {p:Pt} {m:List Int} (hp:p.ops= []) (hv:VOk x seen p):∀i,∃more,More p (jb x seen p m i) (7*i) more∧VOk x seen (jb x seen p m i)
 |0=>⟨[],More.refl p,hv⟩
 | i+1=>by
  obtain ⟨a,h1,h2⟩:=vn (m:=m) hp hv i
  obtain ⟨b,h3,_⟩:=Yp x seen (jb x seen p m i) (m.drop (6+13*i))
  exact ⟨_,(h1.trans h3).le (by omega),h2.step _⟩
theorem GJ {x:Gs} (hx:GInv x) {seen:List Bool} {p:Pt} (hp:∀o∈p.ops,U9 o):∀o∈splits x seen p,o.ids.length=2:=by
 have one:∀{q:Pt} {ok:Bool},(∀o∈q.ops,U9 o)->∀o∈kP q ok,o.ids.length=2:=by
  intro q ok hq o ho
  unfold kP at ho
  obtain ⟨k,hk,h⟩:=upto_mem.1 ho
  unfold kr at h
  split at h
  ·rename_i hc
   rw [List.mem_singleton.1 h]
   exact hq _ (by rw [jJ hk];exact List.getElem_mem hk) hc.2
  ·cases h
 intro o ho
 unfold splits at ho
 rcases List.mem_append.1 ho with h|h
 ·obtain ⟨i,hi,h⟩:=upto_mem.1 h
  exact one (hx.spl _ (by rw [jJ hi];exact List.getElem_mem hi)) o h
 ·exact one hp o h
theorem YI {x:Gs} (hx:GInv x) {offices:Nat} (hof:offices<=10) {m:List Int}:∃more,More {(qr x (qy m 0 offices) m offices).p with day:=(qr x (qy m 0 offices) m offices).p.day+qy m 4 4} (jb x (qr x (qy m 0 offices) m offices).seen {(qr x (qy m 0 offices) m offices).p with day:=(qr x (qy m 0 offices) m offices).p.day+qy m 4 4} m (1+jL m 5 2)) 14 more∧
  VOk x (qr x (qy m 0 offices) m offices).seen (jb x (qr x (qy m 0 offices) m offices).seen {(qr x (qy m 0 offices) m offices).p with day:=(qr x (qy m 0 offices) m offices).p.day+qy m 4 4} m (1+jL m 5 2)):=by
 obtain ⟨h1,h2,h3,h5,h6⟩:=wi hx (o:=qy m 0 offices) (m:=m) offices
 obtain ⟨g1,g2,g3,g4⟩:=kq (x:=x) (o:=qy m 0 offices) (m:=m) offices
 generalize qr x (qy m 0 offices) m offices=s at h1 h2 h3 g1 g2 g3 g4 ⊢
 have a5:=qp (l:=m) (i:=5) (most:=2) (by omega)
 have hn:7*(1+jL m 5 2)<=14:=by unfold jL;omega
 obtain ⟨more,e1,e2⟩:=vn (x:=x) (seen:=s.seen) (p:={s.p with day:=s.p.day+qy m 4 4}) (m:=m) g2 (VOk.base hx h1 g2) (1+jL m 5 2)
 exact ⟨more,e1.le hn,e2⟩
theorem jZ {α:Type} {l:List α} {a d:α} {i:Nat} (h:i<l.length):(l++ [a]).getD i d=l.getD i d:=by
 simp [Ma,List.getElem?_append_left h]
theorem vq {α:Type} {l:List α} {a d:α} {i:Nat} (h:i=l.length):(l++ [a]).getD i d=a:=by
 subst h;simp
theorem GInv.next {x:Gs} (hx:GInv x) {offices:Nat} (hof:offices<=10) (m:List Int):GInv (next x offices m):=by
 obtain ⟨more,e1,e2⟩:=YI hx hof (m:=m)
 obtain ⟨h1,h2,h3,h5,h6⟩:=wi hx (o:=qy m 0 offices) (m:=m) offices
 obtain ⟨g1,g2,g3,g4⟩:=kq (x:=x) (o:=qy m 0 offices) (m:=m) offices
 unfold Go.Proofs.YtgopigkdcmhbbaaGreatDoor.next
 simp only []
 generalize jb x _ _ m _=p at e1 e2 ⊢
 generalize qr x (qy m 0 offices) m offices=s at h1 h2 h3 h5 h6 g1 g2 g3 g4 e1 e2 ⊢
 have a4:=qp (l:=m) (i:=4) (most:=4) (by omega)
 have pd:p.day=s.p.day+qy m 4 4:=by rw [e1.eq]
 have hps:p.s=s.p.s∧p.needs=s.p.needs∧p.ops=more:=by rw [e1.eq];exact ⟨rfl,rfl,by simp only [g2,M4]⟩
 obtain ⟨p1,p2,p3⟩:=hps
 have hlen:=e1.len
 have mem:∀{P:Pt->Prop},(∀q∈x.l,P q)->P p->∀q∈x.l++ [p],P q:=fun hq hp q hm=>(List.mem_append.1 hm).elim (hq q) (fun h=>by rw [List.mem_singleton.1 h];exact hp)
 refine ⟨by simp [hx.np],fun k hk=>?_,?_,mem hx.op (by rw [p3];omega),?_,mem hx.ne (by rw [p2];omega),mem hx.spl (by rw [p3];exact e1.ok),fun i hi=>?_,fun k hk=>?_⟩
 ·simp only [Mh,Mi,Mj] at hk
  by_cases h:k<x.l.length
  ·rw [jZ (by rw [hx.np];exact h)];exact hx.pk k h
  ·have hkn:k=x.past.length:=by rw [hx.np];omega
   rw [vq hkn,g4,hkn,hx.np]
 ·refine mem (fun q hq=>?_) ?_
  ·have:=hx.sq q hq
   simp only [Mh,Mi,Mj]
   omega
  ·simp only [Mh,Mi,Mj]
   omega
 ·refine mem (fun q hq=>?_) ?_
  ·have:=hx.dy q hq
   simp only [Mh,Mi,Mj]
   omega
  ·simp only [Mh,Mi,Mj]
   omega
 ·simp only [Mh,Mi,Mj] at hi
  by_cases h:i<x.l.length
  ·rw [jZ h,jZ (by rw [hx.np];exact h)]
   intro he
   obtain ⟨j,hj,h4⟩:=hx.ent i h he
   refine ⟨j,hj,?_⟩
   rw [jZ (by rcases hj with rfl|hj<;>omega)]
   exact h4
  ·have hin:i=x.l.length:=by omega
   subst hin
   rw [vq rfl,vq hx.np.symm]
   intro he
   rcases vis_ne.1 (e2 (vis_ne.2 (.inr he))) with ⟨j,hj,hs,h4⟩|h4
   ·exact ⟨j,.inr ⟨hj,hs⟩,by rw [jZ hj];exact h4⟩
   ·exact ⟨_,.inl rfl,by rw [vq rfl];exact h4⟩
 ·simp only [Mh,Mi,Mj] at hk
  intro i hi h4 j hj h5
  simp only at h4 h5 ⊢
  by_cases h:k<x.l.length
  ·rw [jZ (by rw [hx.np];exact h)] at h4 ⊢
   rw [jZ (by rw [hx.np];omega)] at h5
   exact hx.cl k h i hi h4 j hj h5
  ·have hkn:k=x.l.length:=by omega
   subst hkn
   rw [vq hx.np.symm] at h4 ⊢
   rw [jZ (by rw [hx.np];exact hi)] at h5
   exact h1 i hi h4 j hj h5
structure TOp (o:OpP):Prop where
 v:zk o
 ok:U9 o
 tx:o.text.length<=60
theorem t_1 (h1:1<=nm.length) (h2:nm.length<=16) (h3:tx.length<=60):TOp {jQ with k:=1,name:=nm,text:=tx}:=
 ⟨by simp [zk,KB,Ky,Kx,KA,Qx,uses,jQ,oc];omega,kL (by show (1:Int)≠16;decide),h3⟩
theorem t_2 (h:jM on) (h1:0<=n) (h2:n<=1000):TOp {jQ with k:=2,on:=on,n:=n}:=
 ⟨by simp [zk,KB,Ky,Kx,KA,Qx,uses,jQ,oc,h,uj,wW,yG];omega,kL (by show (2:Int)≠16;decide),by simp [jQ]⟩
theorem t_3 (h1:1<=nm.length) (h2:nm.length<=16) (h3:tx.length<=60) (h4:1<=a) (h5:a<=b) (h6:b<=1000000):TOp {jQ with k:=3,name:=nm,text:=tx,a:=a,b:=b}:=
 ⟨by simp [zk,KB,Ky,Kx,KA,Qx,uses,jQ,oc,wh];omega,kL (by show (3:Int)≠16;decide),h3⟩
theorem t_4 (h:jM on) (h':jM to) (h1:0<=n) (h2:n<=1000) (h3:tx.length<=60):TOp {jQ with k:=4,on:=on,to:=to,n:=n,text:=tx}:=
 ⟨by simp [zk,KB,Ky,Kx,KA,Qx,uses,jQ,oc,h,h',uj,wW,yG];omega,kL (by show (4:Int)≠16;decide),h3⟩
theorem t_5 (h:jM on) (h3:tx.length<=60):TOp {jQ with k:=5,on:=on,text:=tx}:=
 ⟨by simp [zk,KB,Ky,Kx,KA,Qx,uses,jQ,oc,h];omega,kL (by show (5:Int)≠16;decide),h3⟩
theorem t_6 (h:jM on) (h1:1<=nm.length) (h2:nm.length<=16):TOp {jQ with k:=6,on:=on,name:=nm}:=
 ⟨by simp [zk,KB,Ky,Kx,KA,Qx,uses,jQ,oc,h];omega,kL (by show (6:Int)≠16;decide),by simp [jQ]⟩
theorem t_7 (h:jM on) (h3:tx.length<=60):TOp {jQ with k:=7,on:=on,text:=tx}:=
 ⟨by simp [zk,KB,Ky,Kx,KA,Qx,uses,jQ,oc,h];omega,kL (by show (7:Int)≠16;decide),h3⟩
theorem t_8 (h:jM on) (h1:0<=n) (h2:n<=1000):TOp {jQ with k:=8,on:=on,n:=n}:=
 ⟨by simp [zk,KB,Ky,Kx,KA,Qx,uses,jQ,oc,h,uj,wW,yG];omega,kL (by show (8:Int)≠16;decide),by simp [jQ]⟩
theorem t_9 (h:jM on) (h1:0<=n) (h2:n<=1):TOp {jQ with k:=9,on:=on,n:=n}:=
 ⟨by simp [zk,KB,Ky,Kx,KA,Qx,uses,jQ,oc,h,uj,wW,yG];omega,kL (by show (9:Int)≠16;decide),by simp [jQ]⟩
theorem E2 (h:jM on) (h1:0<=n) (h2:n<=1000):TOp {jQ with k:=10,on:=on,n:=n}:=
 ⟨by simp [zk,KB,Ky,Kx,KA,Qx,uses,jQ,oc,h,uj,wW,yG];omega,kL (by show (10:Int)≠16;decide),by simp [jQ]⟩
theorem Fn (h:jM on) (h4:1<=a) (h5:a<=b) (h6:b<=1000000):TOp {jQ with k:=11,on:=on,a:=a,b:=b}:=
 ⟨by simp [zk,KB,Ky,Kx,KA,Qx,uses,jQ,oc,h,wh];omega,kL (by show (11:Int)≠16;decide),by simp [jQ]⟩
theorem DK (h:jM on) (h1:1<=nm.length) (h2:nm.length<=16) (h3:tx.length<=60):TOp {jQ with k:=12,on:=on,name:=nm,text:=tx}:=
 ⟨by simp [zk,KB,Ky,Kx,KA,Qx,uses,jQ,oc,h];omega,kL (by show (12:Int)≠16;decide),h3⟩
theorem H8 (h:jM on) (h':jM to) (h1:0<=n) (h2:n<=1000):TOp {jQ with k:=13,on:=on,to:=to,n:=n}:=
 ⟨by simp [zk,KB,Ky,Kx,KA,Qx,uses,jQ,oc,h,h',uj,wW,yG];omega,kL (by show (13:Int)≠16;decide),by simp [jQ]⟩
theorem Eq (h:jM on) (h1:1<=nm.length) (h2:nm.length<=16) (h3:0<=n) (h4:n<=1):TOp {jQ with k:=14,on:=on,name:=nm,n:=n}:=
 ⟨by simp [zk,KB,Ky,Kx,KA,Qx,uses,jQ,oc,h,uj,wW,yG];omega,kL (by show (14:Int)≠16;decide),by simp [jQ]⟩
theorem FL (h:jM on) (h':jM to) (h1:0<=n) (h2:n<=1):TOp {jQ with k:=15,on:=on,to:=to,n:=n}:=
 ⟨by simp [zk,KB,Ky,Kx,KA,Qx,uses,jQ,oc,h,h',uj,wW,yG];omega,kL (by show (15:Int)≠16;decide),by simp [jQ]⟩
theorem E7 (h:jM on) (hx:jM x) (hy:jM y) (hxy:x≠y) (hox:x≠on) (hoy:y≠on) (h1: -1<=n) (h2:n<=1):TOp {jQ with k:=16,on:=on,ids:= [x,y],n:=n}:=
 ⟨by simp [zk,KB,Ky,Kx,KA,Qx,uses,jQ,oc,h,hx,hy,hxy,hox,hoy,uj,wW,yG,Ys];omega,fun _=>rfl,by simp [jQ]⟩
theorem CC (h:jM on) (h':jM to) (hne:on≠to):TOp {jQ with k:=17,on:=on,to:=to}:=
 ⟨by simp [zk,KB,Ky,Kx,KA,Qx,uses,jQ,oc,h,h',hne],kL (by show (17:Int)≠16;decide),by simp [jQ]⟩
theorem FF (h:jM on) (h':jM to) (hx:jM x):TOp {jQ with k:=18,on:=on,to:=to,ids:= [x]}:=
 ⟨by simp [zk,KB,Ky,Kx,KA,Qx,uses,jQ,oc,h,h',hx,Ys],kL (by show (18:Int)≠16;decide),by simp [jQ]⟩
theorem wE {l:List (List UInt8)} {i c:Nat} (h:∀x∈l,x.length<=c):(l.getD i []).length<=c:=by
 rw [Ma]
 cases e:l[i]? with
 |none=>simp
 |some x=>exact h x (Mo e)
theorem gE {l:List (List UInt8)} {i c:Nat} (h:∀x∈l,c<=x.length) (hi:i<l.length):c<=(l.getD i []).length:=by
 rw [jJ hi]
 exact h _ (List.getElem_mem hi)
theorem yc {α:Type} {l:List α} {i:Nat} {d:α} (hi:i<l.length):l.getD i d∈l:=by
 rw [jJ hi]
 exact List.getElem_mem hi
theorem wZ {l:List Int} {i n:Nat} (h:0<n):jL l i (n:Int)<n:=by
 have:=qp (l:=l) (i:=i) (most:=(n:Int)) (by omega)
 unfold jL
 omega
theorem uf {l:List Int}:(gloss l).length<=60:=by
 have go:∀i,(yC l i).length<=5+7*i:=by
  intro i
  induction i with
  |zero=>exact wE (by decide)
  | succ i ih=>
   have h1:(seps3.getD (jL l (2+i) 3) []).length<=2:=wE (by decide)
   have h2:(words16.getD (jL l (4+i) (6+i)) []).length<=5:=wE (by decide)
   simp only [yC,Mh]
   omega
 unfold gloss
 split
 ·simp
 ·have h1:=go (jL l 1 3)
  have h2:=wZ (l:=l) (i:=1) (n:=3) (by omega)
  have h2':jL l 1 3<3:=h2
  omega
def AllT (p:Pt):Prop:=∀o∈p.ops,TOp o
theorem AllT.with' {p:Pt} {o:OpP} (h:AllT p) (ho:TOp o):AllT (qU p o):=by
 intro x hx
 unfold qU at hx
 rcases List.mem_append.1 hx with hx|hx
 ·exact h x hx
 ·rw [List.mem_singleton.1 hx];exact ho
theorem Z1 {p:Pt} {o:OpP}:(qU p o).ops.length=p.ops.length+1:=by simp [qU]
theorem gv {p:Pt} (h:wz p.o p.s) (hl:p.ops.length<=15):jM (jA p):=by
 unfold wz at h
 unfold jM jA
 dsimp only
 omega
theorem uC {p:Pt} {on:Id3} {m:List Int} (h:AllT p) (ho:wz p.o p.s) (hl:p.ops.length<=12) (hon:jM on):AllT (meaning p on m):=by
 have a2:=qp (l:=m) (i:=2) (most:=5) (by omega)
 unfold meaning
 dsimp only
 have h1:=h.with' (t_2 (on:=on) (n:=qy m 2 5) hon (by omega) (by omega))
 have hid:jM (jA p):=gv ho (by omega)
 have h2:=h1.with' (t_7 (on:=jA p) (tx:=gloss (m.drop 3)) hid uf)
 split
 ·exact h2
 ·exact h2.with' (t_9 hid (by omega) (by omega))
structure PC (x:Gs) (p:Pt):Prop where
 oks:wz p.o p.s
 xs:∀q∈x.l,wz q.o q.s∧q.ops.length<=14∧AllT q∧¬(q.o=p.o∧q.s=p.s)
theorem mY {x:Gs} {p:Pt} {seen:List Bool} {kind:Int} (h:PC x p) (hl:p.ops.length<=16) {y:Id3} (hy:y∈visible x seen p kind):jM y∧∀j:Int,(p.ops.length:Int)<=j->y≠⟨p.o,p.s,j⟩:=by
 unfold visible at hy
 rcases List.mem_append.1 hy with hy|hy
 ·obtain ⟨i,hi,hy⟩:=upto_mem.1 hy
  obtain ⟨_,k,hk,_,rfl⟩:=mem_visOne.1 hy
  have hq:=h.xs _ (yc (d:=default) hi)
  generalize x.l.getD i default=q at hq hk
  obtain ⟨q1,q2,_,q3⟩:=hq
  unfold wz at q1
  refine ⟨by unfold jM;dsimp only;omega,fun j _ e=>q3 ?_⟩
  simp only [Id3.mk.injEq] at e
  exact ⟨e.1,e.2.1⟩
 ·obtain ⟨_,k,hk,_,rfl⟩:=mem_visOne.1 hy
  have q1:=h.oks
  unfold wz at q1
  refine ⟨by unfold jM;dsimp only;omega,fun j hj e=>?_⟩
  simp only [Id3.mk.injEq] at e
  omega
theorem JZ {x:Gs} {p:Pt} {seen:List Bool} {kind:Int} (h:PC x p) (hl:p.ops.length<=16) {m:List Int} {i:Nat} (hn:(visible x seen p kind).length≠0):
  jM ((visible x seen p kind).getD (jL m i (visible x seen p kind).length) default)∧∀j:Int,(p.ops.length:Int)<=j->(visible x seen p kind).getD (jL m i (visible x seen p kind).length) default≠⟨p.o,p.s,j⟩:=
 mY h hl (yc (wZ (by omega)))
theorem ej {x:Gs} {seen:List Bool} {p:Pt} {sense:Id3} {m:List Int} (h:AllT p) (hc:PC x p) (hl:p.ops.length<=12) (hs:jM sense):AllT (quoted x seen p sense m):=by
 have a2:=qp (l:=m) (i:=2) (most:=60) (by omega)
 have a4:=qp (l:=m) (i:=4) (most:=8) (by omega)
 have a5:=qp (l:=m) (i:=5) (most:=90) (by omega)
 unfold quoted
 dsimp only
 split
 ·refine (h.with' (t_3 (gE (by decide) (wZ (n:=3) (by omega))) (Mr (wE (c:=5) (by decide)) (by omega)) (by decide) (by omega) (by omega) (by omega))).with' (t_4 hs (gv hc.oks (by omega)) (by omega) (by omega) uf)
 ·rename_i hne
  exact h.with' (t_4 hs (JZ hc (by omega) (fun e=>hne (.inl e))).1 (by omega) (by omega) uf)
theorem gK {p:Pt} {on:Id3} {m:List Int}:p.ops.length+2<=(meaning p on m).ops.length∧(meaning p on m).ops.length<=p.ops.length+3∧(meaning p on m).o=p.o∧(meaning p on m).s=p.s:=by
 unfold meaning
 dsimp only
 split<;>simp [qU]
theorem aH {p:Pt} {entry sense:Id3} {m:List Int} (h:AllT p) (ho:wz p.o p.s) (hl:p.ops.length<=7) (he:jM entry) (hs:jM sense) (hn:∀j:Int,(p.ops.length:Int)<=j->sense≠⟨p.o,p.s,j⟩):AllT (divided p entry sense m):=by
 have a4:=qp (l:=m) (i:=4) (most:=3) (by omega)
 unfold divided
 dsimp only
 obtain ⟨m1,m2,m3,m4⟩:=gK (p:=p) (on:=entry) (m:=m)
 have h1:=uC (m:=m) h ho (by omega) he
 generalize meaning p entry m=p1 at m1 m2 m3 m4 h1 ⊢
 have ho1:wz p1.o p1.s:=by rw [m3,m4];exact ho
 have h2:=uC (m:=m.drop 1) h1 ho1 (by omega) he
 refine h2.with' (E7 hs (gv ho (by omega)) (gv ho1 (by omega)) ?_ ?_ ?_ (by omega) (by omega))
 ·intro e
  unfold jA at e
  simp only [Id3.mk.injEq] at e
  omega
 ·exact fun e=>hn _ (Int.le_refl _) e.symm
 ·intro e
  refine hn p1.ops.length (by omega) ?_
  rw [<-e]
  unfold jA
  rw [m3,m4]
theorem iM {sense other:Id3} {n:Int} {m:List Int} (hs:jM sense) (ho:jM other):TOp (small sense other n m):=by
 have a1:=qp (l:=m) (i:=3) (most:=2) (by omega)
 have a2:=qp (l:=m) (i:=3) (most:=9) (by omega)
 have a3:=qp (l:=m) (i:=4) (most:=4) (by omega)
 have a4:=qp (l:=m) (i:=3) (most:=5) (by omega)
 have a5:=qp (l:=m) (i:=3) (most:=3) (by omega)
 unfold small
 repeat' split
 ·exact t_7 hs uf
 ·exact t_9 hs (by omega) (by omega)
 ·exact E2 hs (by omega) (by omega)
 ·exact DK hs (gE (by decide) (wZ (n:=3) (by omega))) (Mr (wE (c:=2) (by decide)) (by omega)) uf
 ·exact Eq hs (gE (by decide) (wZ (n:=2) (by omega))) (Mr (wE (c:=4) (by decide)) (by omega)) (by omega) (by omega)
 ·exact FL hs ho (by omega) (by omega)
 ·exact H8 hs ho (by omega) (by omega)
 ·exact t_8 hs (by omega) (by omega)
theorem rl {x:Gs} {p:Pt} {seen:List Bool} (h:PC x p) (hp:AllT p) {o:OpP} (ho:o∈splits x seen p):TOp o∧o.k=16:=by
 have one:∀{q:Pt} {ok:Bool},AllT q->o∈kP q ok->TOp o∧o.k=16:=by
  intro q ok hq ho
  unfold kP at ho
  obtain ⟨k,hk,h⟩:=upto_mem.1 ho
  unfold kr at h
  split at h
  ·rename_i hc
   rw [List.mem_singleton.1 h]
   exact ⟨hq _ (yc hk),hc.2⟩
  ·cases h
 unfold splits at ho
 rcases List.mem_append.1 ho with ho|ho
 ·obtain ⟨i,hi,ho⟩:=upto_mem.1 ho
  exact one (h.xs _ (yc (d:=default) hi)).2.2.1 ho
 ·exact one hp ho
theorem rF {x:Gs} {seen:List Bool} {p:Pt} {m:List Int} (h:AllT p) (hc:PC x p) (hv:VOk x seen p) (hl:p.ops.length<=7):AllT (step x seen p m):=by
 have a0:=qp (l:=m) (i:=0) (most:=24) (by omega)
 have a3:=qp (l:=m) (i:=3) (most:=60) (by omega)
 have h8:∀i:Nat,(heads8.getD i []).length<=60:=fun i=>Mr (wE (c:=4) (by decide)) (by omega)
 unfold step
 dsimp only
 by_cases c0:(visible x seen p 2).length=0∨qy m 0 24<=5
 ·rw [if_pos c0]
  exact uC (h.with' (t_1 (gE (by decide) (wZ (n:=5) (by omega))) (Mr (wE (c:=1) (by decide)) (by omega)) (h8 _))) hc.oks (by rw [Z1];omega) (gv hc.oks (by omega))
 ·rw [if_neg c0]
  have hs0:(visible x seen p 2).length≠0:=fun e=>c0 (.inl e)
  have he0:=hv hs0
  have hE1:=JZ (seen:=seen) (kind:=1) (m:=m) (i:=1) hc (by omega) he0
  have hS1:=JZ (seen:=seen) (kind:=2) (m:=m) (i:=1) hc (by omega) hs0
  have hS2:=JZ (seen:=seen) (kind:=2) (m:=m) (i:=2) hc (by omega) hs0
  generalize (visible x seen p 1).getD (jL m 1 (visible x seen p 1).length) default=entry at hE1 ⊢
  generalize (visible x seen p 2).getD (jL m 1 (visible x seen p 2).length) default=sense at hS1 ⊢
  generalize (visible x seen p 2).getD (jL m 2 (visible x seen p 2).length) default=other at hS2 ⊢
  have rest:∀{n:Int},AllT (yA p sense other n m):=h.with' (iM hS1.1 hS2.1)
  generalize qy m 0 24=n
  by_cases c1:n=6
  ·rw [if_pos c1];exact uC h hc.oks (by omega) hE1.1
  rw [if_neg c1]
  by_cases c2:n=7
  ·rw [if_pos c2];exact uC h hc.oks (by omega) hS1.1
  rw [if_neg c2]
  by_cases c3:n=8∨n=9
  ·rw [if_pos c3];exact ej h hc (by omega) hS1.1
  rw [if_neg c3]
  by_cases c4:n=10
  ·rw [if_pos c4];exact aH h hc.oks hl hE1.1 hS1.1 hS1.2
  rw [if_neg c4]
  by_cases c5:n=11
  ·rw [if_pos c5]
   by_cases d1:other=sense
   ·rw [if_pos d1];exact rest
   ·rw [if_neg d1];exact h.with' (CC hS1.1 hS2.1 (fun e=>d1 e.symm))
  rw [if_neg c5]
  by_cases c6:n=12
  ·rw [if_pos c6]
   by_cases d1:(splits x seen p).length=0
   ·rw [if_pos d1];exact rest
   ·rw [if_neg d1]
    obtain ⟨w1,w2⟩:=rl hc h (yc (d:=default) (i:=jL m 3 (splits x seen p).length) (wZ (by omega)))
    generalize (splits x seen p).getD (jL m 3 (splits x seen p).length) default=o at w1 w2 ⊢
    have hol:=w1.ok w2
    obtain ⟨v1,v2,v3,v4,v5⟩:=w1.v
    have hon:jM o.on:=v1.2.1 (by rw [w2];decide)
    have hids:=(v2.2.2.1 (by rw [w2];decide)).1
    exact h.with' (FF hS1.1 hon (hids _ (yc (wZ (by omega)))).1)
  rw [if_neg c6]
  by_cases c7:n=13
  ·rw [if_pos c7]
   by_cases d1:qy m 2 2=0
   ·rw [if_pos d1];exact h.with' (t_5 hE1.1 (h8 _))
   ·rw [if_neg d1];exact h.with' (t_6 hE1.1 (gE (by decide) (wZ (n:=2) (by omega))) (Mr (wE (c:=1) (by decide)) (by omega)))
  rw [if_neg c7]
  by_cases c8:n=14
  ·rw [if_pos c8]
   by_cases d1:(visible x seen p 3).length=0
   ·rw [if_pos d1];exact rest
   ·rw [if_neg d1];exact h.with' (Fn (JZ hc (by omega) d1).1 (by omega) (by omega) (by omega))
  rw [if_neg c8]
  exact rest
def NdOk (o b:Int) (l:List Rf):Prop:=∀i,i<l.length->0<=(l.getD i default).o∧(l.getD i default).o<b∧(l.getD i default).o≠o∧1<=(l.getD i default).s∧(l.getD i default).s<=16∧(0<i->(l.getD (i - 1) default).o<(l.getD i default).o)
theorem NdOk.mono (h:NdOk o b l) (hb:b<=b'):NdOk o b' l:=fun i hi=>by
 obtain ⟨h1,h2,h3⟩:=h i hi
 exact ⟨h1,by omega,h3⟩
theorem NdOk.snoc {o:Int} {q:Nat} {s:Int} {l:List Rf} (h:NdOk o q l) (hq:(q:Int)≠o) (h1:1<=s) (h2:s<=16):NdOk o ((q+1:Nat):Int) (l++ [⟨q,s⟩]):=by
 intro i hi
 rw [Mh,Mm] at hi
 by_cases hl:i<l.length
 ·rw [jZ hl]
  obtain ⟨g1,g2,g3,g4,g5,g6⟩:=h i hl
  refine ⟨g1,by omega,g3,g4,g5,fun h0=>?_⟩
  rw [jZ (by omega)]
  exact g6 h0
 ·rw [vq (by omega)]
  refine ⟨by simp,by simp;omega,hq,h1,h2,fun h0=>?_⟩
  rw [jZ (by omega)]
  exact (h (i - 1) (by omega)).2.1
theorem Yu:∀n:Nat,(0<=kE x o n->(x.l.getD (kE x o n).toNat default).o=o)∧∀i:Nat,i<n->kE x o n<i->(x.l.getD i default).o≠o
 |0=>⟨fun h=>by simp [kE] at h,fun i hi=>by omega⟩
 | n+1=>by
  obtain ⟨h1,h2⟩:=Yu (x:=x) (o:=o) n
  unfold kE
  split
  ·rename_i hc
   refine ⟨fun _=>by simpa using hc,fun i hi hl=>by omega⟩
  ·rename_i hc
   refine ⟨h1,fun i hi hl=>?_⟩
   by_cases e:i=n
   ·rw [e];exact hc
   ·exact h2 i (by omega) hl
structure QV (q:Pt):Prop where
 oo:0<=q.o∧q.o<=2
 ss:1<=q.s
 T:AllT q
 ne:q.ops≠ []
 nd:NdOk q.o 3 q.needs
 nl:q.needs.length<=3
 sl:q.sl= []
structure GV (x:Gs):Prop where
 q:∀p∈x.l,QV p
 u:∀i j:Nat,i<j->j<x.l.length->(x.l.getD i default).o=(x.l.getD j default).o->(x.l.getD i default).s<(x.l.getD j default).s
theorem VD (hx:GInv x) (hv:GV x) (hn:x.l.length<=15):∀q:Nat,(qr x o m q).p.o=o∧NdOk o q (qr x o m q).p.needs∧(qr x o m q).p.s=if o<q∧0<=o∧0<=last x o then (x.l.getD (last x o).toNat default).s+1 else 1
 | 0=>by
  refine ⟨rfl,fun i hi=>by simp [qr,pt0] at hi,?_⟩
  rw [if_neg (by omega)]
  rfl
 | q+1=>by
  obtain ⟨h1,h2,h3⟩:=VD hx hv hn (o:=o) (m:=m) q
  obtain ⟨r1,r2⟩:=yN (x:=x) (q:=(q:Int)) x.l.length
  simp only [qr]
  generalize qr x o m q=s at h1 h2 h3 ⊢
  unfold kT
  dsimp only
  split
  ·rename_i hc
   refine ⟨h1,h2.mono (by omega),?_⟩
   rw [h3]
   by_cases e:(q:Int)=o
   ·subst e
    rw [if_neg (by omega),if_neg (by omega)]
   ·by_cases c:o<(q:Int)∧0<=o∧0<=last x o
    ·rw [if_pos c,if_pos ⟨by omega,c.2⟩]
    ·rw [if_neg c,if_neg (fun d=>c ⟨by omega,d.2⟩)]
  ·rename_i hc
   have hk:0<=last x q:=by omega
   have hkl:(last x q).toNat<x.l.length:=by unfold last at*;omega
   have hq:=hv.q _ (yc (d:=default) hkl)
   have hs:=hx.sq _ (yc (d:=default) hkl)
   by_cases e:(q:Int)=o
   ·subst e
    rw [if_pos rfl]
    refine ⟨h1,h2.mono (by omega),?_⟩
    rw [if_pos ⟨by omega,by omega,hk⟩]
   ·rw [if_neg e]
    refine ⟨h1,NdOk.snoc h2 e hq.ss (by omega),?_⟩
    dsimp only
    rw [h3]
    by_cases c:o<(q:Int)∧0<=o∧0<=last x o
    ·rw [if_pos c,if_pos ⟨by omega,c.2⟩]
    ·rw [if_neg c,if_neg (fun d=>c ⟨by omega,d.2⟩)]
theorem hP {x:Gs} {seen:List Bool} {p:Pt} {m:List Int}:(step x seen p m).ops≠ []:=by
 have w:∀{p:Pt} {o:OpP},(qU p o).ops≠ []:=fun {p o}=>by simp [qU]
 have mm:∀{p:Pt} {on:Id3} {m:List Int},(meaning p on m).ops≠ []:=fun {p on m}=>by
  have:=gK (p:=p) (on:=on) (m:=m)
  intro e
  rw [e] at this
  simp at this
 have qq:∀{sense:Id3} {m:List Int},(quoted x seen p sense m).ops≠ []:=fun {sense m}=>by
  unfold quoted
  dsimp only
  split
  ·exact w
  ·exact w
 unfold step
 dsimp only
 by_cases c0:(visible x seen p 2).length=0∨qy m 0 24<=5
 ·rw [if_pos c0];exact mm
 rw [if_neg c0]
 generalize (visible x seen p 1).getD (jL m 1 (visible x seen p 1).length) default=entry
 generalize (visible x seen p 2).getD (jL m 1 (visible x seen p 2).length) default=sense
 generalize (visible x seen p 2).getD (jL m 2 (visible x seen p 2).length) default=other
 generalize qy m 0 24=n
 by_cases c1:n=6
 ·rw [if_pos c1];exact mm
 rw [if_neg c1]
 by_cases c2:n=7
 ·rw [if_pos c2];exact mm
 rw [if_neg c2]
 by_cases c3:n=8∨n=9
 ·rw [if_pos c3];exact qq
 rw [if_neg c3]
 by_cases c4:n=10
 ·rw [if_pos c4];exact w
 rw [if_neg c4]
 by_cases c5:n=11
 ·rw [if_pos c5]
  by_cases d1:other=sense
  ·rw [if_pos d1];exact w
  ·rw [if_neg d1];exact w
 rw [if_neg c5]
 by_cases c6:n=12
 ·rw [if_pos c6]
  by_cases d1:(splits x seen p).length=0
  ·rw [if_pos d1];exact w
  ·rw [if_neg d1];exact w
 rw [if_neg c6]
 by_cases c7:n=13
 ·rw [if_pos c7]
  by_cases d1:qy m 2 2=0
  ·rw [if_pos d1];exact w
  ·rw [if_neg d1];exact w
 rw [if_neg c7]
 by_cases c8:n=14
 ·rw [if_pos c8]
  by_cases d1:(visible x seen p 3).length=0
  ·rw [if_pos d1];exact w
  ·rw [if_neg d1];exact w
 rw [if_neg c8]
 exact w
theorem G5 {x:Gs} {seen:List Bool} {p:Pt} {m:List Int} (hp:p.ops= []) (hv:VOk x seen p) (hc:PC x p):∀i:Nat,i<=2->AllT (jb x seen p m i)
 | 0,_=>fun o ho=>by
  unfold jb at ho
  rw [hp] at ho
  simp at ho
 | i+1,hi=>by
  obtain ⟨more,h1,h2⟩:=vn (m:=m) hp hv i
  have h3:=G5 hp hv hc i (by omega) (m:=m)
  have e:=h1.eq
  have hl:=h1.len
  unfold jb
  have hlen:(jb x seen p m i).ops.length<=7:=by
   rw [e]
   simp [hp]
   omega
  have hc':PC x (jb x seen p m i):=by rw [e];exact ⟨hc.oks,hc.xs⟩
  exact rF h3 hc' h2 hlen
theorem GV.next (hx:GInv x) (hv:GV x) (hn:x.l.length<=14) (ho:1<=offices) (ho':offices<=3) (m:List Int):GV (next x offices m):=by
 obtain ⟨a1,a2⟩:=qp (l:=m) (i:=0) (most:=(offices:Int)) (by omega)
 have a5:=wZ (l:=m) (i:=5) (n:=2) (by omega)
 have a5':jL m 5 2<2:=a5
 unfold Go.Proofs.YtgopigkdcmhbbaaGreatDoor.next
 dsimp only
 generalize qy m 0 (offices:Int)=o at a1 a2 ⊢
 obtain ⟨h1,h2,h3,h5,h6⟩:=wi hx (o:=o) (m:=m) offices
 obtain ⟨g1,g2,g3,g4⟩:=kq (x:=x) (o:=o) (m:=m) offices
 obtain ⟨v1,v2,v3⟩:=VD hx hv (by omega) (o:=o) (m:=m) offices
 obtain ⟨l1,l2⟩:=Yu (x:=x) (o:=o) x.l.length
 obtain ⟨r1,r2⟩:=yN (x:=x) (q:=o) x.l.length
 generalize qr x o m offices=s at h1 h2 h3 h5 h6 g1 g2 g3 g4 v1 v2 v3 ⊢
 have hsl:∀i,i<x.l.length->(x.l.getD i default).o=o->(x.l.getD i default).s<s.p.s:=by
  intro i hi he
  have hik:¬(kE x o x.l.length<i):=fun hc=>l2 i hi hc he
  have hk:0<=last x o:=by unfold last;omega
  rw [v3,if_pos ⟨by omega,a1,hk⟩]
  unfold last
  by_cases e:i=(kE x o x.l.length).toNat
  ·rw [<-e];omega
  ·have:=hv.u i (kE x o x.l.length).toNat (by omega) (by omega) (by rw [he,l1 (by omega)])
   omega
 have hs1:1<=s.p.s:=by
  rw [v3]
  split
  ·rename_i hc
   have:=(hv.q _ (yc (d:=default) (i:=(last x o).toNat) (by unfold last at*;omega))).ss
   omega
  ·omega
 have hc:PC x {s.p with day:=s.p.day+qy m 4 4}:=by
  refine ⟨?_,fun q hq=>?_⟩
  ·unfold wz
   dsimp only
   rw [v1]
   omega
  ·have hQ:=hv.q q hq
   have hS:=hx.sq q hq
   obtain ⟨i,hi,he⟩:=Mn hq
   refine ⟨?_,hx.op q hq,hQ.T,?_⟩
   ·unfold wz
    have:=hQ.oo
    have:=hQ.ss
    omega
   ·rintro ⟨e1,e2⟩
    have:=hsl i hi (by rw [jJ hi,he,e1];exact v1)
    rw [jJ hi,he] at this
    dsimp only at e2
    omega
 have hbase:VOk x s.seen {s.p with day:=s.p.day+qy m 4 4}:=VOk.base hx h1 g2
 have hT:=G5 (m:=m) (p:={s.p with day:=s.p.day+qy m 4 4}) g2 hbase hc (1+jL m 5 2) (by omega)
 obtain ⟨more,e1,e2⟩:=vn (x:=x) (seen:=s.seen) (p:={s.p with day:=s.p.day+qy m 4 4}) (m:=m) g2 hbase (1+jL m 5 2)
 have hne:(jb x s.seen {s.p with day:=s.p.day+qy m 4 4} m (1+jL m 5 2)).ops≠ []:=by
  rw [Nat.add_comm]
  exact hP
 have e3:=e1.eq
 generalize jb x s.seen {s.p with day:=s.p.day+qy m 4 4} m (1+jL m 5 2)=p at hT hne e3 ⊢
 have po:p.o=o:=by rw [e3];exact v1
 have ps:p.s=s.p.s:=by rw [e3]
 have hp:QV p:=by
  refine ⟨by rw [po];omega,by rw [ps];exact hs1,hT,hne,?_,?_,?_⟩
  ·rw [po,e3];exact v2.mono (by omega)
  ·rw [e3];show s.p.needs.length<=3;omega
  ·rw [e3];exact g3
 refine ⟨fun q hq=>?_,fun i j hij hj he=>?_⟩
 ·rcases List.mem_append.1 hq with hq|hq
  ·exact hv.q q hq
  ·rw [List.mem_singleton.1 hq];exact hp
 ·dsimp only at hj he ⊢
  rw [Mh,Mm] at hj
  by_cases hjl:j<x.l.length
  ·rw [jZ hjl,jZ (show i<x.l.length by omega)] at he ⊢
   exact hv.u i j hij hjl he
  ·rw [vq (show j=x.l.length by omega),jZ (show i<x.l.length by omega)] at he ⊢
   rw [ps]
   exact hsl i (by omega) (by rw [he,po])
theorem GV.nil:GV ⟨[],[]⟩:=⟨by simp,by simp⟩
theorem U1:(next x offices m).l.length=x.l.length+1:=by simp [Go.Proofs.YtgopigkdcmhbbaaGreatDoor.next]
theorem bG (l:List Int) (ho:1<=offices) (ho':offices<=3):∀i:Nat,i<=9->GInv (j7 l offices i)∧GV (j7 l offices i)∧(j7 l offices i).l.length=i
 |0,_=>⟨GInv.nil,GV.nil,rfl⟩
 | i+1,hi=>by
  obtain ⟨h1,h2,h3⟩:=bG l ho ho' i (by omega)
  refine ⟨h1.next (by omega) _,GV.next h1 h2 (by omega) ho ho' _,?_⟩
  unfold j7
  rw [U1,h3]
def val (L:List UInt8):Nat:=L.foldl (fun a d=>256*a+d.toNat) 0
theorem Ue:val (L++ [d])=256*val L+d.toNat:=by simp [val]
theorem Ub:∀(m:Nat),val (digs m).reverse=m
 | m=>by
  by_cases h:m=0
  ·subst h;rw [kB];rfl
  ·rw [yV h,List.reverse_cons,Ue,Ub (m / 256),UInt8.toNat_ofNat']
   omega
theorem dK:∀(L:List UInt8) (a:Nat),L.foldl (fun a d=>256*a+d.toNat) a<256 ^ L.length*(a+1)
 | [],a=>by simp
 | d::r,a=>by
  have h1:=dK r (256*a+d.toNat)
  have h2:=d.toNat_lt
  simp only [List.foldl_cons,Mi]
  refine Ms h1 ?_
  rw [Nat.pow_succ,Nat.mul_assoc]
  exact Nat.mul_le_mul_left _ (by omega)
theorem cA (L:List UInt8):val L<256 ^ L.length:=by
 have:=dK L 0
 simpa [val] using this
theorem Y3:∀(m:Nat) (d:UInt8) (r:List UInt8),(digs m).reverse=d::r->d≠0
 | m,d,r,h=>by
  by_cases hm:m=0
  ·subst hm;rw [kB] at h;simp at h
  ·rw [yV hm,List.reverse_cons] at h
   by_cases h2:m / 256=0
   ·rw [h2,kB] at h
    simp only [List.reverse_nil,M4,List.cons.injEq] at h
    rw [<-h.1]
    intro e
    have:=congrArg UInt8.toNat e
    rw [UInt8.toNat_ofNat'] at this
    simp at this
    omega
   ·cases hr:(digs (m / 256)).reverse with
    | nil=>
     rw [yV h2] at hr
     simp at hr
    | cons a t=>
     rw [hr] at h
     simp only [M5,List.cons.injEq] at h
     have:=Y3 (m / 256) a t hr
     rw [<-h.1]
     exact this
theorem ZQ:j8 f (j8 f x)=x:=by
 cases f with
 |false=>rfl
 | true=>
  simp only [j8,if_true]
  apply UInt8.toNat_inj.1
  have:=x.toNat_lt
  rw [UInt8.toNat_sub_of_le _ _ (by rw [UInt8.le_iff_toNat_le,UInt8.toNat_sub_of_le _ _ (by rw [UInt8.le_iff_toNat_le];simp;omega)];simp),UInt8.toNat_sub_of_le _ _ (by rw [UInt8.le_iff_toNat_le];simp;omega)]
  simp
  omega
def jt (c:UInt8):Nat:=if c.toNat<128 then 127 - c.toNat else c.toNat - 128
def turned (c:UInt8):Bool:=decide (c.toNat<128)
def body (c:UInt8) (r:List UInt8):List UInt8:=(r.take (jt c)).map (j8 (turned c))
def qG:List UInt8->Int×Nat×Int
 | []=>(0,0,3)
 | c::r=>
  if 8<jt c then (0,0,2) else if r.length<jt c then (0,0,3) else if 0<jt c∧j8 (turned c) (r.getD 0 0)=0 then (0,0,2)
  else if 9223372036854775808<=val (body c r) then (0,0,2)
  else (if turned c=true then -1 - (val (body c r):Int) else (val (body c r):Int),jt c+1,0)
theorem J8 (hm:wS .i64 m):qG (qv m++rest)=(m,(qv m).length,0):=by
 have hl:=J0 hm
 have hg:=Ww hm
 obtain ⟨g,hgd⟩:∃g,mag m=g:=⟨_,rfl⟩
 have hv:=Ub g
 have hh:=Y3 g
 rw [hgd] at hl hg
 obtain ⟨c,hc⟩:∃c,UInt8.ofNat (if m<0 then 127 - (digs g).length else 128+(digs g).length)=c:=⟨_,rfl⟩
 have hcn:c.toNat=if m<0 then 127 - (digs g).length else 128+(digs g).length:=by
  rw [<-hc,UInt8.toNat_ofNat']
  split<;>omega
 have ht:jt c=(digs g).length:=by
  unfold jt
  rw [hcn]
  split<;>split<;>omega
 have hf:turned c=decide (m<0):=by
  unfold turned
  rw [hcn]
  apply decide_eq_decide.2
  split<;>omega
 have he:qv m=c::(digs g).reverse.map (j8 (decide (m<0))):=by rw [qv,hgd,hc]
 have hlen:(qv m).length=(digs g).length+1:=by rw [he];simp
 have hb:body c ((digs g).reverse.map (j8 (decide (m<0)))++rest)=(digs g).reverse:=by
  unfold body
  rw [ht,hf,List.take_append_of_le_length (by simp),List.take_of_length_le (by simp),M6]
  refine (List.map_congr_left fun x _=>?_).trans (List.map_id _)
  exact ZQ
 rw [hlen,he,M5]
 unfold qG
 dsimp only
 rw [hb,hv,ht,hf,if_neg (by omega),if_neg (by simp),if_neg ?_,if_neg (by omega)]
 ·have:m=if m<0 then -1 - (g:Int) else (g:Int):=by
   rw [<-hgd]
   unfold mag
   split<;>omega
  simp only [decide_eq_true_eq]
  rw [<-this]
 ·rintro ⟨h1,h2⟩
  cases hr:(digs g).reverse with
  | nil=>
   have:=congrArg List.length hr
   simp at this
   rw [this] at h1
   simp at h1
  | cons a t=>
   rw [hr] at h2
   simp only [List.map_cons,M5,Md] at h2
   rw [ZQ] at h2
   exact hh a t hr h2
theorem zL:(qG b).2.1<=b.length:=by
 unfold qG
 split
 ·simp
 ·next c r=>
  split
  ·simp
  ·split
   ·simp
   ·split
    ·simp
    ·split
     ·simp
     ·simp;omega
end Go.Proofs.YtgopigkdcmhbbaaGreatDoor
end
noncomputable section
namespace Go.Proofs.YtgopigkdcmhbbaaGreatDoor
open Go.Xs
open Go Go.Aw
def y7:=yy Tryz.f7
def V7:=PLift.up (aI (@unf (y7 4) (F [u,u,u,u,u,u,v,u]) rfl) (aI (@unf (y7 2) (R [u,v,u] (y7 4)) rfl) (@unf (y7 0) (R [u] (y7 2)) rfl)))
theorem U7:type_of% V7.down:=V7.down
theorem b7:Bt 7 15 (y7 0) [(.cell 4 26)]:=bt Tryz.func7 rfl
end Go.Proofs.YtgopigkdcmhbbaaGreatDoor
end
section

end
section
namespace Go.Proofs.YtgopigkdcmhbbaaGreatDoor
open Go Go.Aw
variable {R:D->AH->Prop}
theorem uE {l:List UInt8} {i:Nat} (h:i<l.length):(l.map qh).getD i []= [.int .u8 ((l.getD i 0).toNat:Int)]:=by simp [h,qh]
theorem rx:bits .xor .u8 (c.toNat:Int) (KE f)=((j8 f c).toNat:Int):=by
 rw [rr c.toNat_lt,UInt8.ofNat_toNat]
theorem VJ (c:UInt8):((j8 (turned c) c).toNat:Int) - 128=(jt c:Int):=by
 have:=c.toNat_lt
 unfold turned jt
 by_cases h:c.toNat<128
 ·rw [decide_eq_true h,if_pos h,j8,if_pos rfl,UInt8.toNat_sub_of_le _ _ (by rw [UInt8.le_iff_toNat_le];simp;omega)]
  simp
  omega
 ·rw [decide_eq_false h,if_neg h,j8,if_neg (by simp)]
  omega
theorem pj {m x:Nat} (hm:256*m+x<18446744073709551616) (hx:x<256):bits .or .u64 (IntKind.u64.wrap ((m:Int)*2 ^ (min ((8:Int).toNat) IntKind.u64.bits))) (x:Int)=((256*m+x:Nat):Int):=by
 have e1:(2:Int) ^ (min ((8:Int).toNat) IntKind.u64.bits)=256:=rfl
 rw [e1,IntKind.wrap_u64,show ((m:Int)*256) % 18446744073709551616=((m*256:Nat):Int) by omega,u64_or_nat _ _ (by omega) (by omega)]
 have:=Nat.two_pow_add_eq_or_of_lt (i:=8) (b:=x) (by omega) m
 rw [show m*256=2 ^ 8*m by omega,<-this]
theorem Da {f:Bool} {k6:D} {rs:List UInt8} {H:AH} {Q:AQ} {F:List D} (hr:rs.length<=8) (hF:Fr 71 [(5,.int .u8 (KE f)),(6,k6),(7,.int .u64 0),(46,.slc (rs.map qh)),(47,.i rs.length),(48,.i 0)] F) (hE:∀F',Fr 71 [(5,.int .u8 (KE f)),(6,k6),(7,.int .u64 (val (rs.map (j8 f)):Int))] F'->Q (.exit 1) F' H):XW Tryz.prog (u5 48) F H Q:=by
 have hbig:=qn
 refine XW.loopK hmm (fun F H'=>∃(j:Nat),j<=rs.length∧Fr 71 [(5,.int .u8 (KE f)),(6,k6),(7,.int .u64 (val ((rs.take j).map (j8 f)):Int)),(46,.slc (rs.map qh)),(47,.i rs.length),(48,.i j)] F∧H=H') (fun F H=>match F.getD 48 .any with| .int _ n'=>rs.length - n'.toNat|_=>0) ⟨0,by omega,hF,rfl⟩ ?_
 rintro _ _ ⟨j,hj,hF,rfl⟩ K hN hE' hR
 obtain ⟨z,rfl⟩:=hF.fl rfl
 try dsimp only [fl,zz,qa,qb] at*
 clear hF hR
 by_cases hlt:j<rs.length
 ·have nx:∀F',Fr 71 [(5,.int .u8 (KE f)),(6,k6),(7,.int .u64 ((256*val ((rs.take j).map (j8 f))+(j8 f (rs.getD j 0)).toNat:Nat):Int)),(46,.slc (rs.map qh)),(47,.i rs.length),(48,.i ((j+1:Nat):Int))] F'->K .normal F' H:=fun F' hF'=>hN _ _ ⟨j+1,hlt,by
    have:(rs.take (j+1)).map (j8 f)=(rs.take j).map (j8 f)++ [j8 f (rs.getD j 0)]:=by
     rw [List.take_add_one,Mp]
     simp [hlt]
    rw [this,Ue]
    exact hF',(qL rfl).symm⟩ (by
   rw [Ma,hF'.2.2.2.2.2.2.1]
   simp only [Mc,Md,Mf]
   omega)
  clear hN hE hE'
  have q1:=uE hlt
  have hv:val ((rs.take j).map (j8 f))<256 ^ 7:=Ms (cA _) (Nat.pow_le_pow_right (by omega) (by simp;omega))
  generalize val ((rs.take j).map (j8 f))=v at nx hv ⊢
  generalize rs.getD j 0=c at q1 nx
  have hc:=(j8 f c).toNat_lt
  have xb:=rx (f:=f) (c:=c)
  have w1:=pj (m:=v) (x:=(j8 f c).toNat) (by omega) (by omega)
  have w2:IntKind.u64.wrap (((j8 f c).toNat:Int))=((j8 f c).toNat:Int):=by rw [IntKind.wrap_u64];omega
  simp+contextual only [hlt,Int.ofNat_lt,q1,xb,w1,w2,qm (show j<=big by omega),↓U49,↓XP,ql]
  exact fun _=>⟨by decide,nx _ ⟨rfl,rfl,rfl,rfl,rfl,rfl,rfl,trivial⟩⟩
 ·have hik:j=rs.length:=by omega
  subst hik
  clear hN
  rw [List.take_length]
  simp+contextual only [↓U49,↓XP,qA]
  exact hE' _ _ _ (hE _ ⟨rfl,rfl,rfl,rfl,trivial⟩)
theorem ti {c:UInt8} {r:List UInt8} {xs:List (List D)} {H:AH} {F:List D} (hF:Fr 71 [(0,.slc xs),(5,.int .u8 (KE (turned c))),(6,.i (jt c:Int))] F) (hl:xs.length=r.length+1) (h1:∀x∈xs,x.length=1) (hL:r.length+1<=big)
  (q1:0<r.length->xs.getD 1 []= [.int .u8 ((r.getD 0 0).toNat:Int)]) (hx2:(xs.take (jt c+1)).drop 1=(r.take (jt c)).map qh)
  (hk:∀t,qG (c::r)=t->R (.tup [.i t.1,.i (t.2.1:Int),.i t.2.2]) H):xcode Tryz.prog (u5 20) F H (oe Tryz.prog [.tmp 2,.tmp 3,.tmp 4] H.length R):=by
 have hbig:=qn
 obtain ⟨z,rfl⟩:=hF.fl rfl
 try dsimp only [fl,zz,qa,qb] at*
 clear hF
 unfold qG at hk
 dsimp only at hk
 unfold body at hk
 have hc:=c.toNat_lt
 have tl:jt c<=127:=by unfold jt;split<;>omega
 by_cases c1:8<jt c
 ·simp+contextual only [show ((8:Int)<(jt c:Int))=True from qC,↓U49,↓XP,qA]
  exact hk _ (by rw [if_pos c1])
 rw [if_neg c1] at hk
 by_cases c2:r.length<jt c
 ·simp+contextual only [show ((8:Int)<(jt c:Int))=False from qY,hl,show (((r.length+1:Nat):Int)<=(jt c:Int))=True from qC,↓U49,↓XP,ql]
  exact fun _=>hk _ (by rw [if_pos c2])
 rw [if_neg c2] at hk
 have wk:IntKind.i64.wrap ((jt c:Int)+1)=((jt c+1:Nat):Int):=by rw [qj (by omega) (by omega)];omega
 have tl2:(r.take (jt c)).length=jt c:=by simp;omega
 have fin:¬(0<jt c∧j8 (turned c) (r.getD 0 0)=0)->∀F,Fr 71 [(5,.int .u8 (KE (turned c))),(6,.i (jt c:Int)),(7,.int .u64 0),(46,.slc ((r.take (jt c)).map qh)),(47,.i (jt c:Int)),(48,.i 0)] F->XW Tryz.prog (u5 48) F H (yI 1 (Ze Tryz.prog (u5 60) (oe Tryz.prog [.tmp 2,.tmp 3,.tmp 4] H.length R))):=by
  intro hno F hF
  rw [if_neg hno] at hk
  refine Da (f:=turned c) (k6:= .i (jt c:Int)) (rs:=r.take (jt c)) (by omega) (by rw [tl2];exact hF) fun F' hF'=>?_
  obtain ⟨z,rfl⟩:=hF'.fl rfl
  try dsimp only [fl,zz,qa,qb] at*
  clear hF' hF
  have hv:=cA ((r.take (jt c)).map (j8 (turned c)))
  have hv2:val ((r.take (jt c)).map (j8 (turned c)))<256 ^ 8:=Ms hv (Nat.pow_le_pow_right (by omega) (by simp;omega))
  generalize val ((r.take (jt c)).map (j8 (turned c)))=v at hk hv2 ⊢
  have e63:((v:Int)).fdiv (2 ^ (min ((63:Int).toNat) IntKind.u64.bits))=((v / 9223372036854775808:Nat):Int):=by
   rw [show (2:Int) ^ (min ((63:Int).toNat) IntKind.u64.bits)=9223372036854775808 from rfl,Int.fdiv_eq_ediv_of_nonneg _ (by omega)]
   omega
  by_cases c5:9223372036854775808<=v
  ·have hz:((0:Int)<((v / 9223372036854775808:Nat):Int))=True:=qC
   simp+contextual only [e63,hz,↓U49,↓XP,qA,XW1]
   exact ⟨by decide,hk _ (by rw [if_pos c5])⟩
  ·have hz:((0:Int)<((v / 9223372036854775808:Nat):Int))=False:=qY
   rw [if_neg c5] at hk
   cases ht:turned c with
   | true=>
    have ux:bits .xor .u64 (if IntKind.u64.signed=true then -1 else IntKind.u64.max) (v:Int)=((18446744073709551615 - v:Nat):Int):=by
     rw [show (if IntKind.u64.signed=true then (-1:Int) else IntKind.u64.max)=((18446744073709551615:Nat):Int) from rfl,u64_xor_nat _ _ (by omega) (by omega),ls (by omega)]
    have wv:IntKind.i64.wrap ((18446744073709551615 - v:Nat):Int)= -1 - (v:Int):=by rw [IntKind.wrap_i64];omega
    simp+contextual only [e63,hz,show KE true=255 from rfl,show ((0:Int)<255)=True from qC,ux,wv,wk,↓U49,↓XP,ql,XW1]
    have hk2:=hk _ rfl
    rw [ht] at hk2
    exact ⟨by decide,hk2⟩
   | false=>
    have wv:IntKind.i64.wrap (v:Int)=(v:Int):=by rw [IntKind.wrap_i64];omega
    simp+contextual only [e63,hz,show KE false=0 from rfl,show ((0:Int)<0)=False from qY,wv,wk,↓U49,↓XP,ql,XW1]
    have hk2:=hk _ rfl
    rw [ht] at hk2
    exact ⟨by decide,hk2⟩
 have k1:((1:Int)<=((jt c+1:Nat):Int))=True:=qC
 have k2:(((jt c+1:Nat):Int)<=((r.length+1:Nat):Int))=True:=qC
 by_cases c3:0<jt c
 ·have q1':=q1 (by omega)
  have xb:=rx (f:=turned c) (c:=r.getD 0 0)
  by_cases c4:j8 (turned c) (r.getD 0 0)=0
  ·rw [c4,show (((UInt8.toNat 0:Nat):Int))=0 from rfl] at xb
   simp+contextual only [show ((8:Int)<(jt c:Int))=False from qY,hl,show (((r.length+1:Nat):Int)<=(jt c:Int))=False from qY,show ((0:Int)<(jt c:Int))=True from qC,show ((1:Int)).toNat=1 from rfl,show ((0:Int)<=1)=True from qC,q1',xb,show (1<((r.length+1:Nat):Int))=True from qC,↓U49,↓XP,ql]
   exact fun _ _=>hk _ (by rw [if_pos ⟨c3,c4⟩])
  ·have xz:((((j8 (turned c) (r.getD 0 0)).toNat:Nat):Int)=0)=False:=eq_false (fun h=>c4 (UInt8.toNat_inj.1 (by simpa using h)))
   simp+contextual only [show ((8:Int)<(jt c:Int))=False from qY,hl,show (((r.length+1:Nat):Int)<=(jt c:Int))=False from qY,show ((0:Int)<(jt c:Int))=True from qC,show ((1:Int)).toNat=1 from rfl,show ((0:Int)<=1)=True from qC,q1',xb,xz,show (1<((r.length+1:Nat):Int))=True from qC,wk,h1,k1,k2,hx2,tl2,↓U49,↓XP,ql,XW1]
   exact fun _ _ _=>fin (fun h=>c4 h.2) _ ⟨rfl,rfl,rfl,rfl,rfl,rfl,rfl,trivial⟩
 ·simp+contextual only [show ((8:Int)<(jt c:Int))=False from qY,hl,show (((r.length+1:Nat):Int)<=(jt c:Int))=False from qY,show ((0:Int)<(jt c:Int))=False from qY,show ((1:Int)).toNat=1 from rfl,show ((0:Int)<=1)=True from qC,wk,h1,k1,k2,hx2,tl2,↓U49,↓XP,ql,XW1]
  exact fun _ _=>fin (fun h=>c3 h.1) _ ⟨rfl,rfl,rfl,rfl,rfl,rfl,rfl,trivial⟩
theorem zj {b:List UInt8} {H:AH} (h:R (.tup [.i (qG b).1,.i ((qG b).2.1:Int),.i (qG b).2.2]) H):ACall Tryz.prog 49 [.slc (b.map qh)] H R:=by
 refine b49 fun hf=>?_
 have hbig:=qn
 rcases hb:b with _|⟨c,r⟩
 ·subst hb
  simp+contextual only [↓U49.2.2.2.2.2,↓U49.2.2.2.2.1,↓U49.2.2.2.1,↓U49.1.1.1.1,Mj,show ((((0:Nat):Int))=0)=True from eq_true rfl,↓XP,ql,qa]
  exact fun _=>h
 have hk:∀t,qG (c::r)=t->R (.tup [.i t.1,.i (t.2.1:Int),.i t.2.2]) H:=fun t ht=>by rw [<-ht,<-hb];exact h
 clear h
 have q0:=uE (l:=c::r) (i:=0) (by simp)
 have q1:0<r.length->((c::r).map qh).getD 1 []= [.int .u8 ((r.getD 0 0).toNat:Int)]:=fun h=>by rw [uE (by simp;omega)];rfl
 simp only [Md] at q0
 have hl:((c::r).map qh).length=r.length+1:=by simp
 have hx2:(((c::r).map qh).take (jt c+1)).drop 1=(r.take (jt c)).map qh:=by rw [<-List.map_take];rfl
 have h1:∀x∈(c::r).map qh,x.length=1:=ji
 generalize ((c::r).map qh)=xs at q0 q1 hl hx2 hf h1 ⊢
 have hz:(((r.length+1:Nat):Int)=0)=False:=qY
 have hz2:((0:Int)<((r.length+1:Nat):Int))=True:=qC
 have h8:=VJ c
 have hc:=c.toNat_lt
 have w1:=(j8 (turned c) c).toNat_lt
 have w2:IntKind.i64.wrap (((j8 (turned c) c).toNat:Int) - 128)=(jt c:Int):=by rw [h8];unfold jt;exact qj (by split<;>omega) (by split<;>omega)
 have w3:IntKind.i64.wrap (((j8 (turned c) c).toNat:Int))=((j8 (turned c) c).toNat:Int):=qj (by omega) (by omega)
 have xb:=rx (f:=turned c) (c:=c)
 by_cases c1:c.toNat<128
 ·have ft:KE (turned c)=255:=by rw [turned,decide_eq_true c1];rfl
  have c1':((c.toNat:Int)<128)=True:=qC
  rw [ft] at xb
  simp+contextual only [↓U49.2.2.2.2.2,↓U49.2.2.2.2.1,↓U49.2.2.2.1,↓U49.2.2.1.2,↓U49.1.1.1.1,q0,hl,hz,hz2,c1',xb,w3,w2,↓XP,ql,XW1,qa]
  refine fun hlb _=>ti ⟨rfl,rfl,congrArg (fun x=>some (D.int .u8 x)) ft.symm,rfl,trivial⟩ hl h1 hlb q1 hx2 hk
 ·have ft:KE (turned c)=0:=by rw [turned,decide_eq_false c1];rfl
  have c1':((c.toNat:Int)<128)=False:=qY
  rw [ft] at xb
  simp+contextual only [↓U49.2.2.2.2.2,↓U49.2.2.2.2.1,↓U49.2.2.2.1,↓U49.2.2.1.2,↓U49.1.1.1.1,q0,hl,hz,hz2,c1',xb,w3,w2,↓XP,ql,XW1,qa]
  refine fun hlb _=>ti ⟨rfl,rfl,congrArg (fun x=>some (D.int .u8 x)) ft.symm,rfl,trivial⟩ hl h1 hlb q1 hx2 hk
def qu (b:List UInt8):Int×Nat×Int:=
 if (qG b).2.2≠0 then qG b else if (qG b).1<0 then ((qG b).1,(qG b).2.1,2)
 else if (b.length:Int) - (qG b).2.1<(qG b).1 then ((qG b).1,(qG b).2.1,3) else qG b
theorem dQ:(qu b).2.1=(qG b).2.1:=by
 unfold qu
 repeat' split
 all_goals rfl
theorem Jo:(qu b).2.1<=b.length:=by rw [dQ];exact zL
theorem oP (h:(qu b).2.2=0):0<=(qu b).1∧(qu b).1+(qu b).2.1<=b.length∧qu b=qG b:=by
 unfold qu at h ⊢
 by_cases c1:(qG b).2.2≠0
 ·rw [if_pos c1] at h;exact (c1 h).elim
 rw [if_neg c1] at h ⊢
 by_cases c2:(qG b).1<0
 ·rw [if_pos c2] at h;simp at h
 rw [if_neg c2] at h ⊢
 by_cases c3:(b.length:Int) - (qG b).2.1<(qG b).1
 ·rw [if_pos c3] at h;simp at h
 rw [if_neg c3]
 exact ⟨by omega,by omega,rfl⟩
theorem Y9 {n:Nat} {rest:List UInt8} (hn:n<=rest.length) (hb:n<=140737488355328):qu (qv n++rest)=((n:Int),(qv n).length,0):=by
 have h:=J8 (m:=(n:Int)) (rest:=rest) (Ux hb)
 unfold qu
 rw [h,if_neg (by simp),if_neg (by simp),if_neg (by simp;omega)]
def qW (b:List UInt8):List UInt8×Nat×Int:=
 if (qu b).2.2=0 then ((b.drop (qu b).2.1).take (qu b).1.toNat,(qu b).2.1+(qu b).1.toNat,0) else ([],0,(qu b).2.2)
theorem Jq:(qW b).2.1<=b.length:=by
 unfold qW
 split
 ·next h=>have:=oP h;simp;omega
 ·simp
theorem WT:(qW b).1.length<=b.length:=by
 unfold qW
 split
 ·simp;omega
 ·simp
theorem Ym {s rest:List UInt8} (hb:s.length<=140737488355328):qW (qB s++rest)=(s,(qB s).length,0):=by
 have h:=Y9 (n:=s.length) (rest:=s++rest) (by simp) hb
 unfold qW qB
 rw [Mq,h]
 simp
def Q3 {α:Type} (f:List UInt8->α×Nat×Int):Nat->List UInt8->List α×Nat×Int
 |0,_=>([],0,0)
 | n+1,b=>if (f b).2.2≠0 then ([],0,(f b).2.2) else
  if (Q3 f n (b.drop (f b).2.1)).2.2≠0 then ([],0,(Q3 f n (b.drop (f b).2.1)).2.2)
  else ((f b).1::(Q3 f n (b.drop (f b).2.1)).1,(f b).2.1+(Q3 f n (b.drop (f b).2.1)).2.1,0)
def zp {α:Type} (f:List UInt8->α×Nat×Int) (b:List UInt8):List α×Nat×Int:=
 if (qu b).2.2≠0 then ([],0,(qu b).2.2) else
 if (Q3 f (qu b).1.toNat (b.drop (qu b).2.1)).2.2≠0 then ([],0,(Q3 f (qu b).1.toNat (b.drop (qu b).2.1)).2.2)
 else ((Q3 f (qu b).1.toNat (b.drop (qu b).2.1)).1,(qu b).2.1+(Q3 f (qu b).1.toNat (b.drop (qu b).2.1)).2.1,0)
theorem cj {α:Type} {f:List UInt8->α×Nat×Int} (hf:∀b,(f b).2.1<=b.length):∀(n:Nat) (b:List UInt8),(Q3 f n b).2.1<=b.length∧(Q3 f n b).1.length<=n
 |0,b=>by simp [Q3]
 | n+1,b=>by
  have h1:=hf b
  have h2:=cj hf n (b.drop (f b).2.1)
  rw [List.length_drop] at h2
  unfold Q3
  split
  ·simp
  ·split
   ·simp
   ·simp;omega
theorem ZO {α:Type} {f:List UInt8->α×Nat×Int} (hf:∀b,(f b).2.1<=b.length) {b:List UInt8}:(zp f b).2.1<=b.length∧(zp f b).1.length<=b.length:=by
 unfold zp
 split
 ·simp
 ·next h=>
  have h0:=oP (Classical.not_not.1 h)
  have h2:=cj hf (qu b).1.toNat (b.drop (qu b).2.1)
  rw [List.length_drop] at h2
  split
  ·simp
  ·constructor
   ·dsimp only;omega
   ·dsimp only;omega
theorem ZY {α:Type} {f:List UInt8->α×Nat×Int} {enc:α->List UInt8}:∀(l:List α) (rest:List UInt8),(∀x∈l,∀r,f (enc x++r)=(x,(enc x).length,0))->Q3 f l.length (l.flatMap enc++rest)=(l,(l.flatMap enc).length,0)
 | [],rest,_=>rfl
 | x::l,rest,h=>by
  have h1:=h x (.head _) (l.flatMap enc++rest)
  have h2:=ZY l rest (fun y hy=>h y (.tail _ hy))
  have e:(x::l).flatMap enc++rest=enc x++(l.flatMap enc++rest):=by simp
  rw [e,Mi]
  unfold Q3
  rw [h1]
  dsimp only
  rw [List.drop_left,h2]
  simp
theorem ZA {α:Type} {enc:α->List UInt8}:∀{l:List α},(∀x∈l,0<(enc x).length)->l.length<=(l.flatMap enc).length
 | [],_=>by simp
 | x::l,h=>by
  have h1:=h x (.head _)
  have h2:=ZA (l:=l) (fun y hy=>h y (.tail _ hy))
  simp only [List.flatMap_cons,Mh,Mi]
  omega
theorem U0 {α:Type} {f:List UInt8->α×Nat×Int} {enc:α->List UInt8} {l:List α} {rest:List UInt8} (h:∀x∈l,∀r,f (enc x++r)=(x,(enc x).length,0)) (hp:∀x∈l,0<(enc x).length) (hb:l.length<=140737488355328):
  zp f (qv l.length++l.flatMap enc++rest)=(l,(qv l.length++l.flatMap enc).length,0):=by
 have h1:=ZA hp
 have h2:=Y9 (n:=l.length) (rest:=l.flatMap enc++rest) (by rw [Mh];omega) hb
 have h3:=ZY l rest h
 unfold zp
 rw [Mq,h2]
 dsimp only
 rw [if_neg (by simp),List.drop_left,Mg,h3]
 simp
def jy (b:List UInt8):List Int×Nat×Int:=zp qG b
def kg (b:List UInt8):List (List UInt8)×Nat×Int:=zp qW b
theorem ints_le {b:List UInt8}:(jy b).2.1<=b.length∧(jy b).1.length<=b.length:=ZO fun _=>zL
theorem strs_le {b:List UInt8}:(kg b).2.1<=b.length∧(kg b).1.length<=b.length:=ZO fun _=>Jq
theorem G3:0<(qv n).length:=by simp [qv]
theorem dg {l:List Int} {rest:List UInt8} (h:∀x∈l,wS .i64 x) (hb:l.length<=140737488355328):jy (qN l++rest)=(l,(qN l).length,0):=
 U0 (enc:=qv) (fun x hx r=>J8 (h x hx)) (fun x _=>G3) hb
theorem be {l:List (List UInt8)} {rest:List UInt8} (h:∀x∈l,x.length<=140737488355328) (hb:l.length<=140737488355328):kg (yE l++rest)=(l,(yE l).length,0):=
 U0 (enc:=qB) (fun x hx r=>Ym (h x hx)) (fun x _=>by simp only [qB,Mh];have:=G3 (n:=(x.length:Int));omega) hb
theorem Kw (h:R (.tup [.i (qu b).1,.i ((qu b).2.1:Int),.i (qu b).2.2]) H):ACall Tryz.prog 119 [.slc (b.map qh),.i 1] H R:=by
 refine CM fun hf=>?_
 have hbig:=qn
 have hle:=zL (b:=b)
 unfold qu at h
 simp+contextual only [↓d4,↓d4,↓XP,qA,qa,qb]
 refine zj ?_
 generalize qG b=t at h hle ⊢
 obtain ⟨n,k,e⟩:=t
 dsimp only at h hle ⊢
 rcases Classical.em (e=0) with c1|c1
 ·subst c1
  rw [if_neg (by simp)] at h
  rcases Classical.em (n<0) with c2|c2
  ·rw [if_pos c2] at h
   simp+contextual only [eq_true c2,↓d4,↓XP,qA,XW1]
   exact fun _ _ _=>h
  ·rw [if_neg c2] at h
   simp+contextual only [eq_false c2,↓d4,↓XP,ql,XW1]
   refine fun _ _ _ hb=>⟨by decide,?_⟩
   have w1:IntKind.i64.wrap ((b.length:Int) - k)=(b.length:Int) - k:=qj (by omega) (by omega)
   rw [w1,Int.tdiv_one,w1]
   refine ⟨fun c=>?_,fun c=>?_⟩
   ·rw [if_pos c] at h
    exact h
   ·rw [if_neg c] at h
    exact h
 ·rw [if_pos c1] at h
  simp+contextual only [eq_false c1,↓d4,↓XP,qA,XW1]
  exact fun _ _ _=>h
theorem Gi {b:List UInt8} {k m:Nat}:((b.map qh).take (k+m)).drop k=((b.drop k).take m).map qh:=by
 rw [<-List.map_take,<-List.map_drop,List.drop_take,Nat.add_sub_cancel_left]
theorem YE {b:List UInt8} (h:fact (.slc (b.map qh))):b.length<=140737488355328:=by
 have:=h
 rw [lP,JY,qn] at this
 exact this
theorem Qy {b:List UInt8} {H:AH} (h:R (.tup [.str (qW b).1,.i ((qW b).2.1:Int),.i (qW b).2.2]) H):ACall Tryz.prog 77 [.slc (b.map qh)] H R:=by
 refine b77 fun hf=>?_
 have hbig:=qn
 have hle:=Jo (b:=b)
 have hok:=oP (b:=b)
 unfold qW at h
 simp+contextual only [↓C3,↓C3,↓XP,qA,qa]
 refine Kw ?_
 have hok2:(qu b).2.2=0->0<=(qu b).1∧(qu b).1+(qu b).2.1<=b.length:=fun h=>⟨(hok h).1,(hok h).2.1⟩
 clear hok
 generalize qu b=t at h hle hok2 ⊢
 obtain ⟨n,k,e⟩:=t
 dsimp only at h hle hok2 ⊢
 rcases Classical.em (e=0) with c1|c1
 ·subst c1
  rw [if_pos rfl] at h
  obtain ⟨g1,g2⟩:=hok2 rfl
  have hb:=YE hf.1
  obtain ⟨m,rfl⟩:=My g1
  have w1:IntKind.i64.wrap ((k:Int)+(m:Int))=((k+m:Nat):Int):=by rw [qj (by omega) (by omega)];omega
  dsimp only at h
  rw [Mg] at h
  simp+contextual only [w1,Gi,Jb,↓C3,↓XP,ql,XW1]
  refine fun _ _ _=>⟨ji,by omega,by omega,gU,fun _=>h⟩
 ·rw [if_neg c1] at h
  simp+contextual only [eq_false c1,↓C3,↓XP,qA,XW1]
  exact fun _ _ _=>h
def QP {α:Type} (acc:List α) (a:Nat) (r:List α×Nat×Int):List α×Nat×Int:=if r.2.2≠0 then ([],0,r.2.2) else (acc++r.1,a+r.2.1,0)
theorem ZJ {α:Type} {f:List UInt8->α×Nat×Int} {acc:List α} {a m:Nat} {b:List UInt8} (h:¬(f (b.drop a)).2.2=0):QP acc a (Q3 f (m+1) (b.drop a))=([],0,(f (b.drop a)).2.2):=by
 unfold Q3
 rw [if_pos h]
 unfold QP
 rw [if_pos h]
theorem WR {α:Type} {f:List UInt8->α×Nat×Int} {acc:List α} {a m:Nat} {b:List UInt8} (h:(f (b.drop a)).2.2=0):
  QP acc a (Q3 f (m+1) (b.drop a))=QP (acc++ [(f (b.drop a)).1]) (a+(f (b.drop a)).2.1) (Q3 f m (b.drop (a+(f (b.drop a)).2.1))):=by
 rw [Q3,if_neg (fun c=>c h),List.drop_drop]
 generalize Q3 f m (b.drop (a+(f (b.drop a)).2.1))=t
 by_cases c:t.2.2=0
 ·simp [QP,c,Nat.add_assoc]
 ·simp [QP,c]
theorem ZM {α:Type} {f:List UInt8->α×Nat×Int} {acc:List α} {a:Nat} {b:List UInt8}:QP acc a (Q3 f 0 b)=(acc,a,0):=by
 simp [QP,Q3]
theorem VS {α:Type} {f:List UInt8->α×Nat×Int} {b:List UInt8} (h:(qu b).2.2=0):zp f b=QP [] (qu b).2.1 (Q3 f (qu b).1.toNat (b.drop (qu b).2.1)):=by
 unfold zp QP
 rw [if_neg (fun c=>c h)]
 simp
theorem vp {b:List UInt8} {a:Nat}:((b.map qh).take (b.length)).drop a=(b.drop a).map qh:=by
 rw [<-List.map_take,<-List.map_drop,List.take_length]
theorem KN {b:List UInt8} {H:AH} (hB:b.length<=1000000000) (h:R (.tup [.own (strs (kg b).1),.i ((kg b).2.1:Int),.i (kg b).2.2]) H):ACall Tryz.prog 118 [.slc (b.map qh)] H R:=by
 refine Ea fun hf=>?_
 have hbig:=qn
 have hle:=Jo (b:=b)
 have hok:=oP (b:=b)
 have hb:=YE hf.1
 have hfin:=VS (f:=qW) (b:=b)
 have hk:∀t,kg b=t->R (.tup [.own (strs t.1),.i (t.2.1:Int),.i t.2.2]) H:=fun t ht=>by rw [<-ht];exact h
 clear h
 unfold kg at hk
 simp+contextual only [↓WC,↓WC,↓XP,qA,qa]
 refine Kw ?_
 have hok2:(qu b).2.2=0->0<=(qu b).1∧(qu b).1+(qu b).2.1<=b.length:=fun h=>⟨(hok h).1,(hok h).2.1⟩
 have hbad:¬(qu b).2.2=0->zp qW b=([],0,(qu b).2.2):=fun h=>by unfold zp;rw [if_pos h]
 clear hok
 generalize qu b=t at hfin hle hok2 hbad ⊢
 obtain ⟨n,k,e⟩:=t
 dsimp only at hfin hle hok2 hbad ⊢
 rcases Classical.em (e=0) with c1|c1
 ·subst c1
  obtain ⟨g1,g2⟩:=hok2 rfl
  replace hfin:=hfin rfl
  obtain ⟨n,rfl⟩:=My g1
  rw [Mg] at hfin
  simp+contextual only [↓WC,↓XP,qA,XW1]
  refine fun _ _ _=>XW.loopK hmm (fun F H'=>∃(i a:Nat) (acc:List (List UInt8)),i<=n∧a<=b.length∧acc.length=i∧zp qW b=QP acc a (Q3 qW (n - i) (b.drop a))∧Fr 45 [(0,.slc (b.map qh)),(6,.i (a:Int)),(8,.own (strs acc)),(21,.i (n:Int)),(22,.i (i:Int))] F∧H=H') (fun F H=>match F.getD 22 .any with| .int _ n'=>n - n'.toNat|_=>0) ⟨0,k,[],by omega,by omega,rfl,hfin,⟨rfl,rfl,rfl,rfl,rfl,rfl,trivial⟩,rfl⟩ ?_
  rintro _ _ ⟨i,a,acc,hi,ha,hac,hfi,hF,rfl⟩ K hN hE hR
  obtain ⟨z,rfl⟩:=hF.fl rfl
  try dsimp only [fl,zz,qa,qb] at*
  clear hF
  have sl:(strs acc).length=acc.length:=jc
  have wa:=vp (b:=b) (a:=a)
  rcases Classical.em (i<n) with hlt|hlt
  ·obtain ⟨m,hm⟩:∃m,n - i=m+1:=⟨n - i - 1,by omega⟩
   rw [hm] at hfi
   have q1:=Jq (b:=b.drop a)
   rw [List.length_drop] at q1
   have nx:(qW (b.drop a)).2.2=0->∀F',Fr 45 [(0,.slc (b.map qh)),(6,.i ((a+(qW (b.drop a)).2.1:Nat):Int)),(8,.own (strs (acc++ [(qW (b.drop a)).1]))),(21,.i (n:Int)),(22,.i ((i+1:Nat):Int))] F'->K .normal F' H:=fun he F' hF'=>hN _ _ ⟨i+1,a+(qW (b.drop a)).2.1,acc++ [(qW (b.drop a)).1],by omega,by omega,by simp;omega,by rw [hfi,WR he,show n - (i+1)=m by omega],hF',(qL rfl).symm⟩ (by
    rw [Ma,hF'.2.2.2.2.2.1]
    simp only [Mc,Md,Mf]
    omega)
   have bad:¬(qW (b.drop a)).2.2=0->R (.tup [.own (strs []),.i 0,.i (qW (b.drop a)).2.2]) H:=fun he=>hk ([],0,(qW (b.drop a)).2.2) (by rw [hfi,ZJ he])
   clear hN hE hk hfin hbad hfi
   simp+contextual only [hlt,Int.ofNat_lt,wa,↓WC,↓XP,ql]
   refine ⟨ji,by omega,Qy ?_⟩
   generalize qW (b.drop a)=t at q1 nx bad ⊢
   obtain ⟨s,k,e⟩:=t
   dsimp only at q1 nx bad ⊢
   rcases Classical.em (e=0) with c2|c2
   ·subst c2
    have w2:IntKind.i64.wrap ((a:Int)+(k:Int))=((a+k:Nat):Int):=by rw [qj (by omega) (by omega)];omega
    simp+contextual only [w2,qm (show i<=big by omega),↓WC,↓XP,ql,XW1,qc,qe]
    refine fun _ _ _=>⟨Wa,by omega,nx rfl _ ?_⟩
    rw [show strs (acc++ [s])=strs acc++ [[.str s]] by simp [strs]]
    exact ⟨rfl,rfl,rfl,rfl,rfl,rfl,trivial⟩
   ·simp+contextual only [eq_false c2,↓WC,↓XP,qA,XW1]
    refine fun _ _ _=>hR _ _ ?_
    simp+contextual only [↓XP,qA]
    exact bad c2
  ·have hik:i=n:=by omega
   subst hik
   clear hN
   rw [Nat.sub_self,ZM] at hfi
   simp+contextual only [↓WC,↓XP,qA]
   refine hE _ _ _ ?_
   simp+contextual only [↓WC,↓XP,qA,XW1]
   exact hk _ hfi
 ·simp+contextual only [eq_false c1,↓WC,↓XP,qA,XW1]
  exact fun _ _ _=>hk _ (hbad c1)
theorem Ed {args:List D} {H:AH} (h:facts args->xcode Tryz.prog (As 0) (args++List.replicate (6 - args.length) (.tup [])) H (VQ Tryz.prog [(.tmp 4)] R)):ACall Tryz.prog 138 args H R:=
 yM hm Tryz.func138 rfl (by kernel_rfl) (by kernel_rfl) (by kernel_rfl) (by kernel_rfl) (by kernel_rfl) (by kernel_rfl) h
theorem cV {fi:Nat} {b:List UInt8} {a:Nat} {H:AH} (hfi:fi=144) (h:∀b2 b3,qz H b2->(b2≠b3∧qz H b3)->R (.fn fi [.ptr b2 0,.ptr b3 0]) ((b3,.cells [.i a])::(b2,.cells [.slc (b.map qh)])::H)):ACall Tryz.prog 138 [.slc (b.map qh),.i a] H R:=by
 refine Ed fun hf=>?_
 subst hfi
 simp+contextual only [↓Fx,zi,Qq,↓XP,ql,XW1,qa,qb]
 refine fun b2 h2 b3 h3=>⟨_,Sbn.sub (List.Sublist.refl _),h b2 b3 h2 h3⟩
theorem cE {b:List UInt8} {a b2 b3:Nat} {H:AH} (ha:a<=b.length) (hne:b2≠b3) (h2:qk H b2=none) (h3:qk H b3=none)
  (h:b.length<=140737488355328->R (.tup [.i (qG (b.drop a)).1,.i ((a+(qG (b.drop a)).2.1:Nat):Int),.i (qG (b.drop a)).2.2]) ((b3,.cells [.i ((a+(qG (b.drop a)).2.1:Nat):Int)])::(b2,.cells [.slc (b.map qh)])::H)):
  ACall Tryz.prog 144 [.ptr b2 0,.ptr b3 0] ((b3,.cells [.i a])::(b2,.cells [.slc (b.map qh)])::H) R:=by
 refine Fu fun hf=>?_
 have hbig:=qn
 have q1:=zL (b:=b.drop a)
 rw [List.length_drop] at q1
 have hne':=Ne.symm hne
 simp+contextual only [↓n5,vp,qg hne,↓n5,↓XP,ql,qa,qb]
 refine fun hb _=>⟨ji,by omega,zj ?_⟩
 replace h:=h (by omega)
 generalize qG (b.drop a)=t at h q1 ⊢
 obtain ⟨x,k,e⟩:=t
 dsimp only at h q1 ⊢
 have w1:IntKind.i64.wrap ((a:Int)+(k:Int))=((a+k:Nat):Int):=by rw [qj (by omega) (by omega)];omega
 simp+contextual only [w1,↓n5,↓XP,ql,XW1]
 exact fun _ _ _ _ _=>h
theorem UV {b:List UInt8} {H:AH} (hB:b.length<=1000000000) (h:R (.tup [.own (ints (jy b).1),.i ((jy b).2.1:Int),.i (jy b).2.2]) H):ACall Tryz.prog 116 [.slc (b.map qh)] H R:=by
 refine ET fun hf=>?_
 have hbig:=qn
 have hle:=Jo (b:=b)
 have hok:=oP (b:=b)
 have hfin:=VS (f:=qG) (b:=b)
 have hk:∀t,jy b=t->R (.tup [.own (ints t.1),.i (t.2.1:Int),.i t.2.2]) H:=fun t ht=>by rw [<-ht];exact h
 clear h
 unfold jy at hk
 simp+contextual only [↓KI,↓KI,↓XP,qA,qa]
 refine Kw ?_
 have hok2:(qu b).2.2=0->0<=(qu b).1∧(qu b).1+(qu b).2.1<=b.length:=fun h=>⟨(hok h).1,(hok h).2.1⟩
 have hbad:¬(qu b).2.2=0->zp qG b=([],0,(qu b).2.2):=fun h=>by unfold zp;rw [if_pos h]
 clear hok
 generalize qu b=t at hfin hle hok2 hbad ⊢
 obtain ⟨n,k,e⟩:=t
 dsimp only at hfin hle hok2 hbad ⊢
 rcases Classical.em (e=0) with c1|c1
 ·subst c1
  obtain ⟨g1,g2⟩:=hok2 rfl
  replace hfin:=hfin rfl
  obtain ⟨n,rfl⟩:=My g1
  rw [Mg] at hfin
  simp+contextual only [↓KI,↓XP,qA,XW1]
  obtain ⟨fi,hfi⟩:∃fi,fi=144:=⟨_,rfl⟩
  refine fun _ _ _=>cV (fi:=fi) hfi fun b2 b3 h2 h3=>?_
  have n2:=jm h2
  have n3:=jm h3.2
  simp+contextual only [↓KI,↓XP,qA,XW1]
  refine XW.loopK hmm (fun F H'=>∃(i a:Nat) (acc:List Int),i<=n∧a<=b.length∧acc.length=i∧zp qG b=QP acc a (Q3 qG (n - i) (b.drop a))∧Fr 45 [(6,.i (a:Int)),(8,.fn fi [.ptr b2 0,.ptr b3 0]),(9,.own (ints acc)),(25,.i (n:Int)),(26,.i (i:Int))] F∧H'=((b3,.cells [.i a])::(b2,.cells [.slc (b.map qh)])::H)) (fun F H=>match F.getD 26 .any with| .int _ n'=>n - n'.toNat|_=>0) ⟨0,k,[],by omega,by omega,rfl,hfin,⟨rfl,rfl,rfl,rfl,rfl,rfl,trivial⟩,rfl⟩ ?_
  rintro _ _ ⟨i,a,acc,hi,ha,hac,hfi',hF,rfl⟩ K hN hE hR
  obtain ⟨z,rfl⟩:=hF.fl rfl
  try dsimp only [fl,zz,qa,qb] at*
  clear hF
  have sl:(ints acc).length=acc.length:=jq
  rcases Classical.em (i<n) with hlt|hlt
  ·obtain ⟨m,hm⟩:∃m,n - i=m+1:=⟨n - i - 1,by omega⟩
   rw [hm] at hfi'
   have q1:=zL (b:=b.drop a)
   rw [List.length_drop] at q1
   have nx:(qG (b.drop a)).2.2=0->∀F' H',back ((b3,AO.cells [.i a])::(b2,AO.cells [.slc (b.map qh)])::H).length H'=((b3,AO.cells [.i ((a+(qG (b.drop a)).2.1:Nat):Int)])::(b2,AO.cells [.slc (b.map qh)])::H)->Fr 45 [(6,.i ((a+(qG (b.drop a)).2.1:Nat):Int)),(8,.fn fi [.ptr b2 0,.ptr b3 0]),(9,.own (ints (acc++ [(qG (b.drop a)).1]))),(25,.i (n:Int)),(26,.i ((i+1:Nat):Int))] F'->K .normal F' H':=fun he F' H' hH hF'=>hN _ _ ⟨i+1,a+(qG (b.drop a)).2.1,acc++ [(qG (b.drop a)).1],by omega,by omega,by simp;omega,by rw [hfi',WR he,show n - (i+1)=m by omega],hF',hH⟩ (by
    rw [Ma,hF'.2.2.2.2.2.1]
    simp only [Mc,Md,Mf]
    omega)
   have bad:¬(qG (b.drop a)).2.2=0->R (.tup [.own (ints []),.i 0,.i (qG (b.drop a)).2.2]) H:=fun he=>hk ([],0,(qG (b.drop a)).2.2) (by rw [hfi',ZJ he])
   clear hN hE hk hfin hbad hfi'
   simp+contextual only [hlt,Int.ofNat_lt,↓KI,↓XP,qA]
   rw [hfi]
   refine cE ha h3.1 n2 n3 fun _=>?_
   rw [<-hfi]
   generalize qG (b.drop a)=t at q1 nx bad ⊢
   obtain ⟨s,k,e⟩:=t
   dsimp only at q1 nx bad ⊢
   rcases Classical.em (e=0) with c2|c2
   ·subst c2
    simp+contextual only [qm (show i<=big by omega),↓KI,↓XP,ql,XW1,qc,qe]
    refine fun _ _ _=>⟨og,by omega,nx rfl _ _ (qL rfl) ?_⟩
    rw [show ints (acc++ [s])=ints acc++ [[.i s]] by simp [ints]]
    exact ⟨rfl,rfl,rfl,rfl,rfl,rfl,trivial⟩
   ·simp+contextual only [eq_false c2,↓KI,↓XP,qA,XW1]
    refine fun _ _ _=>hR _ _ ?_
    simp+contextual only [↓XP,qA]
    exact bad c2
  ·have hik:i=n:=by omega
   subst hik
   clear hN
   rw [Nat.sub_self,ZM] at hfi'
   simp+contextual only [↓KI,↓XP,qA]
   refine hE _ _ _ ?_
   simp+contextual only [↓KI,↓XP,qA,XW1]
   exact hk _ hfi'
 ·simp+contextual only [eq_false c1,↓KI,↓XP,qA,XW1]
  exact fun _ _ _=>hk _ (hbad c1)
def o0 (b:List UInt8) (bad:Bool):AO:= .cells [.slc (b.map qh),.bool bad]
theorem Wg (hk:k<=b.length) (hg:qk H br=some (o0 b bad))
  (h:R (.tup []) (qE H br (o0 (b.drop k) (bad||decide (e≠0))))):ACall Tryz.prog 75 [.ptr br 0,.i k,.i e] H R:=by
 refine b75 fun hf=>?_
 have hbig:=qn
 unfold o0 at hg h
 have hs2:∀o,qk (qE H br o) br=some o:=fun o=>Yq (by rw [hg];rfl)
 have hs3:∀o o',qE (qE H br o) br o'=qE H br o':=fun o o'=>gL
 cases bad with
 | true=>
  simp+contextual only [↓U75,vp,hg,hs2,hs3,↓U75.1,↓XP,ql,XW1,qa,qb]
  exact fun _=>⟨ji,by omega,h⟩
 | false=>
  rcases Classical.em (e=0) with c|c
  ·subst c
   simp+contextual only [↓U75,vp,hg,hs2,hs3,↓U75.1,↓XP,ql,XW1,qa,qb]
   exact fun _=>⟨ji,by omega,h⟩
  ·rw [decide_eq_true (show e≠0 from c)] at h
   simp+contextual only [↓U75,vp,hg,hs2,hs3,eq_false c,↓U75.1,↓XP,ql,XW1,qa,qb]
   exact fun _=>⟨ji,by omega,h⟩
def yx (b:List UInt8) (bad:Bool) (many:Int) (by':Nat):Bool:=bad||decide ((jy b).2.2≠0)||decide ((0<=many∧((jy b).1.length:Int)≠many)∨(jy b).1.length % by'≠0)
def KG (b:List UInt8) (bad:Bool) (many:Int) (by':Nat):List Int:=if yx b bad many by'=true then List.replicate many.toNat 0 else (jy b).1
theorem gn (hB:b.length<=1000000000) (hm:many<=1000) (h0:0<by') (hby:by'<=1000) (hg:qk H br=some (o0 b bad))
  (h:∀d:D,d.view= .slc (ints (KG b bad many by'))->R d (qE H br (o0 (b.drop (jy b).2.1) (yx b bad many by')))):ACall Tryz.prog 73 [.ptr br 0,.i many,.i by'] H R:=by
 refine b73 fun hf=>?_
 have hbig:=qn
 have hle:=ints_le (b:=b)
 have hg':=hg
 unfold o0 at hg'
 have hs2:∀o,qk (qE H br o) br=some o:=fun o=>Yq (by rw [hg];rfl)
 have hs3:∀o o',qE (qE H br o) br o'=qE H br o':=fun o o'=>gL
 simp+contextual only [x73,hg',↓D1,↓pT,↓XP,ql,qa,qb]
 refine fun _=>UV hB ?_
 simp+contextual only [jq,↓D1,↓pT,↓XP,qA,XW1]
 refine fun _ _ _=>Wg hle.1 hg ?_
 generalize (jy b).2.1=k at hle h ⊢
 unfold yx KG yx at h
 generalize (jy b).2.2=e at h ⊢
 generalize (jy b).1=l at hle h ⊢
 have hb1:(bad=true∨e≠0∨(0<=many∧(l.length:Int)≠many)∨l.length % by'≠0)->R (.own (List.replicate many.toNat [.i 0])) (qE H br (.cells [.slc ((b.drop k).map qh),.bool true])):=fun hc=>by
  have e1:(bad||decide (e≠0)||decide ((0<=many∧(l.length:Int)≠many)∨l.length % by'≠0))=true:=by simpa [or_assoc] using hc
  rw [e1,if_pos rfl] at h
  exact h _ (by rw [show ints (List.replicate many.toNat 0)=List.replicate many.toNat [.i 0] by simp [ints]];rfl)
 have hb2:¬(bad=true∨e≠0∨(0<=many∧(l.length:Int)≠many)∨l.length % by'≠0)->R (.slc (ints l)) (qE H br (.cells [.slc ((b.drop k).map qh),.bool false])):=fun hc=>by
  have e1:(bad||decide (e≠0)||decide ((0<=many∧(l.length:Int)≠many)∨l.length % by'≠0))=false:=by
   rw [<-Bool.not_eq_true]
   intro hh
   exact hc (by simpa [or_assoc] using hh)
  rw [e1,if_neg (by simp)] at h
  exact h _ rfl
 clear h
 obtain ⟨i,i1,i2⟩:∃i,Tryz.prog.info? 3=some i∧i.bytes=8:=⟨_,rfl,rfl⟩
 have m1:(if 0>many then (0:Int) else many)=(many.toNat:Int):=by split<;>omega
 have m2:(0<=(many.toNat:Int))=True:=qC
 have m3:(((8:Nat):Int)*(many.toNat:Int)<=140737488355328)=True:=qC
 have m4:((many.toNat:Int)<=140737488355328)=True:=qC
 have m5:((by':Int)=0)=False:=qY
 have m6:((l.length:Int)).tmod (by':Int)=((l.length % by':Nat):Int):=rfl
 have go:∀{p q:Prop},(p->q)->(¬p->q)->q:=fun a b=>(Classical.em _).elim a b
 refine go (p:=e=0) (fun c2=>?_) (fun c2=>?_)<;>refine go (p:=0<=many) (fun c3=>?_) (fun c3=>?_)<;>refine go (p:=(l.length:Int)=many) (fun c4=>?_) (fun c4=>?_)<;>refine go (p:=l.length % by'=0) (fun c5=>?_) (fun c5=>?_)<;>cases bad
 all_goals
  first
   |have c2':=eq_false c2
   |have c2':=eq_true c2
  first
   |have c3':=eq_false c3
   |have c3':=eq_true c3
  first
   |have c4':=eq_false c4
   |have c4':=eq_true c4
  first
   |have c5':(((l.length % by':Nat):Int)=0)=True:=qC
   |have c5':(((l.length % by':Nat):Int)=0)=False:=qY
  simp+contextual only [hs2,hs3,jq,o0,i1,i2,m1,m2,m3,m4,m5,m6,c2',c3',c4',c5',Mg,↓D1,↓pT,↓XP,ql,XW1,qb]
  intros
  first
   |(exfalso;omega)
   |exact hb1 (by simp [*])
   |exact hb2 (by simp [*])
def sml (n:Int):Prop:= -2000000<=n∧n<=2000000
theorem Wm (h:sml n):wS .i64 n:=by
 rw [kX]
 unfold sml at h
 omega
theorem JG (h:jM x∨x=oc):sml x.o∧sml x.s∧sml x.i:=by
 unfold sml
 rcases h with h|h
 ·unfold jM at h;omega
 ·subst h;simp [oc]
theorem nk (h:uses k≠ []):1<=k∧k<=18:=by
 refine Classical.byContradiction fun hc=>h ?_
 unfold uses
 repeat rw [if_neg (by omega)]
theorem ou (h:zk o):(∀x∈wT o,sml x)∧(∀x∈o.ids,sml x.o∧sml x.s∧sml x.i)∧o.ids.length<=4∧o.name.length<=16∧o.text.length<=1024:=by
 obtain ⟨⟨h1,h2,h3,h4,h5⟩,⟨g1,g2,g3,g4⟩,⟨i1,i2,i3,i4⟩,⟨j1,j2⟩,_⟩:=h
 have hk:=nk h1
 have hon:jM o.on∨o.on=oc:=by
  by_cases c:79∈uses o.k
  ·exact .inl (h2 c)
  ·exact .inr (h3 c)
 have hto:jM o.to∨o.to=oc:=by
  by_cases c:84∈uses o.k
  ·exact .inl (h4 c)
  ·exact .inr (h5 c)
 have hil:o.ids.length<=4:=by
  by_cases c:73∈uses o.k
  ·obtain ⟨_,_,c3,c4⟩:=g3 c
   by_cases c5:o.k=18
   ·have:=c3 c5;omega
   ·exact (c4 c5).2
  ·rw [g4 c];simp
 have hids:∀x∈o.ids,sml x.o∧sml x.s∧sml x.i:=by
  intro x hx
  by_cases c:73∈uses o.k
  ·exact JG (.inl ((g3 c).1 x hx).1)
  ·rw [g4 c] at hx;simp at hx
 have hn:sml o.n:=by
  by_cases c:78∈uses o.k
  ·obtain ⟨c1,c2⟩:=g1 c
   unfold wW at c1
   unfold yG at c2
   unfold sml
   constructor
   ·split at c1<;>omega
   ·repeat' (split at c2)
    all_goals omega
  ·rw [g2 c];unfold sml;omega
 have hab:sml o.a∧sml o.b:=by
  unfold sml
  by_cases c:83∈uses o.k
  ·have:=j1 c;unfold wh at this;omega
  ·have:=j2 c;omega
 have hk2:sml o.k:=by unfold sml;omega
 have a1:=JG hon
 have a2:=JG hto
 refine ⟨?_,hids,hil,?_,?_⟩
 ·intro x hx
  simp only [wT,z5,M5,M4,Mx,M7,or_false] at hx
  rcases hx with rfl|rfl|rfl|rfl|rfl|rfl|rfl|rfl|rfl|rfl
  ·exact hk2
  ·exact a1.1
  ·exact a1.2.1
  ·exact a1.2.2
  ·exact a2.1
  ·exact a2.2.1
  ·exact a2.2.2
  ·exact hn
  ·exact hab.1
  ·exact hab.2
 ·by_cases c:65∈uses o.k
  ·exact (i1 c).2
  ·rw [i2 c];simp
 ·by_cases c:88∈uses o.k
  ·exact i3 c
  ·rw [i4 c];simp
def triple (l:List Int) (j:Nat):Id3:=⟨l.getD (3*j) 0,l.getD (3*j+1) 0,l.getD (3*j+2) 0⟩
def triples (l:List Int):List Id3:=(List.range (l.length / 3)).map (triple l)
def pair (l:List Int) (j:Nat):Rf:=⟨l.getD (2*j) 0,l.getD (2*j+1) 0⟩
def pairs (l:List Int):List Rf:=(List.range (l.length / 2)).map (pair l)
theorem gF:∀(l:List Id3),triples (l.flatMap z5)=l
 | []=>rfl
 | x::l=>by
  have h:=gF l
  unfold triples at h ⊢
  rw [vB] at h ⊢
  rw [show 3*(x::l).length / 3=l.length+1 by rw [Mi];omega,List.range_succ_eq_map,List.map_cons,M6]
  rw [show 3*l.length / 3=l.length by omega] at h
  rw [show triple ((x::l).flatMap z5) 0=x from rfl]
  exact congrArg _ h
theorem JT:∀(l:List Rf),pairs (jz l)=l
 | []=>rfl
 | x::l=>by
  have h:=JT l
  unfold pairs at h ⊢
  rw [wl] at h ⊢
  rw [show 2*(x::l).length / 2=l.length+1 by rw [Mi];omega,List.range_succ_eq_map,List.map_cons,M6]
  rw [show 2*l.length / 2=l.length by omega] at h
  rw [show pair (jz (x::l)) 0=x from rfl]
  exact congrArg _ h
theorem YP (h:∀x∈l,wS .i64 x) (hb:l.length<=140737488355328) (hm:0<=many->(l.length:Int)=many) (hy:l.length % by'=0):
  yx (qN l++r) false many by'=false∧KG (qN l++r) false many by'=l∧(qN l++r).drop (jy (qN l++r)).2.1=r:=by
 have e:=dg (rest:=r) h hb
 have e1:yx (qN l++r) false many by'=false:=by
  unfold yx
  rw [e]
  simp [hy]
  exact hm
 refine ⟨e1,?_,?_⟩
 ·unfold KG
  rw [e1,e]
  rfl
 ·rw [e]
  exact List.drop_left
def tt (l:List Int) (ids:List Id3) (name text:List UInt8):OpP:=⟨l.getD 0 0,⟨l.getD 1 0,l.getD 2 0,l.getD 3 0⟩,⟨l.getD 4 0,l.getD 5 0,l.getD 6 0⟩,ids,l.getD 7 0,name,text,l.getD 8 0,l.getD 9 0⟩
def Jw (l m:List Int) (b2:List UInt8) (x2:Bool):OpP×List UInt8×Bool:=
 if (kg b2).1.length=2 then (tt l (triples m) ((kg b2).1.getD 0 []) ((kg b2).1.getD 1 []),b2.drop (kg b2).2.1,x2||decide ((kg b2).2.2≠0))
 else (tt l (triples m) [] [],b2.drop (kg b2).2.1,true)
def Wp (l:List Int) (b1:List UInt8) (x1:Bool):OpP×List UInt8×Bool:=Jw l (KG b1 x1 (-1) 3) (b1.drop (jy b1).2.1) (yx b1 x1 (-1) 3)
def jC (b:List UInt8) (bad:Bool):OpP×List UInt8×Bool:=Wp (KG b bad 10 1) (b.drop (jy b).2.1) (yx b bad 10 1)
theorem nH (h:zk o):jC (jV o++r) false=(o,r,false):=by
 obtain ⟨h1,h2,h3,h4,h5⟩:=ou h
 have e:jV o++r=qN (wT o)++(qN (o.ids.flatMap z5)++(yE [o.name,o.text]++r)):=by simp only [jV,Mq]
 have l10:(wT o).length=10:=rfl
 obtain ⟨a1,a2,a3⟩:=YP (l:=wT o) (r:=qN (o.ids.flatMap z5)++(yE [o.name,o.text]++r)) (many:=10) (by':=1) (fun x hx=>Wm (h1 x hx)) (by omega) (fun _=>by rw [l10];rfl) (by omega)
 have hi:∀x∈o.ids.flatMap z5,wS .i64 x:=by
  intro x hx
  obtain ⟨y,hy,hx⟩:=List.mem_flatMap.1 hx
  have:=h2 y hy
  simp only [z5,Mx,M7,or_false] at hx
  rcases hx with rfl|rfl|rfl
  ·exact Wm this.1
  ·exact Wm this.2.1
  ·exact Wm this.2.2
 obtain ⟨b1,b2,b3⟩:=YP (l:=o.ids.flatMap z5) (r:=yE [o.name,o.text]++r) (many:= -1) (by':=3) hi (by rw [vB];omega) (fun hc=>by omega) (by rw [vB];omega)
 have s1:=be (l:= [o.name,o.text]) (rest:=r) (by
  intro x hx
  simp only [Mx,M7,or_false] at hx
  rcases hx with rfl|rfl<;>omega) (by simp)
 unfold jC Wp
 rw [e,a1,a2,a3,b1,b2,b3]
 unfold Jw
 rw [s1,gF]
 dsimp only
 rw [if_pos (by rfl),List.drop_left]
 rfl
def o8:Nat->List UInt8->Bool->List OpP×List UInt8×Bool
 |0,b,bad=>([],b,bad)
 |c+1,b,bad=>if bad=true then ([],b,bad) else ((jC b bad).1::(o8 c (jC b bad).2.1 (jC b bad).2.2).1,(o8 c (jC b bad).2.1 (jC b bad).2.2).2)
theorem VW:∀(l:List OpP) (r:List UInt8),(∀o∈l,zk o)->o8 l.length (l.flatMap jV++r) false=(l,r,false)
 | [],r,_=>rfl
 | o::l,r,h=>by
  have e:=nH (r:=l.flatMap jV++r) (h o (.head _))
  have e2:=VW l r (fun x hx=>h x (.tail _ hx))
  rw [show (o::l).flatMap jV++r=jV o++(l.flatMap jV++r) by simp,Mi]
  unfold o8
  rw [e]
  dsimp only
  rw [e2]
  rfl
def wY (many:Int):Nat:=min many.toNat 17
def bj (l m:List Int) (ops:List OpP) (b4:List UInt8) (x4:Bool):Pt×Bool:=(⟨l.getD 0 0,l.getD 1 0,l.getD 2 0,pairs m,ops,(qW b4).1⟩,x4||decide ((qW b4).2.2≠0))
def Uq (l m:List Int) (b2:List UInt8) (x2:Bool):Pt×Bool:=
 bj l m (o8 (wY (qG b2).1) (b2.drop (qG b2).2.1) (x2||decide ((qG b2).2.2≠0))).1 (o8 (wY (qG b2).1) (b2.drop (qG b2).2.1) (x2||decide ((qG b2).2.2≠0))).2.1 (o8 (wY (qG b2).1) (b2.drop (qG b2).2.1) (x2||decide ((qG b2).2.2≠0))).2.2
def Uo (l:List Int) (b1:List UInt8) (x1:Bool):Pt×Bool:=Uq l (KG b1 x1 (-1) 2) (b1.drop (jy b1).2.1) (yx b1 x1 (-1) 2)
def oC (b:List UInt8):Pt×Bool:=Uo (KG b false 3 1) (b.drop (jy b).2.1) (yx b false 3 1)
def Good (p:Pt):Prop:=gC p=0
theorem UR (h:Good p):yO p∧p.needs.length<=8∧p.ops.length<=16∧uH p∧Qt p∧p.sl.length<=1200:=by
 unfold Good gC at h
 by_cases c:jk p=0
 ·rw [if_neg (fun d=>d c)] at h
  have hs:p.sl.length<=1200:=by
   split at h
   ·simp at h
   ·omega
  unfold jk at c
  by_cases c1:yO p
  ·rw [if_neg (fun d=>d c1)] at c
   by_cases c2:8<p.needs.length∨16<p.ops.length
   ·rw [if_pos c2] at c;simp at c
   rw [if_neg c2] at c
   by_cases c3:p.ops= []
   ·rw [if_pos c3] at c;simp at c
   rw [if_neg c3] at c
   by_cases c4:uH p
   ·rw [if_neg (fun d=>d c4)] at c
    by_cases c5:Qt p
    ·exact ⟨c1,by omega,by omega,c4,c5,hs⟩
    ·rw [if_pos c5] at c;simp at c
   ·rw [if_pos c4] at c;simp at c
  ·rw [if_pos c1] at c;simp at c
 ·rw [if_pos c] at h;exact (c h).elim
theorem sI (h:Good p):oC (jF p)=(p,false):=by
 obtain ⟨h1,h2,h3,h4,h5,h6⟩:=UR h
 unfold yO at h1
 have e:jF p=qN [p.o,p.s,p.day]++(qN (jz p.needs)++(qv p.ops.length++(p.ops.flatMap jV++(qB p.sl++ [])))):=by simp only [jF,Mq,M3]
 obtain ⟨a1,a2,a3⟩:=YP (l:= [p.o,p.s,p.day]) (r:=qN (jz p.needs)++(qv p.ops.length++(p.ops.flatMap jV++(qB p.sl++ [])))) (many:=3) (by':=1) (by
  intro x hx
  simp only [Mx,M7,or_false] at hx
  rw [kX]
  rcases hx with rfl|rfl|rfl<;>omega) (by simp) (fun _=>rfl) (by simp)
 obtain ⟨b1,b2,b3⟩:=YP (l:=jz p.needs) (r:=qv p.ops.length++(p.ops.flatMap jV++(qB p.sl++ []))) (many:= -1) (by':=2) (by
  intro x hx
  obtain ⟨y,hy,hx⟩:=List.mem_flatMap.1 hx
  obtain ⟨i,hi,hy⟩:=Mn hy
  have hv:=h4 i hi
  unfold uA at hv
  rw [jJ hi,hy] at hv
  simp only [Mx,M7,or_false] at hx
  rw [kX]
  rcases hx with rfl|rfl<;>omega) (by rw [wl];omega) (fun hc=>by omega) (by rw [wl];omega)
 have c1:=J8 (m:=(p.ops.length:Int)) (rest:=p.ops.flatMap jV++(qB p.sl++ [])) (Ux (by omega))
 have d1:=VW p.ops (qB p.sl++ []) h5
 have f1:=Ym (s:=p.sl) (rest:= []) (by omega)
 unfold oC Uo
 rw [e,a1,a2,a3,b1,b2,b3]
 unfold Uq
 rw [c1,show wY ((p.ops.length:Int),(qv (p.ops.length:Int)).length,(0:Int)).1=p.ops.length by simp [wY];omega,List.drop_left]
 rw [show (false||decide (((p.ops.length:Int),(qv (p.ops.length:Int)).length,(0:Int)).2.2≠0))=false from rfl,d1]
 unfold bj
 rw [f1,JT]
 rfl
noncomputable def gI (b:List UInt8):Pt×Int:=open Classical in if (oC b).2=false∧gC (oC b).1=0∧jF (oC b).1=b then ((oC b).1,0) else (pt0,2)
theorem WU (h:Good p):gI (jF p)=(p,0):=by
 unfold gI
 rw [sI h,if_pos ⟨rfl,h,rfl⟩]
theorem r74 (h:facts args->xcode Tryz.prog (sY 0) (args++List.replicate (9 - args.length) (.tup [])) H (VQ Tryz.prog [(.tmp 4)] R)):ACall Tryz.prog 74 args H R:=
 yM hm Tryz.func74 rfl (by kernel_rfl) (by kernel_rfl) (by kernel_rfl) (by kernel_rfl) (by kernel_rfl) (by kernel_rfl) h
theorem ZS (hfi:fi=117) (hk:1<=k) (h:∀b2 b3,qz H b2->(b2≠b3∧qz H b3)->R (.fn fi [.ptr b2 0,.ptr b3 0]) ((b3,.cells [.i k])::(b2,.cells [.slc xs])::H)):ACall Tryz.prog 74 [.slc xs,.i k] H R:=by
 refine r74 fun hf=>?_
 subst hfi
 simp+contextual only [↓U74,zi,Qq,show (k<1)=False from qY,↓U74,↓XP,ql,XW1,qa,qb]
 refine fun b2 h2 b3 h3 _=>⟨_,Sbn.sub (List.Sublist.refl _),h b2 b3 h2 h3⟩
theorem Zm {b:List UInt8} {bad:Bool} {m:Nat}:(KG b bad (m:Int) 1).length=m:=by
 unfold KG
 split
 ·simp
 ·next h=>
  unfold yx at h
  simp at h
  omega
theorem dM:(KG b bad (-1) k).length % k=0:=by
 unfold KG
 split
 ·simp
 ·next h=>
  unfold yx at h
  simp at h
  exact h.2
theorem UX:(KG b bad (-1) k).length<=b.length:=by
 unfold KG
 split
 ·simp
 ·exact ints_le.2
theorem cu (h:l.length=10):∃a0 a1 a2 a3 a4 a5 a6 a7 a8 a9,l= [a0,a1,a2,a3,a4,a5,a6,a7,a8,a9]:=by
 match l,h with
 | [a0,a1,a2,a3,a4,a5,a6,a7,a8,a9],_=>exact ⟨_,_,_,_,_,_,_,_,_,_,rfl⟩
theorem iQ (h3:m.length % 3=0) (hj:j<uq (ints m).length 3):(jU (ints m) 3 j).length=3∧(jU (ints m) 3 j).getD 0 []= [.i (triple m j).o]∧(jU (ints m) 3 j).getD 1 []= [.i (triple m j).s]∧(jU (ints m) 3 j).getD 2 []= [.i (triple m j).i]:=by
 unfold uq at hj
 rw [jq] at hj
 have hlt:j*3+2<m.length:=by omega
 have hg:∀i,i<3->(jU (ints m) 3 j).getD i []= [.i (m.getD (3*j+i) 0)]:=by
  intro i hi
  unfold jU
  rw [Ma,List.getElem?_take_of_lt hi,List.getElem?_drop,ints,Me,Mb (show j*3+i<m.length by omega)]
  rw [Ma,Mb (show 3*j+i<m.length by omega)]
  simp only [Option.map_some,Mf,Nat.mul_comm j 3]
 refine ⟨?_,hg 0 (by omega),hg 1 (by omega),hg 2 (by omega)⟩
 unfold jU
 rw [Mz,List.length_drop,jq]
 omega
theorem lI (h3:m.length % 3=0):uq (ints m).length 3=m.length / 3:=by
 unfold uq
 rw [jq]
 omega
theorem Fk {b:List UInt8} {bad:Bool} {br:Nat} {H:AH} (hB:b.length<=1000000000) (hg:qk H br=some (o0 b bad)) (h:R (.agg (jC b bad).1.d) (qE H br (o0 (jC b bad).2.1 (jC b bad).2.2))):ACall Tryz.prog 76 [.ptr br 0] H R:=by
 refine b76 fun hf=>?_
 have hbig:=qn
 simp+contextual only [x76,↓sr,↓YV,↓KP,↓XP,ql,qa]
 intro b2 h2
 have e2:br≠b2:=fun e=>by
  have:=jm h2
  rw [<-e,hg] at this
  simp at this
 refine gn (b:=b) (bad:=bad) (many:=((10:Nat):Int)) (by':=1) hB (by omega) (by omega) (by omega) (by rw [qg e2];exact hg) fun d hd=>?_
 rw [qi e2]
 have hg1:∀o,qk (qE H br o) br=some o:=fun o=>Yq (by rw [hg];rfl)
 have hl:=Zm (b:=b) (bad:=bad) (m:=10)
 obtain ⟨l,hl0⟩:∃l,KG b bad ((10:Nat):Int) 1=l:=⟨_,rfl⟩
 obtain ⟨bad1,hbad1⟩:∃x,yx b bad ((10:Nat):Int) 1=x:=⟨_,rfl⟩
 obtain ⟨c1,hc1⟩:∃x,b.drop (jy b).2.1=x:=⟨_,rfl⟩
 rw [hl0] at hl hd
 rw [hbad1,hc1]
 obtain ⟨a0,a1,a2,a3,a4,a5,a6,a7,a8,a9,rfl⟩:=cu hl
 have hB1:c1.length<=1000000000:=by rw [<-hc1];simp;omega
 clear hl
 obtain ⟨xs,hxs,hx10,x0,x1,x2,x3,x4,x5,x6,x7,x8,x9⟩:∃xs,ints [a0,a1,a2,a3,a4,a5,a6,a7,a8,a9]=xs∧xs.length=10∧xs.getD 0 []= [.i a0]∧xs.getD 1 []= [.i a1]∧xs.getD 2 []= [.i a2]∧xs.getD 3 []= [.i a3]∧xs.getD 4 []= [.i a4]∧xs.getD 5 []= [.i a5]∧xs.getD 6 []= [.i a6]∧xs.getD 7 []= [.i a7]∧xs.getD 8 []= [.i a8]∧xs.getD 9 []= [.i a9]:=⟨_,rfl,rfl,rfl,rfl,rfl,rfl,rfl,rfl,rfl,rfl,rfl,rfl⟩
 rw [hxs] at hd
 simp+contextual only [hd,hx10,x0,x1,x2,x3,x4,x5,x6,x7,x8,x9,show ((10:Nat):Int)=10 from rfl,Mt,Mu,Mv,↓sr,↓YV,↓KP,↓XP,ql,XW1,qb,qe]
 refine fun _ _ _ _ _ _ _ _ _ _ _=>⟨by omega,fun b4 hb4=>?_⟩
 obtain ⟨h24,h4⟩:=hb4
 have e4:br≠b4:=fun e=>by
  have:=jm h4
  rw [<-e,hg] at this
  simp at this
 rw [Vh]
 refine Gz.take (j:=7) rfl (fun h=>(h rfl).elim) ?_
 simp only [jO,if_true]
 simp+contextual only [↓YV,↓KP,↓XP,qA]
 refine gn (b:=c1) (bad:=bad1) (many:= -1) (by':=3) hB1 (by omega) (by omega) (by omega) (by rw [qg e4,qg e2];exact hg1 _) fun d2 hd2=>?_
 rw [qi e4,qi e2,gL]
 have hm3:=dM (b:=c1) (bad:=bad1) (k:=3)
 have hml:=UX (b:=c1) (bad:=bad1) (k:=3)
 obtain ⟨m,hm0⟩:∃m,KG c1 bad1 (-1) ((3:Nat):Int).toNat=m:=⟨_,rfl⟩
 rw [show ((3:Nat):Int).toNat=3 from rfl] at hm0
 obtain ⟨bad2,hbad2⟩:∃x,yx c1 bad1 (-1) 3=x:=⟨_,rfl⟩
 obtain ⟨c2,hc2⟩:∃x,c1.drop (jy c1).2.1=x:=⟨_,rfl⟩
 have hB2:c2.length<=1000000000:=by rw [<-hc2];simp;omega
 rw [hm0] at hm3 hml hd2
 rw [hbad2,hc2]
 obtain ⟨fi,hfi⟩:∃fi,fi=117:=⟨_,rfl⟩
 simp+contextual only [jq,hd2,↓YV,↓KP,↓XP,qA]
 refine fun _=>ZS (fi:=fi) hfi (by omega) fun bA bB hA hB'=>?_
 simp+contextual only [↓YV,↓KP,↓XP,qA,XW1]
 have hAB:bA≠bB:=hB'.1
 refine XRF.chunkK hm (by rw [hfi];exact lW) (p:=48) (t:=5) (k:=3) (xs:=ints m) (b1:=bA) (b2:=bB) (f:=fi) rfl (by show (48:Nat)<93;omega) (by rw [qg hAB];exact jl) jl (by omega) (by omega) og
  (fun pre H'=>H'=((b4,AO.cells [.i a0,.i a1,.i a2,.i a3,.i a4,.i a5,.i a6,.own (je (pre.map (triple m))),.i a7,.str [],.str [],.i a8,.i a9])::(b2,AO.cells [.i 0,.i 0,.i 0,.i 0,.i 0,.i 0,.i 0,.own [],.i 0,.str [],.str [],.i 0,.i 0])::qE H br (o0 c2 bad2)))
  _ (by rw [vY hAB,uB,uB];exact Sbn.sub (List.Sublist.refl _)) rfl ?_ ?_
 ·intro pre j H' hI hj hpl hfact K hK
  subst hI
  obtain ⟨y3,y0,y1,y2⟩:=iQ hm3 hj
  rw [lI hm3] at hj hpl
  generalize jU (ints m) 3 j=ys at y3 y0 y1 y2 ⊢
  have nx:=fun F' H''=>hK F' H'' _ (Sbn.sub (List.Sublist.refl _)) 
  clear hK
  rw [Mp,List.map_cons,List.map_nil,<-Wo] at nx
  have il:(je (pre.map (triple m))).length=pre.length:=by simp [je]
  have hac:=Zl (l:=pre.map (triple m))
  generalize je (pre.map (triple m))=acc at nx il hac ⊢
  generalize triple m j=tj at nx y0 y1 y2
  simp+contextual only [y3,y0,y1,y2,hd,hd2,show ((3:Nat):Int)=3 from rfl,Mt,Mu,Mv,↓sr,↓YV,↓KP,↓XP,ql,XW1,qb,qc,qe]
  have n4:qk ((b2,AO.cells [.i 0,.i 0,.i 0,.i 0,.i 0,.i 0,.i 0,.own [],.i 0,.str [],.str [],.i 0,.i 0])::qE H br (o0 c2 bad2)) b4=none:=by
   rw [qg (Ne.symm h24),ZW (Ne.symm e4)]
   exact jm h4
  exact ⟨.inl n4,fun _ _ _=>⟨hac,by omega,by omega,nx _ _ rfl⟩⟩
 ·intro H' hI
  subst hI
  rw [lI hm3,show (List.range (m.length / 3)).map (triple m)=triples m from rfl]
  have hg5:qk ((b4,AO.cells [.i a0,.i a1,.i a2,.i a3,.i a4,.i a5,.i a6,.own (je (triples m)),.i a7,.str [],.str [],.i a8,.i a9])::(b2,AO.cells [.i 0,.i 0,.i 0,.i 0,.i 0,.i 0,.i 0,.own [],.i 0,.str [],.str [],.i 0,.i 0])::qE H br (o0 c2 bad2)) br=some (o0 c2 bad2):=by
   rw [qg e4,qg e2]
   exact hg1 _
  have hg5':=hg5
  unfold o0 at hg5'
  simp+contextual only [hd,hd2,hg5',o0,↓sr,↓YV,↓KP,↓XP,ql]
  refine fun _=>KN hB2 ?_
  simp+contextual only [↓sr,↓YV,↓KP,↓XP,qA,XW1]
  refine fun _ _ _=>Wg (b:=c2) (bad:=bad2) strs_le.1 hg5 ?_
  rw [qi e4,qi e2,gL]
  obtain ⟨ss,hss⟩:∃s,kg c2=s:=⟨_,rfl⟩
  rw [hss]
  obtain ⟨ss,kk,ee⟩:=ss
  dsimp only
  have sl:(strs ss).length=ss.length:=jc
  have hp:jC b bad=Jw [a0,a1,a2,a3,a4,a5,a6,a7,a8,a9] m c2 bad2:=by
   unfold jC Wp
   rw [show KG b bad 10 1=_ from hl0,show yx b bad 10 1=_ from hbad1,hc1,hm0,hc2,hbad2]
  rw [hp] at h
  clear hp
  unfold Jw at h
  rw [hss] at h
  dsimp only at h
  by_cases c2l:ss.length=2
  ·have s0:=kn (l:=ss) (i:=0) (by omega)
   have s1:=kn (l:=ss) (i:=1) (by omega)
   have c2':((ss.length:Int)=2)=True:=qC
   rw [if_pos c2l] at h
   have n4:∀o,qk ((b2,AO.cells [.i 0,.i 0,.i 0,.i 0,.i 0,.i 0,.i 0,.own [],.i 0,.str [],.str [],.i 0,.i 0])::qE H br o) b4=none:=fun o=>by
    rw [qg (Ne.symm h24),ZW (Ne.symm e4)]
    exact jm h4
   simp+contextual only [sl,c2l,s0,s1,n4,qg h24,qi h24,show ((2:Nat):Int)=2 from rfl,show (9<13)=True from qC,show (10<13)=True from qC,Mt,Mu,Mv,↓sr,↓YV,↓KP,↓XP,ql,XW1,qb]
   exact fun _ _ _=>h
  ·have c2':((ss.length:Int)=2)=False:=qY
   rw [if_neg c2l] at h
   simp+contextual only [sl,c2',qg e4,qg e2,hg1,o0,qi e4,qi e2,gL,qg h24,qi h24,↓sr,↓YV,↓KP,↓XP,ql,XW1,qb]
   exact fun _=>h
theorem U3 {α:Type} {f:List UInt8->α×Nat×Int} {p:α->Prop} {B:Nat} (hf:∀b,b.length<=B->p (f b).1):∀(n:Nat) (b:List UInt8),b.length<=B->∀x∈(Q3 f n b).1,p x
 |0,b,_=>by simp [Q3]
 | n+1,b,hb=>by
  have h2:=U3 hf n (b.drop (f b).2.1) (by simp;omega)
  unfold Q3
  split
  ·simp
  ·split
   ·simp
   ·intro x hx
    rcases List.mem_cons.1 hx with rfl|hx
    ·exact hf b hb
    ·exact h2 x hx
theorem ez {b:List UInt8} {B:Nat} (hb:b.length<=B):∀x∈(kg b).1,x.length<=B:=by
 unfold kg zp
 split
 ·simp
 ·split
  ·simp
  ·exact U3 (f:=qW) (p:=fun x:List UInt8=>x.length<=B) (B:=B) (fun b hb=>Mr WT hb) _ _ (by rw [List.length_drop];omega)
theorem YG {l:List (List UInt8)} {B i:Nat} (h:∀x∈l,x.length<=B):(l.getD i []).length<=B:=by
 rw [Ma]
 cases e:l[i]? with
 |none=>simp
 |some x=>exact h x (Mo e)
theorem lC {b:List UInt8} {bad:Bool} {B:Nat} (hb:b.length<=B):(jC b bad).1.ids.length<=B∧(jC b bad).1.name.length<=B∧(jC b bad).1.text.length<=B∧(jC b bad).2.1.length<=b.length:=by
 unfold jC Wp Jw
 obtain ⟨c1,h1⟩:∃x,b.drop (jy b).2.1=x:=⟨_,rfl⟩
 have l1:c1.length<=b.length:=by rw [<-h1];simp
 rw [h1]
 obtain ⟨c2,h2⟩:∃x,c1.drop (jy c1).2.1=x:=⟨_,rfl⟩
 have l2:c2.length<=c1.length:=by rw [<-h2];simp
 rw [h2]
 have h3:=UX (b:=c1) (bad:=yx b bad 10 1) (k:=3)
 have h4:(triples (KG c1 (yx b bad 10 1) (-1) 3)).length<=B:=by unfold triples;rw [Ml,M0];omega
 have h5:=ez (b:=c2) (B:=B) (by omega)
 split
 ·refine ⟨h4,YG h5,YG h5,?_⟩
  show (c2.drop _).length<=_
  rw [List.length_drop]
  omega
 ·refine ⟨h4,Nat.zero_le _,Nat.zero_le _,?_⟩
  show (c2.drop _).length<=_
  rw [List.length_drop]
  omega
theorem ZP:∀(c:Nat) (b:List UInt8) (bad:Bool),b.length<=B->(o8 c b bad).1.length<=c∧(o8 c b bad).2.1.length<=b.length∧∀o∈(o8 c b bad).1,o.ids.length<=B∧o.name.length<=B∧o.text.length<=B
 |0,b,bad,hb=>by simp [o8]
 | c+1,b,bad,hb=>by
  unfold o8
  split
  ·simp
  ·have h1:=lC (b:=b) (bad:=bad) hb
   have h2:=ZP (B:=B) c (jC b bad).2.1 (jC b bad).2.2 (by omega)
   refine ⟨by simp;exact h2.1,by dsimp only;omega,?_⟩
   intro o ho
   rcases List.mem_cons.1 ho with rfl|ho
   ·exact ⟨h1.1,h1.2.1,h1.2.2.1⟩
   ·exact h2.2.2 o ho
theorem Zg (h:l.length=3):∃a0 a1 a2,l= [a0,a1,a2]:=by
 match l,h with
 | [a0,a1,a2],_=>exact ⟨_,_,_,rfl⟩
theorem iP (h2:m.length % 2=0) (hj:j<uq (ints m).length 2):(jU (ints m) 2 j).length=2∧(jU (ints m) 2 j).getD 0 []= [.i (pair m j).o]∧(jU (ints m) 2 j).getD 1 []= [.i (pair m j).s]:=by
 unfold uq at hj
 rw [jq] at hj
 have hlt:j*2+1<m.length:=by omega
 have hg:∀i,i<2->(jU (ints m) 2 j).getD i []= [.i (m.getD (2*j+i) 0)]:=by
  intro i hi
  unfold jU
  rw [Ma,List.getElem?_take_of_lt hi,List.getElem?_drop,ints,Me,Mb (show j*2+i<m.length by omega)]
  rw [Ma,Mb (show 2*j+i<m.length by omega)]
  simp only [Option.map_some,Mf,Nat.mul_comm j 2]
 refine ⟨?_,hg 0 (by omega),hg 1 (by omega)⟩
 unfold jU
 rw [Mz,List.length_drop,jq]
 omega
theorem lM (h2:m.length % 2=0):uq (ints m).length 2=m.length / 2:=by
 unfold uq
 rw [jq]
 omega
theorem ZD {a b:List UInt8} {H:AH} (h:R (.bool (decide (a=b))) H):ACall Tryz.prog 78 [.slc (a.map qh),.slc (b.map qh)] H R:=by
 refine b78 fun hf=>?_
 simp+contextual only [↓U78,Jb,↓U78.1,↓XP,ql,qa,qb]
 exact ⟨gU,fun _=>⟨gU,fun _=>h⟩⟩
theorem uI (h:sml n):(qv n).length<=4:=by
 have:(digs (mag n)).length<=3:=gf 3 _ (by unfold sml at h;unfold mag;split<;>omega)
 simp only [qv,Mi,Ml,List.length_reverse]
 omega
theorem VA:∀{l:List Int},(∀x∈l,sml x)->(l.flatMap qv).length<=4*l.length
 | [],_=>by simp
 | x::r,h=>by
  have h1:=uI (h x (.head _))
  have h2:=VA (l:=r) (fun y hy=>h y (.tail _ hy))
  simp only [List.flatMap_cons,Mh,Mi]
  omega
theorem gp (h:∀x∈l,sml x) (hl:l.length<=1000):(qN l).length<=4+4*l.length:=by
 have h1:=VA h
 have h2:=uI (n:=(l.length:Int)) (by unfold sml;omega)
 simp only [qN,Mh]
 omega
theorem rQ (h:TOp o):(jV o).length<=200:=by
 obtain ⟨h1,h2,h3,h4,h5⟩:=ou h.v
 have h6:=h.tx
 have e1:=gp (l:=wT o) h1 (by show (10:Nat)<=1000;omega)
 have e2:=gp (l:=o.ids.flatMap z5) (by
  intro x hx
  obtain ⟨y,hy,hx⟩:=List.mem_flatMap.1 hx
  have:=h2 y hy
  simp only [z5,Mx,M7,or_false] at hx
  rcases hx with rfl|rfl|rfl
  ·exact this.1
  ·exact this.2.1
  ·exact this.2.2) (by rw [vB];omega)
 have e3:=uI (n:=(o.name.length:Int)) (by unfold sml;omega)
 have e4:=uI (n:=(o.text.length:Int)) (by unfold sml;omega)
 have e5:=uI (n:=((2:Nat):Int)) (by unfold sml;omega)
 rw [show (wT o).length=10 from rfl] at e1
 rw [vB] at e2
 simp only [jV,yE,qB,Mh,List.flatMap_cons,List.flatMap_nil,Mi,Mj,Mw,Nat.reduceAdd] at*
 omega
theorem G2:∀{l:List OpP},(∀o∈l,TOp o)->(l.flatMap jV).length<=200*l.length
 | [],_=>by simp
 | x::r,h=>by
  have h1:=rQ (h x (.head _))
  have h2:=G2 (l:=r) (fun y hy=>h y (.tail _ hy))
  simp only [List.flatMap_cons,Mh,Mi]
  omega
structure FV (p:Pt):Prop where
 v:jk p=0
 sl:p.sl= []
 fit:Fit p
 ol:p.ops.length<=14
 nl:p.needs.length<=3
 q:QV p
 s:p.s<=16
 dy:1<=p.day∧p.day<=100
theorem AU (h:QV p) (hs:p.s<=16) (hd:1<=p.day∧p.day<=100) (hl:p.ops.length<=14):FV p:=by
 have hnl:=h.nl
 have h1:yO p:=by
  unfold yO
  have:=h.oo
  have:=h.ss
  omega
 have h2:uH p:=by
  intro i hi
  obtain ⟨g1,g2,g3,g4,g5,g6⟩:=h.nd i hi
  exact ⟨g1,by omega,g3,g4,g5,g6⟩
 have h3:Qt p:=fun o ho=>(h.T o ho).v
 have hlen:(jF (bare p)).length<=6800:=by
  have:=h.oo
  have:=h.ss
  have e1:=gp (l:= [p.o,p.s,p.day]) (by
   intro x hx
   simp only [Mx,M7,or_false] at hx
   unfold sml
   rcases hx with rfl|rfl|rfl<;>omega) (by simp)
  have e2:=gp (l:=jz p.needs) (by
   intro x hx
   obtain ⟨y,hy,hx⟩:=List.mem_flatMap.1 hx
   obtain ⟨i,hi,hy⟩:=Mn hy
   have hv:=h.nd i hi
   rw [jJ hi,hy] at hv
   simp only [Mx,M7,or_false] at hx
   unfold sml
   rcases hx with rfl|rfl<;>omega) (by rw [wl];omega)
  have e3:=uI (n:=(p.ops.length:Int)) (by unfold sml;omega)
  have e4:=G2 h.T
  have e5:=uI (n:=((0:Nat):Int)) (by unfold sml;omega)
  rw [wl] at e2
  simp only [jF,bare,qB,Mh,Mi,Mj,Mw,Nat.reduceAdd] at*
  omega
 refine ⟨?_,h.sl,⟨by omega,by omega,fun o ho=>?_,fun o ho=>?_,fun o ho=>?_,by rw [h.sl];simp⟩,hl,hnl,h,hs,hd⟩
 ·unfold jk
  rw [if_neg (fun d=>d h1),if_neg (by omega),if_neg h.ne,if_neg (fun d=>d h2),if_neg (fun d=>d h3),if_neg (by omega)]
 ·have:=(ou (h.T o ho).v).2.2.1;omega
 ·have:=(ou (h.T o ho).v).2.2.2.1;omega
 ·have:=(ou (h.T o ho).v).2.2.2.2;omega
theorem JE:∀n:Nat,jj l out n<n∧ -1<=jj l out n
 |0=>by simp [jj]
 | n+1=>by
  have:=JE (l:=l) (out:=out) n
  unfold jj
  split<;>omega
theorem Qw:∀n:Nat,∀p∈(qS l n).1,p∈l
 |0=>by simp [qS]
 | n+1=>by
  have h:=Qw (l:=l) n
  unfold qS
  dsimp only
  split
  ·split
   ·exact h
   ·rename_i hc
    intro p hp
    rcases List.mem_append.1 hp with hp|hp
    ·exact h p hp
    ·rw [List.mem_singleton.1 hp]
     have:=JE (l:=l) (out:=(qS l n).1) l.length
     exact yc (by omega)
  ·exact h
theorem YC (hr:ready out (l.getD i default)=true) (hk:known out (l.getD i default).o (l.getD i default).s=false):∀n:Nat,i<n->0<=jj l out n
 |0,h=>by omega
 | n+1,h=>by
  unfold jj
  split
  ·omega
  ·rename_i hc
   by_cases e:i=n
   ·subst e
    refine Classical.byContradiction fun hneg=>hc ?_
    unfold better
    dsimp only
    rw [hr,hk]
    simp
    left
    left
    omega
   ·exact YC hr hk n (by omega)
theorem Wj (h:(qS l n).1≠ []):(qS l (n+1)).1≠ []:=by
 unfold qS
 dsimp only
 split
 ·split
  ·exact h
  ·simp
 ·exact h
theorem Zi (h0:0<l.length) (h1:(l.getD 0 default).needs= []) (h2:(l.getD 0 default).s=1):ordered l≠ []:=by
 have hb:0<=jj l [] l.length:=YC (i:=0) (by unfold ready;rw [h1,h2];simp) (by simp [known]) _ h0
 have base:(qS l 1).1≠ []:=by
  have hb':¬(jj l (qS l 0).1 l.length<0):=by
   show ¬(jj l [] l.length<0)
   omega
  unfold qS
  dsimp only
  rw [if_pos (show (qS l 0).2=true from rfl),if_neg hb']
  simp
 have go:∀n:Nat,(qS l (n+1)).1≠ []:=by
  intro n
  induction n with
  |zero=>exact base
  |succ n ih=>exact Wj ih
 unfold ordered
 obtain ⟨n,hn⟩:∃n,l.length=n+1:=⟨l.length - 1,by omega⟩
 rw [hn]
 exact go n
theorem Jg:∀q:Nat,(qr ⟨[],[]⟩ o m q).p={pt0 with o:=o,s:=1,day:=1}
 |0=>rfl
 | q+1=>by
  have h:=Jg (o:=o) (m:=m) q
  simp only [qr]
  unfold kT
  dsimp only
  rw [if_pos (.inl (by simp [last,kE]))]
  exact h
theorem Vo (l:List Int):∀i:Nat,0<i->((j7 l offices i).l.getD 0 default).needs= []∧((j7 l offices i).l.getD 0 default).s=1
 |0,h=>by omega
 | 1,_=>by
  have hg:=GInv.nil
  have e:(j7 l offices 1).l=(next ⟨[],[]⟩ offices (l.drop (2+32*0))).l:=rfl
  rw [e]
  unfold Go.Proofs.YtgopigkdcmhbbaaGreatDoor.next
  dsimp only
  have hr:=Jg (o:=qy (l.drop (2+32*0)) 0 offices) (m:=l.drop (2+32*0)) offices
  obtain ⟨_,g2,_,_⟩:=kq (x:=⟨[],[]⟩) (o:=qy (l.drop (2+32*0)) 0 offices) (m:=l.drop (2+32*0)) offices
  obtain ⟨h1,_⟩:=wi hg (o:=qy (l.drop (2+32*0)) 0 offices) (m:=l.drop (2+32*0)) offices
  generalize qr ⟨[],[]⟩ (qy (l.drop (2+32*0)) 0 offices) (l.drop (2+32*0)) offices=s at hr g2 h1 ⊢
  obtain ⟨more,e1,_⟩:=vn (x:=⟨[],[]⟩) (seen:=s.seen) (p:={s.p with day:=s.p.day+qy (l.drop (2+32*0)) 4 4}) (m:=l.drop (2+32*0)) g2 (VOk.base hg h1 g2) (1+jL (l.drop (2+32*0)) 5 2)
  have e3:=e1.eq
  generalize jb ⟨[],[]⟩ s.seen {s.p with day:=s.p.day+qy (l.drop (2+32*0)) 4 4} (l.drop (2+32*0)) (1+jL (l.drop (2+32*0)) 5 2)=p at e3 ⊢
  simp only [M4,Md]
  rw [e3]
  dsimp only
  rw [hr]
  exact ⟨rfl,rfl⟩
 | i+2,_=>by
  have h:=Vo l (offices:=offices) (i+1) (by omega)
  have e:(j7 l offices (i+2)).l=(next (j7 l offices (i+1)) offices (l.drop (2+32*(i+1)))).l:=rfl
  rw [e]
  unfold Go.Proofs.YtgopigkdcmhbbaaGreatDoor.next
  dsimp only
  rw [jZ ?_]
  ·exact h
  ·have e2:(j7 l offices (i+1)).l=(next (j7 l offices i) offices (l.drop (2+32*i))).l:=rfl
   rw [e2,U1]
   omega
theorem Uv (l:List Int):(∀p∈patches l,FV p)∧0<(patches l).length∧(patches l).length<=9:=by
 have a1:=wZ (l:=l) (i:=1) (n:=2) (by omega)
 have a1':jL l 1 2<2:=a1
 have a0:=wZ (l:=l) (i:=0) (n:=8) (by omega)
 have a0':jL l 0 8<8:=a0
 obtain ⟨h1,h2,h3⟩:=bG l (offices:=2+jL l 1 2) (by omega) (by omega) (2+jL l 0 8) (by omega)
 obtain ⟨f1,f2⟩:=Vo l (offices:=2+jL l 1 2) (2+jL l 0 8) (by omega)
 unfold patches
 generalize j7 l (2+jL l 1 2) (2+jL l 0 8)=x at h1 h2 h3 f1 f2 ⊢
 refine ⟨fun p hp=>?_,List.length_pos_iff.2 (Zi (by omega) f1 f2),?_⟩
 ·have hm:=Qw _ p hp
  have hs:=h1.sq p hm
  have hd:=h1.dy p hm
  exact AU (h2.q p hm) (by omega) (by omega) (h1.op p hm)
 ·have:∀n:Nat,(qS x.l n).1.length<=n:=by
   intro n
   induction n with
   |zero=>simp [qS]
   | succ n ih=>
    unfold qS
    dsimp only
    split
    ·split
     ·dsimp only;omega
     ·rw [Mh,Mm];omega
    ·omega
  have:=this x.l.length
  unfold ordered
  omega
theorem sH {b3 b6} (hb3:b3.length<=3000000) (nr6:br≠b6) (n26:b2≠b6) (h6:qz H b6) (nbr:br≠b2) (hr:qz H br)
  (hF:∀i:Nat,i=0->Fr 116 [(0,.slc xb),(2,.ptr b2 0),(4,.ptr br 0),(6,.ptr b6 0),(8,.i many),(11,.i (i:Int))] F)
  (hE:∀(os:List OpP) (bb:List UInt8) (bad:Bool),o8 (wY many) b3 x3=(os,bb,bad)->∀F',Fr 116 [(0,.slc xb),(2,.ptr b2 0),(4,.ptr br 0),(6,.ptr b6 0)] F'->Q (.exit 2) F' ((b6,AO.cells [.i a0,.i a1,.i a2,nd,.own (qM os),.str []])::(br,o0 bb bad)::(b2,zo)::H)):
  XW Tryz.prog x36_L3 F ((b6,AO.cells [.i a0,.i a1,.i a2,nd,.own [],.str []])::(br,o0 b3 x3)::(b2,zo)::H) Q:=by
 have hbig:=qn
 have hc17:wY many<=17:=by unfold wY;omega
 refine XW.loopK hmm (fun F H'=>∃(i:Nat) (os:List OpP) (bb:List UInt8) (bad:Bool),i<=wY many∧os.length=i∧bb.length<=3000000∧o8 (wY many) b3 x3=(os++(o8 (wY many - i) bb bad).1,(o8 (wY many - i) bb bad).2)∧Fr 116 [(0,.slc xb),(2,.ptr b2 0),(4,.ptr br 0),(6,.ptr b6 0),(8,.i many),(11,.i (i:Int))] F∧H'=((b6,AO.cells [.i a0,.i a1,.i a2,nd,.own (qM os),.str []])::(br,o0 bb bad)::(b2,zo)::H)) (fun F H=>match F.getD 11 .any with| .int _ n'=>17 - n'.toNat|_=>0) ⟨0,[],b3,x3,by omega,rfl,hb3,by simp,hF 0 rfl,rfl⟩ ?_
 rintro _ _ ⟨i,os,bb,bad,hi,hos,hbb,hcon,hF,rfl⟩ K hN hE' hR
 obtain ⟨z,rfl⟩:=hF.fl rfl
 try dsimp only [fl,zz,qa,qb] at*
 clear hF hR
 have ol:(qM os).length=os.length:=j9
 have nb6:qk ((b2,zo)::H) b6=none:=jm ⟨Ne.symm n26,h6⟩
 have nb7:qk ((b2,zo)::H) br=none:=jm ⟨nbr,hr⟩
 by_cases hlt:i<wY many∧bad=false
 ·obtain ⟨hlt,hbd⟩:=hlt
  subst hbd
  have m1:((i:Int)<many)=True:=eq_true (by unfold wY at hlt;omega)
  have m2:((i:Int)<=16)=True:=qC
  have hle:=lC (b:=bb) (bad:=false) hbb
  have nx:∀F' H',back ((b6,AO.cells [.i a0,.i a1,.i a2,nd,.own (qM os),.str []])::(br,o0 bb false)::(b2,zo)::H).length H'=((b6,AO.cells [.i a0,.i a1,.i a2,nd,.own (qM (os++ [(jC bb false).1])),.str []])::(br,o0 (jC bb false).2.1 (jC bb false).2.2)::(b2,zo)::H)->Fr 116 [(0,.slc xb),(2,.ptr b2 0),(4,.ptr br 0),(6,.ptr b6 0),(8,.i many),(11,.i ((i+1:Nat):Int))] F'->K .normal F' H':=fun F' H' hH hF'=>hN _ _ ⟨i+1,os++ [(jC bb false).1],(jC bb false).2.1,(jC bb false).2.2,hlt,by simp [hos],by omega,by
    obtain ⟨q,hq⟩:∃q,wY many - i=q+1:=⟨wY many - i - 1,by omega⟩
    rw [hcon,hq,show wY many - (i+1)=q by omega]
    simp [o8],hF',hH⟩ (by
   rw [Ma,hF'.2.2.2.2.2.2.1]
   simp only [Mc,Md,Mf]
   omega)
  clear hN hE hE' hcon
  have hcall:∀H1,qk H1 br=some (AO.cells [.slc (bb.map qh),.bool false])->ACall Tryz.prog 76 [.ptr br 0] H1 (fun d' H'=>d'= .agg (jC bb false).1.d∧H'=qE H1 br (o0 (jC bb false).2.1 (jC bb false).2.2)):=fun H1 hg=>Fk (b:=bb) (bad:=false) (by omega) hg ⟨rfl,rfl⟩
  have hod:(jC bb false).1.d.length=13:=rfl
  simp+contextual only [m1,m2,o0,qg nr6,↓YT,↓vF,↓XP,ql,XW1]
  refine ⟨.inl nb6,_,br,_,_,nb7,.inr (by simpa using nr6),by rw [qg nr6];exact jl,hcall,?_⟩
  generalize (jC bb false).2.1=bb' at nx ⊢
  generalize (jC bb false).2.2=bad' at nx ⊢
  generalize (jC bb false).1=o at nx ⊢
  rw [<-Wd] at nx
  have hod:o.d= [.i o.k,.i o.on.o,.i o.on.s,.i o.on.i,.i o.to.o,.i o.to.s,.i o.to.i,.slc (je o.ids),.i o.n,.str o.name,.str o.text,.i o.a,.i o.b]:=rfl
  simp+contextual only [hod,o0,qi nr6,qm (show i<=big by omega),ol,↓YT,↓vF,↓XP,ql,XW1,qb,qc,qe]
  refine ⟨vX,by omega,by omega,nx _ _ (qL rfl) ?_⟩
  exact ⟨rfl,rfl,rfl,rfl,rfl,rfl,rfl,trivial⟩
 ·have e0:o8 (wY many - i) bb bad=([],bb,bad):=by
   rcases Classical.em (bad=true) with hb|hb
   ·subst hb
    cases wY many - i<;>rfl
   ·have:wY many - i=0:=by
     have:¬i<wY many:=fun h=>hlt ⟨h,by simpa using hb⟩
     omega
    rw [this]
    rfl
  rw [e0,M3] at hcon
  have fin:=fun F'=>hE os bb bad hcon F'
  clear hN hE hcon e0
  by_cases c1:(i:Int)<many
  ·by_cases c2:i<=16
   ·have hb:bad=true:=by
     refine Classical.byContradiction fun hb=>hlt ⟨?_,by simpa using hb⟩
     unfold wY
     omega
    subst hb
    simp+contextual only [eq_true c1,show ((i:Int)<=16)=True from qC,o0,qg nr6,↓YT,↓vF,↓XP,ql,XW1]
    exact hE' _ _ _ (fin _ ⟨rfl,rfl,rfl,rfl,rfl,trivial⟩)
   ·simp+contextual only [eq_true c1,show ((i:Int)<=16)=False from qY,o0,↓YT,↓vF,↓XP,qA]
    exact hE' _ _ _ (fin _ ⟨rfl,rfl,rfl,rfl,rfl,trivial⟩)
  ·simp+contextual only [eq_false c1,o0,↓YT,↓vF,↓XP,qA]
   exact hE' _ _ _ (fin _ ⟨rfl,rfl,rfl,rfl,rfl,trivial⟩)
theorem bZ (hB:b.length<=3000000) (h:R (.tup [.agg (gI b).1.d,.i (gI b).2]) H):ACall Tryz.prog 36 [.slc (b.map qh)] H R:=by
 refine b36 fun hf=>?_
 have hbig:=qn
 simp+contextual only [eK,↓YT,↓vF,↓XP,ql,XW1,qa,qb,qe]
 intro b2 h2 br hr
 have e2:b2≠br:=hr.1
 have hr2:=hr.2
 refine gn (b:=b) (bad:=false) (many:=((3:Nat):Int)) (by':=1) (by omega) (by omega) (by omega) (by omega) jl fun d hd=>?_
 rw [vM]
 have hl:=Zm (b:=b) (bad:=false) (m:=3)
 obtain ⟨l,hl0⟩:∃l,KG b false ((3:Nat):Int) 1=l:=⟨_,rfl⟩
 obtain ⟨bad1,hbad1⟩:∃x,yx b false ((3:Nat):Int) 1=x:=⟨_,rfl⟩
 obtain ⟨c1,hc1⟩:∃x,b.drop (jy b).2.1=x:=⟨_,rfl⟩
 rw [hl0] at hl hd
 rw [hbad1,hc1]
 obtain ⟨a0,a1,a2,rfl⟩:=Zg hl
 have hB1:c1.length<=b.length:=by rw [<-hc1];simp
 clear hl
 obtain ⟨xs,hxs,hx3,x0,x1,x2⟩:∃xs,ints [a0,a1,a2]=xs∧xs.length=3∧xs.getD 0 []= [.i a0]∧xs.getD 1 []= [.i a1]∧xs.getD 2 []= [.i a2]:=⟨_,rfl,rfl,rfl,rfl,rfl⟩
 rw [hxs] at hd
 simp+contextual only [hd,hx3,x0,x1,x2,show ((3:Nat):Int)=3 from rfl,Mt,Mu,Mv,↓YT,↓vF,↓XP,ql,XW1,qb,qe]
 intro _ _ _ _
 refine ⟨by omega,?_⟩
 rintro b6 ⟨nr6,n26,h6⟩
 obtain ⟨zo,hzz⟩:∃zo,AO.cells [.i 0,.i 0,.i 0,.own [],.own [],.str []]=zo:=⟨_,rfl⟩
 rw [Vh]
 refine Gz.bind (k:=fun F'' H''=>F''=_∧H''=_) (Gz.take (j:=3) rfl (fun h=>(h rfl).elim) ⟨rfl,rfl⟩) ?_
 rintro _ _ ⟨rfl,rfl⟩
 refine Gz.take (j:=4) rfl (fun h=>(h rfl).elim) ?_
 simp only [jO,if_true]
 rw [hzz]
 simp+contextual only [↓vF,↓XP,qA]
 refine gn (b:=c1) (bad:=bad1) (many:= -1) (by':=2) (by omega) (by omega) (by omega) (by omega) (by rw [qg nr6];exact jl) fun d2 hd2=>?_
 rw [qi nr6,vM]
 have hm2:=dM (b:=c1) (bad:=bad1) (k:=2)
 have hml:=UX (b:=c1) (bad:=bad1) (k:=2)
 obtain ⟨m,hm0⟩:∃m,KG c1 bad1 (-1) 2=m:=⟨_,rfl⟩
 obtain ⟨bad2,hbad2⟩:∃x,yx c1 bad1 (-1) 2=x:=⟨_,rfl⟩
 obtain ⟨c2,hc2⟩:∃x,c1.drop (jy c1).2.1=x:=⟨_,rfl⟩
 have hB2:c2.length<=c1.length:=by rw [<-hc2];simp
 rw [hm0] at hm2 hml hd2
 rw [hbad2,hc2]
 obtain ⟨fi,hfi⟩:∃fi,fi=117:=⟨_,rfl⟩
 simp+contextual only [jq,hd2,↓vF,↓XP,qA]
 refine fun _=>ZS (fi:=fi) hfi (by omega) fun bA bB hA hB'=>?_
 have hAB:bA≠bB:=hB'.1
 simp+contextual only [↓vF,↓XP,qA,XW1]
 refine XRF.chunkK hm (by rw [hfi];exact lW) (p:=32) (t:=7) (k:=2) (xs:=ints m) (b1:=bA) (b2:=bB) (f:=fi) rfl (by show (32:Nat)<116;omega) (by rw [qg hAB];exact jl) jl (by omega) (by omega) og
  (fun pre H'=>H'=((b6,AO.cells [.i a0,.i a1,.i a2,.own (qF (pre.map (pair m))),.own [],.str []])::(br,o0 c2 bad2)::(b2,zo)::H))
  _ (by rw [vY hAB,uB,uB];exact Sbn.sub (List.Sublist.refl _)) rfl ?_ ?_
 ·intro pre j H' hI hj hpl hfact K hK
  subst hI
  obtain ⟨y2,y0,y1⟩:=iP hm2 hj
  rw [lM hm2] at hj hpl
  generalize jU (ints m) 2 j=ys at y2 y0 y1 ⊢
  have nx:=fun F' H''=>hK F' H'' _ (Sbn.sub (List.Sublist.refl _)) 
  clear hK
  rw [Mp,List.map_cons,List.map_nil,<-Vc] at nx
  have il:(qF (pre.map (pair m))).length=pre.length:=by simp [qF]
  have hac:=Uy (l:=pre.map (pair m))
  generalize qF (pre.map (pair m))=acc at nx il hac ⊢
  generalize pair m j=tj at nx y0 y1
  simp+contextual only [y2,y0,y1,hd,hd2,show ((2:Nat):Int)=2 from rfl,Mt,Mu,Mv,↓YT,↓vF,↓XP,ql,XW1,qb,qc,qe]
  have n6:qk ((br,o0 c2 bad2)::(b2,zo)::H) b6=none:=jm ⟨Ne.symm nr6,Ne.symm n26,h6⟩
  exact ⟨.inl n6,fun _ _=>⟨hac,by omega,by omega,nx _ _ rfl⟩⟩
 ·intro H' hI
  subst hI
  rw [lM hm2,show (List.range (m.length / 2)).map (pair m)=pairs m from rfl]
  simp+contextual only [hd,hd2,o0,qg nr6,↓YT,↓vF,↓XP,ql]
  refine fun _=>zj ?_
  simp+contextual only [↓YT,↓vF,↓XP,qA,XW1]
  have hr0:qk ((b6,AO.cells [.i a0,.i a1,.i a2,.own (qF (pairs m)),.own [],.str []])::(br,o0 c2 bad2)::(b2,zo)::H) br=some (o0 c2 bad2):=by rw [qg nr6];exact jl
  refine fun _ _ _=>Wg (b:=c2) (bad:=bad2) zL hr0 ?_
  rw [qi nr6,vM]
  have hle3:(c2.drop (qG c2).2.1).length<=c2.length:=by simp
  obtain ⟨t,ht⟩:∃t,qG c2=t:=⟨_,rfl⟩
  rw [ht] at hle3 ⊢
  obtain ⟨many,kk,ee⟩:=t
  dsimp only at hle3 ⊢
  simp+contextual only [↓vF,↓XP,qA,XW1]
  refine sH (xb:=b.map qh) (by omega) nr6 n26 h6 (Ne.symm e2) hr2 (fun i hi=>by subst hi;exact ⟨rfl,rfl,rfl,rfl,rfl,rfl,rfl,trivial⟩) fun os bb bad hops F' hF'=>?_
  obtain ⟨z,rfl⟩:∃z:Nat->D,_=(let xb:=b.map qh; [.slc xb,z 1,.ptr b2 0,z 3,.ptr br 0,z 5,.ptr b6 0,z 7,z 8,z 9,z 10,z 11,z 12,z 13,z 14,z 15,z 16,z 17,z 18,z 19,z 20,z 21,z 22,z 23,z 24,z 25,z 26,z 27,z 28,z 29,z 30,z 31,z 32,z 33,z 34,z 35,z 36,z 37,z 38,z 39,z 40,z 41,z 42,z 43,z 44,z 45,z 46,z 47,z 48,z 49,z 50,z 51,z 52,z 53,z 54,z 55,z 56,z 57,z 58,z 59,z 60,z 61,z 62,z 63,z 64,z 65,z 66,z 67,z 68,z 69,z 70,z 71,z 72,z 73,z 74,z 75,z 76,z 77,z 78,z 79,z 80,z 81,z 82,z 83,z 84,z 85,z 86,z 87,z 88,z 89,z 90,z 91,z 92,z 93,z 94,z 95,z 96,z 97,z 98,z 99,z 100,z 101,z 102,z 103,z 104,z 105,z 106,z 107,z 108,z 109,z 110,z 111,z 112,z 113,z 114,z 115]):=hF'.lit
  clear hF'
  have hor:=ZP (B:=3000000) (wY many) (c2.drop kk) (bad2||decide (ee≠0)) (by omega)
  rw [hops] at hor
  obtain ⟨o1,o2,o3⟩:=hor
  dsimp only at o1 o2 o3
  simp+contextual only [o0,qg nr6,↓YT,↓vF,↓XP,ql,XW1]
  refine fun _=>Qy ?_
  simp+contextual only [↓YT,↓vF,↓XP,qA,XW1]
  have hr1:qk ((b6,AO.cells [.i a0,.i a1,.i a2,.own (qF (pairs m)),.own (qM os),.str []])::(br,o0 bb bad)::(b2,zo)::H) br=some (o0 bb bad):=by rw [qg nr6];exact jl
  refine fun _ _ _=>Wg (b:=bb) (bad:=bad) Jq hr1 ?_
  rw [qi nr6,vM]
  have hsl:=WT (b:=bb)
  have hp:oC b=(⟨a0,a1,a2,pairs m,os,(qW bb).1⟩,bad||decide ((qW bb).2.2≠0)):=by
   unfold oC Uo
   rw [show KG b false 3 1=_ from hl0,show yx b false 3 1=_ from hbad1,hc1,hm0,hc2,hbad2]
   unfold Uq
   rw [ht,hops]
   rfl
  unfold gI at h
  rw [hp] at h
  clear hp
  dsimp only at h
  generalize (qW bb).2.2=e5 at h ⊢
  generalize (qW bb).2.1=k5 at h ⊢
  generalize (qW bb).1=sl at h hsl ⊢
  obtain ⟨bad5,hbad5⟩:∃x,(bad||decide (e5≠0))=x:=⟨_,rfl⟩
  rw [hbad5] at h ⊢
  clear hbad5
  subst hzz
  cases bad5 with
  | true=>
   rw [if_neg (by simp)] at h
   simp+contextual only [o0,qg nr6,qg n26,qi n26,qg e2,qi e2,↓YT,↓vF,↓XP,ql,XW1,qb]
   exact h
  | false=>
   simp+contextual only [o0,qg nr6,↓YT,↓vF,↓XP,ql,XW1,qb]
   obtain ⟨p,hp⟩:∃p:Pt,(⟨a0,a1,a2,pairs m,os,sl⟩:Pt)=p:=⟨_,rfl⟩
   have hpd: [D.i a0,.i a1,.i a2,.slc (qF (pairs m)),.slc (qM os),.str sl]=p.d:=by rw [<-hp];rfl
   have hfit:Fit p:=by
    rw [<-hp]
    have:wY many<=17:=by unfold wY;omega
    exact ⟨by show os.length<=1000;omega,by show (pairs m).length<=3000000;unfold pairs;rw [Ml,M0];omega,fun o ho=>(o3 o ho).1,fun o ho=>(o3 o ho).2.1,fun o ho=>(o3 o ho).2.2,by show sl.length<=3000000;omega⟩
   rw [hp] at h
   rw [hpd]
   refine zf hfit ?_
   rcases Classical.em (gC p=0) with g1|g1
   ·rw [if_pos g1,g1]
    rcases Classical.em (jF p=b) with g2|g2
    ·rw [if_pos ⟨rfl,g1,g2⟩] at h
     have g3:decide (b=jF p)=true:=decide_eq_true g2.symm
     simp+contextual only [↓YT,↓vF,↓XP,qA,XW1]
     refine fun _ _=>ZD ?_
     rw [g3]
     simp+contextual only [qg n26,qi n26,qg e2,qi e2,↓YT,↓vF,↓XP,ql,XW1,qb]
     rw [hpd]
     exact h
    ·rw [if_neg (fun h=>g2 h.2.2)] at h
     have g3:decide (b=jF p)=false:=decide_eq_false (fun h=>g2 h.symm)
     simp+contextual only [↓YT,↓vF,↓XP,qA,XW1]
     refine fun _ _=>ZD ?_
     rw [g3]
     simp+contextual only [qg n26,qi n26,qg e2,qi e2,↓YT,↓vF,↓XP,ql,XW1,qb]
     exact h
   ·rw [if_neg g1]
    rw [if_neg (fun h=>g1 h.2.1)] at h
    simp+contextual only [eq_false g1,qg n26,qi n26,qg e2,qi e2,↓YT,↓vF,↓XP,ql,XW1,qb]
    exact fun _ _=>h
theorem cO {a b:List UInt8} {H:AH} (h:R (.bool (decide (a=b))) H):ACall Tryz.prog 38 [.slc (a.map qh),.slc (b.map qh)] H R:=by
 refine b38 fun hf=>?_
 have hbig:=qn
 have hk:∀c,decide (a=b)=c->R (.bool c) H:=fun c hc=>hc▸h
 clear h
 rcases Classical.em (a.length=b.length) with hl|hl
 ·simp+contextual only [↓mB,show ((a.length:Int)=(b.length:Int))=True from qC,↓mB,↓XP,ql,qa,qb]
  refine fun _ _=>XW.loopK hmm (fun F H'=>∃(i:Nat),i<=a.length∧a.take i=b.take i∧Fr 26 [(0,.slc (a.map qh)),(1,.slc (b.map qh)),(5,.i (i:Int))] F∧H=H') (fun F H=>match F.getD 5 .any with| .int _ n'=>a.length - n'.toNat|_=>0) ⟨0,by omega,by simp,⟨rfl,rfl,rfl,rfl,trivial⟩,rfl⟩ ?_
  rintro _ _ ⟨i,hi,hv,hF,rfl⟩ K hN hE hR
  obtain ⟨z,rfl⟩:=hF.fl rfl
  try dsimp only [fl,zz,qa,qb] at*
  clear hF
  rcases Classical.em (i<a.length) with hlt|hlt
  ·have q1:=uE hlt
   have q2:=uE (l:=b) (i:=i) (by omega)
   have e1:a.take (i+1)=a.take i++ [a.getD i 0]:=by rw [List.take_add_one];simp [hlt]
   have e2:b.take (i+1)=b.take i++ [b.getD i 0]:=by rw [List.take_add_one];simp [show i<b.length by omega]
   have nx:a.getD i 0=b.getD i 0->∀F',Fr 26 [(0,.slc (a.map qh)),(1,.slc (b.map qh)),(5,.i ((i+1:Nat):Int))] F'->K .normal F' H:=fun he F' hF'=>hN _ _ ⟨i+1,hlt,by rw [e1,e2,hv,he],hF',(qL rfl).symm⟩ (by
    rw [Ma,hF'.2.2.2.1]
    simp only [Mc,Md,Mf]
    omega)
   have bad:a.getD i 0≠b.getD i 0->R (.bool false) H:=fun he=>hk false (decide_eq_false fun h=>he (by rw [h]))
   clear hN hE hk
   generalize a.getD i 0=x at q1 nx bad
   generalize b.getD i 0=y at q2 nx bad
   have hlb:(((i:Nat):Int)<(b.length:Int))=True:=qC
   rcases Classical.em (x=y) with hxy|hxy
   ·have c1:((x.toNat:Int)=(y.toNat:Int))=True:=eq_true (by rw [hxy])
    simp+contextual only [hlt,hlb,Int.ofNat_lt,q1,q2,c1,qm (show i<=big by omega),↓mB,↓XP,ql]
    exact fun _ _ _=>nx hxy _ ⟨rfl,rfl,rfl,rfl,trivial⟩
   ·have c1:((x.toNat:Int)=(y.toNat:Int))=False:=eq_false (fun h=>hxy (UInt8.toNat_inj.1 (by omega)))
    simp+contextual only [hlt,hlb,Int.ofNat_lt,q1,q2,c1,↓mB,↓XP,ql]
    refine fun _ _ _=>hR _ _ ?_
    simp+contextual only [↓XP,qA]
    exact bad hxy
  ·have hik:i=a.length:=by omega
   subst hik
   clear hN
   rw [List.take_length,hl,List.take_length] at hv
   simp+contextual only [↓mB,↓XP,ql]
   refine fun _=>hE _ _ _ ?_
   simp+contextual only [↓XP,qA,XW1]
   exact hk true (decide_eq_true hv)
 ·simp+contextual only [↓mB,show ((a.length:Int)=(b.length:Int))=False from qY,↓mB,↓XP,ql,qa,qb]
  exact fun _ _=>hk false (decide_eq_false fun h=>hl (by rw [h]))
theorem Gp (h:R (.bool true) H):ACall Tryz.prog 72 [.slc (je l),.slc (je l)] H R:=by
 refine b72 fun hf=>?_
 have hbig:=qn
 simp+contextual only [↓BX,qP,↓BX,↓XP,ql,XW1,qa,qb]
 refine fun _=>XW.loopK hmm (fun F H'=>∃(i:Nat),i<=l.length∧Fr 26 [(0,.slc (je l)),(1,.slc (je l)),(5,.i (i:Int))] F∧H=H') (fun F H=>match F.getD 5 .any with| .int _ n'=>l.length - n'.toNat|_=>0) ⟨0,by omega,⟨rfl,rfl,rfl,rfl,trivial⟩,rfl⟩ ?_
 rintro _ _ ⟨i,hi,hF,rfl⟩ K hN hE hR
 obtain ⟨z,rfl⟩:=hF.fl rfl
 try dsimp only [fl,zz,qa,qb] at*
 clear hF
 rcases Classical.em (i<l.length) with hlt|hlt
 ·have q1:=wC hlt
  have nx:∀F',Fr 26 [(0,.slc (je l)),(1,.slc (je l)),(5,.i ((i+1:Nat):Int))] F'->K .normal F' H:=fun F' hF'=>hN _ _ ⟨i+1,hlt,hF',(qL rfl).symm⟩ (by
   rw [Ma,hF'.2.2.2.1]
   simp only [Mc,Md,Mf]
   omega)
  clear hN hE hR
  generalize l.getD i default=x at q1 nx
  have hx:x.d= [.i x.o,.i x.s,.i x.i]:=rfl
  simp+contextual only [qP,hlt,Int.ofNat_lt,q1,hx,qm (show i<=big by omega),↓BX,↓XP,ql,qb]
  exact fun _=>nx _ ⟨rfl,rfl,rfl,rfl,trivial⟩
 ·have hik:i=l.length:=by omega
  subst hik
  clear hN
  simp+contextual only [qP,↓BX,↓XP,ql]
  refine fun _=>hE _ _ _ ?_
  simp+contextual only [↓XP,qA,XW1]
  exact h
theorem dv {o:OpP} {H:AH} (h:R (.bool true) H):ACall Tryz.prog 35 [.agg o.d,.agg o.d] H R:=by
 refine b35 fun hf=>?_
 have hbig:=qn
 have hod:o.d= [.i o.k,.i o.on.o,.i o.on.s,.i o.on.i,.i o.to.o,.i o.to.s,.i o.to.i,.slc (je o.ids),.i o.n,.str o.name,.str o.text,.i o.a,.i o.b]:=rfl
 simp+contextual only [↓U35,hod,qP,↓U35.1,↓XP,ql,XW1,qa,qb,qe]
 refine fun b2 _ b3 _ _ _ _ _ _=>Gp ?_
 simp+contextual only [↓XP,qA,XW1]
 exact h
theorem bY {p:Pt} {H:AH} (h:R (.bool true) H):ACall Tryz.prog 14 [.agg p.d,.agg p.d] H R:=by
 refine Gl fun hf=>?_
 have hbig:=qn
 have hd:p.d= [.i p.o,.i p.s,.i p.day,.slc (qF p.needs),.slc (qM p.ops),.str p.sl]:=rfl
 simp+contextual only [↓lU,hd,jY,j9,↓lU,↓XP,ql,XW1,qa,qb]
 rintro b2 h2 b3 ⟨n23,h3⟩
 intros
 simp only [<-hd]
 refine XW.loopK hmm (fun F H'=>∃(i:Nat),i<=p.needs.length∧Fr 88 [(2,.ptr b2 0),(3,.ptr b3 0),(5,.i (i:Int))] F∧((b3,AO.cells p.d)::(b2,AO.cells p.d)::H)=H') (fun F H=>match F.getD 5 .any with| .int _ n'=>p.needs.length - n'.toNat|_=>0) ⟨0,by omega,⟨rfl,rfl,rfl,rfl,trivial⟩,rfl⟩ ?_
 rintro _ _ ⟨i,hi,hF,rfl⟩ K hN hE hR
 obtain ⟨z,rfl⟩:=hF.fl rfl
 try dsimp only [fl,zz,qa,qb] at*
 clear hF hR
 rcases Classical.em (i<p.needs.length) with hlt|hlt
 ·have q1:=ow hlt
  have nx:∀F',Fr 88 [(2,.ptr b2 0),(3,.ptr b3 0),(5,.i ((i+1:Nat):Int))] F'->K .normal F' ((b3,AO.cells p.d)::(b2,AO.cells p.d)::H):=fun F' hF'=>hN _ _ ⟨i+1,hlt,hF',(qL rfl).symm⟩ (by
   rw [Ma,hF'.2.2.2.1]
   simp only [Mc,Md,Mf]
   omega)
  clear hN hE
  generalize p.needs.getD i default=x at q1 nx
  have hx:x.d= [.i x.o,.i x.s]:=rfl
  simp+contextual only [hd,jY,hlt,Int.ofNat_lt,qg n23,q1,hx,qm (show i<=big by omega),↓lU,↓XP,ql,XW1,qb]
  simp only [<-hd]
  exact fun _=>nx _ ⟨rfl,rfl,rfl,rfl,trivial⟩
 ·have hik:i=p.needs.length:=by omega
  subst hik
  clear hN
  simp+contextual only [hd,jY,qg n23,↓lU,↓XP,ql,XW1]
  simp only [<-hd]
  refine fun _=>hE _ _ _ ?_
  clear hE
  simp+contextual only [hd,↓lU,↓XP,qA,XW1]
  simp only [<-hd]
  refine XW.loopK hmm (fun F H'=>∃(i:Nat),i<=p.ops.length∧Fr 88 [(2,.ptr b2 0),(3,.ptr b3 0),(6,.i (i:Int))] F∧((b3,AO.cells p.d)::(b2,AO.cells p.d)::H)=H') (fun F H=>match F.getD 6 .any with| .int _ n'=>p.ops.length - n'.toNat|_=>0) ⟨0,by omega,⟨rfl,rfl,rfl,rfl,trivial⟩,rfl⟩ ?_
  rintro _ _ ⟨i,hi,hF,rfl⟩ K hN hE hR
  obtain ⟨z,rfl⟩:=hF.fl rfl
  try dsimp only [fl,zz,qa,qb] at*
  clear hF hR
  rcases Classical.em (i<p.ops.length) with hlt|hlt
  ·have q1:=wA hlt
   have nx:∀F',Fr 88 [(2,.ptr b2 0),(3,.ptr b3 0),(6,.i ((i+1:Nat):Int))] F'->K .normal F' ((b3,AO.cells p.d)::(b2,AO.cells p.d)::H):=fun F' hF'=>hN _ _ ⟨i+1,hlt,hF',(qL rfl).symm⟩ (by
    rw [Ma,hF'.2.2.2.1]
    simp only [Mc,Md,Mf]
    omega)
   clear hN hE
   generalize p.ops.getD i default=o at q1 nx
   have hod:o.d= [.i o.k,.i o.on.o,.i o.on.s,.i o.on.i,.i o.to.o,.i o.to.s,.i o.to.i,.slc (je o.ids),.i o.n,.str o.name,.str o.text,.i o.a,.i o.b]:=rfl
   simp+contextual only [hd,j9,hlt,Int.ofNat_lt,qg n23,q1,hod,↓lU,↓XP,ql,XW1,qb]
   refine fun _=>⟨_,fun _ _=>dv (o:=o) ⟨rfl,rfl⟩,?_⟩
   simp+contextual only [qm (show i<=big by omega),↓lU,↓XP,qA,XW1]
   simp only [<-hd]
   exact nx _ ⟨rfl,rfl,rfl,rfl,trivial⟩
  ·have hik:i=p.ops.length:=by omega
   subst hik
   clear hN
   simp+contextual only [hd,j9,qg n23,↓lU,↓XP,ql,XW1]
   simp only [<-hd]
   refine fun _=>hE _ _ _ ?_
   simp+contextual only [hd,↓XP,qA,XW1]
   exact h
def Ja:List D:= [.int .u8 0,.int .u8 0,.int .u8 0,.int .u8 0,.int .u8 0,.int .u8 0,.int .u8 0,.int .u8 0,.int .u8 0,.int .u8 0,.int .u8 0,.int .u8 0,.int .u8 0,.int .u8 0,.int .u8 0,.int .u8 0]
def shortK:List UInt8:= [115,104,111,114,116]
theorem W8 (h:R (.tup [.agg Ja,.i 1]) H):ACall Tryz.prog 20 [.str shortK,.i 2] H R:=by
 refine b20 fun hf=>?_
 have hbig:=qn
 have hl:shortK.length=5:=rfl
 simp+contextual only [↓mb,hl,show (((5:Nat):Int)=32)=False from qY,↓mb,↓XP,ql,XW1,qa,qb]
 exact fun b hb _=>h
theorem d7 (h:R (.tup [.agg (Ja++ [.i 0]),.i 1]) H):ACall Tryz.prog 10 [.agg [.str shortK,.i 2]] H R:=by
 refine KF fun hf=>?_
 have hbig:=qn
 have hl:shortK.length=5:=rfl
 simp+contextual only [↓iz,hl,show ((4:Int)<2)=False from by simp,↓iz,↓XP,ql,XW1,qa]
 refine fun b1 h1 b2 h2 _ _=>W8 ?_
 simp+contextual only [Ja,show ((1:Int)=0)=False from by simp,↓iz,↓XP,ql,XW1,qb]
 exact fun _ _ _=>h
theorem Z8 {p:Pt} {o:OpP} {H:AH} (hp:p.ops= [o]) (h1:1<=o.k) (h4:o.k<=4) (h:R (.own (je [⟨p.o,p.s,0⟩])) H):ACall Tryz.prog 37 [.agg p.d] H R:=by
 refine b37 fun hf=>?_
 have hbig:=qn
 have hd:p.d= [.i p.o,.i p.s,.i p.day,.slc (qF p.needs),.slc (qM p.ops),.str p.sl]:=rfl
 rw [hp] at hd
 have ol:(qM [o]).length=1:=rfl
 have q0:(qM [o]).getD 0 []=o.d:=rfl
 have hod:o.d= [.i o.k,.i o.on.o,.i o.on.s,.i o.on.i,.i o.to.o,.i o.to.s,.i o.to.i,.slc (je o.ids),.i o.n,.str o.name,.str o.text,.i o.a,.i o.b]:=rfl
 simp+contextual only [↓By,ol,hd,↓By,↓XP,ql,XW1,qa]
 intro b1 hb1 _
 obtain ⟨ids,hids⟩:∃ids:List Id3,[⟨p.o,p.s,0⟩]=ids:=⟨_,rfl⟩
 refine XW.loopK hmm (fun F H'=>∃(i:Nat),i<=1∧Fr 28 [(1,.ptr b1 0),(3,.own (je (ids.take i))),(7,.slc (qM [o])),(8,.i 1),(9,.i (i:Int))] F∧((b1,AO.cells [.i p.o,.i p.s,.i p.day,.slc (qF p.needs),.slc (qM [o]),.str p.sl])::H)=H') (fun F H=>match F.getD 9 .any with| .int _ n'=>1 - n'.toNat|_=>0) ⟨0,by omega,by subst hids;exact ⟨rfl,rfl,rfl,rfl,rfl,rfl,trivial⟩,rfl⟩ ?_
 rintro _ _ ⟨i,hi,hF,rfl⟩ K hN hE hR
 obtain ⟨z,rfl⟩:=hF.fl rfl
 try dsimp only [fl,zz,qa,qb] at*
 clear hF hR
 rcases Classical.em (i=0) with hlt|hlt
 ·subst hlt
  simp+contextual only [ol,q0,hod,show (((0:Nat):Int)<1)=True from qC,show ((0:Nat):Int).toNat=0 from rfl,List.take_zero,↓By,↓XP,ql,XW1,qb]
  refine ⟨by omega,fun b5 hb5 _=>?_⟩
  refine yS ?_
  simp+contextual only [decide_eq_true (show 1<=o.k∧o.k<=4 from ⟨h1,h4⟩),qg hb5.1,qm (show 0<=big by omega),show (je ([]:List Id3))= [] from rfl,↓By,↓XP,ql,XW1,qb,qc,qe]
  refine fun _ _=>hN _ _ ⟨1,by omega,?_,(yX rfl).symm⟩ ?_
  ·subst hids
   exact ⟨rfl,rfl,rfl,rfl,rfl,rfl,trivial⟩
  ·simp only [Mc,Md]
   omega
 ·have hik:i=1:=by omega
  subst hik
  clear hN
  simp+contextual only [show (((1:Nat):Int)<1)=False from qY,↓By,↓XP,qA]
  refine hE _ _ _ ?_
  simp+contextual only [↓XP,qA,XW1]
  subst hids
  exact h
def fS:OpP:=⟨1,oc,oc,[],0,[110],[99,97,116],0,0⟩
def ptL:Pt:=⟨1,1,3,[],[fS],[]⟩
theorem tO:qv 0= [128]:=by
 unfold qv mag
 simp [kB]
theorem Ge {n:Nat} (h0:0<n) (h:n<256):qv (n:Int)= [129,UInt8.ofNat n]:=by
 unfold qv mag
 have e:digs (n:Int).toNat= [UInt8.ofNat n]:=by
  rw [Mg,yV (by omega),Nat.mod_eq_of_lt h,Nat.div_eq_of_lt h,kB]
 rw [if_neg (by omega),if_neg (by omega),e]
 have:decide ((n:Int)<0)=false:=decide_eq_false (by omega)
 rw [this]
 rfl
theorem AG:qv 1= [129,1]:=Ge (n:=1) (by omega) (by omega)
theorem Ax:qv 2= [129,2]:=Ge (n:=2) (by omega) (by omega)
theorem Bj:qv 3= [129,3]:=Ge (n:=3) (by omega) (by omega)
theorem mS:qv 10= [129,10]:=Ge (n:=10) (by omega) (by omega)
theorem pA:jF ptL= [129,3,129,1,129,1,129,3,128,129,1,129,10,129,1,128,128,128,128,128,128,128,128,128,128,129,2,129,1,110,129,3,99,97,116,128]:=by
 simp [jF,ptL,fS,qN,jV,yE,qB,wT,jz,z5,oc,tO,AG,Ax,Bj,mS]
theorem bh:jk ptL=0:=by
 unfold jk
 have h1:yO ptL:=by decide
 have h2:uH ptL:=fun i hi=>absurd hi (by simp [ptL])
 have h3:Qt ptL:=fun o ho=>by
  have:o=fS:=by simpa [ptL] using ho
  subst this
  decide
 have h4:bare ptL=ptL:=rfl
 rw [if_neg (fun d=>d h1),if_neg (by simp [ptL]),if_neg (by simp [ptL]),if_neg (fun d=>d h2),if_neg (fun d=>d h3),h4,pA,if_neg (by decide)]
theorem pv:jk pt0=5:=by
 unfold jk
 rw [if_pos (by decide)]
theorem lN:Good ptL:=by
 unfold Good gC
 rw [bh,if_neg (by simp),if_neg (by simp [ptL])]
theorem Hf:Fit pt0:=⟨by simp [pt0],by simp [pt0],by simp [pt0],by simp [pt0],by simp [pt0],by simp [pt0]⟩
theorem xw:Fit ptL:=⟨by simp [ptL],by simp [ptL],by simp [ptL,fS],by simp [ptL,fS],by simp [ptL,fS],by simp [ptL]⟩
theorem ZB (h:R (.bool true) H):ACall Tryz.prog 15 [] H R:=by
 refine iB fun hf=>?_
 have hbig:=qn
 have hop:qM [fS]= [[D.i 1,.i 0,.i 0,.i 0,.i 0,.i 0,.i 0,.slc [],.i 0,.str [110],.str [99,97,116],.i 0,.i 0]]:=rfl
 have hd:ptL.d= [D.i 1,.i 1,.i 3,.slc [],.slc (qM [fS]),.str []]:=rfl
 obtain ⟨eb,heb⟩:∃eb,jF ptL=eb:=⟨_,rfl⟩
 have hel:eb.length=36:=by rw [<-heb,pA];rfl
 have het:((eb.map qh).take 10).drop 0=([129,3,129,1,129,1,129,3,128,129]:List UInt8).map qh:=by rw [<-heb,pA];rfl
 simp+contextual only [↓ig,↓ig,↓XP,ql,XW1,qa,qb,qc,qe]
 intro b1 h1
 simp only [<-hop]
 refine zf (p:=ptL) xw ?_
 have hg:gC ptL=0:=lN
 rw [hg,if_pos rfl,heb]
 simp+contextual only [↓ig,↓XP,qA,XW1]
 refine fun _ _=>bZ (b:=eb) (by omega) ?_
 rw [<-heb,WU lN,heb]
 simp+contextual only [hd,↓ig,↓XP,ql,XW1,qb,qe]
 intro _ b4 h4
 have hb1:jS Tryz.prog 40 1=some (1,false,1):=by kernel_rfl
 try simp+contextual only [↓ig,JY,hd,hb1,↓ig,↓XP,↓XU,ql,XW1,qa,qb,qc,qd,qe,qf,reduceCtorEq]
 refine d7 ?_
 simp+contextual only [Ja,↓ig,↓XP,ql,XW1,qb]
 intro _ b6 h6
 have n14:b1≠b4:=h4.1
 have n46:b4≠b6:=h6.1
 have n16:b1≠b6:=h6.2.1
 simp+contextual only [qg n14,qg n16,↓XP,qA,qb]
 refine Z8 (p:=ptL) (o:=fS) rfl (by decide) (by decide) ?_
 have hid:je [⟨ptL.o,ptL.s,0⟩]= [[D.i 1,.i 1,.i 0]]:=rfl
 rw [hid]
 simp+contextual only [qg n14,qg n16,qg n46,hel,show (((36:Nat):Int)=36)=True from eq_true rfl,↓ig,↓XP,ql,qb]
 refine fun _ _=>bY (p:=ptL) ?_
 simp+contextual only [hel,show (((1:Nat):Int)=1)=True from eq_true rfl,show ((0:Int)<((1:Nat):Int))=True from qC,show ((10:Int)<=((36:Nat):Int))=True from qC,Mt,Mu,het,↓ig,↓XP,ql,XW1,qb,qc,qe]
 refine fun _=>⟨ji,cO (a:= [129,3,129,1,129,1,129,3,128,129]) (b:= [129,3,129,1,129,1,129,3,128,129]) ?_⟩
 rw [decide_eq_true rfl]
 simp+contextual only [qg n14,qg n16,↓XP,ql,XW1,qb]
 refine uw (p:=ptL) xw ?_
 rw [bh]
 simp+contextual only [↓XP,ql]
 intro _
 refine uw (p:=pt0) Hf ?_
 rw [pv]
 simp+contextual only [↓XP,qA]
 exact fun _=>h
theorem uN:∀k,(upto (kr p ok) k).length<=k:=fun k=>by
 have:=oJ (f:=kr p ok) (c:=1) (fun k=>by unfold kr;split<;>simp) k
 omega
theorem Yx {x:Gs} {seen:List Bool} (ho:∀q∈x.l,q.ops.length<=1000) (i:Nat):(upto (fun i=>kP (x.l.getD i default) (seen.getD i false)) i).length<=1000*i:=by
 have:=oJ (f:=fun i=>kP (x.l.getD i default) (seen.getD i false)) (c:=1000) (fun k=>by
  have h1:=uN (p:=x.l.getD k default) (ok:=seen.getD k false) (x.l.getD k default).ops.length
  have h2:(x.l.getD k default).ops.length<=1000:=u7 (p:=fun q:Pt=>q.ops.length<=1000) ho (by decide) k
  unfold kP
  omega) i
 omega
theorem bK {x:Gs} {seen:List Bool} {p:Pt} {H:AH} (hs:x.l.length<=seen.length) (hb:x.l.length<=100) (ho:∀q∈x.l,q.ops.length<=1000) (hp:p.ops.length<=1000) (h:R (.own (qM (splits x seen p))) H):ACall Tryz.prog 131 [.agg x.d,.slc (jK seen),.agg p.d] H R:=by
 refine FH fun hf=>?_
 have hbig:=qn
 have hx:x.d= [.slc (jd x.l),.slc (ja x.past)]:=rfl
 have hd:p.d= [.i p.o,.i p.s,.i p.day,.slc (qF p.needs),.slc (qM p.ops),.str p.sl]:=rfl
 simp+contextual only [↓JX,hx,hd,↓JX,↓XP,ql,XW1,qa,qb]
 rintro b1 h1 b2 ⟨n12,h2⟩
 simp only [<-hx,<-hd]
 refine XW.loopK hm (fun F H'=>∃(i:Nat),i<=x.l.length∧Fr 81 [(1,.slc (jK seen)),(3,.ptr b1 0),(5,.ptr b2 0),(7,.own (qM (upto (fun i=>kP (x.l.getD i default) (seen.getD i false)) i))),(8,.i i)] F∧((b2,AO.cells p.d)::(b1,AO.cells x.d)::H)=H') (fun F H=>match F.getD 8 .any with| .int _ n'=>x.l.length - n'.toNat|_=>0) ⟨0,by omega,⟨rfl,rfl,rfl,rfl,rfl,rfl,trivial⟩,rfl⟩ ?_
 rintro _ _ ⟨i,hi,hF,rfl⟩ K hN hE hR
 obtain ⟨z,rfl⟩:=hF.fl rfl
 try dsimp only [fl,zz,qa,qb] at*
 clear hF
 have hv:=Yx (x:=x) (seen:=seen) ho i
 by_cases hlt:i<x.l.length
 ·have nx:∀F',Fr 81 [(1,.slc (jK seen)),(3,.ptr b1 0),(5,.ptr b2 0),(7,.own (qM (upto (fun i=>kP (x.l.getD i default) (seen.getD i false)) (i+1)))),(8,.i ((i+1:Nat):Int))] F'->K .normal F' ((b2,AO.cells p.d)::(b1,AO.cells x.d)::H):=fun F' hF'=>hN _ _ ⟨i+1,hlt,hF',(qL rfl).symm⟩ (by
   rw [Ma,hF'.2.2.2.2.2.1]
   simp only [Mc,Md,Mf]
   omega)
  clear hN hE hR
  have q1:=vO hlt
  have q2:=Ql (l:=seen) (i:=i) (by omega)
  have hqo:(x.l.getD i default).ops.length<=1000:=u7 (p:=fun q:Pt=>q.ops.length<=1000) ho (by decide) i
  have hun:upto (fun i=>kP (x.l.getD i default) (seen.getD i false)) (i+1)=upto (fun i=>kP (x.l.getD i default) (seen.getD i false)) i++kP (x.l.getD i default) (seen.getD i false):=rfl
  rw [hun] at nx
  generalize upto (fun i=>kP (x.l.getD i default) (seen.getD i false)) i=ac at nx hv
  generalize x.l.getD i default=q at q1 hqo nx
  generalize seen.getD i false=ok at q2 nx
  have hq:q.d= [.i q.o,.i q.s,.i q.day,.slc (qF q.needs),.slc (qM q.ops),.str q.sl]:=rfl
  simp+contextual only [hx,hd,jG,qg,n12,↓JX,↓XP,ql,XW1]
  refine fun _=>⟨fun _=>?_,fun hge=>absurd (by omega) hge⟩
  simp only [<-hx,<-hd]
  refine XW.loopK hm (fun F H'=>∃(k:Nat),k<=q.ops.length∧Fr 81 [(1,.slc (jK seen)),(3,.ptr b1 0),(5,.ptr b2 0),(7,.own (qM (ac++upto (kr q ok) k))),(8,.i i),(9,.i k)] F∧((b2,AO.cells p.d)::(b1,AO.cells x.d)::H)=H') (fun F H=>match F.getD 9 .any with| .int _ n'=>q.ops.length - n'.toNat|_=>0) ⟨0,by omega,by rw [upto,M3];exact ⟨rfl,rfl,rfl,rfl,rfl,rfl,rfl,trivial⟩,rfl⟩ ?_
  rintro _ _ ⟨k,hk,hF,rfl⟩ K2 hN hE hR
  obtain ⟨z2,rfl⟩:∃z2:Nat->D,_=(let z:=z2; [z 0,.slc (jK seen),z 2,.ptr b1 0,z 4,.ptr b2 0,z 6,.own (qM (ac++upto (kr q ok) k)),.i i,.i k,z 10,z 11,z 12,z 13,z 14,z 15,z 16,z 17,z 18,z 19,z 20,z 21,z 22,z 23,z 24,z 25,z 26,z 27,z 28,z 29,z 30,z 31,z 32,z 33,z 34,z 35,z 36,z 37,z 38,z 39,z 40,z 41,z 42,z 43,z 44,z 45,z 46,z 47,z 48,z 49,z 50,z 51,z 52,z 53,z 54,z 55,z 56,z 57,z 58,z 59,z 60,z 61,z 62,z 63,z 64,z 65,z 66,z 67,z 68,z 69,z 70,z 71,z 72,z 73,z 74,z 75,z 76,z 77,z 78,z 79,z 80]):=hF.lit
  clear hF
  have hv3:=uN (p:=q) (ok:=ok) k
  by_cases hlk:k<q.ops.length
  ·have nx3:∀F',Fr 81 [(1,.slc (jK seen)),(3,.ptr b1 0),(5,.ptr b2 0),(7,.own (qM (ac++upto (kr q ok) (k+1)))),(8,.i i),(9,.i ((k+1:Nat):Int))] F'->K2 .normal F' ((b2,AO.cells p.d)::(b1,AO.cells x.d)::H):=fun F' hF'=>hN _ _ ⟨k+1,hlk,hF',(qL rfl).symm⟩ (by
    rw [Ma,hF'.2.2.2.2.2.2.1]
    simp only [Mc,Md,Mf]
    omega)
   clear hN hE hR nx
   have q3:=wA hlk
   have hu3:upto (kr q ok) (k+1)=upto (kr q ok) k++kr q ok k:=rfl
   rw [hu3] at nx3
   have ho3:kr q ok k=if ok=true∧(q.ops.getD k default).k=16 then [q.ops.getD k default] else []:=rfl
   rw [ho3] at nx3
   generalize q.ops.getD k default=o at q3 nx3
   have hod:o.d= [.i o.k,.i o.on.o,.i o.on.s,.i o.on.i,.i o.to.o,.i o.to.s,.i o.to.i,.slc (je o.ids),.i o.n,.str o.name,.str o.text,.i o.a,.i o.b]:=rfl
   generalize upto (kr q ok) k=ac3 at nx3 hv3
   have hac:(ac++ac3).length<=200000:=by rw [Mh];omega
   rcases ok with _|_
   ·simp+contextual only [hx,hd,j9,jG,qg,n12,qm (show k<=big by omega),q1,q2,hq,vf,↓JX,↓XP,ql,XW1,qb,qe]
    refine fun _=>⟨by omega,fun _=>⟨fun _=>⟨by omega,?_⟩,fun hge=>absurd (by omega) hge⟩⟩
    rw [if_neg (by simp),M3] at nx3
    exact nx3 _ ⟨rfl,rfl,rfl,rfl,rfl,rfl,rfl,trivial⟩
   ·simp+contextual only [hx,hd,j9,jG,qg,n12,qm (show k<=big by omega),q1,q2,hq,q3,hod,vf,↓JX,↓XP,ql,XW1,qb,qc,qe]
    refine fun _=>⟨by omega,fun _=>⟨fun _=>⟨by omega,by omega,fun _=>⟨fun hk'=>⟨by omega,vX,by omega,?_⟩,fun hk'=>?_⟩⟩,fun hge=>absurd (by omega) hge⟩⟩
    ·rw [if_pos ⟨rfl,hk'⟩,<-Mq,<-Wd,show qM [o]= [o.d] from rfl,hod,hk'] at nx3
     exact nx3 _ ⟨rfl,rfl,rfl,rfl,rfl,rfl,rfl,trivial⟩
    ·rw [if_neg (fun hc=>hk' hc.2),M3] at nx3
     exact nx3 _ ⟨rfl,rfl,rfl,rfl,rfl,rfl,rfl,trivial⟩
  ·have hik:k=q.ops.length:=by omega
   subst hik
   simp+contextual only [hx,hd,j9,jG,qg,n12,q1,hq,↓JX,↓XP,ql,XW1,qb,qe]
   refine fun _=>⟨by omega,fun _=>hE _ _ _ ?_⟩
   clear hN hE hR
   simp+contextual only [qm (show i<=big by omega),↓JX,↓XP,qA,XW1,qf]
   exact nx _ ⟨rfl,rfl,rfl,rfl,rfl,rfl,trivial⟩
 ·have hik:i=x.l.length:=by omega
  subst hik
  clear hN
  simp+contextual only [hx,hd,jG,qg,n12,↓JX,↓XP,ql,XW1]
  refine fun _=>hE _ _ _ ?_
  clear hE hR
  have hv0:splits x seen p=upto (fun i=>kP (x.l.getD i default) (seen.getD i false)) x.l.length++kP p true:=rfl
  rw [hv0] at h
  generalize upto (fun i=>kP (x.l.getD i default) (seen.getD i false)) x.l.length=ac at h hv ⊢
  simp+contextual only [↓JX,↓XP,qA,XW1]
  simp only [<-hx,<-hd]
  refine XW.loopK hm (fun F H'=>∃(k:Nat),k<=p.ops.length∧Fr 81 [(5,.ptr b2 0),(7,.own (qM (ac++upto (kr p true) k))),(10,.i k)] F∧((b2,AO.cells p.d)::(b1,AO.cells x.d)::H)=H') (fun F H=>match F.getD 10 .any with| .int _ n'=>p.ops.length - n'.toNat|_=>0) ⟨0,by omega,by rw [upto,M3];exact ⟨rfl,rfl,rfl,rfl,trivial⟩,rfl⟩ ?_
  rintro _ _ ⟨k,hk,hF,rfl⟩ K hN hE hR
  obtain ⟨z,rfl⟩:=hF.fl rfl
  try dsimp only [fl,zz,qa,qb] at*
  clear hF
  have hv3:=uN (p:=p) (ok:=true) k
  by_cases hlk:k<p.ops.length
  ·have nx3:∀F',Fr 81 [(5,.ptr b2 0),(7,.own (qM (ac++upto (kr p true) (k+1)))),(10,.i ((k+1:Nat):Int))] F'->K .normal F' ((b2,AO.cells p.d)::(b1,AO.cells x.d)::H):=fun F' hF'=>hN _ _ ⟨k+1,hlk,hF',(qL rfl).symm⟩ (by
    rw [Ma,hF'.2.2.2.1]
    simp only [Mc,Md,Mf]
    omega)
   clear hN hE hR
   have q3:=wA hlk
   have hu3:upto (kr p true) (k+1)=upto (kr p true) k++kr p true k:=rfl
   rw [hu3] at nx3
   have ho3:kr p true k=if true=true∧(p.ops.getD k default).k=16 then [p.ops.getD k default] else []:=rfl
   rw [ho3] at nx3
   generalize p.ops.getD k default=o at q3 nx3
   have hod:o.d= [.i o.k,.i o.on.o,.i o.on.s,.i o.on.i,.i o.to.o,.i o.to.s,.i o.to.i,.slc (je o.ids),.i o.n,.str o.name,.str o.text,.i o.a,.i o.b]:=rfl
   generalize upto (kr p true) k=ac3 at nx3 hv3
   have hac:(ac++ac3).length<=200000:=by rw [Mh];omega
   simp+contextual only [hx,hd,j9,qm (show k<=big by omega),q3,hod,↓JX,↓XP,ql,XW1,qb,qc,qe]
   refine fun _=>⟨fun _ _=>⟨fun hk'=>⟨vX,by omega,?_⟩,fun hk'=>?_⟩,fun hge=>absurd (by omega) hge⟩
   ·rw [if_pos ⟨rfl,hk'⟩,<-Mq,<-Wd,show qM [o]= [o.d] from rfl,hod,hk'] at nx3
    exact nx3 _ ⟨rfl,rfl,rfl,rfl,trivial⟩
   ·rw [if_neg (fun hc=>hk' hc.2),M3] at nx3
    exact nx3 _ ⟨rfl,rfl,rfl,rfl,trivial⟩
  ·have hik:k=p.ops.length:=by omega
   subst hik
   simp+contextual only [hx,hd,j9,↓JX,↓XP,ql,XW1]
   refine fun _=>hE _ _ _ ?_
   clear hN hE hR
   simp+contextual only [↓XP,qA,XW1]
   exact h
theorem WG (x:Int):(if x<1 then x else 1)=min 1 x:=by
 by_cases h:x<1
 ·rw [if_pos h];omega
 ·rw [if_neg h];omega
theorem QZ (h:R (.agg (small sense other n m).d) H):ACall Tryz.prog 132 [.agg sense.d,.agg other.d,.i n,.slc (ints m)] H R:=by
 refine Dk fun hf=>?_
 have hbig:=qn
 have ho:sense.d= [.i sense.o,.i sense.s,.i sense.i]:=rfl
 have ho2:other.d= [.i other.o,.i other.s,.i other.i]:=rfl
 simp+contextual only [xr,ho,ho2,↓El,↓XP,ql,XW1,qa,qb,qc,qe]
 have r9:=qp (l:=m) (i:=3) (most:=9) (by omega)
 have r3:=qp (l:=m) (i:=3) (most:=3) (by omega)
 have r2:=qp (l:=m) (i:=3) (most:=2) (by omega)
 have e3:([[.str [102,114]],[.str [102,114]],[.str [100,101]]]:List (List D))=strs lang3:=rfl
 have e2:([[.str [114,97,114,101]],[.str [108,97,119]]]:List (List D))=strs lab2:=rfl
 have s3:=kn (show (qy m 3 3).toNat<lang3.length by show _<3;omega)
 have s2:=kn (show (qy m 3 2).toNat<lab2.length by show _<2;omega)
 have l3:lang3.length=3:=rfl
 have l2:lab2.length=2:=rfl
 rintro b1 h1 b2 ⟨n12,h2⟩ b3 ⟨n23,n13,h3⟩
 refine ⟨?_,fun c0=>⟨?_,fun c1=>⟨?_,fun c2=>⟨?_,fun c3=>⟨?_,fun c4=>⟨?_,fun c5=>⟨?_,fun c6=>⟨?_,fun c7=>⟨?_,fun c8=>⟨?_,?_⟩⟩⟩⟩⟩⟩⟩⟩⟩⟩
 ·rintro rfl
  refine ⟨_,fun _ _=>kv (n:=3) ⟨rfl,rfl⟩,?_⟩
  simp+contextual only [↓XP,qA]
  refine fun _=>⟨_,fun _ _=>uG ⟨rfl,rfl⟩,?_⟩
  simp+contextual only [↓XP,ql,XW1,qb,qe]
  intros
  exact h
 ·rintro rfl
  refine ⟨_,fun _ _=>kv (n:=3) ⟨rfl,rfl⟩,?_⟩
  simp+contextual only [↓XP,qA]
  refine fun _=>⟨_,fun _ _=>uG ⟨rfl,rfl⟩,?_⟩
  simp+contextual only [↓XP,ql,XW1,qb,qe]
  intros
  exact h
 ·rintro rfl
  refine ⟨_,fun _ _=>jR (i:=3) (by omega) ⟨rfl,rfl⟩,?_⟩
  simp+contextual only [↓XP,ql,XW1,qb,qe]
  intros
  exact h
 ·rintro rfl
  refine ⟨_,fun _ _=>jR (i:=3) (by omega) ⟨rfl,rfl⟩,?_⟩
  simp+contextual only [qj (show -9223372036854775808<=1+qy m 3 9 by omega) (by omega),↓XP,ql,XW1,qb,qe]
  intros
  exact h
 ·rintro rfl
  refine ⟨_,fun _ _=>jR (i:=3) (by omega) ⟨rfl,rfl⟩,?_⟩
  simp+contextual only [e3,s3,l3,jc,↓XP,ql]
  refine fun _=>⟨by omega,by omega,fun _=>?_⟩
  refine ⟨_,fun _ _=>kv (n:=4) ⟨rfl,rfl⟩,?_⟩
  simp+contextual only [↓XP,qA]
  refine fun _=>⟨_,fun _ _=>uG ⟨rfl,rfl⟩,?_⟩
  simp+contextual only [↓XP,ql,XW1,qb,qe]
  intros
  exact h
 ·rintro rfl
  refine ⟨_,fun _ _=>jR (i:=3) (by omega) ⟨rfl,rfl⟩,?_⟩
  simp+contextual only [e2,s2,l2,jc,↓XP,ql]
  refine fun _=>⟨by omega,by omega,fun _=>?_⟩
  refine ⟨_,fun _ _=>jR (i:=4) (by omega) ⟨rfl,rfl⟩,?_⟩
  simp+contextual only [WG,↓XP,ql,XW1,qb,qe]
  intros
  exact h
 ·rintro rfl
  refine ⟨_,fun _ _=>jR (i:=3) (by omega) ⟨rfl,rfl⟩,?_⟩
  simp+contextual only [e2,s2,l2,jc,↓XP,ql]
  refine fun _=>⟨by omega,by omega,fun _=>?_⟩
  refine ⟨_,fun _ _=>jR (i:=4) (by omega) ⟨rfl,rfl⟩,?_⟩
  simp+contextual only [WG,↓XP,ql,XW1,qb,qe]
  intros
  exact h
 ·rintro rfl
  refine ⟨_,fun _ _=>jR (i:=3) (by omega) ⟨rfl,rfl⟩,?_⟩
  simp+contextual only [WG,↓XP,ql,XW1,qb,qe]
  intros
  exact h
 ·rintro rfl
  refine ⟨_,fun _ _=>jR (i:=3) (by omega) ⟨rfl,rfl⟩,?_⟩
  simp+contextual only [WG,↓XP,ql,XW1,qb,qe]
  intros
  exact h
 ·rintro rfl
  refine ⟨_,fun _ _=>jR (i:=3) (by omega) ⟨rfl,rfl⟩,?_⟩
  simp+contextual only [↓XP,ql,XW1,qb,qe]
  intros
  exact h
 ·intro c9
  have hs:small sense other n m={jQ with k:=8,on:=sense,n:=qy m 3 5}:=by
   unfold small
   simp only [c0,c1,c2,c3,c4,c5,c6,c7,c8,c9,or_self,if_false]
  rw [hs] at h
  refine ⟨_,fun _ _=>jR (i:=3) (by omega) ⟨rfl,rfl⟩,?_⟩
  simp+contextual only [↓XP,ql,XW1,qb,qe]
  intros
  exact h
theorem QM:(meaning p on m).ops.length<=p.ops.length+3:=by
 unfold meaning
 simp only
 split<;>simp only [vC]<;>omega
theorem ae (hl:p.ops.length<=800) (h:R (.agg (divided p entry sense m).d) H):ACall Tryz.prog 130 [.agg p.d,.agg entry.d,.agg sense.d,.slc (ints m)] H R:=by
 refine FZ fun hf=>?_
 have hbig:=qn
 have hd:p.d= [.i p.o,.i p.s,.i p.day,.slc (qF p.needs),.slc (qM p.ops),.str p.sl]:=rfl
 have he:entry.d= [.i entry.o,.i entry.s,.i entry.i]:=rfl
 have hs:sense.d= [.i sense.o,.i sense.s,.i sense.i]:=rfl
 simp+contextual only [↓lg,hd,he,hs,j9,qg,↓lg,↓XP,ql,XW1,qa,qb,qe]
 rintro b1 h1 b2 ⟨n12,h2⟩ b3 ⟨n23,n13,h3⟩ b4 ⟨n34,n24,n14,h4⟩ _ _ _ b5 ⟨n45,n35,n25,n15,h5⟩
 refine vk (p:=p) (on:=entry) (m:=m) (by omega) ?_
 obtain ⟨p1,hp1⟩:∃q,q=meaning p entry m:=⟨_,rfl⟩
 have l1:p1.ops.length<=p.ops.length+3:=by rw [hp1];exact QM
 have hdv:divided p entry sense m=qU (meaning p1 entry (m.drop 1)) {jQ with k:=16,on:=sense,ids:= [jA p,jA p1],n:=qy m 4 3 - 1}:=by rw [hp1];rfl
 rw [<-hp1]
 clear hp1
 have hd1:p1.d= [.i p1.o,.i p1.s,.i p1.day,.slc (qF p1.needs),.slc (qM p1.ops),.str p1.sl]:=rfl
 simp+contextual only [hd1,j9,qg,qi,n12,n13,n23,n14,n24,n15,n25,↓lg,↓XP,ql,XW1,qb,qe]
 rintro _ _ _ b6 ⟨n56,n46,n36,n26,n16,h6⟩
 refine ⟨_,fun _ _=>kv (n:=1) ⟨rfl,rfl⟩,?_⟩
 simp+contextual only [↓XP,qA]
 refine fun _=>⟨_,fun _ _=>vk (p:=p1) (on:=entry) (m:=m.drop 1) (by omega) ⟨rfl,rfl⟩,?_⟩
 have l2:=QM (p:=p1) (on:=entry) (m:=m.drop 1)
 rw [hdv] at h
 generalize meaning p1 entry (m.drop 1)=p2 at h l2 ⊢
 have hd2:p2.d= [.i p2.o,.i p2.s,.i p2.day,.slc (qF p2.needs),.slc (qM p2.ops),.str p2.sl]:=rfl
 simp+contextual only [hd2,qg,qi,n12,n13,n14,n34,n15,n35,n16,n36,n56,↓lg,↓XP,ql,XW1,qb,qc,qe]
 have r3:=qp (l:=m) (i:=4) (most:=3) (by omega)
 refine ⟨_,fun _ _=>jR (i:=4) (by omega) ⟨rfl,rfl⟩,?_⟩
 have w3:IntKind.i64.wrap (qy m 4 3 - 1)=qy m 4 3 - 1:=qj (by omega) (by omega)
 simp+contextual only [w3,↓XP,ql,qb,qe]
 refine fun _=>⟨_,fun _ _=>kI (p:=p2) (o:={jQ with k:=16,on:=sense,ids:= [jA p,jA p1],n:=qy m 4 3 - 1}) (by omega) ⟨rfl,rfl⟩,?_⟩
 generalize qU p2 {jQ with k:=16,on:=sense,ids:= [jA p,jA p1],n:=qy m 4 3 - 1}=p3 at h ⊢
 have hd3:p3.d= [.i p3.o,.i p3.s,.i p3.day,.slc (qF p3.needs),.slc (qM p3.ops),.str p3.sl]:=rfl
 simp+contextual only [hd3,qg,qi,n45,n46,↓XP,ql,XW1,qb]
 intros
 exact h
theorem J9 {x:Gs} {seen:List Bool} {p:Pt} {kind:Int} (ho:∀q∈x.l,q.ops.length<=1000) (hb:x.l.length<=100) (hp:p.ops.length<=1000):(visible x seen p kind).length<=101000:=by
 have h1:=Y6 (x:=x) (seen:=seen) (kind:=kind) ho x.l.length
 have h2:=uR (p:=p) (kind:=kind) (ok:=true) p.ops.length
 unfold visible
 rw [Mh]
 unfold kw at h1 ⊢
 omega
theorem Uj {x:Gs} {seen:List Bool} {p:Pt} {sense:Id3} {m:List Int} {H:AH} (hs:x.l.length<=seen.length) (hb:x.l.length<=100) (ho:∀q∈x.l,q.ops.length<=1000) (hp:p.ops.length<=800) (h:R (.agg (quoted x seen p sense m).d) H):ACall Tryz.prog 129 [.agg x.d,.slc (jK seen),.agg p.d,.agg sense.d,.slc (ints m)] H R:=by
 refine EA fun hf=>?_
 have hbig:=qn
 have hx:x.d= [.slc (jd x.l),.slc (ja x.past)]:=rfl
 have hd:p.d= [.i p.o,.i p.s,.i p.day,.slc (qF p.needs),.slc (qM p.ops),.str p.sl]:=rfl
 have he:sense.d= [.i sense.o,.i sense.s,.i sense.i]:=rfl
 simp+contextual only [↓Wy,hx,hd,he,qg,↓Wy,↓XP,ql,XW1,qa,qb]
 rintro b1 h1 b2 ⟨n12,h2⟩ b3 ⟨n23,n13,h3⟩ b4 ⟨n34,n24,n14,h4⟩
 refine z6 (x:=x) (p:=p) hs hb ho (by omega) ?_
 have hvl:(visible x seen p 3).length<=101000:=J9 ho hb (by omega)
 unfold quoted at h
 simp only at h
 generalize visible x seen p 3=src at h hvl ⊢
 simp+contextual only [j9,qP,qg,n23,n24,↓Wy,↓XP,ql,XW1,qb,qe]
 rintro _ _ _ _ b5 ⟨n45,n35,n25,n15,h5⟩
 have r2:=qp (l:=m) (i:=2) (most:=60) (by omega)
 have r3:=qp (l:=m) (i:=3) (most:=3) (by omega)
 have r4:=qp (l:=m) (i:=4) (most:=8) (by omega)
 have r5:=qp (l:=m) (i:=5) (most:=90) (by omega)
 have w1:IntKind.i64.wrap (400*qy m 2 60)=400*qy m 2 60:=qj (by omega) (by omega)
 have w2:IntKind.i64.wrap (600000+400*qy m 2 60)=600000+400*qy m 2 60:=qj (by omega) (by omega)
 have w3:IntKind.i64.wrap (300*qy m 4 8)=300*qy m 4 8:=qj (by omega) (by omega)
 have w4:IntKind.i64.wrap (600000+400*qy m 2 60+300*qy m 4 8)=600000+400*qy m 2 60+300*qy m 4 8:=qj (by omega) (by omega)
 have w5:IntKind.i64.wrap (1+qy m 5 90)=1+qy m 5 90:=qj (by omega) (by omega)
 have e3:([[.str [112,114,101,115,115]],[.str [104,101,105,114,115]],[.str [99,114,111,119,110]]]:List (List D))=strs names3:=rfl
 have s3:=kn (show (qy m 3 3).toNat<names3.length by show _<3;omega)
 have l3:names3.length=3:=rfl
 refine ⟨fun h0=>?_,fun h0=>?_⟩
 ·rw [if_pos (.inl (by omega))] at h
  refine jR (i:=2) (by omega) ?_
  simp+contextual only [qg,n23,n24,n25,w1,w2,↓Wy,↓XP,ql,XW1,qb,qc,qe]
  refine fun _=>⟨_,fun _ _=>jR (i:=3) (by omega) ⟨rfl,rfl⟩,?_⟩
  simp+contextual only [e3,s3,l3,jc,↓XP,ql]
  refine fun _=>⟨by omega,by omega,fun _=>?_⟩
  refine ⟨_,fun _ _=>jR (i:=4) (by omega) ⟨rfl,rfl⟩,?_⟩
  simp+contextual only [w3,w4,↓XP,ql,qb,qe]
  refine fun _=>⟨_,fun _ _=>kI (p:=p) (o:={jQ with k:=3,name:=names3.getD (jL m 3 3) [],text:= [97,110,110,97,108,115],a:=600000+400*qy m 2 60,b:=600000+400*qy m 2 60+300*qy m 4 8}) (by omega) ⟨rfl,rfl⟩,?_⟩
  generalize hp1:qU p {jQ with k:=3,name:=names3.getD (jL m 3 3) [],text:= [97,110,110,97,108,115],a:=600000+400*qy m 2 60,b:=600000+400*qy m 2 60+300*qy m 4 8}=p1 at h ⊢
  have lp1:p1.ops.length<=801:=by rw [<-hp1,vC];omega
  have hd1:p1.d= [.i p1.o,.i p1.s,.i p1.day,.slc (qF p1.needs),.slc (qM p1.ops),.str p1.sl]:=rfl
  simp+contextual only [hd1,qg,qi,n23,n24,n34,n25,n35,↓Wy,↓XP,ql,XW1,qb]
  refine ⟨_,fun _ _=>jR (i:=5) (by omega) ⟨rfl,rfl⟩,?_⟩
  simp+contextual only [w5,↓XP,qA]
  refine fun _=>⟨_,fun _ _=>kv (n:=6) ⟨rfl,rfl⟩,?_⟩
  simp+contextual only [↓XP,qA]
  refine fun _=>⟨_,fun _ _=>uG ⟨rfl,rfl⟩,?_⟩
  simp+contextual only [↓XP,ql,qb,qe]
  refine fun _=>⟨_,fun _ _=>kI (p:=p1) (o:={jQ with k:=4,on:=sense,to:=jA p,n:=1+qy m 5 90,text:=gloss (m.drop 6)}) (by omega) ⟨rfl,rfl⟩,?_⟩
  generalize qU p1 {jQ with k:=4,on:=sense,to:=jA p,n:=1+qy m 5 90,text:=gloss (m.drop 6)}=p3 at h ⊢
  have hd3:p3.d= [.i p3.o,.i p3.s,.i p3.day,.slc (qF p3.needs),.slc (qM p3.ops),.str p3.sl]:=rfl
  simp+contextual only [hd3,qg,qi,n45,↓XP,ql,XW1,qb]
  intros
  exact h
 ·refine jR (i:=1) (by omega) ?_
  simp+contextual only [qP,↓Wy,↓XP,ql]
  refine fun _=>⟨fun h1=>?_,fun h1=>?_⟩
  ·rw [if_pos (.inr h1)] at h
   refine jR (i:=2) (by omega) ?_
   simp+contextual only [qg,n23,n24,n25,w1,w2,↓Wy,↓XP,ql,XW1,qb,qc,qe]
   refine fun _=>⟨_,fun _ _=>jR (i:=3) (by omega) ⟨rfl,rfl⟩,?_⟩
   simp+contextual only [e3,s3,l3,jc,↓XP,ql]
   refine fun _=>⟨by omega,by omega,fun _=>?_⟩
   refine ⟨_,fun _ _=>jR (i:=4) (by omega) ⟨rfl,rfl⟩,?_⟩
   simp+contextual only [w3,w4,↓XP,ql,qb,qe]
   refine fun _=>⟨_,fun _ _=>kI (p:=p) (o:={jQ with k:=3,name:=names3.getD (jL m 3 3) [],text:= [97,110,110,97,108,115],a:=600000+400*qy m 2 60,b:=600000+400*qy m 2 60+300*qy m 4 8}) (by omega) ⟨rfl,rfl⟩,?_⟩
   generalize hp1:qU p {jQ with k:=3,name:=names3.getD (jL m 3 3) [],text:= [97,110,110,97,108,115],a:=600000+400*qy m 2 60,b:=600000+400*qy m 2 60+300*qy m 4 8}=p1 at h ⊢
   have lp1:p1.ops.length<=801:=by rw [<-hp1,vC];omega
   have hd1:p1.d= [.i p1.o,.i p1.s,.i p1.day,.slc (qF p1.needs),.slc (qM p1.ops),.str p1.sl]:=rfl
   simp+contextual only [hd1,qg,qi,n23,n24,n34,n25,n35,↓Wy,↓XP,ql,XW1,qb]
   refine ⟨_,fun _ _=>jR (i:=5) (by omega) ⟨rfl,rfl⟩,?_⟩
   simp+contextual only [w5,↓XP,qA]
   refine fun _=>⟨_,fun _ _=>kv (n:=6) ⟨rfl,rfl⟩,?_⟩
   simp+contextual only [↓XP,qA]
   refine fun _=>⟨_,fun _ _=>uG ⟨rfl,rfl⟩,?_⟩
   simp+contextual only [↓XP,ql,qb,qe]
   refine fun _=>⟨_,fun _ _=>kI (p:=p1) (o:={jQ with k:=4,on:=sense,to:=jA p,n:=1+qy m 5 90,text:=gloss (m.drop 6)}) (by omega) ⟨rfl,rfl⟩,?_⟩
   generalize qU p1 {jQ with k:=4,on:=sense,to:=jA p,n:=1+qy m 5 90,text:=gloss (m.drop 6)}=p3 at h ⊢
   have hd3:p3.d= [.i p3.o,.i p3.s,.i p3.day,.slc (qF p3.needs),.slc (qM p3.ops),.str p3.sl]:=rfl
   simp+contextual only [hd3,qg,qi,n45,↓XP,ql,XW1,qb]
   intros
   exact h
  ·rw [if_neg (by rintro (hc|hc);exact h0 (by omega);exact h1 hc)] at h
   have r6:=qp (l:=m) (i:=2) (most:=(src.length:Int)) (by omega)
   have s6:=wC (show (qy m 2 src.length).toNat<src.length by omega)
   refine fun _=>jR (i:=2) (most:=(src.length:Int)) (by omega) ?_
   unfold jL at h
   generalize src.getD (qy m 2 src.length).toNat default=to at s6 h
   have hto:to.d= [.i to.o,.i to.s,.i to.i]:=rfl
   simp+contextual only [qP,qg,n23,n24,n34,n25,n35,s6,hto,↓Wy,↓XP,ql,XW1,qb]
   refine fun _=>⟨by omega,by omega,?_⟩
   refine ⟨_,fun _ _=>jR (i:=5) (by omega) ⟨rfl,rfl⟩,?_⟩
   simp+contextual only [w5,↓XP,qA]
   refine fun _=>⟨_,fun _ _=>kv (n:=6) ⟨rfl,rfl⟩,?_⟩
   simp+contextual only [↓XP,qA]
   refine fun _=>⟨_,fun _ _=>uG ⟨rfl,rfl⟩,?_⟩
   simp+contextual only [↓XP,ql,qb,qe]
   refine fun _=>⟨_,fun _ _=>kI (p:=p) (o:={jQ with k:=4,on:=sense,to:=to,n:=1+qy m 5 90,text:=gloss (m.drop 6)}) (by omega) ⟨rfl,rfl⟩,?_⟩
   generalize qU p {jQ with k:=4,on:=sense,to:=to,n:=1+qy m 5 90,text:=gloss (m.drop 6)}=p3 at h ⊢
   have hd3:p3.d= [.i p3.o,.i p3.s,.i p3.day,.slc (qF p3.needs),.slc (qM p3.ops),.str p3.sl]:=rfl
   simp+contextual only [hd3,qg,qi,n45,↓XP,ql,XW1,qb]
   intros
   exact h
theorem nN {x1 x2 x3 x4 x5 x6 x7:Nat×AO} (h:H.length=n):back n (x1::x2::x3::x4::x5::x6::x7::H)=H:=by
 rw [wy (by simp;omega),cW h]
theorem Bs {a b:Id3}:(decide (a.o=b.o)&&(decide (a.s=b.s)&&decide (a.i=b.i)))=decide (a=b):=by
 cases a;cases b
 simp only [Id3.mk.injEq,Bool.decide_and]
theorem fp {x:Gs} {seen:List Bool} {p:Pt} (ho:∀q∈x.l,q.ops.length<=1000) (hb:x.l.length<=100) (hp:p.ops.length<=1000):(splits x seen p).length<=101000:=by
 have h1:=Yx (x:=x) (seen:=seen) ho x.l.length
 have h2:=uN (p:=p) (ok:=true) p.ops.length
 unfold splits
 rw [Mh]
 unfold kP at h1 ⊢
 omega
theorem sB {x:Gs} {seen:List Bool} {p:Pt} {m:List Int} {H:AH} (hs:x.l.length<=seen.length) (hb:x.l.length<=100) (ho:∀q∈x.l,q.ops.length<=1000) (hp:p.ops.length<=700) (hen:(visible x seen p 2).length≠0->(visible x seen p 1).length≠0) (hsp:∀o∈splits x seen p,o.ids.length=2) (h:R (.agg (step x seen p m).d) H):ACall Tryz.prog 98 [.agg x.d,.slc (jK seen),.agg p.d,.slc (ints m)] H R:=by
 refine b98 fun hf=>?_
 have hbig:=qn
 have hx:x.d= [.slc (jd x.l),.slc (ja x.past)]:=rfl
 have hd:p.d= [.i p.o,.i p.s,.i p.day,.slc (qF p.needs),.slc (qM p.ops),.str p.sl]:=rfl
 simp+contextual only [↓J4,hx,hd,qg,↓J4,↓XP,ql,XW1,qa,qb]
 rintro b1 h1 b2 ⟨n12,h2⟩ b3 ⟨n23,n13,h3⟩
 refine z6 (x:=x) (p:=p) hs hb ho (by omega) ?_
 have hvl1:(visible x seen p 1).length<=101000:=J9 ho hb (by omega)
 have hvl2:(visible x seen p 2).length<=101000:=J9 ho hb (by omega)
 have hvl3:(visible x seen p 3).length<=101000:=J9 ho hb (by omega)
 have r0:=qp (l:=m) (i:=0) (most:=24) (by omega)
 have r15:=qp (l:=m) (i:=1) (most:=5) (by omega)
 have r28:=qp (l:=m) (i:=2) (most:=8) (by omega)
 have r38:=qp (l:=m) (i:=3) (most:=8) (by omega)
 have r32:=qp (l:=m) (i:=3) (most:=2) (by omega)
 have r360:=qp (l:=m) (i:=3) (most:=60) (by omega)
 have e5:([[.str [110]],[.str [110]],[.str [110]],[.str [118]],[.str [120]]]:List (List D))=strs cls5:=rfl
 have e2:([[.str [110]],[.str [118]]]:List (List D))=strs cls2:=rfl
 have l5:cls5.length=5:=rfl
 have l2:cls2.length=2:=rfl
 have l8:heads8.length=8:=rfl
 have s15:=kn (show (qy m 1 5).toNat<cls5.length by rw [l5];omega)
 have s28:=kn (show (qy m 2 8).toNat<heads8.length by rw [l8];omega)
 have s38:=kn (show (qy m 3 8).toNat<heads8.length by rw [l8];omega)
 have s32:=kn (show (qy m 3 2).toNat<cls2.length by rw [l2];omega)
 unfold step at h
 simp only at h
 generalize visible x seen p 1=en at h hvl1 hen ⊢
 simp+contextual only [qP,qg,n12,n13,n23,↓J4,↓XP,ql,XW1,qb]
 refine fun _=>z6 (x:=x) (p:=p) hs hb ho (by omega) ?_
 generalize visible x seen p 2=se at h hvl2 hen ⊢
 simp+contextual only [qP,↓J4,↓XP,qA]
 refine fun _=>jR (i:=0) (by omega) ?_
 generalize qy m 0 24=c at h r0 ⊢
 simp+contextual only [j9,qP,qg,n23,↓J4,↓XP,ql,XW1,qb,qc,qe]
 refine fun _ _=>⟨fun h0=>?_,fun h0=>⟨fun h5=>?_,fun h5=>?_⟩⟩
 ·rw [if_pos (.inl (by omega))] at h
  rintro _ _ _ b4 ⟨n34,n24,n14,h4⟩
  refine ⟨_,fun _ _=>jR (i:=1) (by omega) ⟨rfl,rfl⟩,?_⟩
  simp+contextual only [e5,s15,l5,jc,↓XP,ql]
  refine fun _=>⟨by omega,by omega,fun _=>?_⟩
  refine ⟨_,fun _ _=>J6 ⟨rfl,rfl⟩,?_⟩
  simp+contextual only [l8,jc,↓XP,qA]
  refine fun _=>⟨_,fun _ _=>jR (i:=2) (by omega) ⟨rfl,rfl⟩,?_⟩
  simp+contextual only [s28,l8,jc,↓XP,ql,qb,qe]
  refine fun _=>⟨by omega,by omega,fun _=>?_⟩
  refine ⟨_,fun _ _=>kI (p:=p) (o:={jQ with k:=1,name:=cls5.getD (jL m 1 5) [],text:=heads8.getD (jL m 2 8) []}) (by omega) ⟨rfl,rfl⟩,?_⟩
  generalize hp1:qU p {jQ with k:=1,name:=cls5.getD (jL m 1 5) [],text:=heads8.getD (jL m 2 8) []}=p1 at h ⊢
  have lp1:p1.ops.length<=801:=by rw [<-hp1,vC];omega
  have hd1:p1.d= [.i p1.o,.i p1.s,.i p1.day,.slc (qF p1.needs),.slc (qM p1.ops),.str p1.sl]:=rfl
  simp+contextual only [hd1,qg,qi,n23,n24,↓J4,↓XP,ql,XW1,qb]
  refine ⟨_,fun _ _=>kv (n:=3) ⟨rfl,rfl⟩,?_⟩
  simp+contextual only [↓XP,qA]
  refine fun _=>⟨_,fun _ _=>vk (p:=p1) (on:=jA p) (m:=m.drop 3) (by omega) ⟨rfl,rfl⟩,?_⟩
  generalize meaning p1 (jA p) (m.drop 3)=p3 at h ⊢
  have hd3:p3.d= [.i p3.o,.i p3.s,.i p3.day,.slc (qF p3.needs),.slc (qM p3.ops),.str p3.sl]:=rfl
  simp+contextual only [hd3,qg,qi,n34,↓XP,ql,XW1,qb]
  intros
  exact h
 ·rw [if_pos (.inr (by omega))] at h
  rintro _ _ _ b4 ⟨n34,n24,n14,h4⟩
  refine ⟨_,fun _ _=>jR (i:=1) (by omega) ⟨rfl,rfl⟩,?_⟩
  simp+contextual only [e5,s15,l5,jc,↓XP,ql]
  refine fun _=>⟨by omega,by omega,fun _=>?_⟩
  refine ⟨_,fun _ _=>J6 ⟨rfl,rfl⟩,?_⟩
  simp+contextual only [l8,jc,↓XP,qA]
  refine fun _=>⟨_,fun _ _=>jR (i:=2) (by omega) ⟨rfl,rfl⟩,?_⟩
  simp+contextual only [s28,l8,jc,↓XP,ql,qb,qe]
  refine fun _=>⟨by omega,by omega,fun _=>?_⟩
  refine ⟨_,fun _ _=>kI (p:=p) (o:={jQ with k:=1,name:=cls5.getD (jL m 1 5) [],text:=heads8.getD (jL m 2 8) []}) (by omega) ⟨rfl,rfl⟩,?_⟩
  generalize hp1:qU p {jQ with k:=1,name:=cls5.getD (jL m 1 5) [],text:=heads8.getD (jL m 2 8) []}=p1 at h ⊢
  have lp1:p1.ops.length<=801:=by rw [<-hp1,vC];omega
  have hd1:p1.d= [.i p1.o,.i p1.s,.i p1.day,.slc (qF p1.needs),.slc (qM p1.ops),.str p1.sl]:=rfl
  simp+contextual only [hd1,qg,qi,n23,n24,↓J4,↓XP,ql,XW1,qb]
  refine ⟨_,fun _ _=>kv (n:=3) ⟨rfl,rfl⟩,?_⟩
  simp+contextual only [↓XP,qA]
  refine fun _=>⟨_,fun _ _=>vk (p:=p1) (on:=jA p) (m:=m.drop 3) (by omega) ⟨rfl,rfl⟩,?_⟩
  generalize meaning p1 (jA p) (m.drop 3)=p3 at h ⊢
  have hd3:p3.d= [.i p3.o,.i p3.s,.i p3.day,.slc (qF p3.needs),.slc (qM p3.ops),.str p3.sl]:=rfl
  simp+contextual only [hd3,qg,qi,n34,↓XP,ql,XW1,qb]
  intros
  exact h
 ·rw [if_neg (by rintro (hc|hc);exact h0 (by omega);exact h5 (by omega))] at h
  have hen':=hen (by omega)
  clear hen
  have ra:=qp (l:=m) (i:=1) (most:=(en.length:Int)) (by omega)
  have rb:=qp (l:=m) (i:=1) (most:=(se.length:Int)) (by omega)
  have rc:=qp (l:=m) (i:=2) (most:=(se.length:Int)) (by omega)
  have sa:(je en).getD (qy m 1 en.length).toNat []=(en.getD (jL m 1 en.length) default).d:=wC (show (qy m 1 en.length).toNat<en.length by omega)
  have sb:(je se).getD (qy m 1 se.length).toNat []=(se.getD (jL m 1 se.length) default).d:=wC (show (qy m 1 se.length).toNat<se.length by omega)
  have sc:(je se).getD (qy m 2 se.length).toNat []=(se.getD (jL m 2 se.length) default).d:=wC (show (qy m 2 se.length).toNat<se.length by omega)
  generalize en.getD (jL m 1 en.length) default=ent at h sa
  generalize se.getD (jL m 1 se.length) default=sen at h sb
  generalize se.getD (jL m 2 se.length) default=oth at h sc
  have he1:ent.d= [.i ent.o,.i ent.s,.i ent.i]:=rfl
  have he2:sen.d= [.i sen.o,.i sen.s,.i sen.i]:=rfl
  have he3:oth.d= [.i oth.o,.i oth.s,.i oth.i]:=rfl
  refine fun _=>jR (i:=1) (most:=(en.length:Int)) (by omega) ?_
  simp+contextual only [qP,sa,he1,↓J4,↓XP,ql,XW1,qb]
  refine fun _=>⟨by omega,by omega,?_⟩
  rintro b4 ⟨n34,n24,n14,h4⟩
  refine fun _=>jR (i:=1) (most:=(se.length:Int)) (by omega) ?_
  simp+contextual only [qP,sb,he2,↓J4,↓XP,ql,XW1,qb]
  refine fun _=>⟨by omega,by omega,?_⟩
  rintro b5 ⟨n45,n35,n25,n15,h5⟩
  have hc:c=6∨c=7∨c=8∨c=9∨c=10∨c=11∨c=12∨c=13∨c=14∨14<c:=by omega
  refine fun _=>jR (i:=2) (most:=(se.length:Int)) (by omega) ?_
  rcases hc with rfl|rfl|rfl|rfl|rfl|rfl|rfl|rfl|rfl|hc
  ·clear h0 h5 r0
   have q7:((6:Int)=7)=False:=by decide
   have q8:((6:Int)=8)=False:=by decide
   have q9:((6:Int)=9)=False:=by decide
   have q10:((6:Int)=10)=False:=by decide
   have q11:((6:Int)=11)=False:=by decide
   have q12:((6:Int)=12)=False:=by decide
   have q13:((6:Int)=13)=False:=by decide
   have q14:((6:Int)=14)=False:=by decide
   rw [if_pos (by omega)] at h
   simp+contextual only [qP,qg,n23,sc,he3,n24,n25,n45,↓J4,↓XP,ql,XW1,qb]
   refine fun _=>⟨by omega,by omega,?_⟩
   rintro b6 ⟨n56,n46,n36,n26,n16,h6⟩
   refine ⟨_,fun _ _=>kv (n:=2) ⟨rfl,rfl⟩,?_⟩
   simp+contextual only [↓XP,qA]
   refine fun _=>⟨_,fun _ _=>vk (p:=p) (on:=ent) (m:=m.drop 2) (by omega) ⟨rfl,rfl⟩,?_⟩
   generalize meaning p ent (m.drop 2)=p3 at h ⊢
   have hd3:p3.d= [.i p3.o,.i p3.s,.i p3.day,.slc (qF p3.needs),.slc (qM p3.ops),.str p3.sl]:=rfl
   simp+contextual only [hd3,qg,qi,n34,n35,n36,↓XP,ql,XW1,qb]
   intros
   exact h
  ·clear h0 h5 r0
   have q6:((7:Int)=6)=False:=by decide
   have q8:((7:Int)=8)=False:=by decide
   have q9:((7:Int)=9)=False:=by decide
   have q10:((7:Int)=10)=False:=by decide
   have q11:((7:Int)=11)=False:=by decide
   have q12:((7:Int)=12)=False:=by decide
   have q13:((7:Int)=13)=False:=by decide
   have q14:((7:Int)=14)=False:=by decide
   rw [if_neg (by omega),if_pos (by omega)] at h
   simp+contextual only [qP,qg,n23,sc,he3,n24,n25,q6,↓J4,↓XP,ql,XW1,qb]
   refine fun _=>⟨by omega,by omega,?_⟩
   rintro b6 ⟨n56,n46,n36,n26,n16,h6⟩
   refine ⟨_,fun _ _=>kv (n:=2) ⟨rfl,rfl⟩,?_⟩
   simp+contextual only [↓XP,qA]
   refine fun _=>⟨_,fun _ _=>vk (p:=p) (on:=sen) (m:=m.drop 2) (by omega) ⟨rfl,rfl⟩,?_⟩
   generalize meaning p sen (m.drop 2)=p3 at h ⊢
   have hd3:p3.d= [.i p3.o,.i p3.s,.i p3.day,.slc (qF p3.needs),.slc (qM p3.ops),.str p3.sl]:=rfl
   simp+contextual only [hd3,qg,qi,n34,n35,n36,↓XP,ql,XW1,qb]
   intros
   exact h
  ·clear h0 h5 r0
   have q6:((8:Int)=6)=False:=by decide
   have q7:((8:Int)=7)=False:=by decide
   have q9:((8:Int)=9)=False:=by decide
   have q10:((8:Int)=10)=False:=by decide
   have q11:((8:Int)=11)=False:=by decide
   have q12:((8:Int)=12)=False:=by decide
   have q13:((8:Int)=13)=False:=by decide
   have q14:((8:Int)=14)=False:=by decide
   rw [if_neg (by omega),if_neg (by omega),if_pos (by omega)] at h
   simp+contextual only [qP,qg,n12,n13,n23,sc,he3,n14,n24,n15,n25,q6,q7,↓J4,↓XP,ql,XW1,qb]
   refine fun _=>⟨by omega,by omega,?_⟩
   rintro b6 ⟨n56,n46,n36,n26,n16,h6⟩
   refine ⟨_,fun _ _=>kv (n:=2) ⟨rfl,rfl⟩,?_⟩
   simp+contextual only [↓XP,qA]
   refine fun _=>⟨_,fun _ _=>Uj (x:=x) (p:=p) (sense:=sen) (m:=m.drop 2) hs hb ho (by omega) ⟨rfl,rfl⟩,?_⟩
   generalize quoted x seen p sen (m.drop 2)=p3 at h ⊢
   have hd3:p3.d= [.i p3.o,.i p3.s,.i p3.day,.slc (qF p3.needs),.slc (qM p3.ops),.str p3.sl]:=rfl
   simp+contextual only [hd3,qg,qi,n34,n35,n36,↓XP,ql,XW1,qb]
   intros
   exact h
  ·clear h0 h5 r0
   have q6:((9:Int)=6)=False:=by decide
   have q7:((9:Int)=7)=False:=by decide
   have q8:((9:Int)=8)=False:=by decide
   have q10:((9:Int)=10)=False:=by decide
   have q11:((9:Int)=11)=False:=by decide
   have q12:((9:Int)=12)=False:=by decide
   have q13:((9:Int)=13)=False:=by decide
   have q14:((9:Int)=14)=False:=by decide
   rw [if_neg (by omega),if_neg (by omega),if_pos (by omega)] at h
   simp+contextual only [qP,qg,n12,n13,n23,sc,he3,n14,n24,n15,n25,q6,q7,q8,↓J4,↓XP,ql,XW1,qb]
   refine fun _=>⟨by omega,by omega,?_⟩
   rintro b6 ⟨n56,n46,n36,n26,n16,h6⟩
   refine ⟨_,fun _ _=>kv (n:=2) ⟨rfl,rfl⟩,?_⟩
   simp+contextual only [↓XP,qA]
   refine fun _=>⟨_,fun _ _=>Uj (x:=x) (p:=p) (sense:=sen) (m:=m.drop 2) hs hb ho (by omega) ⟨rfl,rfl⟩,?_⟩
   generalize quoted x seen p sen (m.drop 2)=p3 at h ⊢
   have hd3:p3.d= [.i p3.o,.i p3.s,.i p3.day,.slc (qF p3.needs),.slc (qM p3.ops),.str p3.sl]:=rfl
   simp+contextual only [hd3,qg,qi,n34,n35,n36,↓XP,ql,XW1,qb]
   intros
   exact h
  ·clear h0 h5 r0
   have q6:((10:Int)=6)=False:=by decide
   have q7:((10:Int)=7)=False:=by decide
   have q8:((10:Int)=8)=False:=by decide
   have q9:((10:Int)=9)=False:=by decide
   have q11:((10:Int)=11)=False:=by decide
   have q12:((10:Int)=12)=False:=by decide
   have q13:((10:Int)=13)=False:=by decide
   have q14:((10:Int)=14)=False:=by decide
   rw [if_neg (by omega),if_neg (by omega),if_neg (by omega),if_pos (by omega)] at h
   simp+contextual only [qP,qg,n23,sc,he3,n24,n25,n45,q6,q7,q8,q9,↓J4,↓XP,ql,XW1,qb]
   refine fun _=>⟨by omega,by omega,?_⟩
   rintro b6 ⟨n56,n46,n36,n26,n16,h6⟩
   refine ⟨_,fun _ _=>kv (n:=2) ⟨rfl,rfl⟩,?_⟩
   simp+contextual only [↓XP,qA]
   refine fun _=>⟨_,fun _ _=>ae (p:=p) (entry:=ent) (sense:=sen) (m:=m.drop 2) (by omega) ⟨rfl,rfl⟩,?_⟩
   generalize divided p ent sen (m.drop 2)=p3 at h ⊢
   have hd3:p3.d= [.i p3.o,.i p3.s,.i p3.day,.slc (qF p3.needs),.slc (qM p3.ops),.str p3.sl]:=rfl
   simp+contextual only [hd3,qg,qi,n34,n35,n36,↓XP,ql,XW1,qb]
   intros
   exact h
  ·clear h0 h5 r0
   have q6:((11:Int)=6)=False:=by decide
   have q7:((11:Int)=7)=False:=by decide
   have q8:((11:Int)=8)=False:=by decide
   have q9:((11:Int)=9)=False:=by decide
   have q10:((11:Int)=10)=False:=by decide
   have q12:((11:Int)=12)=False:=by decide
   have q13:((11:Int)=13)=False:=by decide
   have q14:((11:Int)=14)=False:=by decide
   rw [if_neg (by omega),if_neg (by omega),if_neg (by omega),if_neg (by omega),if_pos (by omega)] at h
   simp+contextual only [qP,qg,n23,sc,he3,n24,n25,q6,q7,q8,q9,q10,↓J4,↓XP,ql,XW1,qb,qe]
   refine fun _=>⟨by omega,by omega,?_⟩
   rintro b6 ⟨n56,n46,n36,n26,n16,h6⟩
   rw [Bs]
   refine ⟨fun hq=>?_,fun hq=>?_⟩
   ·rw [if_neg (of_decide_eq_false hq)] at h
    refine kI (p:=p) (o:={jQ with k:=17,on:=sen,to:=oth}) (by omega) ?_
    generalize qU p {jQ with k:=17,on:=sen,to:=oth}=p3 at h ⊢
    have hd3:p3.d= [.i p3.o,.i p3.s,.i p3.day,.slc (qF p3.needs),.slc (qM p3.ops),.str p3.sl]:=rfl
    simp+contextual only [hd3,qg,qi,n34,n35,n36,↓XP,ql,XW1,qb]
    intros
    exact h
   ·rw [if_pos (of_decide_eq_true hq)] at h
    unfold yA at h
    refine ⟨by decide,_,fun _ _=>kv (n:=1) ⟨rfl,rfl⟩,?_⟩
    simp+contextual only [↓XP,qA]
    refine fun _=>⟨_,fun _ _=>QZ (sense:=sen) (other:=oth) (n:=((11:Int).tmod 11)) (m:=m.drop 1) ⟨rfl,rfl⟩,?_⟩
    generalize small sen oth ((11:Int).tmod 11) (m.drop 1)=o at h ⊢
    have hod:o.d= [.i o.k,.i o.on.o,.i o.on.s,.i o.on.i,.i o.to.o,.i o.to.s,.i o.to.i,.slc (je o.ids),.i o.n,.str o.name,.str o.text,.i o.a,.i o.b]:=rfl
    simp+contextual only [hod,↓XP,qA,XW1]
    refine ⟨_,fun _ _=>kI (p:=p) (o:=o) (by omega) ⟨rfl,rfl⟩,?_⟩
    generalize qU p o=p3 at h ⊢
    have hd3:p3.d= [.i p3.o,.i p3.s,.i p3.day,.slc (qF p3.needs),.slc (qM p3.ops),.str p3.sl]:=rfl
    simp+contextual only [hd3,qg,qi,n34,n35,n36,↓XP,ql,XW1,qb]
    intros
    exact h
  ·clear h0 h5 r0
   have q6:((12:Int)=6)=False:=by decide
   have q7:((12:Int)=7)=False:=by decide
   have q8:((12:Int)=8)=False:=by decide
   have q9:((12:Int)=9)=False:=by decide
   have q10:((12:Int)=10)=False:=by decide
   have q11:((12:Int)=11)=False:=by decide
   have q13:((12:Int)=13)=False:=by decide
   have q14:((12:Int)=14)=False:=by decide
   rw [if_neg (by omega),if_neg (by omega),if_neg (by omega),if_neg (by omega),if_neg (by omega),if_pos (by omega)] at h
   simp+contextual only [qP,qg,n12,n13,n23,sc,he3,n14,n24,n15,n25,q6,q7,q8,q9,q10,q11,↓J4,↓XP,ql,XW1,qb]
   refine fun _=>⟨by omega,by omega,?_⟩
   rintro b6 ⟨n56,n46,n36,n26,n16,h6⟩
   refine bK (x:=x) (p:=p) hs hb ho (by omega) ?_
   have hspl:(splits x seen p).length<=101000:=fp ho hb (by omega)
   generalize splits x seen p=spl at h hsp hspl ⊢
   simp+contextual only [j9,qg,n23,n24,n25,n26,n56,↓J4,↓XP,ql,XW1,qb]
   refine fun _=>⟨fun hl0=>?_,fun hl0=>?_⟩
   ·rw [if_neg (by omega)] at h
    have rd:=qp (l:=m) (i:=3) (most:=(spl.length:Int)) (by omega)
    have hlt:jL m 3 spl.length<spl.length:=by unfold jL;omega
    have sd:(qM spl).getD (qy m 3 spl.length).toNat []=(spl.getD (jL m 3 spl.length) default).d:=wA hlt
    have hi2:(spl.getD (jL m 3 spl.length) default).ids.length=2:=hsp _ (by rw [jJ hlt];exact List.getElem_mem _)
    generalize spl.getD (jL m 3 spl.length) default=o at h sd hi2
    have hod:o.d= [.i o.k,.i o.on.o,.i o.on.s,.i o.on.i,.i o.to.o,.i o.to.s,.i o.to.i,.slc (je o.ids),.i o.n,.str o.name,.str o.text,.i o.a,.i o.b]:=rfl
    refine jR (i:=3) (most:=(spl.length:Int)) (by omega) ?_
    simp+contextual only [sd,hod,j9,qP,qg,n23,n24,n25,n26,n56,↓J4,↓XP,ql,XW1,qb,qe]
    refine fun _=>⟨by omega,by omega,?_⟩
    rintro b7 ⟨n67,n57,n47,n37,n27,n17,h7⟩
    have rf:=qp (l:=m) (i:=4) (most:=(o.ids.length:Int)) (by omega)
    have hlf:jL m 4 o.ids.length<o.ids.length:=by unfold jL;omega
    have sf:(je o.ids).getD (qy m 4 o.ids.length).toNat []=(o.ids.getD (jL m 4 o.ids.length) default).d:=wC hlf
    generalize o.ids.getD (jL m 4 o.ids.length) default=it at h sf
    have hit:it.d= [.i it.o,.i it.s,.i it.i]:=rfl
    refine fun _=>⟨_,fun _ _=>jR (i:=4) (most:=(o.ids.length:Int)) (by omega) ⟨rfl,rfl⟩,?_⟩
    simp+contextual only [qP,sf,hit,↓XP,ql,XW1,qb,qc,qe]
    refine fun _=>⟨by omega,by omega,?_⟩
    refine ⟨_,fun _ _=>kI (p:=p) (o:={jQ with k:=18,on:=sen,to:=o.on,ids:= [it]}) (by omega) ⟨rfl,rfl⟩,?_⟩
    generalize qU p {jQ with k:=18,on:=sen,to:=o.on,ids:= [it]}=p3 at h ⊢
    have hd3:p3.d= [.i p3.o,.i p3.s,.i p3.day,.slc (qF p3.needs),.slc (qM p3.ops),.str p3.sl]:=rfl
    simp+contextual only [hd3,qg,qi,n34,n35,n36,nN,n37,↓XP,ql,XW1,qb]
    intros
    exact h
   ·rw [if_pos (by omega)] at h
    unfold yA at h
    refine ⟨by decide,_,fun _ _=>kv (n:=1) ⟨rfl,rfl⟩,?_⟩
    simp+contextual only [↓XP,qA]
    refine fun _=>⟨_,fun _ _=>QZ (sense:=sen) (other:=oth) (n:=((12:Int).tmod 11)) (m:=m.drop 1) ⟨rfl,rfl⟩,?_⟩
    generalize small sen oth ((12:Int).tmod 11) (m.drop 1)=o at h ⊢
    have hod:o.d= [.i o.k,.i o.on.o,.i o.on.s,.i o.on.i,.i o.to.o,.i o.to.s,.i o.to.i,.slc (je o.ids),.i o.n,.str o.name,.str o.text,.i o.a,.i o.b]:=rfl
    simp+contextual only [hod,↓XP,qA,XW1]
    refine ⟨_,fun _ _=>kI (p:=p) (o:=o) (by omega) ⟨rfl,rfl⟩,?_⟩
    generalize qU p o=p3 at h ⊢
    have hd3:p3.d= [.i p3.o,.i p3.s,.i p3.day,.slc (qF p3.needs),.slc (qM p3.ops),.str p3.sl]:=rfl
    simp+contextual only [hd3,qg,qi,n34,n35,n36,↓XP,ql,XW1,qb]
    intros
    exact h
  ·clear h0 h5 r0
   have q6:((13:Int)=6)=False:=by decide
   have q7:((13:Int)=7)=False:=by decide
   have q8:((13:Int)=8)=False:=by decide
   have q9:((13:Int)=9)=False:=by decide
   have q10:((13:Int)=10)=False:=by decide
   have q11:((13:Int)=11)=False:=by decide
   have q12:((13:Int)=12)=False:=by decide
   have q14:((13:Int)=14)=False:=by decide
   rw [if_neg (by omega),if_neg (by omega),if_neg (by omega),if_neg (by omega),if_neg (by omega),if_neg (by omega),if_pos (by omega)] at h
   simp+contextual only [qP,sc,he3,q6,q7,q8,q9,q10,q11,q12,↓J4,↓XP,ql,XW1,qb]
   refine fun _=>⟨by omega,by omega,?_⟩
   rintro b6 ⟨n56,n46,n36,n26,n16,h6⟩
   refine jR (i:=2) (by omega) ?_
   simp+contextual only [qg,n23,n24,n25,n45,n26,n46,↓J4,↓XP,ql,XW1,qb,qc,qe]
   refine fun _=>⟨fun hq=>?_,fun hq=>?_⟩
   ·rw [if_pos (by omega)] at h
    refine ⟨_,fun _ _=>J6 ⟨rfl,rfl⟩,?_⟩
    simp+contextual only [l8,jc,↓XP,qA]
    refine fun _=>⟨_,fun _ _=>jR (i:=3) (by omega) ⟨rfl,rfl⟩,?_⟩
    simp+contextual only [s38,l8,jc,↓XP,ql,qb,qe]
    refine fun _=>⟨by omega,by omega,fun _=>?_⟩
    refine ⟨_,fun _ _=>kI (p:=p) (o:={jQ with k:=5,on:=ent,text:=heads8.getD (jL m 3 8) []}) (by omega) ⟨rfl,rfl⟩,?_⟩
    generalize qU p {jQ with k:=5,on:=ent,text:=heads8.getD (jL m 3 8) []}=p3 at h ⊢
    have hd3:p3.d= [.i p3.o,.i p3.s,.i p3.day,.slc (qF p3.needs),.slc (qM p3.ops),.str p3.sl]:=rfl
    simp+contextual only [hd3,qg,qi,n34,n35,n36,↓XP,ql,XW1,qb]
    intros
    exact h
   ·rw [if_neg (by omega)] at h
    refine ⟨_,fun _ _=>jR (i:=3) (by omega) ⟨rfl,rfl⟩,?_⟩
    simp+contextual only [s32,l2,e2,jc,↓XP,ql,qb,qe]
    refine fun _=>⟨by omega,by omega,fun _=>?_⟩
    refine ⟨_,fun _ _=>kI (p:=p) (o:={jQ with k:=6,on:=ent,name:=cls2.getD (jL m 3 2) []}) (by omega) ⟨rfl,rfl⟩,?_⟩
    generalize qU p {jQ with k:=6,on:=ent,name:=cls2.getD (jL m 3 2) []}=p3 at h ⊢
    have hd3:p3.d= [.i p3.o,.i p3.s,.i p3.day,.slc (qF p3.needs),.slc (qM p3.ops),.str p3.sl]:=rfl
    simp+contextual only [hd3,qg,qi,n34,n35,n36,↓XP,ql,XW1,qb]
    intros
    exact h
  ·clear h0 h5 r0
   have q6:((14:Int)=6)=False:=by decide
   have q7:((14:Int)=7)=False:=by decide
   have q8:((14:Int)=8)=False:=by decide
   have q9:((14:Int)=9)=False:=by decide
   have q10:((14:Int)=10)=False:=by decide
   have q11:((14:Int)=11)=False:=by decide
   have q12:((14:Int)=12)=False:=by decide
   have q13:((14:Int)=13)=False:=by decide
   rw [if_neg (by omega),if_neg (by omega),if_neg (by omega),if_neg (by omega),if_neg (by omega),if_neg (by omega),if_neg (by omega),if_pos (by omega)] at h
   simp+contextual only [qP,qg,n12,n13,n23,sc,he3,n14,n24,n15,n25,q6,q7,q8,q9,q10,q11,q12,q13,↓J4,↓XP,ql,XW1,qb]
   refine fun _=>⟨by omega,by omega,?_⟩
   rintro b6 ⟨n56,n46,n36,n26,n16,h6⟩
   refine z6 (x:=x) (p:=p) hs hb ho (by omega) ?_
   generalize visible x seen p 3=src at h hvl3 ⊢
   simp+contextual only [qP,qg,n23,n24,n25,n26,n56,↓J4,↓XP,ql,XW1,qb]
   refine fun _=>⟨fun hl0=>?_,fun hl0=>?_⟩
   ·rw [if_neg (by omega)] at h
    have w1:IntKind.i64.wrap (500*qy m 3 60)=500*qy m 3 60:=qj (by omega) (by omega)
    have w2:IntKind.i64.wrap (600000+500*qy m 3 60)=600000+500*qy m 3 60:=qj (by omega) (by omega)
    have w3:IntKind.i64.wrap (600000+500*qy m 3 60+99)=600000+500*qy m 3 60+99:=qj (by omega) (by omega)
    have rd:=qp (l:=m) (i:=2) (most:=(src.length:Int)) (by omega)
    have hlt:jL m 2 src.length<src.length:=by unfold jL;omega
    have sd:(je src).getD (qy m 2 src.length).toNat []=(src.getD (jL m 2 src.length) default).d:=wC hlt
    generalize src.getD (jL m 2 src.length) default=it at h sd
    have hit:it.d= [.i it.o,.i it.s,.i it.i]:=rfl
    refine jR (i:=3) (by omega) ?_
    simp+contextual only [qP,qg,n23,n24,n25,n26,w1,w2,↓J4,↓XP,ql,XW1,qb]
    refine fun _ _=>⟨_,fun _ _=>jR (i:=2) (most:=(src.length:Int)) (by omega) ⟨rfl,rfl⟩,?_⟩
    simp+contextual only [qP,sd,hit,w3,↓XP,ql,qb,qe]
    refine fun _=>⟨by omega,by omega,?_⟩
    refine ⟨_,fun _ _=>kI (p:=p) (o:={jQ with k:=11,on:=it,a:=600000+500*qy m 3 60,b:=600000+500*qy m 3 60+99}) (by omega) ⟨rfl,rfl⟩,?_⟩
    generalize qU p {jQ with k:=11,on:=it,a:=600000+500*qy m 3 60,b:=600000+500*qy m 3 60+99}=p3 at h ⊢
    have hd3:p3.d= [.i p3.o,.i p3.s,.i p3.day,.slc (qF p3.needs),.slc (qM p3.ops),.str p3.sl]:=rfl
    simp+contextual only [hd3,qg,qi,n34,n35,n36,↓XP,ql,XW1,qb]
    intros
    exact h
   ·rw [if_pos (by omega)] at h
    unfold yA at h
    refine ⟨by decide,_,fun _ _=>kv (n:=1) ⟨rfl,rfl⟩,?_⟩
    simp+contextual only [↓XP,qA]
    refine fun _=>⟨_,fun _ _=>QZ (sense:=sen) (other:=oth) (n:=((14:Int).tmod 11)) (m:=m.drop 1) ⟨rfl,rfl⟩,?_⟩
    generalize small sen oth ((14:Int).tmod 11) (m.drop 1)=o at h ⊢
    have hod:o.d= [.i o.k,.i o.on.o,.i o.on.s,.i o.on.i,.i o.to.o,.i o.to.s,.i o.to.i,.slc (je o.ids),.i o.n,.str o.name,.str o.text,.i o.a,.i o.b]:=rfl
    simp+contextual only [hod,↓XP,qA,XW1]
    refine ⟨_,fun _ _=>kI (p:=p) (o:=o) (by omega) ⟨rfl,rfl⟩,?_⟩
    generalize qU p o=p3 at h ⊢
    have hd3:p3.d= [.i p3.o,.i p3.s,.i p3.day,.slc (qF p3.needs),.slc (qM p3.ops),.str p3.sl]:=rfl
    simp+contextual only [hd3,qg,qi,n34,n35,n36,↓XP,ql,XW1,qb]
    intros
    exact h
  ·have q6:(c=6)=False:=qY
   have q7:(c=7)=False:=qY
   have q8:(c=8)=False:=qY
   have q9:(c=9)=False:=qY
   have q10:(c=10)=False:=qY
   have q11:(c=11)=False:=qY
   have q12:(c=12)=False:=qY
   have q13:(c=13)=False:=qY
   have q14:(c=14)=False:=qY
   rw [if_neg (by omega),if_neg (by omega),if_neg (by omega),if_neg (by omega),if_neg (by omega),if_neg (by omega),if_neg (by omega),if_neg (by omega)] at h
   simp+contextual only [qP,qg,n23,sc,he3,n24,n25,q6,q7,q8,q9,q10,q11,q12,q13,q14,↓J4,↓XP,ql,XW1,qb]
   refine fun _=>⟨by omega,by omega,?_⟩
   rintro b6 ⟨n56,n46,n36,n26,n16,h6⟩
   unfold yA at h
   refine ⟨by decide,_,fun _ _=>kv (n:=1) ⟨rfl,rfl⟩,?_⟩
   simp+contextual only [↓XP,qA]
   refine fun _=>⟨_,fun _ _=>QZ (sense:=sen) (other:=oth) (n:=(c.tmod 11)) (m:=m.drop 1) ⟨rfl,rfl⟩,?_⟩
   generalize small sen oth (c.tmod 11) (m.drop 1)=o at h ⊢
   have hod:o.d= [.i o.k,.i o.on.o,.i o.on.s,.i o.on.i,.i o.to.o,.i o.to.s,.i o.to.i,.slc (je o.ids),.i o.n,.str o.name,.str o.text,.i o.a,.i o.b]:=rfl
   simp+contextual only [hod,↓XP,qA,XW1]
   refine ⟨_,fun _ _=>kI (p:=p) (o:=o) (by omega) ⟨rfl,rfl⟩,?_⟩
   generalize qU p o=p3 at h ⊢
   have hd3:p3.d= [.i p3.o,.i p3.s,.i p3.day,.slc (qF p3.needs),.slc (qM p3.ops),.str p3.sl]:=rfl
   simp+contextual only [hd3,qg,qi,n34,n35,n36,↓XP,ql,XW1,qb]
   intros
   exact h
end Go.Proofs.YtgopigkdcmhbbaaGreatDoor
end
