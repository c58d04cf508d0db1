/- A part of the proof of what the last text says: Gi1, XcB, Gw1, Gw2, Gw3, Gw4, Gv1, Gv2, Gv3, Gq3. Conditions: those in each theorem. -/
import Derived.Test.YtpdhandimdibhaaGreatDoorN16
set_option linter.unusedVariables false
set_option linter.unusedSimpArgs false
set_option maxRecDepth 100000
set_option maxHeartbeats 16000000
open Nat renaming reduceSub → qa,reduceAdd → qb,reduceMul → qc,reduceEqDiff → qd,reduceLeDiff → qe,reduceBEq → qf
section
namespace Go.Proofs.YtpdhandimdibhaaGreatDoor
open Go Go.Aw
def Yp (o:OpP):Prop:=o.k=16→o.ids.length=2
structure More (p p':Pt) (c:Nat) (more:List OpP):Prop where
 eq:p'={p with ops:=p.ops++more}
 len:more.length≤c
 ok:∀o∈more,Yp o
theorem More.refl (p:Pt):More p p 0 []:=⟨by simp,by simp,by simp⟩
theorem More.trans {p p' p'':Pt} {c c':Nat} {a b:List OpP} (h:More p p' c a) (g:More p' p'' c' b):More p p'' (c+c') (a++b):=by
 refine ⟨?_,by have:=h.len;have:=g.len;rw [List.length_append];omega,fun o ho=>(List.mem_append.1 ho).elim (h.ok o) (g.ok o)⟩
 rw [g.eq,h.eq]
 simp only [List.append_assoc]
theorem More.le {p p':Pt} {c c':Nat} {a:List OpP} (h:More p p' c a) (hc:c≤c'):More p p' c' a:=⟨h.eq,Nat.le_trans h.len hc,h.ok⟩
theorem More.one (p:Pt) {o:OpP} (h:Yp o):More p (qV p o) 1 [o]:=⟨rfl,by simp,fun x hx=>by rw [List.mem_singleton.1 hx];exact h⟩
theorem kH {o:OpP} (h:o.k≠16):Yp o:=fun h'=>(h h').elim
theorem yF (p:Pt) (on:Id3) (m:List Int):∃more,More p (meaning p on m) 3 more:=by
 unfold meaning
 simp only []
 have h1:=(More.one p (o:={jI with k:=2,on:=on,n:=qB m 2 5}) (kH (by simp))).trans (More.one _ (o:={jI with k:=7,on:=jp p,text:=gloss (m.drop 3)}) (kH (by simp)))
 split
 ·exact ⟨_,h1.le (by omega)⟩
 ·exact ⟨_,h1.trans (More.one _ (kH (by simp)))⟩
theorem KM (x:Gs) (seen:List Bool) (p:Pt) (sense:Id3) (m:List Int):∃more,More p (quoted x seen p sense m) 2 more:=by
 unfold quoted
 simp only []
 split
 ·exact ⟨_,(More.one p (kH (by simp))).trans (More.one _ (kH (by simp)))⟩
 ·exact ⟨_,(More.one p (kH (by simp))).le (by omega)⟩
theorem JY (p:Pt) (entry sense:Id3) (m:List Int):∃more,More p (divided p entry sense m) 7 more:=by
 unfold divided
 simp only []
 obtain ⟨a,h1⟩:=yF p entry m
 obtain ⟨b,h2⟩:=yF (meaning p entry m) entry (m.drop 1)
 exact ⟨_,(h1.trans h2).trans (More.one _ (fun _=>rfl))⟩
theorem Uu {sense other:Id3} {n:Int} {m:List Int}:Yp (small sense other n m):=by
 refine kH ?_
 unfold small
 repeat' split
 all_goals simp
theorem uN (p:Pt) (sense other:Id3) (n:Int) (m:List Int):∃more,More p (yj p sense other n m) 1 more:=⟨_,More.one p Uu⟩
theorem Ju (x:Gs) (seen:List Bool) (p:Pt) (m:List Int):∃more,More p (step x seen p m) 7 more∧((visible x seen p 2).length=0→∃o∈more,o.k=1):=by
 have one:(visible x seen p 2).length≠0→∀{p':Pt} {c:Nat},(∃more,More p p' c more)→c≤7→∃more,More p p' 7 more∧((visible x seen p 2).length=0→∃o∈more,o.k=1):=fun hv p' c ⟨more,h⟩ hc=>⟨more,h.le hc,fun h=>(hv h).elim⟩
 have w:∀{o:OpP},o.k≠16→∃more,More p (qV p o) 1 more:=fun h=>⟨_,More.one p (kH h)⟩
 unfold step
 dsimp only
 by_cases c0:(visible x seen p 2).length=0∨qB m 0 24≤5
 ·rw [if_pos c0]
  obtain ⟨b,h2⟩:=yF (qV p {jI with k:=1,name:=cls5.getD (jG m 1 5) [],text:=heads8.getD (jG m 2 8) []}) (jp p) (m.drop 3)
  exact ⟨_,((More.one p (kH (by show (1:Int)≠16;decide))).trans h2).le (by omega),fun _=>⟨_,List.mem_append_left _ (List.mem_singleton.2 rfl),rfl⟩⟩
 ·rw [if_neg c0]
  refine one (fun h=>c0 (.inl h)) (c:=7) ?_ (by omega)
  have le:∀{p':Pt} {c:Nat},(∃more,More p p' c more)→c≤7→∃more,More p p' 7 more:=fun ⟨more,h⟩ hc=>⟨more,h.le hc⟩
  generalize (visible x seen p 1).getD _ _=entry
  generalize (visible x seen p 2).getD (jG m 1 _) _=sense
  generalize (visible x seen p 2).getD (jG m 2 _) _=other
  generalize qB m 0 24=n
  by_cases c1:n=6
  ·rw [if_pos c1];exact le (yF _ _ _) (by omega)
  rw [if_neg c1]
  by_cases c2:n=7
  ·rw [if_pos c2];exact le (yF _ _ _) (by omega)
  rw [if_neg c2]
  by_cases c3:n=8∨n=9
  ·rw [if_pos c3];exact le (KM _ _ _ _ _) (by omega)
  rw [if_neg c3]
  by_cases c4:n=10
  ·rw [if_pos c4];exact le (JY _ _ _ _) (by omega)
  rw [if_neg c4]
  by_cases c5:n=11
  ·rw [if_pos c5]
   by_cases d1:other=sense
   ·rw [if_pos d1];exact le (uN _ _ _ _ _) (by omega)
   ·rw [if_neg d1];exact le (w (by show (17:Int)≠16;decide)) (by omega)
  rw [if_neg c5]
  by_cases c6:n=12
  ·rw [if_pos c6]
   by_cases d1:(splits x seen p).length=0
   ·rw [if_pos d1];exact le (uN _ _ _ _ _) (by omega)
   ·rw [if_neg d1];exact le (w (by show (18:Int)≠16;decide)) (by omega)
  rw [if_neg c6]
  by_cases c7:n=13
  ·rw [if_pos c7]
   by_cases d1:qB m 2 2=0
   ·rw [if_pos d1];exact le (w (by show (5:Int)≠16;decide)) (by omega)
   ·rw [if_neg d1];exact le (w (by show (6:Int)≠16;decide)) (by omega)
  rw [if_neg c7]
  by_cases c8:n=14
  ·rw [if_pos c8]
   by_cases d1:(visible x seen p 3).length=0
   ·rw [if_pos d1];exact le (uN _ _ _ _ _) (by omega)
   ·rw [if_neg d1];exact le (w (by show (11:Int)≠16;decide)) (by omega)
  rw [if_neg c8]
  exact le (uN _ _ _ _ _) (by omega)
theorem mem_visOne {p:Pt} {kind:Int} {ok:Bool} {i:Id3}:i∈jW p kind ok↔ok=true∧∃k,k<p.ops.length∧(p.ops.getD k default).k=kind∧i=⟨p.o,p.s,k⟩:=by
 unfold jW
 rw [upto_mem]
 constructor
 ·rintro ⟨k,hk,h⟩
  unfold jZ at h
  split at h
  ·rename_i hc
   exact ⟨hc.1,k,hk,hc.2,List.mem_singleton.1 h⟩
  ·cases h
 ·rintro ⟨h1,k,hk,h2,h3⟩
  refine ⟨k,hk,?_⟩
  unfold jZ
  rw [if_pos ⟨h1,h2⟩,h3]
  exact List.mem_singleton.2 rfl
theorem vis_one {p:Pt} {kind:Int}:(jW p kind true).length≠0↔∃o∈p.ops,o.k=kind:=by
 constructor
 ·intro h
  obtain ⟨i,hi⟩:=List.exists_mem_of_length_pos (Nat.pos_of_ne_zero h)
  obtain ⟨_,k,hk,h2,_⟩:=mem_visOne.1 hi
  exact ⟨p.ops.getD k default,by rw [js hk];exact List.getElem_mem hk,h2⟩
 ·rintro ⟨o,ho,h2⟩ h
  obtain ⟨k,hk,rfl⟩:=List.mem_iff_getElem.1 ho
  have:=List.eq_nil_of_length_eq_zero h▸(mem_visOne (p:=p) (kind:=kind) (ok:=true) (i:=⟨p.o,p.s,k⟩)).2 ⟨rfl,k,hk,by rw [js hk];exact h2,rfl⟩
  cases this
theorem vis_ne {x:Gs} {seen:List Bool} {p:Pt} {kind:Int}:(visible x seen p kind).length≠0↔(∃i,i<x.l.length∧seen.getD i false=true∧∃o∈(x.l.getD i default).ops,o.k=kind)∨∃o∈p.ops,o.k=kind:=by
 unfold visible
 rw [List.length_append,←vis_one]
 constructor
 ·intro h
  by_cases hp:(jW p kind true).length=0
  ·left
   obtain ⟨i,hi⟩:=List.exists_mem_of_length_pos (l:=upto (fun i=>jW (x.l.getD i default) kind (seen.getD i false)) x.l.length) (by omega)
   obtain ⟨j,hj,h2⟩:=upto_mem.1 hi
   obtain ⟨h3,k,hk,h4,_⟩:=mem_visOne.1 h2
   exact ⟨j,hj,h3,(x.l.getD j default).ops.getD k default,by rw [js hk];exact List.getElem_mem hk,h4⟩
  ·exact .inr hp
 ·rintro (⟨i,hi,hs,o,ho,h2⟩|h)
  ·obtain ⟨k,hk,rfl⟩:=List.mem_iff_getElem.1 ho
   have:(⟨(x.l.getD i default).o,(x.l.getD i default).s,k⟩:Id3)∈upto (fun i=>jW (x.l.getD i default) kind (seen.getD i false)) x.l.length:=upto_mem.2 ⟨i,hi,mem_visOne.2 ⟨hs,k,hk,by rw [js hk];exact h2,rfl⟩⟩
   have:=List.length_pos_of_mem this
   omega
  ·omega
def Cl (x:Gs) (seen:List Bool) (n:Nat):Prop:=∀i,i<n→seen.getD i false=true→∀j,j<i→(x.past.getD i []).getD j false=true→seen.getD j false=true
structure GInv (x:Gs):Prop where
 np:x.past.length=x.l.length
 pk:∀k,k<x.l.length→(x.past.getD k []).length=k
 sq:∀p∈x.l,0≤p.s∧p.s≤x.l.length
 op:∀p∈x.l,p.ops.length≤14
 dy:∀p∈x.l,1≤p.day∧p.day≤1+4*x.l.length
 ne:∀p∈x.l,p.needs.length≤10
 spl:∀p∈x.l,∀o∈p.ops,Yp o
 ent:∀i,i<x.l.length→(∃o∈(x.l.getD i default).ops,o.k=2)→∃j,(j=i∨(j<i∧(x.past.getD i []).getD j false=true))∧∃o∈(x.l.getD j default).ops,o.k=1
 cl:∀k,k<x.l.length→Cl x (x.past.getD k []) k
theorem GInv.nil:GInv ⟨[],[]⟩:=⟨rfl,by simp,by simp,by simp,by simp,by simp,by simp,by simp,by simp⟩
theorem Kj {x:Gs} {seen:List Bool} {k i:Nat} (h:i<seen.length):(kP x seen k).getD i false=if i=k then true else if i<k then seen.getD i false||(x.past.getD k []).getD i false else seen.getD i false:=by
 simp [kP,h]
theorem cl_with {x:Gs} (hx:GInv x) {seen:List Bool} (hl:seen.length=x.l.length) {k:Nat} (hk:k<x.l.length) (h:Cl x seen x.l.length):Cl x (kP x seen k) x.l.length:=by
 intro i hi h1 j hj h2
 rw [Kj (by omega)] at h1 ⊢
 by_cases hjk:j=k
 ·rw [if_pos hjk]
 ·rw [if_neg hjk]
  by_cases hik:i=k
  ·subst hik
   rw [if_pos hj,h2,Bool.or_true]
  ·rw [if_neg hik] at h1
   by_cases hik':i<k
   ·rw [if_pos hik',Bool.or_eq_true] at h1
    rw [if_pos (by omega),Bool.or_eq_true]
    rcases h1 with h1|h1
    ·exact .inl (h i hi h1 j hj h2)
    ·exact .inr (hx.cl k hk i hik' h1 j hj h2)
   ·rw [if_neg hik'] at h1
    have:=h i hi h1 j hj h2
    split
    ·rw [this,Bool.true_or]
    ·exact this
theorem yR {x:Gs} (hx:GInv x) {o:Int} {m:List Int}:∀q,Cl x (qw x o m q).seen x.l.length∧0≤(qw x o m q).p.s∧(qw x o m q).p.s≤x.l.length+1∧1≤(qw x o m q).p.day∧(qw x o m q).p.day≤1+4*x.l.length
 | 0=>by
  refine ⟨fun i hi h1=>?_,by simp only [qw];omega,by simp only [qw];omega,by simp only [qw];omega,by simp only [qw];omega⟩
  simp only [qw] at h1
  rw [List.getD_eq_getElem?_getD,List.getElem?_replicate] at h1
  split at h1<;>cases h1
 | q+1=>by
  obtain ⟨h1,h2,h3,h5,h6⟩:=yR hx (o:=o) (m:=m) q
  obtain ⟨_,_,_,h4⟩:=kn (x:=x) (o:=o) (m:=m) q
  obtain ⟨r1,r2⟩:=yG (x:=x) (q:=q) x.l.length
  simp only [qw]
  generalize qw x o m q=s at h1 h2 h3 h4 h5 h6 ⊢
  unfold kU
  simp only []
  split
  ·exact ⟨h1,h2,h3,h5,h6⟩
  ·rename_i hc
   have hk:(last x q).toNat<x.l.length:=by
    unfold last at hc ⊢
    have:¬kA x q x.l.length<0:=fun h=>hc (.inl h)
    omega
   have hd:=hx.dy (x.l.getD (last x q).toNat default) (by rw [js hk];exact List.getElem_mem hk)
   have hs:=hx.sq (x.l.getD (last x q).toNat default) (by rw [js hk];exact List.getElem_mem hk)
   refine ⟨cl_with hx h4 hk h1,?_⟩
   split
   ·exact ⟨by simp only [];omega,by simp only [];omega,by simp only [];omega,by simp only [];omega⟩
   ·exact ⟨h2,h3,by simp only [];omega,by simp only [];omega⟩
def VOk (x:Gs) (seen:List Bool) (p:Pt):Prop:=(visible x seen p 2).length≠0→(visible x seen p 1).length≠0
theorem VOk.step {x:Gs} {seen:List Bool} {p:Pt} (h:VOk x seen p) (m:List Int):VOk x seen (step x seen p m):=by
 obtain ⟨more,h1,h2⟩:=Ju x seen p m
 generalize Go.Proofs.YtpdhandimdibhaaGreatDoor.step x seen p m=p' at h1 ⊢
 intro _
 by_cases hv:(visible x seen p 2).length=0
 ·obtain ⟨o,ho,hk⟩:=h2 hv
  exact vis_ne.2 (.inr ⟨o,by rw [h1.eq];exact List.mem_append_right _ ho,hk⟩)
 ·rcases vis_ne.1 (h hv) with h3|⟨o,ho,hk⟩
  ·exact vis_ne.2 (.inl h3)
  ·exact vis_ne.2 (.inr ⟨o,by rw [h1.eq];exact List.mem_append_left _ ho,hk⟩)
theorem VOk.base {x:Gs} (hx:GInv x) {seen:List Bool} (hc:Cl x seen x.l.length) {p:Pt} (hp:p.ops= []):VOk x seen p:=by
 intro h
 rcases vis_ne.1 h with ⟨i,hi,hs,o,ho,hk⟩|⟨o,ho,_⟩
 ·obtain ⟨j,hj,h1⟩:=hx.ent i hi ⟨o,ho,hk⟩
  rcases hj with rfl|⟨hj,h2⟩
  ·exact vis_ne.2 (.inl ⟨j,hi,hs,h1⟩)
  ·exact vis_ne.2 (.inl ⟨j,by omega,hc i hi hs j hj h2,h1⟩)
 ·rw [hp] at ho;cases ho
theorem wM {x:Gs} {seen:List Bool} {p:Pt} {m:List Int} (hp:p.ops= []) (hv:VOk x seen p):∀i,∃more,More p (j9 x seen p m i) (7*i) more∧VOk x seen (j9 x seen p m i)
 |0=>⟨[],More.refl p,hv⟩
 | i+1=>by
  obtain ⟨a,h1,h2⟩:=wM (m:=m) hp hv i
  obtain ⟨b,h3,_⟩:=Ju x seen (j9 x seen p m i) (m.drop (6+13*i))
  exact ⟨_,(h1.trans h3).le (by omega),h2.step _⟩
theorem U2 {x:Gs} (hx:GInv x) {seen:List Bool} {p:Pt} (hp:∀o∈p.ops,Yp o):∀o∈splits x seen p,o.ids.length=2:=by
 have one:∀{q:Pt} {ok:Bool},(∀o∈q.ops,Yp o)→∀o∈kD q ok,o.ids.length=2:=by
  intro q ok hq o ho
  unfold kD at ho
  obtain ⟨k,hk,h⟩:=upto_mem.1 ho
  unfold jX at h
  split at h
  ·rename_i hc
   rw [List.mem_singleton.1 h]
   exact hq _ (by rw [js hk];exact List.getElem_mem hk) hc.2
  ·cases h
 intro o ho
 unfold splits at ho
 rcases List.mem_append.1 ho with h|h
 ·obtain ⟨i,hi,h⟩:=upto_mem.1 h
  exact one (hx.spl _ (by rw [js hi];exact List.getElem_mem hi)) o h
 ·exact one hp o h
theorem J6 {x:Gs} (hx:GInv x) {offices:Nat} (hof:offices≤10) {m:List Int}:∃more,More {(qw x (qB m 0 offices) m offices).p with day:=(qw x (qB m 0 offices) m offices).p.day+qB m 4 4} (j9 x (qw x (qB m 0 offices) m offices).seen {(qw x (qB m 0 offices) m offices).p with day:=(qw x (qB m 0 offices) m offices).p.day+qB m 4 4} m (1+jG m 5 2)) 14 more∧
  VOk x (qw x (qB m 0 offices) m offices).seen (j9 x (qw x (qB m 0 offices) m offices).seen {(qw x (qB m 0 offices) m offices).p with day:=(qw x (qB m 0 offices) m offices).p.day+qB m 4 4} m (1+jG m 5 2)):=by
 obtain ⟨h1,h2,h3,h5,h6⟩:=yR hx (o:=qB m 0 offices) (m:=m) offices
 obtain ⟨g1,g2,g3,g4⟩:=kn (x:=x) (o:=qB m 0 offices) (m:=m) offices
 generalize qw x (qB m 0 offices) m offices=s at h1 h2 h3 g1 g2 g3 g4 ⊢
 have a5:=qv (l:=m) (i:=5) (most:=2) (by omega)
 have hn:7*(1+jG m 5 2)≤14:=by unfold jG;omega
 obtain ⟨more,e1,e2⟩:=wM (x:=x) (seen:=s.seen) (p:={s.p with day:=s.p.day+qB m 4 4}) (m:=m) g2 (VOk.base hx h1 g2) (1+jG m 5 2)
 exact ⟨more,e1.le hn,e2⟩
theorem jT {α:Type} {l:List α} {a d:α} {i:Nat} (h:i<l.length):(l++ [a]).getD i d=l.getD i d:=by
 simp [List.getD_eq_getElem?_getD,List.getElem?_append_left h]
theorem wX {α:Type} {l:List α} {a d:α} {i:Nat} (h:i=l.length):(l++ [a]).getD i d=a:=by
 subst h;simp
theorem GInv.next {x:Gs} (hx:GInv x) {offices:Nat} (hof:offices≤10) (m:List Int):GInv (next x offices m):=by
 obtain ⟨more,e1,e2⟩:=J6 hx hof (m:=m)
 obtain ⟨h1,h2,h3,h5,h6⟩:=yR hx (o:=qB m 0 offices) (m:=m) offices
 obtain ⟨g1,g2,g3,g4⟩:=kn (x:=x) (o:=qB m 0 offices) (m:=m) offices
 unfold Go.Proofs.YtpdhandimdibhaaGreatDoor.next
 simp only []
 generalize j9 x _ _ m _=p at e1 e2 ⊢
 generalize qw x (qB m 0 offices) m offices=s at h1 h2 h3 h5 h6 g1 g2 g3 g4 e1 e2 ⊢
 have a4:=qv (l:=m) (i:=4) (most:=4) (by omega)
 have pd:p.day=s.p.day+qB m 4 4:=by rw [e1.eq]
 have hps:p.s=s.p.s∧p.needs=s.p.needs∧p.ops=more:=by rw [e1.eq];exact ⟨rfl,rfl,by simp only [g2,List.nil_append]⟩
 obtain ⟨p1,p2,p3⟩:=hps
 have hlen:=e1.len
 have mem:∀{P:Pt→Prop},(∀q∈x.l,P q)→P p→∀q∈x.l++ [p],P q:=fun hq hp q hm=>(List.mem_append.1 hm).elim (hq q) (fun h=>by rw [List.mem_singleton.1 h];exact hp)
 refine ⟨by simp [hx.np],fun k hk=>?_,?_,mem hx.op (by rw [p3];omega),?_,mem hx.ne (by rw [p2];omega),mem hx.spl (by rw [p3];exact e1.ok),fun i hi=>?_,fun k hk=>?_⟩
 ·simp only [List.length_append,List.length_cons,List.length_nil] at hk
  by_cases h:k<x.l.length
  ·rw [jT (by rw [hx.np];exact h)];exact hx.pk k h
  ·have hkn:k=x.past.length:=by rw [hx.np];omega
   rw [wX hkn,g4,hkn,hx.np]
 ·refine mem (fun q hq=>?_) ?_
  ·have:=hx.sq q hq
   simp only [List.length_append,List.length_cons,List.length_nil]
   omega
  ·simp only [List.length_append,List.length_cons,List.length_nil]
   omega
 ·refine mem (fun q hq=>?_) ?_
  ·have:=hx.dy q hq
   simp only [List.length_append,List.length_cons,List.length_nil]
   omega
  ·simp only [List.length_append,List.length_cons,List.length_nil]
   omega
 ·simp only [List.length_append,List.length_cons,List.length_nil] at hi
  by_cases h:i<x.l.length
  ·rw [jT h,jT (by rw [hx.np];exact h)]
   intro he
   obtain ⟨j,hj,h4⟩:=hx.ent i h he
   refine ⟨j,hj,?_⟩
   rw [jT (by rcases hj with rfl|hj<;>omega)]
   exact h4
  ·have hin:i=x.l.length:=by omega
   subst hin
   rw [wX rfl,wX hx.np.symm]
   intro he
   rcases vis_ne.1 (e2 (vis_ne.2 (.inr he))) with ⟨j,hj,hs,h4⟩|h4
   ·exact ⟨j,.inr ⟨hj,hs⟩,by rw [jT hj];exact h4⟩
   ·exact ⟨_,.inl rfl,by rw [wX rfl];exact h4⟩
 ·simp only [List.length_append,List.length_cons,List.length_nil] at hk
  intro i hi h4 j hj h5
  simp only at h4 h5 ⊢
  by_cases h:k<x.l.length
  ·rw [jT (by rw [hx.np];exact h)] at h4 ⊢
   rw [jT (by rw [hx.np];omega)] at h5
   exact hx.cl k h i hi h4 j hj h5
  ·have hkn:k=x.l.length:=by omega
   subst hkn
   rw [wX hx.np.symm] at h4 ⊢
   rw [jT (by rw [hx.np];exact hi)] at h5
   exact h1 i hi h4 j hj h5
end Go.Proofs.YtpdhandimdibhaaGreatDoor
end
section
namespace Go.Proofs.YtpdhandimdibhaaGreatDoor
open Go.Xs
open Go Go.Aw
def x12_s0:XC:=(.seq (.reg [f 37 1 0 3,l 3 3 4,a (.binOp .geq 3 (t 4) (i 0) 3) 5,m 5 6,g (.fieldAddr 37 (t 1) 0) 7 6 true,g (.load 3 (t 7)) 8 6 true,g (.binOp .leq 3 (t 8) (i 7) 3) 9 6 true,a (.pick (t 6) (t 9) (.const (.bool false))) 10,m 10 11,g (.fieldAddr 37 (t 1) 1) 12 11 true,g (.load 3 (t 12)) 13 11 true,g (.binOp .geq 3 (t 13) (i 1) 3) 14 11 true,a (.pick (t 11) (t 14) (.const (.bool false))) 15,m 15 16,g (.fieldAddr 37 (t 1) 1) 17 16 true,g (.load 3 (t 17)) 18 16 true,g (.binOp .leq 3 (t 18) (i 16) 3) 19 16 true,a (.pick (t 16) (t 19) (.const (.bool false))) 20,m 20 21,g (.fieldAddr 37 (t 1) 2) 22 21 true,g (.load 3 (t 22)) 23 21 true,g (.binOp .geq 3 (t 23) (i 0) 3) 24 21 true,a (.pick (t 21) (t 24) (.const (.bool false))) 25,m 25 26,g (.fieldAddr 37 (t 1) 2) 27 26 true,g (.load 3 (t 27)) 28 26 true,g (.binOp .leq 3 (t 28) (i 15) 3) 29 26 true,b (.pick (t 26) (t 29) (.const (.bool false))) 30,n 30 2]) .ret)
theorem u12_s0:type_of% (@unf _ _ x12_s0.eq_1):=unf x12_s0.eq_1
def x12:XC:=(.seq (.reg [a (.box 37 (t 0)) 1,a (.assign (.const (.bool false))) 2]) x12_s0)
theorem b12:Bt 12 31 x12 [(.tmp 2)]:=bt Tryz.func12 rfl (by kernel_rfl) (by kernel_rfl) (by kernel_rfl)
end Go.Proofs.YtpdhandimdibhaaGreatDoor
end
section
namespace Go.Proofs.YtpdhandimdibhaaGreatDoor
open Go Go.Aw
def digs (m:Nat):List UInt8:=if h:m=0 then [] else UInt8.ofNat (m % 256)::digs (m / 256)
termination_by m
decreasing_by exact Nat.div_lt_self (by omega) (by omega)
def jb (neg:Bool) (x:UInt8):UInt8:=if neg=true then 255 - x else x
def mag (n:Int):Nat:=if n<0 then (-1 - n).toNat else n.toNat
def qQ (n:Int):List UInt8:=
 UInt8.ofNat (if n<0 then 127 - (digs (mag n)).length else 128+(digs (mag n)).length)::(digs (mag n)).reverse.map (jb (decide (n<0)))
def j6 (s:List UInt8):List UInt8:=qQ s.length++s
def jg (l:List Int):List UInt8:=qQ l.length++l.flatMap qQ
def yv (l:List (List UInt8)):List UInt8:=qQ l.length++l.flatMap j6
theorem kT:digs 0= []:=by rw [digs];rfl
theorem wh {m:Nat} (h:m≠0):digs m=UInt8.ofNat (m % 256)::digs (m / 256):=by rw [digs,dif_neg h]
theorem Qa:∀(k m:Nat),m<256 ^ k→(digs m).length≤k
 | 0,m,h=>by
  have:m=0:=by simpa using h
  rw [this,kT];exact Nat.le_refl _
 | k+1,m,h=>by
  by_cases hm:m=0
  ·rw [hm,kT];exact Nat.zero_le _
  ·rw [wh hm,List.length_cons]
   have:=Qa k (m / 256) (by rw [Nat.div_lt_iff_lt_mul (by omega)];rw [Nat.pow_succ] at h;exact h)
   omega
theorem Wp {n:Int} (h:vk .i64 n):mag n<9223372036854775808:=by
 rw [wI] at h
 unfold mag
 split<;>omega
theorem JV {n:Int} (h:vk .i64 n):(digs (mag n)).length≤8:=Qa 8 _ (by have:=Wp h;omega)
theorem og {n:Int} (h:vk .i64 n):(qQ n).length≤9:=by
 have:=JV h
 simp only [qQ,List.length_cons,List.length_map,List.length_reverse]
 omega
theorem wrap_u8 {n:Int} (h:0≤n) (h':n<256):IntKind.u8.wrap n=n:=Go.IntWalk.u8_in n ⟨h,by omega⟩
theorem Wz {n:Nat} (h:n<256): [D.int .u8 (n:Int)]=qA (UInt8.ofNat n):=by
 unfold qA
 rw [UInt8.toNat_ofNat',Nat.mod_eq_of_lt h]
theorem jr {l:List UInt8}:∀x∈l.map qA,x.length=1:=by
 intro x hx
 obtain ⟨t,_,rfl⟩:=List.mem_map.1 hx
 rfl
theorem Zs {α:Type} {d:List α} {j:Nat} (h:j<d.length):(d.drop j).reverse=(d.drop (j+1)).reverse++ [d[j]]:=by
 rw [List.drop_eq_getElem_cons h,List.reverse_cons]
end Go.Proofs.YtpdhandimdibhaaGreatDoor
end
section
namespace Go.Proofs.YtpdhandimdibhaaGreatDoor
open Go Go.Aw
theorem qj {l:List UInt8}:(l.map qA).length=l.length:=List.length_map ..
theorem Wa {n:Nat} (h:n≤140737488355328):vk .i64 (n:Int):=by rw [wI];omega
theorem ue {n:Nat} (h:n≤140737488355328):(qQ (n:Int)).length≤9:=og (Wa h)
theorem U0 {l:List Int} {i:Nat} (h:i<l.length):(ints l).getD i []= [.int .i64 (l.getD i 0)]:=by simp [ints,h]
theorem uJ {α:Type} {l:List α} {f:α→List UInt8} {i:Nat} {d:α} (h:i<l.length):(l.take (i+1)).flatMap f=(l.take i).flatMap f++f (l.getD i d):=by
 rw [List.take_add_one,List.flatMap_append]
 simp [h]
theorem zq:∀{l:List Int},(∀x∈l,vk .i64 x)→(l.flatMap qQ).length≤9*l.length
 | [],_=>by simp
 | x::r,h=>by
  have h1:=og (h x (.head _))
  have h2:=zq (l:=r) (fun y hy=>h y (.tail _ hy))
  simp only [List.flatMap_cons,List.length_append,List.length_cons]
  omega
theorem zE:∀{l:List (List UInt8)} {c:Nat},(∀x∈l,x.length≤c)→c≤3000000000→(l.flatMap j6).length≤(9+c)*l.length
 | [],_,_,_=>by simp
 | x::r,c,h,hc=>by
  have h1:=ue (n:=x.length) (by have:=h x (.head _);omega)
  have h3:=h x (.head _)
  have h2:=zE (l:=r) (fun y hy=>h y (.tail _ hy)) hc
  simp only [List.flatMap_cons,List.length_append,List.length_cons,j6,Nat.mul_add,Nat.mul_one]
  omega
theorem VK {l:List (List UInt8)} {i:Nat} (h:i<l.length):(strs l).getD i []= [.str (l.getD i [])]:=by simp [strs,h]
end Go.Proofs.YtpdhandimdibhaaGreatDoor
end
section
namespace Go.Proofs.YtpdhandimdibhaaGreatDoor
open Go Go.Aw
def uX (x:Id3):List Int:= [x.o,x.s,x.i]
def wu (o:OpP):List Int:= [o.k]++uX o.on++uX o.to++ [o.n,o.a,o.b]
def jM (o:OpP):List UInt8:=jg (wu o)++jg (o.ids.flatMap uX)++yv [o.name,o.text]
def jo (l:List Rf):List Int:=l.flatMap fun r=>[r.o,r.s]
def yn (p:Pt):List UInt8:=jg [p.o,p.s,p.day]++jg (jo p.needs)++qQ p.ops.length++p.ops.flatMap jM++j6 p.sl
structure Fit (p:Pt):Prop where
 ops:p.ops.length≤1000
 needs:p.needs.length≤3000000
 ids:∀o∈p.ops,o.ids.length≤3000000
 name:∀o∈p.ops,o.name.length≤3000000
 text:∀o∈p.ops,o.text.length≤3000000
 sl:p.sl.length≤3000000
theorem ud {a b:List Int}:ints a++ints b=ints (a++b):=by simp [ints]
theorem Qn {α:Type} {l:List α} {f:α→List Int} {i:Nat} {d:α} (h:i<l.length):(l.take (i+1)).flatMap f=(l.take i).flatMap f++f (l.getD i d):=by
 rw [List.take_add_one,List.flatMap_append]
 simp [h]
theorem yP {l:List Rf}:(jo l).length=2*l.length:=by
 induction l with
 |nil=>rfl
 |cons x r ih=>simp only [jo,List.flatMap_cons,List.length_append,List.length_cons,List.length_nil] at ih ⊢;omega
theorem wU {l:List Id3}:(l.flatMap uX).length=3*l.length:=by
 induction l with
 |nil=>rfl
 |cons x r ih=>simp only [List.flatMap_cons,List.length_append,uX,List.length_cons,List.length_nil] at ih ⊢;omega
end Go.Proofs.YtpdhandimdibhaaGreatDoor
end
section
namespace Go.Proofs.YtpdhandimdibhaaGreatDoor
open Go Go.Aw
theorem UZ {l:List (List UInt8)} (h:∀x∈l,x.length≤3000000):(yv l).length≤(9+3000000)*l.length+(qQ l.length).length:=by
 have:=zE h (by omega)
 rw [yv,List.length_append]
 omega
end Go.Proofs.YtpdhandimdibhaaGreatDoor
end
section
namespace Go.Proofs.YtpdhandimdibhaaGreatDoor
open Go Go.Aw
def jy (x:Id3):Prop:=0≤x.o∧x.o≤7∧1≤x.s∧x.s≤16∧0≤x.i∧x.i≤15
instance (x:Id3):Decidable (jy x):=by unfold jy;exact inferInstance
def yS (a b:Int):Prop:=1≤a∧a≤b∧b≤1022679
instance (a b:Int):Decidable (yS a b):=by unfold yS;exact inferInstance
def uses (k:Int):List UInt8:=
 if k=1 then [65,88] else if k=2∨k=8∨k=10∨k=9 then [79,78] else if k=3 then [65,88,83] else if k=4 then [79,84,78,88]
 else if k=5∨k=7 then [79,88] else if k=6 then [79,65] else if k=11 then [79,83] else if k=12 then [79,65,88] else if k=13∨k=15 then [79,84,78]
 else if k=14 then [79,65,78] else if k=16 then [79,73,78] else if k=17 then [79,84] else if k=18 then [79,84,73] else []
def ww (k:Int):Int:=if k=16 then -1 else 0
def yr (o:OpP):Int:=if o.k=9∨o.k=14∨o.k=15 then 1 else if o.k=13 then 1023 else if o.k=16 then o.ids.length - 1 else 1048576
def vE (o:OpP):Prop:=ww o.k≤o.n∧o.n≤yr o
instance (o:OpP):Decidable (vE o):=by unfold vE;exact inferInstance
def Jv (o:OpP):Prop:=(∀x∈o.ids,jy x∧(o.k=16→x≠o.on))∧o.ids.Nodup∧(o.k=18→o.ids.length=1)∧(o.k≠18→2≤o.ids.length∧o.ids.length≤4)
instance (o:OpP):Decidable (Jv o):=by unfold Jv;exact inferInstance
theorem f_rID {x:Id3} {H:AH} {R:D→AH→Prop} (h:R (.bool (decide (jy x))) H):ACall Tryz.prog 12 [.agg x.d] H R:=by
 refine b12 fun hf=>?_
 have hd:x.d= [.int .i64 x.o,.int .i64 x.s,.int .i64 x.i]:=rfl
 have hk:∀b,decide (jy x)=b→R (.bool b) H:=fun b hb=>hb▸h
 simp+contextual only [x12,hd,↓u12_s0,↓XP,↓XU,qn,XW1,qa,qb,qc,qd,qe,qf,reduceCtorEq]
 intro b1 h1
 repeat' (first|apply And.intro|intro _)
 all_goals first
  |exact hk _ (decide_eq_true (by unfold jy;omega))
  |exact hk _ (decide_eq_false (by unfold jy;omega))
  |exact hk _ (decide_eq_decide.2 (by unfold jy;omega))
  |skip
theorem gV {l:List Id3} {i:Nat} (h:i<l.length):(l.take (i+1)).Nodup↔(l.take i).Nodup∧l.getD i default ∉ l.take i:=by
 rw [List.take_add_one,show l[i]?.toList= [l.getD i default] by simp [h],List.nodup_append]
 constructor
 ·rintro ⟨h1,_,h3⟩
  exact ⟨h1,fun hm=>h3 _ hm _ (List.mem_singleton.2 rfl) rfl⟩
 ·rintro ⟨h1,h2⟩
  exact ⟨h1,by simp,fun a ha b hb e=>h2 (by rw [List.mem_singleton] at hb;rw [←hb,←e];exact ha)⟩
end Go.Proofs.YtpdhandimdibhaaGreatDoor
end
section
namespace Go.Proofs.YtpdhandimdibhaaGreatDoor
open Go Go.Aw
def QJ (o:OpP):Prop:=uses o.k≠ []∧(79∈uses o.k→jy o.on)∧(79 ∉ uses o.k→o.on=wE)∧(84∈uses o.k→jy o.to)∧(84 ∉ uses o.k→o.to=wE)
def QH (o:OpP):Prop:=(78∈uses o.k→vE o)∧(78 ∉ uses o.k→o.n=0)∧(73∈uses o.k→Jv o)∧(73 ∉ uses o.k→o.ids= [])
def QG (o:OpP):Prop:=(65∈uses o.k→1≤o.name.length∧o.name.length≤16)∧(65 ∉ uses o.k→o.name= [])∧(88∈uses o.k→o.text.length≤1024)∧(88 ∉ uses o.k→o.text= [])
def QI (o:OpP):Prop:=(83∈uses o.k→yS o.a o.b)∧(83 ∉ uses o.k→o.a=0∧o.b=0)
def zT (o:OpP):Prop:=o.k=17→o.on≠o.to
instance (o:OpP):Decidable (QJ o):=by unfold QJ;exact inferInstance
instance (o:OpP):Decidable (QH o):=by unfold QH;exact inferInstance
instance (o:OpP):Decidable (QG o):=by unfold QG;exact inferInstance
instance (o:OpP):Decidable (QI o):=by unfold QI;exact inferInstance
instance (o:OpP):Decidable (zT o):=by unfold zT;exact inferInstance
def uK (o:OpP):Prop:=QJ o∧QH o∧QG o∧QI o∧zT o
instance (o:OpP):Decidable (uK o):=by unfold uK;exact inferInstance
theorem jz {x y:Id3}:(decide (x.o=y.o)&&(decide (x.s=y.s)&&decide (x.i=y.i)))=decide (x=y):=by
 cases x;cases y;simp
theorem jC {x:Id3}:(decide (x.o=0)&&(decide (x.s=0)&&decide (x.i=0)))=decide (x=wE):=jz (y:=wE)
end Go.Proofs.YtpdhandimdibhaaGreatDoor
end
section
namespace Go.Proofs.YtpdhandimdibhaaGreatDoor
open Go Go.Aw
def wz (p:Pt):Prop:=0≤p.o∧p.o≤7∧1≤p.s∧p.s≤16∧1≤p.day∧p.day≤1048576
instance (p:Pt):Decidable (wz p):=by unfold wz;exact inferInstance
def vH (p:Pt) (i:Nat):Prop:=0≤(p.needs.getD i default).o∧(p.needs.getD i default).o≤7∧(p.needs.getD i default).o≠p.o∧1≤(p.needs.getD i default).s∧(p.needs.getD i default).s≤16∧(0<i→(p.needs.getD (i - 1) default).o<(p.needs.getD i default).o)
def vN (p:Pt):Prop:=∀i,i<p.needs.length→vH p i
def o5 (p:Pt):Prop:=∀o∈p.ops,uK o
def bare (p:Pt):Pt:={p with sl:= []}
open Classical in
noncomputable def kr (p:Pt):Int:=
 if ¬wz p then 5 else if 8<p.needs.length∨16<p.ops.length then 4 else if p.ops= [] then 1 else if ¬vN p then 1 else if ¬o5 p then 1
 else if 6800<(yn (bare p)).length then 4 else 0
end Go.Proofs.YtpdhandimdibhaaGreatDoor
end
section
namespace Go.Proofs.YtpdhandimdibhaaGreatDoor
open Go Go.Aw
structure TOp (o:OpP):Prop where
 v:uK o
 ok:Yp o
 tx:o.text.length≤60
theorem t_1 {nm tx:List UInt8} (h1:1≤nm.length) (h2:nm.length≤16) (h3:tx.length≤60):TOp {jI with k:=1,name:=nm,text:=tx}:=
 ⟨by simp [uK,QJ,QH,QG,QI,zT,uses,jI,wE];omega,kH (by show (1:Int)≠16;decide),h3⟩
theorem t_2 {on:Id3} {n:Int} (h:jy on) (h1:0≤n) (h2:n≤1000):TOp {jI with k:=2,on:=on,n:=n}:=
 ⟨by simp [uK,QJ,QH,QG,QI,zT,uses,jI,wE,h,vE,ww,yr];omega,kH (by show (2:Int)≠16;decide),by simp [jI]⟩
theorem t_3 {nm tx:List UInt8} {a b:Int} (h1:1≤nm.length) (h2:nm.length≤16) (h3:tx.length≤60) (h4:1≤a) (h5:a≤b) (h6:b≤1000000):TOp {jI with k:=3,name:=nm,text:=tx,a:=a,b:=b}:=
 ⟨by simp [uK,QJ,QH,QG,QI,zT,uses,jI,wE,yS];omega,kH (by show (3:Int)≠16;decide),h3⟩
theorem t_4 {on to:Id3} {n:Int} {tx:List UInt8} (h:jy on) (h':jy to) (h1:0≤n) (h2:n≤1000) (h3:tx.length≤60):TOp {jI with k:=4,on:=on,to:=to,n:=n,text:=tx}:=
 ⟨by simp [uK,QJ,QH,QG,QI,zT,uses,jI,wE,h,h',vE,ww,yr];omega,kH (by show (4:Int)≠16;decide),h3⟩
theorem t_5 {on:Id3} {tx:List UInt8} (h:jy on) (h3:tx.length≤60):TOp {jI with k:=5,on:=on,text:=tx}:=
 ⟨by simp [uK,QJ,QH,QG,QI,zT,uses,jI,wE,h];omega,kH (by show (5:Int)≠16;decide),h3⟩
theorem t_6 {on:Id3} {nm:List UInt8} (h:jy on) (h1:1≤nm.length) (h2:nm.length≤16):TOp {jI with k:=6,on:=on,name:=nm}:=
 ⟨by simp [uK,QJ,QH,QG,QI,zT,uses,jI,wE,h];omega,kH (by show (6:Int)≠16;decide),by simp [jI]⟩
theorem t_7 {on:Id3} {tx:List UInt8} (h:jy on) (h3:tx.length≤60):TOp {jI with k:=7,on:=on,text:=tx}:=
 ⟨by simp [uK,QJ,QH,QG,QI,zT,uses,jI,wE,h];omega,kH (by show (7:Int)≠16;decide),h3⟩
theorem t_8 {on:Id3} {n:Int} (h:jy on) (h1:0≤n) (h2:n≤1000):TOp {jI with k:=8,on:=on,n:=n}:=
 ⟨by simp [uK,QJ,QH,QG,QI,zT,uses,jI,wE,h,vE,ww,yr];omega,kH (by show (8:Int)≠16;decide),by simp [jI]⟩
theorem t_9 {on:Id3} {n:Int} (h:jy on) (h1:0≤n) (h2:n≤1):TOp {jI with k:=9,on:=on,n:=n}:=
 ⟨by simp [uK,QJ,QH,QG,QI,zT,uses,jI,wE,h,vE,ww,yr];omega,kH (by show (9:Int)≠16;decide),by simp [jI]⟩
theorem t_10 {on:Id3} {n:Int} (h:jy on) (h1:0≤n) (h2:n≤1000):TOp {jI with k:=10,on:=on,n:=n}:=
 ⟨by simp [uK,QJ,QH,QG,QI,zT,uses,jI,wE,h,vE,ww,yr];omega,kH (by show (10:Int)≠16;decide),by simp [jI]⟩
theorem t_11 {on:Id3} {a b:Int} (h:jy on) (h4:1≤a) (h5:a≤b) (h6:b≤1000000):TOp {jI with k:=11,on:=on,a:=a,b:=b}:=
 ⟨by simp [uK,QJ,QH,QG,QI,zT,uses,jI,wE,h,yS];omega,kH (by show (11:Int)≠16;decide),by simp [jI]⟩
theorem t_12 {on:Id3} {nm tx:List UInt8} (h:jy on) (h1:1≤nm.length) (h2:nm.length≤16) (h3:tx.length≤60):TOp {jI with k:=12,on:=on,name:=nm,text:=tx}:=
 ⟨by simp [uK,QJ,QH,QG,QI,zT,uses,jI,wE,h];omega,kH (by show (12:Int)≠16;decide),h3⟩
theorem t_13 {on to:Id3} {n:Int} (h:jy on) (h':jy to) (h1:0≤n) (h2:n≤1000):TOp {jI with k:=13,on:=on,to:=to,n:=n}:=
 ⟨by simp [uK,QJ,QH,QG,QI,zT,uses,jI,wE,h,h',vE,ww,yr];omega,kH (by show (13:Int)≠16;decide),by simp [jI]⟩
theorem t_14 {on:Id3} {nm:List UInt8} {n:Int} (h:jy on) (h1:1≤nm.length) (h2:nm.length≤16) (h3:0≤n) (h4:n≤1):TOp {jI with k:=14,on:=on,name:=nm,n:=n}:=
 ⟨by simp [uK,QJ,QH,QG,QI,zT,uses,jI,wE,h,vE,ww,yr];omega,kH (by show (14:Int)≠16;decide),by simp [jI]⟩
theorem t_15 {on to:Id3} {n:Int} (h:jy on) (h':jy to) (h1:0≤n) (h2:n≤1):TOp {jI with k:=15,on:=on,to:=to,n:=n}:=
 ⟨by simp [uK,QJ,QH,QG,QI,zT,uses,jI,wE,h,h',vE,ww,yr];omega,kH (by show (15:Int)≠16;decide),by simp [jI]⟩
theorem t_16 {on x y:Id3} {n:Int} (h:jy on) (hx:jy x) (hy:jy y) (hxy:x≠y) (hox:x≠on) (hoy:y≠on) (h1: -1≤n) (h2:n≤1):TOp {jI with k:=16,on:=on,ids:= [x,y],n:=n}:=
 ⟨by simp [uK,QJ,QH,QG,QI,zT,uses,jI,wE,h,hx,hy,hxy,hox,hoy,vE,ww,yr,Jv];omega,fun _=>rfl,by simp [jI]⟩
theorem t_17 {on to:Id3} (h:jy on) (h':jy to) (hne:on≠to):TOp {jI with k:=17,on:=on,to:=to}:=
 ⟨by simp [uK,QJ,QH,QG,QI,zT,uses,jI,wE,h,h',hne],kH (by show (17:Int)≠16;decide),by simp [jI]⟩
theorem t_18 {on to x:Id3} (h:jy on) (h':jy to) (hx:jy x):TOp {jI with k:=18,on:=on,to:=to,ids:= [x]}:=
 ⟨by simp [uK,QJ,QH,QG,QI,zT,uses,jI,wE,h,h',hx,Jv],kH (by show (18:Int)≠16;decide),by simp [jI]⟩
end Go.Proofs.YtpdhandimdibhaaGreatDoor
end
