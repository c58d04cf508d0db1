/- A part of the proof of what the last text says: AwR, AwU, AwL. Conditions: those in each theorem. -/
import Derived.Test.YtpdhandimdibhaaGreatDoorN8
import Derived.OrdersIn
import Derived.TacticsIn
import Derived.RangeFuncLeaves
import Derived.RangeFuncWrites
set_option linter.unusedVariables false
set_option linter.unusedSimpArgs false
set_option maxRecDepth 100000
set_option maxHeartbeats 16000000
open Nat renaming reduceSub → qa,reduceAdd → qb,reduceMul → qc,reduceEqDiff → qd,reduceLeDiff → qe,reduceBEq → qf
section
namespace Go.Aw
open Go Go.RowKit
def Gz (F:List D) (H:AH) (k:List D→AH→Prop):Prop:=
 ∀(K:Nat→BK) (w:World) (t:Array Value),St K w F H t→∃F' H' K',k F' H'∧FK K w K' w∧St K' w F' H' t
section
variable {F:List D} {H:AH} {k:List D→AH→Prop}
theorem Gz.of_fz {F':List D} {H':AH} (hz:Fz F H F' H') (h:k F' H'):Gz F H k:=fun K w t hs=>
 let ⟨K',h1,h2⟩:=hz K w t hs
 ⟨F',H',K',h,h1,h2⟩
theorem Gz.mono {k':List D→AH→Prop} (h:∀F' H',k F' H'→k' F' H') (hg:Gz F H k):Gz F H k':=fun K w t hs=>
 let ⟨F',H',K',h1,h2,h3⟩:=hg K w t hs
 ⟨F',H',K',h F' H' h1,h2,h3⟩
theorem Gz.bind {k':List D→AH→Prop} (hg:Gz F H k) (h:∀F' H',k F' H'→Gz F' H' k'):Gz F H k':=fun K w t hs=>
 let ⟨F',H',K',h1,h2,h3⟩:=hg K w t hs
 let ⟨F'',H'',K'',g1,g2,g3⟩:=h F' H' h1 K' w t h3
 ⟨F'',H'',K'',g1,h2.trans g2,g3⟩
theorem Qr {p q:Who} {K:Nat→BK} {w:World} {bs:List Nat} (hp:∀c j,c ∉ bs→p≠ .cell c j) {H:AH} (hn:(H.map (·.1)).Nodup) (hb:∀c o,(c,o)∈H→c ∉ bs∧AO.at_ K w c o):HRel (relab (mvφ p q) K) w H:=by
 refine ⟨hn,fun c o hm=>?_⟩
 obtain ⟨h1,h2⟩:=hb c o hm
 have conv:∀b n j,K b= .tok n (.cell c j)→relab (mvφ p q) K b= .tok n (.cell c j):=fun b n j hb'=>by
  rw [qR hb']
  simp only [mvφ,BK.tok.injEq,true_and]
  rw [if_neg (fun e=>hp c j h1 e.symm)]
 cases o with
 | cells cs=>
  obtain ⟨g1,c',T',g2,g3,g4⟩:=h2
  refine ⟨relab_priv.2 g1,c',T',g2,g3,fun j d' hd'=>?_⟩
  obtain ⟨u',q1,q2,q3⟩:=g4 j d' hd'
  exact ⟨u',q1,q2,q3.conv (qC _ K w) (fun b n hb'=>conv b n j hb')⟩
 |room cap xs=>exact ⟨h2.1,h2.2.conv (qC _ K w) (fun b n hb'=>conv b n 0 hb')⟩
 |mp es=>exact ⟨relab_priv.2 h2.1,h2.2.ext (qC _ K w) rfl⟩
 | lp J pre=>
  obtain ⟨⟨n,j,g1⟩,g2,g3⟩:=h2
  exact ⟨⟨n,j,conv _ _ _ g1⟩,g3 pre K w _ w g2 fun c n j h=>⟨conv c n j h,rfl⟩,g3⟩
theorem RepV.osl_inv {K:Nat→BK} {w:World} {b cap:Nat} {xs:List (List D)} {v:Value} (h:RepV K w (.osl b cap xs) v):(xs= []∧∃a,v= .slice a 0 0)∨(xs≠ []∧v= .slice (some ⟨b,0,none⟩) xs.length cap):=by
 cases h with
 |osl _ _ _ hp _=>exact .inr ⟨fun e=>by subst e;simp at hp,rfl⟩
 |oslnil _ _ a=>exact .inl ⟨rfl,a,rfl⟩
def jx (H:AH) (b:Nat) (xs:List (List D)):AH:=if xs= [] then H else qW H b
theorem dropR_sub {b:Nat} {xs:List (List D)}:(jx H b xs).Sublist H:=by
 unfold jx
 split
 ·exact List.Sublist.refl _
 ·exact erase_sub
theorem vY {b:Nat}:∀{H:AH},qD H b→∀{x:Nat×AO},x∈H→x.1≠b
 | [],_,x,h=>by cases h
 | (c,o)::r,hf,x,h=>by
  rcases List.mem_cons.1 h with rfl|h
  ·exact Ne.symm hf.1
  ·exact vY hf.2 h
theorem Gz.take {bx j b cap:Nat} {cs:List D} {xs:List (List D)} (hj:cs[j]?=some (.osl b cap xs)) (hr:xs≠ []→qu H b=some (.room cap xs)) (h:k F ((bx,.cells (cs.set j (.own xs)))::jx H b xs)):Gz F ((bx,.cells cs)::H) k:=by
 intro K w t hs
 have hnd:=hs.hrel.nd
 simp only [List.map_cons,List.nodup_cons] at hnd
 obtain ⟨hbx,hnd⟩:=hnd
 obtain ⟨hpb,c,T,hb,hcs,hrc⟩:=hs.hrel.ok bx _ (.head _)
 obtain ⟨u,e1,e2,e3⟩:=hrc j _ hj
 have hu:RepV K w (.osl b cap xs) u:=e3
 by_cases hx:xs= []
 ·subst hx
  have ho:∃a,u= .slice a 0 0:=by
   rcases hu.osl_inv with ⟨_,h⟩|⟨h,_⟩
   ·exact h
   ·exact (h rfl).elim
  obtain ⟨a,rfl⟩:=ho
  refine ⟨F,_,K,h,.refl K w,hs.krel,⟨?_,fun c' o' hm=>?_⟩,hs.len,hs.slot⟩
  ·simp only [jx,if_true,List.map_cons,List.nodup_cons];exact ⟨hbx,hnd⟩
  ·simp only [jx,if_true] at hm
   rcases List.mem_cons.1 hm with hm|hm
   ·injection hm with g1 g2
    subst g1 g2
    refine ⟨hpb,c,T,hb,by simpa using hcs,fun q d hd=>?_⟩
    rcases getElem?_set_some hd with ⟨rfl,rfl,_⟩|⟨hne,hd⟩
    ·exact ⟨_,e1,e2,.inl ⟨rfl,a,rfl⟩⟩
    ·exact hrc q d hd
   ·exact hs.hrel.ok c' o' (.tail _ hm)
 ·have hm:=hr hx
  have hmem:=j4 hm
  obtain ⟨hp,hown⟩:=hs.hrel.ok b _ (.tail _ hmem)
  have hbne:b≠bx:=fun e=>hbx (List.mem_map.2 ⟨(b,_),hmem,e⟩)
  have huv:u= .slice (some ⟨b,0,none⟩) xs.length cap:=by
   rcases hu.osl_inv with ⟨h,_⟩|⟨_,h⟩
   ·exact (hx h).elim
   ·exact h
  subst huv
  let φ:=mvφ (.cell b 0) (.cell bx j)
  have hk:∀{xs':List (List D)} {v:Value},OwnAt K w (.cell b 0) xs' v→OwnAt (relab φ K) w (.cell bx j) xs' v:=fun ho=>OwnAt.conv (qC φ K w) (fun b' n hb'=>by rw [qR hb'];simp [φ,mvφ]) ho
  have hbcell:∀b' n j',K b'= .tok n (.cell bx j')→relab φ K b'= .tok n (.cell bx j'):=fun b' n j' hb'=>by
   rw [qR hb']
   simp only [φ,mvφ,BK.tok.injEq,true_and]
   rw [if_neg]
   intro e
   injection e with e _
   exact hbne e.symm
  have hin:=Qr (p:= .cell b 0) (q:= .cell bx j) (K:=K) (w:=w) (bs:= [b]) (fun c j hc e=>by injection e with e _;exact hc (by simp [e])) (H:=qW H b) ((erase_sub.map (·.1)).nodup hnd) (fun c o hm=>⟨by simpa using yE hnd hm,hs.hrel.ok c o (.tail _ (erase_sub.subset hm))⟩)
  refine ⟨F,_,relab φ K,h,gL (by simp) (by simp),jE hs.krel,⟨?_,fun c' o' hm'=>?_⟩,hs.len,fun i d v hd hv=>uF (fun j e=>by cases e) (hs.slot i d v hd hv)⟩
  ·simp only [jx,if_neg hx,List.map_cons,List.nodup_cons]
   exact ⟨fun hh=>hbx ((erase_sub.map (·.1)).subset hh),hin.nd⟩
  ·simp only [jx,if_neg hx] at hm'
   rcases List.mem_cons.1 hm' with hm'|hm'
   ·injection hm' with g1 g2
    subst g1 g2
    refine ⟨relab_priv.2 hpb,c,T,hb,by simpa using hcs,fun q d hd=>?_⟩
    rcases getElem?_set_some hd with ⟨rfl,rfl,_⟩|⟨hne,hd⟩
    ·exact ⟨_,e1,e2,hk hown⟩
    ·obtain ⟨u',f1,f2,f3⟩:=hrc q d hd
     exact ⟨u',f1,f2,f3.conv (qC φ K w) (fun b' n hb'=>hbcell b' n q hb')⟩
   ·exact hin.ok c' o' hm'
theorem Gz.give {bx j:Nat} {cs:List D} {xs:List (List D)} (hx:xs≠ []) (hg:qu H bx=some (.cells cs)) (hj:cs[j]?=some (.own xs)) (h:∀b cap,qD H b→k F ((b,.room cap xs)::qF H bx (.cells (cs.set j (.osl b cap xs))))):Gz F H k:=by
 intro K w t hs
 obtain ⟨hpb,c,T,hb,hcs,hrc⟩:=hs.hrel.ok bx _ (j4 hg)
 obtain ⟨u,e1,e2,e3⟩:=hrc j _ hj
 have hown:OwnAt K w (.cell bx j) xs u:=e3
 rcases hown with ⟨rfl,_⟩|⟨b,cap,sz,c2,T2,rfl,hkb,hh,hcs2,hp,hl,hm,hbg,hs2,hrep⟩
 ·exact (hx rfl).elim
 ·have hown:OwnAt K w (.cell bx j) xs (.slice (some ⟨b,0,none⟩) xs.length cap):= .inr ⟨b,cap,sz,c2,T2,rfl,hkb,hh,hcs2,hp,hl,hm,hbg,hs2,hrep⟩
  have hfr:qD H b:=uM fun x hx' e=>by
   obtain ⟨c',o'⟩:=x
   simp only at e
   subst e
   have:=hs.hrel.ok c' o' hx'
   cases o' with
   |cells cs'=>rw [this.1] at hkb;cases hkb
   |mp es'=>rw [this.1] at hkb;cases hkb
   | lp J pre=>
    by_cases e':bx=c'
    ·subst e';rw [hpb] at hkb;cases hkb
    ·obtain ⟨⟨n,j',g1⟩,_⟩:=this;rw [hkb] at g1;injection g1 with _ g1;injection g1 with g1 _;exact (e' g1).elim
   | room cap' xs'=>
    rcases this.2 with ⟨q1,_⟩|⟨b',cap',sz',c3,T3,q1,q2,_⟩
    ·have:=this.1;rw [q1] at this;simp at this
    ·injection q1 with q1;injection q1 with q1;injection q1 with q1;subst q1
     rw [hkb] at q2
     injection q2 with _ q2
     injection q2 with q2 _
     subst q2
     rw [hpb] at hkb
     cases hkb
  let φ:=mvφ (.cell bx j) (.cell b 0)
  have hk:∀{xs':List (List D)} {v:Value},OwnAt K w (.cell bx j) xs' v→OwnAt (relab φ K) w (.cell b 0) xs' v:=fun ho=>OwnAt.conv (qC φ K w) (fun b' n hb'=>by rw [qR hb'];simp [φ,mvφ]) ho
  have conv:∀c' j',(c'≠bx∨j'≠j)→∀b' n,K b'= .tok n (.cell c' j')→relab φ K b'= .tok n (.cell c' j'):=fun c' j' hne b' n hb'=>by
   rw [qR hb']
   simp only [φ,mvφ,BK.tok.injEq,true_and]
   rw [if_neg]
   intro e
   injection e with e1 e2
   rcases hne with hne|hne
   ·exact hne e1
   ·exact hne e2
  refine ⟨F,_,relab φ K,h b cap hfr,gL (by simp) (by simp),jE hs.krel,⟨?_,fun c' o' hm'=>?_⟩,hs.len,fun i d v hd hv=>uF (fun j e=>by cases e) (hs.slot i d v hd hv)⟩
  ·simp only [List.map_cons,List.nodup_cons]
   refine ⟨fun hh'=>?_,by rw [ko];exact hs.hrel.nd⟩
   rw [ko] at hh'
   obtain ⟨x,hx1,hx2⟩:=List.mem_map.1 hh'
   have:=vY hfr hx1
   exact this hx2
  ·rcases List.mem_cons.1 hm' with hm'|hm'
   ·injection hm' with g1 g2
    subst g1 g2
    exact ⟨hp,hk hown⟩
   ·rcases yu hs.hrel.nd hm' with ⟨rfl,rfl⟩|⟨hne,hm'⟩
    ·refine ⟨relab_priv.2 hpb,c,T,hb,by simpa using hcs,fun q d hd=>?_⟩
     rcases getElem?_set_some hd with ⟨rfl,rfl,_⟩|⟨hneq,hd⟩
     ·exact ⟨_,e1,e2,RepV.mono (qC φ K w) (.osl b cap xs hp (OwnAt.rep hown))⟩
     ·obtain ⟨u',f1,f2,f3⟩:=hrc q d hd
      exact ⟨u',f1,f2,f3.conv (qC φ K w) (fun b' n hb'=>conv _ q (.inr (Ne.symm hneq)) b' n hb')⟩
    ·have:=hs.hrel.ok c' o' hm'
     cases o' with
     | cells cs'=>
      obtain ⟨g1,c3,T',g2,g3,g4⟩:=this
      refine ⟨relab_priv.2 g1,c3,T',g2,g3,fun q d' hd'=>?_⟩
      obtain ⟨u',q1,q2,q3⟩:=g4 q d' hd'
      exact ⟨u',q1,q2,q3.conv (qC φ K w) (fun b' n hb'=>conv c' q (.inl hne) b' n hb')⟩
     |room cap' xs'=>exact ⟨this.1,this.2.conv (qC φ K w) (fun b' n hb'=>conv c' 0 (.inl hne) b' n hb')⟩
     |mp es=>exact ⟨relab_priv.2 this.1,this.2.ext (qC _ K w) rfl⟩
     | lp J pre=>
      obtain ⟨⟨n,j,g1⟩,g2,g3⟩:=this
      exact ⟨⟨n,j,conv c' j (.inl hne) _ _ g1⟩,g3 pre K w _ w g2 fun c n j h=>⟨conv c' j (.inl hne) c n h,rfl⟩,g3⟩
def Sb (H' H:AH):Prop:=(H'.map (·.1)).Nodup∧∀p∈H',p∈H
theorem Sb.back {n:Nat} (hn:(H.map (·.1)).Nodup):Sb (Go.Aw.back n H) H:=⟨((un n H).map (·.1)).nodup hn,fun p hp=>(un n H).subset hp⟩
theorem St.sb {K:Nat→BK} {w:World} {H':AH} {t:Array Value} (h:St K w F H t) (hs:Sb H' H):St K w F H' t:=
 ⟨h.krel,⟨hs.1,fun b o hm=>h.hrel.ok b o (hs.2 _ hm)⟩,h.len,h.slot⟩
theorem Gz.sb {H':AH} (hs:(H.map (·.1)).Nodup→Sb H' H) (h:k F H'):Gz F H k:=fun K w t hst=>⟨F,H',K,h,.refl K w,hst.sb (hs hst.hrel.nd)⟩
def D.wk:D→D
 | .osl _ _ xs=>.slc xs
 | .own xs=>.own xs
 |d=>d
theorem RepV.wk {K:Nat→BK} {w:World} {d:D} {v:Value} (h:RepV K w d v):RepV K w d.wk v:=by
 cases d<;>first|exact h|(cases h<;>first|assumption|exact .slcnil _)
theorem Gz.weak {bx:Nat} {cs:List D} (hg:qu H bx=some (.cells cs)) (h:k F (qF H bx (.cells (cs.map D.wk)))):Gz F H k:=by
 intro K w t hs
 refine ⟨F,_,K,h,.refl K w,hs.krel,⟨by rw [ko];exact hs.hrel.nd,fun c' o' hm'=>?_⟩,hs.len,hs.slot⟩
 rcases yu hs.hrel.nd hm' with ⟨rfl,rfl⟩|⟨hne,hm'⟩
 ·obtain ⟨hpb,c,T,hb,hcs,hrc⟩:=hs.hrel.ok c' _ (j4 hg)
  refine ⟨hpb,c,T,hb,by simpa using hcs,fun j d hd=>?_⟩
  rw [List.getElem?_map,Option.map_eq_some_iff] at hd
  obtain ⟨d',e1,rfl⟩:=hd
  obtain ⟨u,f1,f2,f3⟩:=hrc j d' e1
  refine ⟨u,f1,f2,?_⟩
  cases d'<;>first|exact f3|exact RepV.wk f3
 ·exact hs.hrel.ok c' o' hm'
def Q7:D→D
 | .own []=>.osl 0 0 []
 |d=>d.view1
def zbH (P:Program) (t:TypeId) (ps:List (Nat×Operand)) (dst:Option Tmp) (F:List D) (H:AH) (k:List D→AH→Prop):Prop:=
 match yK P t with
 |some z=>kq P t=true∧(∀p∈ps.map fun p=>(p.1,rv F p.2),okc p.2=true)∧wc P t ((ps.map fun p=>(p.1,rv F p.2)).map fun p=>(p.1,cellsOf p.2)) (z.map Q7) fun cs=>k (qG F dst (.agg cs)) H
 |none=>False
theorem WN {P:Program} {o:Oper} {K:Nat→BK} {w:World} {a:Act} {Q:Exit→Act→World→Prop} (hs:St K w F H a.tmps) (hok:jq o=true) {t:TypeId} {ps:Array (Nat×Operand)} (ho:o.op= .build t ps) (h:zbH P t ps.toList o.dst F H k):o.wp P a w (OKd k K w a.defers) Q:=by
 have hops:=hs.ops (xs:=o.op.operands) (by unfold jq at hok;simp only [Bool.and_eq_true] at hok;exact hok.1)
 unfold zbH at h
 split at h
 ·rename_i z hz
  obtain ⟨hfo,hokc,h⟩:=h
  obtain ⟨i,zv,hi,hzv,z1,z2,z3,z4⟩:=y7 hz
  obtain ⟨place,hplace,hbuild⟩:=zS hfo
  ·have e:=uj (P:=P) (t:=t) (K:=K) (w:=w) place hplace (ps.toList.map fun p=>(p.1,rv F p.2)) (ps.toList.map fun p=>(p.1,a.eval p.2)) (z.map Q7) zv.cells (fun cs=>k (qG F o.dst (.agg cs)) H)
    hokc (by simp)
    (fun i p q hp hq=>by
     simp only [List.getElem?_map,Option.map_eq_some_iff] at hp hq
     obtain ⟨x,hx,rfl⟩:=hp
     obtain ⟨b,hb,rfl⟩:=hq
     rw [hx] at hb
     obtain rfl:=Option.some.inj hb
     exact ⟨rfl,hops x.2 (by simp only [ho,Op.operands];simp only [List.mem_map];exact ⟨x,List.mem_of_getElem? hx,rfl⟩)⟩)
    (by rw [z1];simp) (fun j u hu=>(z3 j u hu).1)
    (fun j d u hd hu=>by
     rw [List.getElem?_map,Option.map_eq_some_iff] at hd
     obtain ⟨d',e1,rfl⟩:=hd
     have hc:=z4 j d' u e1 hu
     rcases Yi K w (z3 j u hu).2 with h1|⟨x,h1,h2⟩
     ·rw [←hc] at h1
      have:Q7 d'=d':=by cases d'<;>first|rfl|exact h1.not_own.elim
      rw [this]
      exact h1
     ·rw [hc,h1,h2]
      exact .oslnil 0 0 x) h
   obtain ⟨cs,r,g1,g2,g3,g4⟩:=e
   have hrun:(Instr.build t (ps.map fun p=>(p.1,a.eval p.2))).run P w= .ok (.agg r) w:=by
    refine hbuild w i zv _ r hi hzv ?_
    have:(ps.map fun p=>(p.1,a.eval p.2)).toList=ps.toList.map fun p=>(p.1,a.eval p.2):=by simp
    rw [this,g3]
   refine qL (v:= .agg r) (w':=w) ?_ ⟨_,H,K,g1,.refl K w,hs.put ((Pres.refl K w).keep hs.krel) (fun _ _ h=>h) hs.krel hs.hrel o.dst (fun i _=>g4.viewO),qy _ _⟩
   simp only [execOp,ho,Sem.run_bind]
   have:(ps.map fun x=>match x with|(i,x)=>(i,a.eval x))=ps.map fun p=>(p.1,a.eval p.2):=rfl
   rw [this,hrun]
   rfl
 ·exact h.elim
theorem Gz.giveS {s:Nat} {xs:List (List D)} (hx:xs≠ []) (hF:F.getD s .any= .own xs) (h:∀b cap,qD H b→k (F.set s (.osl b cap xs)) ((b,.room cap xs)::H)):Gz F H k:=by
 intro K w t hs
 have hlt:s<F.length:=by
  rcases Nat.lt_or_ge s F.length with h'|h'
  ·exact h'
  ·rw [List.getD_eq_getElem?_getD,List.getElem?_eq_none h'] at hF
   cases hF
 have h1:F[s]?=some (.own xs):=by
  rw [List.getD_eq_getElem?_getD,List.getElem?_eq_getElem hlt] at hF
  rw [List.getElem?_eq_getElem hlt]
  exact congrArg some hF
 have hts:s<t.size:=by rw [hs.len];exact hlt
 have hown:OwnAt K w (.slot s 0) xs t[s]:=hs.slot s _ _ h1 (Array.getElem?_eq_getElem hts)
 have hrep:=hown.rep
 generalize htv:t[s]=tv at hown hrep
 rcases hown with ⟨rfl,_⟩|⟨b,cap,sz,c2,T2,rfl,hkb,hh,hcs2,hp,hl,hm,hbg,hs2,hrp⟩
 ·exact (hx rfl).elim
 ·have hown:OwnAt K w (.slot s 0) xs (.slice (some ⟨b,0,none⟩) xs.length cap):= .inr ⟨b,cap,sz,c2,T2,rfl,hkb,hh,hcs2,hp,hl,hm,hbg,hs2,hrp⟩
  have hfr:qD H b:=uM fun x hx' e=>by
   obtain ⟨c',o'⟩:=x
   simp only at e
   subst e
   have:=hs.hrel.ok c' o' hx'
   cases o' with
   |cells cs'=>rw [this.1] at hkb;cases hkb
   |mp es'=>rw [this.1] at hkb;cases hkb
   |lp J pre=>obtain ⟨⟨n,j',g1⟩,_⟩:=this;rw [hkb] at g1;injection g1 with _ g1;cases g1
   | room cap' xs'=>
    rcases this.2 with ⟨q1,_⟩|⟨b',cap',sz',c3,T3,q1,q2,_⟩
    ·have:=this.1;rw [q1] at this;simp at this
    ·injection q1 with q1;injection q1 with q1;injection q1 with q1;subst q1
     rw [hkb] at q2
     injection q2 with _ q2
     cases q2
  let φ:=mvφ (.slot s 0) (.cell b 0)
  have hH:=Qr (p:= .slot s 0) (q:= .cell b 0) (K:=K) (w:=w) (bs:= []) (fun c j _ e=>by cases e) hs.hrel.nd (fun c o hm=>⟨by simp,hs.hrel.ok c o hm⟩)
  refine ⟨_,_,relab φ K,h b cap hfr,gL (by simp) (by simp),jE hs.krel,⟨?_,fun c' o' hm'=>?_⟩,by simpa using hs.len,fun i d v hd hv=>?_⟩
  ·simp only [List.map_cons,List.nodup_cons]
   refine ⟨fun hh'=>?_,hs.hrel.nd⟩
   obtain ⟨x,hx1,hx2⟩:=List.mem_map.1 hh'
   exact vY hfr hx1 hx2
  ·rcases List.mem_cons.1 hm' with hm'|hm'
   ·injection hm' with g1 g2
    subst g1 g2
    exact ⟨hp,OwnAt.conv (qC φ K w) (fun b' n hb'=>by rw [qR hb'];simp [φ,mvφ]) hown⟩
   ·exact hH.ok c' o' hm'
  ·rcases getElem?_set_some hd with ⟨rfl,rfl,_⟩|⟨hne,hd⟩
   ·have hv':v= .slice (some ⟨b,0,none⟩) xs.length cap:=by
     rw [Array.getElem?_eq_getElem hts,htv] at hv
     exact (Option.some.inj hv).symm
    subst hv'
    exact (RepV.osl b cap xs hp (RepV.mono (qC φ K w) hrep)).viewO
   ·exact uF (fun j e=>by injection e with e1 _;exact hne e1) (hs.slot i d v hd hv)
theorem Gz.takeS {s b cap:Nat} {xs:List (List D)} (hF:F.getD s .any= .osl b cap xs) (hr:xs≠ []→qu H b=some (.room cap xs)) (h:k (F.set s (.own xs)) (jx H b xs)):Gz F H k:=by
 intro K w t hs
 have hlt:s<F.length:=by
  rcases Nat.lt_or_ge s F.length with h'|h'
  ·exact h'
  ·rw [List.getD_eq_getElem?_getD,List.getElem?_eq_none h'] at hF
   cases hF
 have h1:F[s]?=some (.osl b cap xs):=by
  rw [List.getD_eq_getElem?_getD,List.getElem?_eq_getElem hlt] at hF
  rw [List.getElem?_eq_getElem hlt]
  exact congrArg some hF
 have hts:s<t.size:=by rw [hs.len];exact hlt
 have hu:RepV K w (.osl b cap xs) t[s]:=hs.slot s _ _ h1 (Array.getElem?_eq_getElem hts)
 by_cases hx:xs= []
 ·subst hx
  have ho:∃a,t[s]= .slice a 0 0:=by
   rcases hu.osl_inv with ⟨_,h⟩|⟨h,_⟩
   ·exact h
   ·exact (h rfl).elim
  refine ⟨_,_,K,h,.refl K w,hs.krel,by simpa only [jx,if_true] using hs.hrel,by simpa using hs.len,fun i d v hd hv=>?_⟩
  rcases getElem?_set_some hd with ⟨rfl,rfl,_⟩|⟨hne,hd⟩
  ·rw [Array.getElem?_eq_getElem hts] at hv
   obtain rfl:=Option.some.inj hv
   exact .inl ⟨rfl,ho⟩
  ·exact hs.slot i d v hd hv
 ·have hmem:=j4 (hr hx)
  obtain ⟨hp,hown⟩:=hs.hrel.ok b _ hmem
  have huv:t[s]= .slice (some ⟨b,0,none⟩) xs.length cap:=by
   rcases hu.osl_inv with ⟨h,_⟩|⟨_,h⟩
   ·exact (hx h).elim
   ·exact h
  let φ:=mvφ (.cell b 0) (.slot s 0)
  have hin:=Qr (p:= .cell b 0) (q:= .slot s 0) (K:=K) (w:=w) (bs:= [b]) (fun c j hc e=>by injection e with e _;exact hc (by simp [e])) (H:=qW H b) ((erase_sub.map (·.1)).nodup hs.hrel.nd) (fun c o hm=>⟨by simpa using yE hs.hrel.nd hm,hs.hrel.ok c o (erase_sub.subset hm)⟩)
  refine ⟨_,_,relab φ K,h,gL (by simp) (by simp),jE hs.krel,by simpa only [jx,if_neg hx] using hin,by simpa using hs.len,fun i d v hd hv=>?_⟩
  rcases getElem?_set_some hd with ⟨rfl,rfl,_⟩|⟨hne,hd⟩
  ·rw [Array.getElem?_eq_getElem hts,huv] at hv
   obtain rfl:=Option.some.inj hv
   exact OwnAt.conv (qC φ K w) (fun b' n hb'=>by rw [qR hb'];simp [φ,mvφ]) hown
  ·exact uF (fun j e=>by cases e) (hs.slot i d v hd hv)
theorem Gz.viewC {bx j:Nat} {cs:List D} {xs:List (List D)} (hg:qu H bx=some (.cells cs)) (hj:cs[j]?=some (.own xs)) (h:k F (qF H bx (.cells (cs.set j (.slc xs))))):Gz F H k:=by
 intro K w t hs
 refine ⟨F,_,K,h,.refl K w,hs.krel,⟨by rw [ko];exact hs.hrel.nd,fun c' o' hm'=>?_⟩,hs.len,hs.slot⟩
 rcases yu hs.hrel.nd hm' with ⟨rfl,rfl⟩|⟨hne,hm'⟩
 ·obtain ⟨hpb,c,T,hb,hcs,hrc⟩:=hs.hrel.ok c' _ (j4 hg)
  refine ⟨hpb,c,T,hb,by simpa using hcs,fun q d hd=>?_⟩
  rcases getElem?_set_some hd with ⟨rfl,rfl,_⟩|⟨_,hd⟩
  ·obtain ⟨u,f1,f2,f3⟩:=hrc _ _ hj
   exact ⟨u,f1,f2,(show OwnAt K w _ xs u from f3).rep⟩
  ·exact hrc q d hd
 ·exact hs.hrel.ok c' o' hm'
def bsR (P:Program) (t:TypeId) (args:List Operand) (dst:Option Tmp) (F:List D) (H:AH) (k:List D→AH→Prop):Prop:=match kY P t,dst with
 | some (e,sz),some d=>args≠ []∧d<F.length∧(∀x∈args,okc (rv F x)=true∧(cellsOf (rv F x)).length=sz)∧args.length*sz≤16777216∧(yK P e).isSome=true∧
  ∀b cap,qD H b→k (F.set d (.osl b cap (args.map fun x=>cellsOf (rv F x)))) ((b,.room cap (args.map fun x=>cellsOf (rv F x)))::H)
 |_,_=>False
theorem stp_bsR {P:Program} {o:Oper} {ops:List Oper} {K:Nat→BK} {w:World} {a:Act} {Q:Exit→Act→World→Prop} (hs:St K w F H a.tmps) (hok:jq o=true) {t:TypeId} {args:List Operand} (ho:o.op= .buildSlice t args.length ((List.range args.length).zip args).toArray) (h:bsR P t args o.dst F H k):o.wp P a w (OKd k K w a.defers) Q:=by
 unfold bsR at h
 split at h
 ·rename_i e sz d hsl hd
  obtain ⟨hne,hlt,hargs,hn,hz,h⟩:=h
  have hz2:∀(l:List Operand) (s:Nat),(((List.range' s l.length).zip l).map fun p=>cellsOf (rv F p.2))=l.map fun x=>cellsOf (rv F x):=fun l=>by
   induction l with
   |nil=>intro s;rfl
   |cons x r ih=>intro s;simp only [List.length_cons,List.range'_succ,List.zip_cons_cons,List.map_cons,ih]
  have hz3:∀(l:List Operand) (s:Nat),(((List.range' s l.length).zip l).map (·.1))=List.range' s l.length:=fun l=>by
   induction l with
   |nil=>intro s;rfl
   |cons x r ih=>intro s;simp only [List.length_cons,List.range'_succ,List.zip_cons_cons,List.map_cons,ih]
  have hap:aop P ops o F H (fun F' H'=>F'=F.set d (.own (args.map fun x=>cellsOf (rv F x)))∧H'=H):=by
   simp only [aop,ho,qO,hsl]
   refine ⟨by rw [List.range_eq_range'];exact hz3 args 0,fun p hp=>hargs p.2 (List.of_mem_zip hp).2,hn,hz,?_⟩
   rw [hd]
   refine ⟨?_,by trivial⟩
   simp only [qG]
   rw [List.range_eq_range',hz2 args 0]
  refine Oper.wp_mono (fun a' w' ⟨F',H',K',⟨e1,e2⟩,q2,q3,q4⟩=>?_) (kS (Q:=Q) hs hok hap)
  subst e1 e2
  obtain ⟨F'',H'',K'',r1,r2,r3⟩:=Gz.giveS (k:=k) (s:=d) (xs:=args.map fun x=>cellsOf (rv F x)) (by simpa using hne) (by simp [hlt]) (fun b cap hb=>by rw [List.set_set];exact h b cap hb) K' w' a'.tmps q3
  exact ⟨F'',H'',K'',r1,q2.trans r2,r3,q4⟩
 ·exact h.elim
def Sbn (H' H:AH):Prop:=(H.map (·.1)).Nodup→Sb H' H
theorem Sbn.sub {H':AH} (h:H'.Sublist H):Sbn H' H:=fun hn=>⟨(h.map (·.1)).nodup hn,fun p hp=>h.subset hp⟩
theorem Ql {P:Program} {fn:Func} {K:Nat→BK} {w:World} {F:List D} {H:AH} {a:Act} {R:D→AH→Prop} (hk:rOk fn.results.toList=true) (hs:St K w F H a.tmps) (h:ot P fn.results.toList F H fun d=>∃H',Sbn H' H∧R d H'):
  ∃v d H' K',(results fn a.tmps).run P w= .ok v w∧R d H'∧FK K w K' w∧KRel K' w∧HRel K' w H'∧RepO K' w 0 d v:=by
 have hres:∀vs:List Value,(fn.results.toList.mapM (uf a.tmps)).run P w= .ok vs w→(results fn a.tmps).run P w= .ok (if h:vs.length=1 then vs[0] else .tuple vs.toArray) w:=fun vs hv=>by
  have he:results fn a.tmps=(fn.results.mapM (uf a.tmps)>>=fun vs=>pure (if h:vs.size=1 then vs[0] else .tuple vs)):=by
   unfold results
   congr 2
  rw [he,Array.mapM_eq_mapM_toList,Sem.run_bind,Sem.run_map,hv]
  simp only [Result.andThen_ok,Sem.run_pure,List.size_toArray]
  split<;>simp
 unfold ot at h
 split at h
 ·rename_i r hr
  split at h
  ·rename_i d hd
   obtain ⟨v,h1,h2⟩:=oa (P:=P) hs hd
   have hrun:=hres [v] (by rw [hr];simp [h1])
   simp only [List.length_cons,List.length_nil,Nat.zero_add,dite_true,List.getElem_cons_zero] at hrun
   rcases h2 with ⟨t,rfl,h2⟩|⟨_,h2⟩
   ·let φ:Who→Who:=fun o=>match o with
     | .slot i j=>if i=t then .slot 0 j else .slot 1 j
     |x=>x
    obtain ⟨H',hsb,h⟩:=h
    have hsub:HRel K w H':=(hs.sb (hsb hs.hrel.nd)).hrel
    refine ⟨v,d,H',relab φ K,hrun,h,slotφ_fk rfl (fun _ _=>rfl) (fun i j=>?_),jE hs.krel,yw ⟨fun _ _=>rfl,rfl⟩ hsub,YC (h2.conv (qC φ K w) (fun b m hb=>by rw [qR hb];simp [φ]))⟩
    simp only [φ]
    split
    ·exact ⟨_,_,rfl⟩
    ·exact ⟨_,_,rfl⟩
   ·obtain ⟨H',hsb,h⟩:=h
    exact ⟨v,d,H',K,hrun,h,.refl K w,hs.krel,(hs.sb (hsb hs.hrel.nd)).hrel,h2.viewO⟩
  ·exact h.elim
 ·rename_i rs hnr
  split at h
  ·rename_i ds hds
   obtain ⟨vs,g1,g2,g3,g4⟩:=oc (P:=P) hs _ _ hds
   have hrun:=hres vs g1
   have hl1:vs.length≠1:=fun e=>by
    have hl:fn.results.toList.length=1:=by omega
    match hq:fn.results.toList,hl with
    | [r],_=>exact hnr r hq
   rw [dif_neg hl1] at hrun
   let φ:Who→Who:=fun o=>match o with
    | .slot i j=>QW fn.results.toList 0 i
    |x=>x
   obtain ⟨H',hsb,h⟩:=h
   have hsub:HRel K w H':=(hs.sb (hsb hs.hrel.nd)).hrel
   refine ⟨.tuple vs.toArray,.tup ds,H',relab φ K,hrun,h,slotφ_fk rfl (fun _ _=>rfl) (fun i j=>uO _ _ _),jE hs.krel,yw ⟨fun _ _=>rfl,rfl⟩ hsub,vs.toArray,rfl,by simp [g2],fun j d u hd hu=>?_⟩
   have hu':vs[j]?=some u:=by simpa using hu
   have hj:j<fn.results.toList.length:=by rw [g3];exact (List.getElem?_eq_some_iff.1 hd).1
   rcases g4 j _ d u (List.getElem?_eq_getElem hj) hd hu' with ⟨t,ht,hc⟩|⟨_,hc⟩
   ·refine hc.conv (qC φ K w) (fun b m hb=>?_)
    rw [qR hb]
    have hp:=gG fn.results.toList 0 j t hk (by rw [List.getElem?_eq_getElem hj,ht])
    simp [φ,hp]
   ·exact (RepV.mono (qC φ K w) hc).repC (fun xs e=>by subst e;exact hc.not_own)
  ·exact h.elim
end
end Go.Aw
end
section
namespace Go.Aw
open Go Go.RowKit
def vv (o:Oper):Bool:=match o.op with
 | .defer _=>false
 |_=>true
theorem KY {o:Oper} (h:vv o=true):∀c,o.op≠ .defer c:=fun c hc=>by
 unfold vv at h
 rw [hc] at h
 cases h
section
variable {P:Program} {ops:Array Oper} {Q:Exit→Act→World→Prop} {l n:Nat} {md:Region.Mode}
theorem G7 {o:Oper} {a:Act} {w:World} {K:Act→World→Prop} (hd:vv o=true) (h:o.wp P a w K Q):o.wpIn (Fence.wide.inRound l) n P a w K Q:=by
 refine ⟨fun _ _=>trivial,?_⟩
 rw [Oper.semAt_eq _ _ _ (KY hd)]
 unfold Oper.wp at h
 generalize (execOp a.eval o).run P w=r at h
 cases r with
 | ok x w'=>
  cases x<;>simp only [Oper.upon,Oper.uponIn] at h ⊢<;>first
   |exact h
   |exact h.elim
   |exact ⟨fun h=>(by cases h),callsIn_wide.2 h⟩
   |exact ⟨fun h=>(by cases h),fun c cs _=>let ⟨v,w',r,s⟩:=h c cs;⟨v,w',r,stepsIn_wide.2 s⟩⟩
 |halt x w'=>cases x<;>simp only [Oper.upon,Oper.uponIn] at h ⊢<;>first|exact h|exact h.elim
theorem opi_in {i:Nat} {a:Act} {w:World} {K:Act→World→Prop} (hQ:∀a w,¬Q .outgrown a w) (hd:∀o∈ops.toList,vv o=true) (h:wpOp P ops Q i K a w):wpOpIn (Fence.wide.inRound l) n P ops Q i K a w:=by
 unfold wpOp at h
 unfold wpOpIn
 split
 ·rename_i ho
  simpa only [ho] using h
 ·rename_i o ho
  simp only [ho] at h
  have hm:o∈ops.toList:=by rw [←Array.getElem?_toList] at ho;exact List.mem_of_getElem? ho
  split
  ·rename_i hw;simp only [hw,if_true] at h;exact G7 (hd o hm) (h.resolve_right fun ⟨_,a,w,hq⟩=>hQ a w hq)
  ·rename_i hw;simp only [hw] at h;exact ⟨fun _ _=>trivial,h⟩
theorem Uq (hQ:∀a w,¬Q .outgrown a w) (hd:∀o∈ops.toList,vv o=true):∀(fuel:Nat) (listed:Array Bool) (a:Act) (w:World),wpAny P md ops Q fuel listed a w→wpAnyIn (Fence.wide.inRound l) n P md ops Q fuel listed a w
 |0,listed,a,w,h=>h
 |fuel+1,listed,a,w,h=>⟨h.1,fun i hi=>wpOpIn_mono (fun a' w' h'=>Uq hQ hd fuel _ a' w' h') (opi_in hQ hd (h.2 i hi))⟩
theorem K9 (hQ:∀a w,¬Q .outgrown a w):∀(os:List Oper) (a:Act) (w:World),(∀o∈os,vv o=true)→wpList P ops Q os a w→wpListIn (Fence.wide.inRound l) n P ops Q os a w
 | [],a,w,hd,h=>h
 | o::r,a,w,hd,h=>by
  unfold wpList at h
  unfold wpListIn
  split
  ·rename_i hw
   simp only [hw,if_true] at h
   exact G7 (hd o (.head _)) (Oper.wp_mono (fun a' w' h'=>K9 hQ r a' w' (fun o ho=>hd o (.tail _ ho)) h') (h.resolve_right fun ⟨_,a,w,hq⟩=>hQ a w hq))
  ·rename_i hw
   simp only [hw] at h
   exact ⟨fun _ _=>trivial,K9 hQ r _ _ (fun o ho=>hd o (.tail _ ho)) h⟩
end
end Go.Aw
end
section
namespace Go.Aw
open Go Go.RowKit
def isC (w:World) (b:Nat):Bool:=match w.heap[b]? with
  |some (.cells _ _ _)=>true
  |some (.map _ _)=>true
  |_=>false
theorem YR {w:World} {b:Nat} {c:Array Value} {T:TypeId} {fz:Nat×Nat} (h:w.heap[b]?=some (.cells c T fz)):isC w b=true:=by simp [isC,h]
theorem WK {w:World} {b:Nat} {c:Array MapEntry} {n:Nat} (h:w.heap[b]?=some (.map c n)):isC w b=true:=by simp [isC,h]
theorem Ya {w:World} {b j:Nat} {v:Value} (h:w.cell? ⟨b,j,none⟩=some v):isC w b=true:=by
  unfold World.cell? at h
  unfold isC
  cases ho:w.heap[b]? with
  |none=>simp [ho] at h
  |some o=>cases o<;>simp_all
def ReK (K K':Nat→BK) (w:World):Prop:=(∀b,isC w b=true→K b≠ .priv→K b≠ .tok 0 .outer→K' b=K b)∧∀b n c j,K b= .tok n (.cell c j)→K' b=K b
section
variable {K K':Nat→BK} {w:World}
theorem Zd (h:ReK K K' w) {b off n:Nat} (hv:Vis K w b off n) (hc:0<n→isC w b=true):Vis K' w b off n:=by
  refine ⟨hv.1,?_⟩
  rcases Nat.eq_zero_or_pos n with h0|hp
  · cases K' b with
    |imm=>trivial
    |tok m o=>exact .inl h0
    |priv=>exact h0
  · have h2:=hv.2
    have hne:K b≠ .priv:=fun e=>by rw [e] at h2;have h2':n=0:=h2;omega
    have hno:K b≠ .tok 0 .outer:=fun e=>by rw [e] at h2;have h2':n=0∨off+n≤0:=h2;omega
    rw [h.1 b (hc hp) hne hno]
    exact h2
theorem RepV.re (h:ReK K K' w) {d:D} {v:Value} (hr:RepV K w d v):RepV K' w d v:=by
  induction hr with
  |int k n h=>exact .int k n h
  |bool b=>exact .bool b
  |str s h=>exact .str s h
  |slcnil a=>exact .slcnil a
  | slc xs b off cap sz f hb hc hm hs hv hcell hone hrep ih=>
    refine .slc xs b off cap sz f hb hc hm hs (Zd h hv fun hp=>?_) hcell hone ih
    have h1:0<xs.length:=Nat.pos_of_ne_zero fun e=>by rw [e] at hp;simp at hp
    have h2:0<sz:=Nat.pos_of_ne_zero fun e=>by rw [e] at hp;simp at hp
    have h3:=List.getElem?_eq_getElem h1
    have h4:=hs 0 _ h3
    exact Ya (hcell 0 _ h3 0 _ (List.getElem?_eq_getElem (by rw [h4];exact h2)))
  |ptr b off=>exact .ptr b off
  | eptr cs b off f hv hcell hone hrep ih=>
    exact .eptr cs b off f (Zd h hv fun hp=>Ya (hcell 0 _ (List.getElem?_eq_getElem hp))) hcell hone ih
  |bnd g fs vs hl hrep ih=>exact .bnd g fs vs hl ih
  |fn g caps vs hb hl hrep ih=>exact .fn g caps vs hb hl ih
  |nilp=>exact .nilp
  |nilfn=>exact .nilfn
  |mp r=>exact .mp r
  |hsl b n cap hc hm hb=>exact .hsl b n cap hc hm hb
  |osl b cap xs hp h ih=>exact .osl b cap xs hp ih
  |oslnil b cap a=>exact .oslnil b cap a
  |agg cs vs hl hone hrep ih=>exact .agg cs vs hl hone ih
  |tup cs vs hl hrep ih=>exact .tup cs vs hl ih
  |mpv es b c hk hb hh hl hkey hval ih1 ih2=>exact .mpv es b c ((h.1 b (WK hh) (by rw [hk];simp) (by rw [hk];simp)).trans hk) hb hh hl ih1 ih2
  |yld l=>exact .yld l
  |hso b off n cap hp hc hm hb=>exact .hso b off n cap hp hc hm hb
  |hgs b n cap hc hm hb=>exact .hgs b n cap hc hm hb
  |any v=>exact .any v
theorem OwnAt.re (h:ReK K K' w) {o:Who} (hno:o≠ .outer) {xs:List (List D)} {v:Value} (ho:OwnAt K w o xs v):OwnAt K' w o xs v:=by
  rcases ho with ho|⟨b,cap,sz,c,T,hv,hk,hh,hcs,hp,hl,hm,hb,hs,hrep⟩
  · exact .inl ho
  · refine .inr ⟨b,cap,sz,c,T,hv,(h.1 b (YR hh) (by rw [hk];simp) (by rw [hk];simpa using fun _=>hno)).trans hk,hh,hcs,hp,hl,hm,hb,hs,fun i x hi j d hj=>?_⟩
    obtain ⟨u,e1,e2,e3⟩:=hrep i x hi j d hj
    exact ⟨u,e1,e2,e3.re h⟩
theorem RepC.re (h:ReK K K' w) {o:Who} (hno:o≠ .outer) {d:D} {v:Value} (hr:RepC K w o d v):RepC K' w o d v:=by
  cases d<;>first|exact OwnAt.re h hno hr|exact RepV.re h hr
theorem RepO.re (h:ReK K K' w) {i:Nat} {d:D} {v:Value} (hr:RepO K w i d v):RepO K' w i d v:=by
  cases d<;>first
    |exact OwnAt.re h (by simp) hr
    |exact RepV.re h hr
    | (obtain ⟨vs,hv,hl,hh⟩:=hr
       exact ⟨vs,hv,hl,fun j d u hd hu=>(hh j d u hd hu).re h (by simp)⟩)
theorem AO.re (h:ReK K K' w) {b:Nat} (hp:K b= .priv→K' b= .priv) {o:AO} (ho:o.at_ K w b):o.at_ K' w b:=by
  cases o with
  | cells cs=>
    obtain ⟨hk,c,T,hh,hc,hr⟩:=ho
    refine ⟨hp hk,c,T,hh,hc,fun j d hd=>?_⟩
    obtain ⟨u,e1,e2,e3⟩:=hr j d hd
    exact ⟨u,e1,e2,RepC.re h (by simp) e3⟩
  |room cap xs=>exact ⟨ho.1,OwnAt.re h (by simp) ho.2⟩
  | mp es=>
    obtain ⟨h1,c,h2,h3,h4⟩:=ho
    refine ⟨hp h1,c,h2,h3,fun j p hj=>?_⟩
    obtain ⟨e,e1,e2,e3,e4⟩:=h4 j p hj
    exact ⟨e,e1,e2,e3.re h,e4.re h⟩
  | lp J pre=>
    obtain ⟨⟨n,j,h1⟩,h2,h3⟩:=ho
    exact ⟨⟨n,j,(h.2 _ _ _ _ h1).trans h1⟩,h3 pre K w _ w h2 fun c n j hc=>⟨(h.2 _ _ _ _ hc).trans hc,rfl⟩,h3⟩
theorem St.re (h:ReK K K' w) {F:List D} {H:AH} {t:Array Value} (hs:St K w F H t) (hk:KRel K' w) (hp:∀b o,(b,o)∈H→K b= .priv→K' b= .priv):St K' w F H t:=
  ⟨hk,⟨hs.hrel.nd,fun b o hm=>AO.re h (hp b o hm) (hs.hrel.ok b o hm)⟩,hs.len,fun i d v hd hv=>(hs.slot i d v hd hv).re h⟩
theorem HRel.isC {H:AH} (h:HRel K w H) {b:Nat} {o:AO} (hm:(b,o)∈H) (hp:K b= .priv):isC w b=true:=by
  have:=h.ok b o hm
  cases o with
  |cells cs=>obtain ⟨_,c,T,hh,_⟩:=this;exact YR hh
  |mp es=>obtain ⟨_,c,hh,_⟩:=this;exact WK hh
  |lp J pre=>obtain ⟨⟨n,j,h1⟩,_⟩:=this;rw [hp] at h1;cases h1
  | room cap xs=>
    obtain ⟨hp,h2⟩:=this
    rcases h2 with ⟨rfl,_⟩|⟨b',cap',sz,c,T,hv,hk,hh,_⟩
    · simp at hp
    · injection hv with e
      injection e with e
      injection e with e
      subst e
      exact YR hh
def celT:BK→Bool
  | .tok _ (.cell _ _)=>true
  |_=>false
def oM (s:Nat) (w:World) (K:Nat→BK):Nat→BK:=fun b=>if s≤b∧b<w.heap.size∧isC w b=false∧celT (K b)=false then .priv else K b
theorem demK_re {s:Nat}:ReK K (oM s w K) w:=by
  refine ⟨fun b hb _ _=>?_,fun b n c j hb=>?_⟩
  · unfold oM
    rw [if_neg]
    rintro ⟨_,_,h,_⟩
    rw [hb] at h
    cases h
  · unfold oM
    rw [if_neg]
    rintro ⟨_,_,_,h⟩
    rw [hb] at h
    cases h
theorem Ub {s:Nat} (hk:KRel K w):KRel (oM s w K) w:=fun b hb=>by
  unfold oM
  rw [if_neg (by omega)]
  exact hk b hb
theorem St.dem {s:Nat} {F:List D} {H:AH} {t:Array Value} (hs:St K w F H t):St (oM s w K) w F H t:=
  hs.re demK_re (Ub hs.krel) fun b o hm hp=>by
    unfold oM
    split
    · rfl
    · exact hp
theorem FKm.dem {w':World} (hk:KRel K w) (h:FKm K w K' w'):FK K w (oM w.heap.size w' K') w':=by
  have hd:∀b,b<w.heap.size→oM w.heap.size w' K' b=K' b:=fun b hb=>by
    unfold oM
    rw [if_neg (by omega)]
  refine ⟨⟨h.ext.os,h.ext.tape,h.ext.output,h.ext.size,fun b hb hi=>?_,fun b n o hb hp=>?_,fun b hb=>?_⟩,fun b n hb=>?_,fun b n hb=>?_⟩
  · rw [hd b hb];exact h.ext.imm b hb hi
  · rw [hd b (hk.lt_of (by rw [hb];simp))];exact h.ext.tok b n o hb hp
  · rw [hd b (hk.lt_of (by rw [hb];simp))];exact h.ext.priv b hb
  · rw [hd b (hk.lt_of (by rw [hb];simp))];exact h.own b n hb
  · unfold oM at hb
    split at hb
    · cases hb
    · rename_i hn
      rcases h.new b n hb with h1|⟨h1,h2⟩
      · exact h1
      · exact (hn ⟨h1,(Array.getElem?_eq_some_iff.1 h2).1,by simp [isC,h2],by rw [hb];rfl⟩).elim
structure Sh (K:Nat→BK) (w w':World):Prop where
  os:w'.os=w.os
  tape:w'.tape=w.tape
  output:w'.output=w.output∧w.drawn≤w'.drawn
  size:w'.heap.size=w.heap.size
  same:∀b,K b≠ .priv∨isC w b=true→w'.heap[b]?=w.heap[b]?
theorem Sh.refl (K:Nat→BK) (w:World):Sh K w w:=⟨rfl,rfl,⟨rfl,Nat.le_refl _⟩,rfl,fun _ _=>rfl⟩
theorem UJ {w':World} {b:Nat} (h:w'.heap[b]?=w.heap[b]?):isC w' b=isC w b:=by unfold isC;rw [h]
theorem Sh.trans {w' w'':World} (h:Sh K w w') (g:Sh K w' w''):Sh K w w'':=
  ⟨g.os.trans h.os,g.tape.trans h.tape,⟨g.output.1.trans h.output.1,Nat.le_trans h.output.2 g.output.2⟩,g.size.trans h.size,fun b hb=>by
    have h1:=h.same b hb
    refine (g.same b ?_).trans h1
    rcases hb with hb|hb
    · exact .inl hb
    · exact .inr ((UJ h1).trans hb)⟩
theorem Sh.keep {w':World} (h:Sh K w w'):Keep noE (fun b=>isC w b=false∧K b= .priv) K w K w':=by
  refine ⟨⟨h.os,h.tape,h.output,Nat.le_of_eq h.size.symm,fun b hb hi=>⟨hi,h.same b (.inl (by rw [hi];simp))⟩,fun b n o hb _=>⟨n,o,hb,Nat.le_refl _,fun j _=>j3 (h.same b (.inl (by rw [hb];simp))) j⟩,fun b hb=>.inl hb⟩,
    fun b n o hb _=>⟨hb,h.same b (.inl (by rw [hb];simp))⟩,fun b n hb=>hb,fun b hb hB=>⟨hb,h.same b (.inr (by cases hc:isC w b with|true=>rfl|false=>exact (hB ⟨hc,hb⟩).elim))⟩⟩
theorem Sh.st {w':World} (h:Sh K w w') {F:List D} {H:AH} {t:Array Value} (hs:St K w F H t):St K w' F H t:=
  ⟨fun b hb=>hs.krel b (by rw [←h.size];exact hb),hs.hrel.keep h.keep (fun b o hm=>⟨fun hc=>(by have h2:=hc.1;rw [hs.hrel.isC hm hc.2] at h2;cases h2),fun _ h=>h⟩),hs.len,fun i d v hd hv=>(hs.slot i d v hd hv).keep h.keep (fun _ h=>h)⟩
theorem Sh.fk {w':World} (h:Sh K w w'):FK K w K w':=h.keep.fk (fun h=>h)
theorem Sh.put {b:Nat} {o:Obj} (hp:K b= .priv) (hc:isC w b=false):Sh K w (w.putObj b o):=
  ⟨rfl,rfl,⟨rfl,Nat.le_refl _⟩,by simp,fun c hb=>World.putObj_heap_other fun e=>by
    subst e
    rcases hb with hb|hb
    · exact hb hp
    · rw [hc] at hb;cases hb⟩
theorem Wu {P:Program} {fn:Func} {tmps:Array Value} {R:Ending→World→Prop} {n:Nat}:∀(Ds:List Nat) (w:World),Ds.Nodup→(∀D∈Ds,K D= .priv∧w.heap[D]?=some (.deferred (some [])))→
    (∀w',Sh K w w'→∃v,(results fn tmps).run P w'= .ok v w'∧R (.returned v) w')→LeavesInM Fence.wide n P fn tmps R (Ds.map fun D=>{target:= .collected D,args:=#[]}) .returning w
  | [],w,_,_,h=>h w (.refl K w)
  | D::Ds,w,hn,hD,h=>by
    obtain ⟨h1,h2⟩:=hD D (.head _)
    have hsh:Sh K w (w.putObj D (.deferred none)):=Sh.put h1 (by simp [isC,h2])
    refine ⟨by simp,.inl ⟨D,_,rfl,run_takeDeferred h2,Wu Ds _ (List.nodup_cons.1 hn).2 (fun D' hD'=>⟨(hD D' (.tail _ hD')).1,?_⟩) fun w' hw=>h w' (hsh.trans hw)⟩⟩
    rw [World.putObj_heap_other]
    · exact (hD D' (.tail _ hD')).2
    · rintro rfl
      exact (List.nodup_cons.1 hn).1 hD'
end
theorem zU {P:Program} {f:FuncId} {fn:Func} {c:Code} {K:Nat→BK} {w:World} {F:List D} {H:AH} {Q:AQ} {vs:Array Value} {R:Ending→World→Prop} (hf:P.funcs[f]?=some fn) (hb:fn.body=some c)
    (hw:AW P c F H Q) (hst:St K w F H (vs++Array.replicate (fn.ntmps - vs.size) undef))
    (hend:∀e F' H' K' w' (a':Act),Q e F' H'→FK K w K' w'→St K' w' F' H' a'.tmps→(e= .normal∨e= .ret)∧∃v,(results fn a'.tmps).run P w'= .ok v w'∧R (.returned v) w'):Calls P f vs w R:=by
  refine (callsIn_wide (n:=3)).1 (callsIn_of_wp_marks hf hb trivial (wpIn_wide.2 (wp_mono (hw K w {tmps:=vs++Array.replicate (fn.ntmps - vs.size) undef,defers:= []} w.heap.size hst ⟨Nat.le_refl _,Mk.nil K w _⟩) fun e a' w' ⟨F',H',K',g1,g2,g3,g4,g5⟩=>?_)) rfl)
  obtain ⟨Ds,d1,d2,d3⟩:=g5
  have hfk:=g2.dem hst.krel
  have hst':St (oM w.heap.size w' K') w' F' H' a'.tmps:=g3.dem
  have key:LeavesInM Fence.wide 3 P fn a'.tmps R a'.defers .returning w':=by
    rw [d2]
    refine Wu (K:=oM w.heap.size w' K') Ds w' d1 (fun D hD=>⟨?_,(d3 D hD).2.2⟩) fun w'' hw'=>(hend e F' H' _ w'' a' g1 (hfk.trans hw'.fk) (hw'.st hst')).2
    unfold oM
    rw [if_pos ⟨(d3 D hD).1,(Array.getElem?_eq_some_iff.1 (d3 D hD).2.2).1,by simp [isC,(d3 D hD).2.2],by rw [(d3 D hD).2.1];rfl⟩]
  rcases (hend e F' H' _ w' a' g1 hfk hst').1 with rfl|rfl
  · exact key
  · exact key
end Go.Aw
end
