/- A part of the proof of what the last text says: AwR, AwU, AwL, Aw16. Conditions: those in each theorem. -/
import Derived.Test.YtoeckfegggongaaGreatDoorV7
import Derived.OrdersIn
import Derived.TacticsIn
import Derived.RangeFuncLeaves
import Derived.RangeFuncWrites
import Derived.Scope
set_option linter.unusedVariables false
set_option linter.unusedSimpArgs false
set_option maxRecDepth 100000
set_option maxHeartbeats 16000000
open Nat renaming reduceSub → qa,reduceAdd → qb,reduceMul → qc,reduceEqDiff → qd,reduceLeDiff → qe,reduceBEq → qf
section
namespace Go.Aw
open Go Go.RowKit
def Gz (F : List D) (H : AH) (k : List D → AH → Prop) : Prop :=
 ∀ (K : Nat → BK) (w : World) (t : Array Value),St K w F H t → ∃ F' H' K',k F' H' ∧ FK K w K' w ∧ St K' w F' H' t
section
variable {F : List D} {H : AH} {k : List D → AH → Prop}
theorem Gz.of_fz {F' : List D} {H' : AH} (hz : Fz F H F' H') (h : k F' H') : Gz F H k := fun K w t hs =>
 let ⟨K',h1,h2⟩ := hz K w t hs
 ⟨F',H',K',h,h1,h2⟩
theorem Gz.mono {k' : List D → AH → Prop} (h : ∀ F' H',k F' H' → k' F' H') (hg : Gz F H k) : Gz F H k' := fun K w t hs =>
 let ⟨F',H',K',h1,h2,h3⟩ := hg K w t hs
 ⟨F',H',K',h F' H' h1,h2,h3⟩
theorem Gz.bind {k' : List D → AH → Prop} (hg : Gz F H k) (h : ∀ F' H',k F' H' → Gz F' H' k') : Gz F H k' := fun K w t hs =>
 let ⟨F',H',K',h1,h2,h3⟩ := hg K w t hs
 let ⟨F'',H'',K'',g1,g2,g3⟩ := h F' H' h1 K' w t h3
 ⟨F'',H'',K'',g1,h2.trans g2,g3⟩
theorem gS {p q : Who} {K : Nat → BK} {w : World} {bs : List Nat} (hp : ∀ c j,c ∉ bs → p ≠ .cell c j) {H : AH} (hn : (H.map (·.1)).Nodup) (hb : ∀ c o,(c,o) ∈ H → c ∉ bs ∧ AO.at_ K w c o) : HRel (relab (mvφ p q) K) w H := by
 refine ⟨hn,fun c o hm=>?_⟩
 obtain ⟨h1,h2⟩ := hb c o hm
 have conv : ∀ b n j,K b = .tok n (.cell c j) → relab (mvφ p q) K b = .tok n (.cell c j) := fun b n j hb'=>by
  rw [j4 hb']
  simp only [mvφ,BK.tok.injEq,true_and]
  rw [if_neg (fun e=>hp c j h1 e.symm)]
 cases o with
 | cells cs =>
  obtain ⟨g1,c',T',g2,g3,g4⟩ := h2
  refine ⟨relab_priv.2 g1,c',T',g2,g3,fun j d' hd'=>?_⟩
  obtain ⟨u',q1,q2,q3⟩ := g4 j d' hd'
  exact ⟨u',q1,q2,q3.conv (qL _ K w) (fun b n hb'=>conv b n j hb')⟩
 | room cap xs=>exact ⟨h2.1,h2.2.conv (qL _ K w) (fun b n hb'=>conv b n 0 hb')⟩
theorem RepV.osl_inv {K : Nat → BK} {w : World} {b cap : Nat} {xs : List (List D)} {v : Value} (h : RepV K w (.osl b cap xs) v) : (xs = [] ∧ ∃ a,v = .slice a 0 0) ∨ (xs ≠ [] ∧ v = .slice (some ⟨b,0,none⟩) xs.length cap) := by
 cases h with
 | osl _ _ _ hp _=>exact .inr ⟨fun e=>by subst e; simp at hp,rfl⟩
 | oslnil _ _ a=>exact .inl ⟨rfl,a,rfl⟩
def jr (H : AH) (b : Nat) (xs : List (List D)) : AH := if xs = [] then H else jB H b
theorem dropR_sub {b : Nat} {xs : List (List D)} : (jr H b xs).Sublist H := by
 unfold jr
 split
 ·exact List.Sublist.refl _
 ·exact erase_sub
theorem vm {b : Nat} : ∀ {H : AH},qZ H b → ∀ {x : Nat × AO},x ∈ H → x.1 ≠ b
 | [],_,x,h=>by cases h
 | (c,o) :: r,hf,x,h=>by
  rcases List.mem_cons.1 h with rfl | h
  ·exact Ne.symm hf.1
  ·exact vm hf.2 h
theorem Gz.take {bx j b cap : Nat} {cs : List D} {xs : List (List D)} (hj : cs[j]? = some (.osl b cap xs)) (hr : xs ≠ [] → qK H b = some (.room cap xs)) (h : k F ((bx,.cells (cs.set j (.own xs))) :: jr H b xs)) : Gz F ((bx,.cells cs) :: H) k := by
 intro K w t hs
 have hnd := hs.hrel.nd
 simp only [List.map_cons,List.nodup_cons] at hnd
 obtain ⟨hbx,hnd⟩ := hnd
 obtain ⟨hpb,c,T,hb,hcs,hrc⟩ := hs.hrel.ok bx _ (.head _)
 obtain ⟨u,e1,e2,e3⟩ := hrc j _ hj
 have hu : RepV K w (.osl b cap xs) u := e3
 by_cases hx : xs = []
 ·subst hx
  have ho : ∃ a,u = .slice a 0 0 := by
   rcases hu.osl_inv with ⟨_,h⟩ | ⟨h,_⟩
   ·exact h
   ·exact (h rfl).elim
  obtain ⟨a,rfl⟩ := ho
  refine ⟨F,_,K,h,.refl K w,hs.krel,⟨?_,fun c' o' hm=>?_⟩,hs.len,hs.slot⟩
  ·simp only [jr,if_true,List.map_cons,List.nodup_cons]; exact ⟨hbx,hnd⟩
  ·simp only [jr,if_true] at hm
   rcases List.mem_cons.1 hm with hm | hm
   ·injection hm with g1 g2
    subst g1 g2
    refine ⟨hpb,c,T,hb,by simpa using hcs,fun q d hd=>?_⟩
    rcases getElem?_set_some hd with ⟨rfl,rfl,_⟩ | ⟨hne,hd⟩
    ·exact ⟨_,e1,e2,.inl ⟨rfl,a,rfl⟩⟩
    ·exact hrc q d hd
   ·exact hs.hrel.ok c' o' (.tail _ hm)
 ·have hm := hr hx
  have hmem := jp hm
  obtain ⟨hp,hown⟩ := hs.hrel.ok b _ (.tail _ hmem)
  have hbne : b ≠ bx := fun e=>hbx (List.mem_map.2 ⟨(b,_),hmem,e⟩)
  have huv : u = .slice (some ⟨b,0,none⟩) xs.length cap := by
   rcases hu.osl_inv with ⟨h,_⟩ | ⟨_,h⟩
   ·exact (hx h).elim
   ·exact h
  subst huv
  let φ := mvφ (.cell b 0) (.cell bx j)
  have hk : ∀ {xs' : List (List D)} {v : Value},OwnAt K w (.cell b 0) xs' v → OwnAt (relab φ K) w (.cell bx j) xs' v := fun ho=>OwnAt.conv (qL φ K w) (fun b' n hb'=>by rw [j4 hb']; simp [φ,mvφ]) ho
  have hbcell : ∀ b' n j',K b' = .tok n (.cell bx j') → relab φ K b' = .tok n (.cell bx j') := fun b' n j' hb'=>by
   rw [j4 hb']
   simp only [φ,mvφ,BK.tok.injEq,true_and]
   rw [if_neg]
   intro e
   injection e with e _
   exact hbne e.symm
  have hin := gS (p := .cell b 0) (q := .cell bx j) (K := K) (w := w) (bs := [b]) (fun c j hc e=>by injection e with e _; exact hc (by simp [e])) (H := jB H b) ((erase_sub.map (·.1)).nodup hnd) (fun c o hm=>⟨by simpa using wE hnd hm,hs.hrel.ok c o (.tail _ (erase_sub.subset hm))⟩)
  refine ⟨F,_,relab φ K,h,gp (by simp) (by simp),jI hs.krel,⟨?_,fun c' o' hm'=>?_⟩,hs.len,fun i d v hd hv=>ue (fun j e=>by cases e) (hs.slot i d v hd hv)⟩
  ·simp only [jr,if_neg hx,List.map_cons,List.nodup_cons]
   exact ⟨fun hh=>hbx ((erase_sub.map (·.1)).subset hh),hin.nd⟩
  ·simp only [jr,if_neg hx] at hm'
   rcases List.mem_cons.1 hm' with hm' | hm'
   ·injection hm' with g1 g2
    subst g1 g2
    refine ⟨relab_priv.2 hpb,c,T,hb,by simpa using hcs,fun q d hd=>?_⟩
    rcases getElem?_set_some hd with ⟨rfl,rfl,_⟩ | ⟨hne,hd⟩
    ·exact ⟨_,e1,e2,hk hown⟩
    ·obtain ⟨u',f1,f2,f3⟩ := hrc q d hd
     exact ⟨u',f1,f2,f3.conv (qL φ K w) (fun b' n hb'=>hbcell b' n q hb')⟩
   ·exact hin.ok c' o' hm'
theorem Gz.give {bx j : Nat} {cs : List D} {xs : List (List D)} (hx : xs ≠ []) (hg : qK H bx = some (.cells cs)) (hj : cs[j]? = some (.own xs)) (h : ∀ b cap,qZ H b → k F ((b,.room cap xs) :: qY H bx (.cells (cs.set j (.osl b cap xs))))) : Gz F H k := by
 intro K w t hs
 obtain ⟨hpb,c,T,hb,hcs,hrc⟩ := hs.hrel.ok bx _ (jp hg)
 obtain ⟨u,e1,e2,e3⟩ := hrc j _ hj
 have hown : OwnAt K w (.cell bx j) xs u := e3
 rcases hown with ⟨rfl,_⟩ | ⟨b,cap,sz,c2,T2,rfl,hkb,hh,hcs2,hp,hl,hm,hbg,hs2,hrep⟩
 ·exact (hx rfl).elim
 ·have hown : OwnAt K w (.cell bx j) xs (.slice (some ⟨b,0,none⟩) xs.length cap) := .inr ⟨b,cap,sz,c2,T2,rfl,hkb,hh,hcs2,hp,hl,hm,hbg,hs2,hrep⟩
  have hfr : qZ H b := uf fun x hx' e=>by
   obtain ⟨c',o'⟩ := x
   simp only at e
   subst e
   have := hs.hrel.ok c' o' hx'
   cases o' with
   | cells cs'=>rw [this.1] at hkb; cases hkb
   | room cap' xs' =>
    rcases this.2 with ⟨q1,_⟩ | ⟨b',cap',sz',c3,T3,q1,q2,_⟩
    ·have := this.1; rw [q1] at this; simp at this
    ·injection q1 with q1; injection q1 with q1; injection q1 with q1; subst q1
     rw [hkb] at q2
     injection q2 with _ q2
     injection q2 with q2 _
     subst q2
     rw [hpb] at hkb
     cases hkb
  let φ := mvφ (.cell bx j) (.cell b 0)
  have hk : ∀ {xs' : List (List D)} {v : Value},OwnAt K w (.cell bx j) xs' v → OwnAt (relab φ K) w (.cell b 0) xs' v := fun ho=>OwnAt.conv (qL φ K w) (fun b' n hb'=>by rw [j4 hb']; simp [φ,mvφ]) ho
  have conv : ∀ c' j',(c' ≠ bx ∨ j' ≠ j) → ∀ b' n,K b' = .tok n (.cell c' j') → relab φ K b' = .tok n (.cell c' j') := fun c' j' hne b' n hb'=>by
   rw [j4 hb']
   simp only [φ,mvφ,BK.tok.injEq,true_and]
   rw [if_neg]
   intro e
   injection e with e1 e2
   rcases hne with hne | hne
   ·exact hne e1
   ·exact hne e2
  refine ⟨F,_,relab φ K,h b cap hfr,gp (by simp) (by simp),jI hs.krel,⟨?_,fun c' o' hm'=>?_⟩,hs.len,fun i d v hd hv=>ue (fun j e=>by cases e) (hs.slot i d v hd hv)⟩
  ·simp only [List.map_cons,List.nodup_cons]
   refine ⟨fun hh'=>?_,by rw [yf]; exact hs.hrel.nd⟩
   rw [yf] at hh'
   obtain ⟨x,hx1,hx2⟩ := List.mem_map.1 hh'
   have := vm hfr hx1
   exact this hx2
  ·rcases List.mem_cons.1 hm' with hm' | hm'
   ·injection hm' with g1 g2
    subst g1 g2
    exact ⟨hp,hk hown⟩
   ·rcases wo hs.hrel.nd hm' with ⟨rfl,rfl⟩ | ⟨hne,hm'⟩
    ·refine ⟨relab_priv.2 hpb,c,T,hb,by simpa using hcs,fun q d hd=>?_⟩
     rcases getElem?_set_some hd with ⟨rfl,rfl,_⟩ | ⟨hneq,hd⟩
     ·exact ⟨_,e1,e2,RepV.mono (qL φ K w) (.osl b cap xs hp (OwnAt.rep hown))⟩
     ·obtain ⟨u',f1,f2,f3⟩ := hrc q d hd
      exact ⟨u',f1,f2,f3.conv (qL φ K w) (fun b' n hb'=>conv _ q (.inr (Ne.symm hneq)) b' n hb')⟩
    ·have := hs.hrel.ok c' o' hm'
     cases o' with
     | cells cs' =>
      obtain ⟨g1,c3,T',g2,g3,g4⟩ := this
      refine ⟨relab_priv.2 g1,c3,T',g2,g3,fun q d' hd'=>?_⟩
      obtain ⟨u',q1,q2,q3⟩ := g4 q d' hd'
      exact ⟨u',q1,q2,q3.conv (qL φ K w) (fun b' n hb'=>conv c' q (.inl hne) b' n hb')⟩
     | room cap' xs'=>exact ⟨this.1,this.2.conv (qL φ K w) (fun b' n hb'=>conv c' 0 (.inl hne) b' n hb')⟩
def Sb (H' H : AH) : Prop := (H'.map (·.1)).Nodup ∧ ∀ p ∈ H',p ∈ H
theorem Sb.back {n : Nat} (hn : (H.map (·.1)).Nodup) : Sb (Go.Aw.back n H) H := ⟨((u5 n H).map (·.1)).nodup hn,fun p hp=>(u5 n H).subset hp⟩
theorem St.sb {K : Nat → BK} {w : World} {H' : AH} {t : Array Value} (h : St K w F H t) (hs : Sb H' H) : St K w F H' t :=
 ⟨h.krel,⟨hs.1,fun b o hm=>h.hrel.ok b o (hs.2 _ hm)⟩,h.len,h.slot⟩
theorem Gz.sb {H' : AH} (hs : (H.map (·.1)).Nodup → Sb H' H) (h : k F H') : Gz F H k := fun K w t hst=>⟨F,H',K,h,.refl K w,hst.sb (hs hst.hrel.nd)⟩
def D.wk : D → D
 | .osl _ _ xs=>.slc xs
 | .own xs=>.own xs
 | d=>d
theorem RepV.wk {K : Nat → BK} {w : World} {d : D} {v : Value} (h : RepV K w d v) : RepV K w d.wk v := by
 cases d <;> first | exact h | (cases h <;> first | assumption | exact .slcnil _)
theorem Gz.weak {bx : Nat} {cs : List D} (hg : qK H bx = some (.cells cs)) (h : k F (qY H bx (.cells (cs.map D.wk)))) : Gz F H k := by
 intro K w t hs
 refine ⟨F,_,K,h,.refl K w,hs.krel,⟨by rw [yf]; exact hs.hrel.nd,fun c' o' hm'=>?_⟩,hs.len,hs.slot⟩
 rcases wo hs.hrel.nd hm' with ⟨rfl,rfl⟩ | ⟨hne,hm'⟩
 ·obtain ⟨hpb,c,T,hb,hcs,hrc⟩ := hs.hrel.ok c' _ (jp hg)
  refine ⟨hpb,c,T,hb,by simpa using hcs,fun j d hd=>?_⟩
  rw [List.getElem?_map,Option.map_eq_some_iff] at hd
  obtain ⟨d',e1,rfl⟩ := hd
  obtain ⟨u,f1,f2,f3⟩ := hrc j d' e1
  refine ⟨u,f1,f2,?_⟩
  cases d' <;> first | exact f3 | exact RepV.wk f3
 ·exact hs.hrel.ok c' o' hm'
def Q5 : D → D
 | .own []=>.osl 0 0 []
 | d=>d.view1
def zbH (P : Program) (t : TypeId) (ps : List (Nat × Operand)) (dst : Option Tmp) (F : List D) (H : AH) (k : List D → AH → Prop) : Prop :=
 match yF P t with
 | some z=>ko P t = true ∧ (∀ p ∈ ps.map fun p=>(p.1,rv F p.2),okc p.2 = true) ∧ yX P t ((ps.map fun p=>(p.1,rv F p.2)).map fun p=>(p.1,cellsOf p.2)) (z.map Q5) fun cs=>k (j0 F dst (.agg cs)) H
 | none=>False
theorem Yh {P : Program} {o : Oper} {K : Nat → BK} {w : World} {a : Act} {Q : Exit → Act → World → Prop} (hs : St K w F H a.tmps) (hok : jR o = true) {t : TypeId} {ps : Array (Nat × Operand)} (ho : o.op = .build t ps) (h : zbH P t ps.toList o.dst F H k) : o.wp P a w (OKd k K w a.defers) Q := by
 have hops := hs.ops (xs := o.op.operands) (by unfold jR at hok; simp only [Bool.and_eq_true] at hok; exact hok.1)
 unfold zbH at h
 split at h
 ·rename_i z hz
  obtain ⟨hfo,hokc,h⟩ := h
  obtain ⟨i,zv,hi,hzv,z1,z2,z3,z4⟩ := yx hz
  obtain ⟨place,hplace,hbuild⟩ := zg hfo
  ·have e := u4 (P := P) (t := t) (K := K) (w := w) place hplace (ps.toList.map fun p=>(p.1,rv F p.2)) (ps.toList.map fun p=>(p.1,a.eval p.2)) (z.map Q5) zv.cells (fun cs=>k (j0 F o.dst (.agg cs)) H)
    hokc (by simp)
    (fun i p q hp hq=>by
     simp only [List.getElem?_map,Option.map_eq_some_iff] at hp hq
     obtain ⟨x,hx,rfl⟩ := hp
     obtain ⟨b,hb,rfl⟩ := hq
     rw [hx] at hb
     obtain rfl := Option.some.inj hb
     exact ⟨rfl,hops x.2 (by simp only [ho,Op.operands]; simp only [List.mem_map]; exact ⟨x,List.mem_of_getElem? hx,rfl⟩)⟩)
    (by rw [z1]; simp) (fun j u hu=>(z3 j u hu).1)
    (fun j d u hd hu=>by
     rw [List.getElem?_map,Option.map_eq_some_iff] at hd
     obtain ⟨d',e1,rfl⟩ := hd
     have hc := z4 j d' u e1 hu
     rcases JL K w (z3 j u hu).2 with h1 | ⟨x,h1,h2⟩
     ·rw [← hc] at h1
      have : Q5 d' = d' := by cases d' <;> first | rfl | exact h1.not_own.elim
      rw [this]
      exact h1
     ·rw [hc,h1,h2]
      exact .oslnil 0 0 x) h
   obtain ⟨cs,r,g1,g2,g3,g4⟩ := e
   have hrun : (Instr.build t (ps.map fun p=>(p.1,a.eval p.2))).run P w = .ok (.agg r) w := by
    refine hbuild w i zv _ r hi hzv ?_
    have : (ps.map fun p=>(p.1,a.eval p.2)).toList = ps.toList.map fun p=>(p.1,a.eval p.2) := by simp
    rw [this,g3]
   refine j7 (v := .agg r) (w' := w) ?_ ⟨_,H,K,g1,.refl K w,hs.put ((Pres.refl K w).keep hs.krel) (fun _ _ h=>h) hs.krel hs.hrel o.dst (fun i _=>g4.viewO),qS _ _⟩
   simp only [execOp,ho,Sem.run_bind]
   have : (ps.map fun x=>match x with | (i,x)=>(i,a.eval x)) = ps.map fun p=>(p.1,a.eval p.2) := rfl
   rw [this,hrun]
   rfl
 ·exact h.elim
theorem Gz.giveS {s : Nat} {xs : List (List D)} (hx : xs ≠ []) (hF : F.getD s .any = .own xs) (h : ∀ b cap,qZ H b → k (F.set s (.osl b cap xs)) ((b,.room cap xs) :: H)) : Gz F H k := by
 intro K w t hs
 have hlt : s < F.length := by
  rcases Nat.lt_or_ge s F.length with h' | h'
  ·exact h'
  ·rw [List.getD_eq_getElem?_getD,List.getElem?_eq_none h'] at hF
   cases hF
 have h1 : F[s]? = some (.own xs) := by
  rw [List.getD_eq_getElem?_getD,List.getElem?_eq_getElem hlt] at hF
  rw [List.getElem?_eq_getElem hlt]
  exact congrArg some hF
 have hts : s < t.size := by rw [hs.len]; exact hlt
 have hown : OwnAt K w (.slot s 0) xs t[s] := hs.slot s _ _ h1 (Array.getElem?_eq_getElem hts)
 have hrep := hown.rep
 generalize htv : t[s] = tv at hown hrep
 rcases hown with ⟨rfl,_⟩ | ⟨b,cap,sz,c2,T2,rfl,hkb,hh,hcs2,hp,hl,hm,hbg,hs2,hrp⟩
 ·exact (hx rfl).elim
 ·have hown : OwnAt K w (.slot s 0) xs (.slice (some ⟨b,0,none⟩) xs.length cap) := .inr ⟨b,cap,sz,c2,T2,rfl,hkb,hh,hcs2,hp,hl,hm,hbg,hs2,hrp⟩
  have hfr : qZ H b := uf fun x hx' e=>by
   obtain ⟨c',o'⟩ := x
   simp only at e
   subst e
   have := hs.hrel.ok c' o' hx'
   cases o' with
   | cells cs'=>rw [this.1] at hkb; cases hkb
   | room cap' xs' =>
    rcases this.2 with ⟨q1,_⟩ | ⟨b',cap',sz',c3,T3,q1,q2,_⟩
    ·have := this.1; rw [q1] at this; simp at this
    ·injection q1 with q1; injection q1 with q1; injection q1 with q1; subst q1
     rw [hkb] at q2
     injection q2 with _ q2
     cases q2
  let φ := mvφ (.slot s 0) (.cell b 0)
  have hH := gS (p := .slot s 0) (q := .cell b 0) (K := K) (w := w) (bs := []) (fun c j _ e=>by cases e) hs.hrel.nd (fun c o hm=>⟨by simp,hs.hrel.ok c o hm⟩)
  refine ⟨_,_,relab φ K,h b cap hfr,gp (by simp) (by simp),jI hs.krel,⟨?_,fun c' o' hm'=>?_⟩,by simpa using hs.len,fun i d v hd hv=>?_⟩
  ·simp only [List.map_cons,List.nodup_cons]
   refine ⟨fun hh'=>?_,hs.hrel.nd⟩
   obtain ⟨x,hx1,hx2⟩ := List.mem_map.1 hh'
   exact vm hfr hx1 hx2
  ·rcases List.mem_cons.1 hm' with hm' | hm'
   ·injection hm' with g1 g2
    subst g1 g2
    exact ⟨hp,OwnAt.conv (qL φ K w) (fun b' n hb'=>by rw [j4 hb']; simp [φ,mvφ]) hown⟩
   ·exact hH.ok c' o' hm'
  ·rcases getElem?_set_some hd with ⟨rfl,rfl,_⟩ | ⟨hne,hd⟩
   ·have hv' : v = .slice (some ⟨b,0,none⟩) xs.length cap := by
     rw [Array.getElem?_eq_getElem hts,htv] at hv
     exact (Option.some.inj hv).symm
    subst hv'
    exact (RepV.osl b cap xs hp (RepV.mono (qL φ K w) hrep)).viewO
   ·exact ue (fun j e=>by injection e with e1 _; exact hne e1) (hs.slot i d v hd hv)
theorem Gz.takeS {s b cap : Nat} {xs : List (List D)} (hF : F.getD s .any = .osl b cap xs) (hr : xs ≠ [] → qK H b = some (.room cap xs)) (h : k (F.set s (.own xs)) (jr H b xs)) : Gz F H k := by
 intro K w t hs
 have hlt : s < F.length := by
  rcases Nat.lt_or_ge s F.length with h' | h'
  ·exact h'
  ·rw [List.getD_eq_getElem?_getD,List.getElem?_eq_none h'] at hF
   cases hF
 have h1 : F[s]? = some (.osl b cap xs) := by
  rw [List.getD_eq_getElem?_getD,List.getElem?_eq_getElem hlt] at hF
  rw [List.getElem?_eq_getElem hlt]
  exact congrArg some hF
 have hts : s < t.size := by rw [hs.len]; exact hlt
 have hu : RepV K w (.osl b cap xs) t[s] := hs.slot s _ _ h1 (Array.getElem?_eq_getElem hts)
 by_cases hx : xs = []
 ·subst hx
  have ho : ∃ a,t[s] = .slice a 0 0 := by
   rcases hu.osl_inv with ⟨_,h⟩ | ⟨h,_⟩
   ·exact h
   ·exact (h rfl).elim
  refine ⟨_,_,K,h,.refl K w,hs.krel,by simpa only [jr,if_true] using hs.hrel,by simpa using hs.len,fun i d v hd hv=>?_⟩
  rcases getElem?_set_some hd with ⟨rfl,rfl,_⟩ | ⟨hne,hd⟩
  ·rw [Array.getElem?_eq_getElem hts] at hv
   obtain rfl := Option.some.inj hv
   exact .inl ⟨rfl,ho⟩
  ·exact hs.slot i d v hd hv
 ·have hmem := jp (hr hx)
  obtain ⟨hp,hown⟩ := hs.hrel.ok b _ hmem
  have huv : t[s] = .slice (some ⟨b,0,none⟩) xs.length cap := by
   rcases hu.osl_inv with ⟨h,_⟩ | ⟨_,h⟩
   ·exact (hx h).elim
   ·exact h
  let φ := mvφ (.cell b 0) (.slot s 0)
  have hin := gS (p := .cell b 0) (q := .slot s 0) (K := K) (w := w) (bs := [b]) (fun c j hc e=>by injection e with e _; exact hc (by simp [e])) (H := jB H b) ((erase_sub.map (·.1)).nodup hs.hrel.nd) (fun c o hm=>⟨by simpa using wE hs.hrel.nd hm,hs.hrel.ok c o (erase_sub.subset hm)⟩)
  refine ⟨_,_,relab φ K,h,gp (by simp) (by simp),jI hs.krel,by simpa only [jr,if_neg hx] using hin,by simpa using hs.len,fun i d v hd hv=>?_⟩
  rcases getElem?_set_some hd with ⟨rfl,rfl,_⟩ | ⟨hne,hd⟩
  ·rw [Array.getElem?_eq_getElem hts,huv] at hv
   obtain rfl := Option.some.inj hv
   exact OwnAt.conv (qL φ K w) (fun b' n hb'=>by rw [j4 hb']; simp [φ,mvφ]) hown
  ·exact ue (fun j e=>by cases e) (hs.slot i d v hd hv)
theorem Gz.viewC {bx j : Nat} {cs : List D} {xs : List (List D)} (hg : qK H bx = some (.cells cs)) (hj : cs[j]? = some (.own xs)) (h : k F (qY H bx (.cells (cs.set j (.slc xs))))) : Gz F H k := by
 intro K w t hs
 refine ⟨F,_,K,h,.refl K w,hs.krel,⟨by rw [yf]; exact hs.hrel.nd,fun c' o' hm'=>?_⟩,hs.len,hs.slot⟩
 rcases wo hs.hrel.nd hm' with ⟨rfl,rfl⟩ | ⟨hne,hm'⟩
 ·obtain ⟨hpb,c,T,hb,hcs,hrc⟩ := hs.hrel.ok c' _ (jp hg)
  refine ⟨hpb,c,T,hb,by simpa using hcs,fun q d hd=>?_⟩
  rcases getElem?_set_some hd with ⟨rfl,rfl,_⟩ | ⟨_,hd⟩
  ·obtain ⟨u,f1,f2,f3⟩ := hrc _ _ hj
   exact ⟨u,f1,f2,(show OwnAt K w _ xs u from f3).rep⟩
  ·exact hrc q d hd
 ·exact hs.hrel.ok c' o' hm'
def bsR (P : Program) (t : TypeId) (args : List Operand) (dst : Option Tmp) (F : List D) (H : AH) (k : List D → AH → Prop) : Prop := match yE P t,dst with
 | some (e,sz),some d=>args ≠ [] ∧ d < F.length ∧ (∀ x ∈ args,okc (rv F x) = true ∧ (cellsOf (rv F x)).length = sz) ∧ args.length * sz ≤ 16777216 ∧ (yF P e).isSome = true ∧
  ∀ b cap,qZ H b → k (F.set d (.osl b cap (args.map fun x=>cellsOf (rv F x)))) ((b,.room cap (args.map fun x=>cellsOf (rv F x))) :: H)
 | _,_=>False
theorem stp_bsR {P : Program} {o : Oper} {ops : List Oper} {K : Nat → BK} {w : World} {a : Act} {Q : Exit → Act → World → Prop} (hs : St K w F H a.tmps) (hok : jR o = true) {t : TypeId} {args : List Operand} (ho : o.op = .buildSlice t args.length ((List.range args.length).zip args).toArray) (h : bsR P t args o.dst F H k) : o.wp P a w (OKd k K w a.defers) Q := by
 unfold bsR at h
 split at h
 ·rename_i e sz d hsl hd
  obtain ⟨hne,hlt,hargs,hn,hz,h⟩ := h
  have hz2 : ∀ (l : List Operand) (s : Nat),(((List.range' s l.length).zip l).map fun p=>cellsOf (rv F p.2)) = l.map fun x=>cellsOf (rv F x) := fun l=>by
   induction l with
   | nil=>intro s; rfl
   | cons x r ih=>intro s; simp only [List.length_cons,List.range'_succ,List.zip_cons_cons,List.map_cons,ih]
  have hz3 : ∀ (l : List Operand) (s : Nat),(((List.range' s l.length).zip l).map (·.1)) = List.range' s l.length := fun l=>by
   induction l with
   | nil=>intro s; rfl
   | cons x r ih=>intro s; simp only [List.length_cons,List.range'_succ,List.zip_cons_cons,List.map_cons,ih]
  have hap : aop P ops o F H (fun F' H'=>F' = F.set d (.own (args.map fun x=>cellsOf (rv F x))) ∧ H' = H) := by
   simp only [aop,ho,qW,hsl]
   refine ⟨by rw [List.range_eq_range']; exact hz3 args 0,fun p hp=>hargs p.2 (List.of_mem_zip hp).2,hn,hz,?_⟩
   rw [hd]
   refine ⟨?_,by trivial⟩
   simp only [j0]
   rw [List.range_eq_range',hz2 args 0]
  refine Oper.wp_mono (fun a' w' ⟨F',H',K',⟨e1,e2⟩,q2,q3,q4⟩=>?_) (yn (Q := Q) hs hok hap)
  subst e1 e2
  obtain ⟨F'',H'',K'',r1,r2,r3⟩ := Gz.giveS (k := k) (s := d) (xs := args.map fun x=>cellsOf (rv F x)) (by simpa using hne) (by simp [hlt]) (fun b cap hb=>by rw [List.set_set]; exact h b cap hb) K' w' a'.tmps q3
  exact ⟨F'',H'',K'',r1,q2.trans r2,r3,q4⟩
 ·exact h.elim
def Sbn (H' H : AH) : Prop := (H.map (·.1)).Nodup → Sb H' H
theorem Sbn.sub {H' : AH} (h : H'.Sublist H) : Sbn H' H := fun hn=>⟨(h.map (·.1)).nodup hn,fun p hp=>h.subset hp⟩
theorem zZ {P : Program} {fn : Func} {K : Nat → BK} {w : World} {F : List D} {H : AH} {a : Act} {R : D → AH → Prop} (hk : rOk fn.results.toList = true) (hs : St K w F H a.tmps) (h : uL P fn.results.toList F H fun d=>∃ H',Sbn H' H ∧ R d H') :
  ∃ v d H' K',(results fn a.tmps).run P w = .ok v w ∧ R d H' ∧ FK K w K' w ∧ KRel K' w ∧ HRel K' w H' ∧ RepO K' w 0 d v := by
 have hres : ∀ vs : List Value,(fn.results.toList.mapM (vT a.tmps)).run P w = .ok vs w → (results fn a.tmps).run P w = .ok (if h : vs.length = 1 then vs[0] else .tuple vs.toArray) w := fun vs hv=>by
  have he : results fn a.tmps = (fn.results.mapM (vT a.tmps) >>= fun vs=>pure (if h : vs.size = 1 then vs[0] else .tuple vs)) := by
   unfold results
   congr 2
  rw [he,Array.mapM_eq_mapM_toList,Sem.run_bind,Sem.run_map,hv]
  simp only [Result.andThen_ok,Sem.run_pure,List.size_toArray]
  split <;> simp
 unfold uL at h
 split at h
 ·rename_i r hr
  split at h
  ·rename_i d hd
   obtain ⟨v,h1,h2⟩ := uO (P := P) hs hd
   have hrun := hres [v] (by rw [hr]; simp [h1])
   simp only [List.length_cons,List.length_nil,Nat.zero_add,dite_true,List.getElem_cons_zero] at hrun
   rcases h2 with ⟨t,rfl,h2⟩ | ⟨_,h2⟩
   ·let φ : Who → Who := fun o=>match o with
     | .slot i j=>if i = t then .slot 0 j else .slot 1 j
     | x=>x
    obtain ⟨H',hsb,h⟩ := h
    have hsub : HRel K w H' := (hs.sb (hsb hs.hrel.nd)).hrel
    refine ⟨v,d,H',relab φ K,hrun,h,slotφ_fk rfl (fun _ _=>rfl) (fun i j=>?_),jI hs.krel,yG ⟨fun _ _=>rfl,rfl⟩ hsub,KA (h2.conv (qL φ K w) (fun b m hb=>by rw [j4 hb]; simp [φ]))⟩
    simp only [φ]
    split
    ·exact ⟨_,_,rfl⟩
    ·exact ⟨_,_,rfl⟩
   ·obtain ⟨H',hsb,h⟩ := h
    exact ⟨v,d,H',K,hrun,h,.refl K w,hs.krel,(hs.sb (hsb hs.hrel.nd)).hrel,h2.viewO⟩
  ·exact h.elim
 ·rename_i rs hnr
  split at h
  ·rename_i ds hds
   obtain ⟨vs,g1,g2,g3,g4⟩ := uJ (P := P) hs _ _ hds
   have hrun := hres vs g1
   have hl1 : vs.length ≠ 1 := fun e=>by
    have hl : fn.results.toList.length = 1 := by omega
    match hq : fn.results.toList,hl with
    | [r],_=>exact hnr r hq
   rw [dif_neg hl1] at hrun
   let φ : Who → Who := fun o=>match o with
    | .slot i j=>Qa fn.results.toList 0 i
    | x=>x
   obtain ⟨H',hsb,h⟩ := h
   have hsub : HRel K w H' := (hs.sb (hsb hs.hrel.nd)).hrel
   refine ⟨.tuple vs.toArray,.tup ds,H',relab φ K,hrun,h,slotφ_fk rfl (fun _ _=>rfl) (fun i j=>um _ _ _),jI hs.krel,yG ⟨fun _ _=>rfl,rfl⟩ hsub,vs.toArray,rfl,by simp [g2],fun j d u hd hu=>?_⟩
   have hu' : vs[j]? = some u := by simpa using hu
   have hj : j < fn.results.toList.length := by rw [g3]; exact (List.getElem?_eq_some_iff.1 hd).1
   rcases g4 j _ d u (List.getElem?_eq_getElem hj) hd hu' with ⟨t,ht,hc⟩ | ⟨_,hc⟩
   ·refine hc.conv (qL φ K w) (fun b m hb=>?_)
    rw [j4 hb]
    have hp := zA fn.results.toList 0 j t hk (by rw [List.getElem?_eq_getElem hj,ht])
    simp [φ,hp]
   ·exact (RepV.mono (qL φ K w) hc).repC (fun xs e=>by subst e; exact hc.not_own)
  ·exact h.elim
end
end Go.Aw
end
section
namespace Go.Aw
open Go Go.RowKit
def o7 (o : Oper) : Bool := match o.op with
 | .defer _=>false
 | _=>true
theorem WW {o : Oper} (h : o7 o = true) : ∀ c,o.op ≠ .defer c := fun c hc=>by
 unfold o7 at h
 rw [hc] at h
 cases h
section
variable {P : Program} {ops : Array Oper} {Q : Exit → Act → World → Prop} {l n : Nat} {md : Region.Mode}
theorem UA {o : Oper} {a : Act} {w : World} {K : Act → World → Prop} (hd : o7 o = true) (h : o.wp P a w K Q) : o.wpIn (Fence.wide.inRound l) n P a w K Q := by
 refine ⟨fun _ _=>trivial,?_⟩
 rw [Oper.semAt_eq _ _ _ (WW hd)]
 unfold Oper.wp at h
 generalize (execOp a.eval o).run P w = r at h
 cases r with
 | ok x w' =>
  cases x <;> simp only [Oper.upon,Oper.uponIn] at h ⊢ <;> first
   | exact h
   | exact h.elim
   | exact ⟨fun h=>(by cases h),callsIn_wide.2 h⟩
   | exact ⟨fun h=>(by cases h),fun c cs _=>let ⟨v,w',r,s⟩ := h c cs; ⟨v,w',r,stepsIn_wide.2 s⟩⟩
 | halt x w'=>cases x <;> simp only [Oper.upon,Oper.uponIn] at h ⊢ <;> first | exact h | exact h.elim
theorem opi_in {i : Nat} {a : Act} {w : World} {K : Act → World → Prop} (hQ : ∀ a w,¬ Q .outgrown a w) (hd : ∀ o ∈ ops.toList,o7 o = true) (h : wpOp P ops Q i K a w) : wpOpIn (Fence.wide.inRound l) n P ops Q i K a w := by
 unfold wpOp at h
 unfold wpOpIn
 split
 ·rename_i ho
  simpa only [ho] using h
 ·rename_i o ho
  simp only [ho] at h
  have hm : o ∈ ops.toList := by rw [← Array.getElem?_toList] at ho; exact List.mem_of_getElem? ho
  split
  ·rename_i hw; simp only [hw,if_true] at h; exact UA (hd o hm) (h.resolve_right fun ⟨_,a,w,hq⟩=>hQ a w hq)
  ·rename_i hw; simp only [hw] at h; exact ⟨fun _ _=>trivial,h⟩
theorem UB (hQ : ∀ a w,¬ Q .outgrown a w) (hd : ∀ o ∈ ops.toList,o7 o = true) : ∀ (fuel : Nat) (listed : Array Bool) (a : Act) (w : World),wpAny P md ops Q fuel listed a w → wpAnyIn (Fence.wide.inRound l) n P md ops Q fuel listed a w
 | 0,listed,a,w,h=>h
 | fuel + 1,listed,a,w,h=>⟨h.1,fun i hi=>wpOpIn_mono (fun a' w' h'=>UB hQ hd fuel _ a' w' h') (opi_in hQ hd (h.2 i hi))⟩
theorem J6 (hQ : ∀ a w,¬ Q .outgrown a w) : ∀ (os : List Oper) (a : Act) (w : World),(∀ o ∈ os,o7 o = true) → wpList P ops Q os a w → wpListIn (Fence.wide.inRound l) n P ops Q os a w
 | [],a,w,hd,h=>h
 | o :: r,a,w,hd,h=>by
  unfold wpList at h
  unfold wpListIn
  split
  ·rename_i hw
   simp only [hw,if_true] at h
   exact UA (hd o (.head _)) (Oper.wp_mono (fun a' w' h'=>J6 hQ r a' w' (fun o ho=>hd o (.tail _ ho)) h') (h.resolve_right fun ⟨_,a,w,hq⟩=>hQ a w hq))
  ·rename_i hw
   simp only [hw] at h
   exact ⟨fun _ _=>trivial,J6 hQ r _ _ (fun o ho=>hd o (.tail _ ho)) h⟩
end
end Go.Aw
end
section
namespace Go.Aw
open Go Go.RowKit
def isC (w : World) (b : Nat) : Bool := match w.heap[b]? with
  | some (.cells _ _ _)=>true
  | _=>false
theorem Y5 {w : World} {b : Nat} {c : Array Value} {T : TypeId} {fz : Nat × Nat} (h : w.heap[b]? = some (.cells c T fz)) : isC w b = true := by simp [isC,h]
theorem JP {w : World} {b j : Nat} {v : Value} (h : w.cell? ⟨b,j,none⟩ = some v) : isC w b = true := by
  unfold World.cell? at h
  unfold isC
  cases ho : w.heap[b]? with
  | none=>simp [ho] at h
  | some o=>cases o <;> simp_all
def ReK (K K' : Nat → BK) (w : World) : Prop := ∀ b,isC w b = true → K b ≠ .priv → K b ≠ .tok 0 .outer → K' b = K b
section
variable {K K' : Nat → BK} {w : World}
theorem WN (h : ReK K K' w) {b off n : Nat} (hv : Vis K w b off n) (hc : 0 < n → isC w b = true) : Vis K' w b off n := by
  refine ⟨hv.1,?_⟩
  rcases Nat.eq_zero_or_pos n with h0 | hp
  · cases K' b with
    | imm=>trivial
    | tok m o=>exact .inl h0
    | priv=>exact h0
  · have h2 := hv.2
    have hne : K b ≠ .priv := fun e=>by rw [e] at h2; have h2' : n = 0 := h2; omega
    have hno : K b ≠ .tok 0 .outer := fun e=>by rw [e] at h2; have h2' : n = 0 ∨ off + n ≤ 0 := h2; omega
    rw [h b (hc hp) hne hno]
    exact h2
theorem RepV.re (h : ReK K K' w) {d : D} {v : Value} (hr : RepV K w d v) : RepV K' w d v := by
  induction hr with
  | int k n h=>exact .int k n h
  | bool b=>exact .bool b
  | str s h=>exact .str s h
  | slcnil a=>exact .slcnil a
  | slc xs b off cap sz f hb hc hm hs hv hcell hone hrep ih =>
    refine .slc xs b off cap sz f hb hc hm hs (WN h hv fun hp=>?_) hcell hone ih
    have h1 : 0 < xs.length := Nat.pos_of_ne_zero fun e=>by rw [e] at hp; simp at hp
    have h2 : 0 < sz := Nat.pos_of_ne_zero fun e=>by rw [e] at hp; simp at hp
    have h3 := List.getElem?_eq_getElem h1
    have h4 := hs 0 _ h3
    exact JP (hcell 0 _ h3 0 _ (List.getElem?_eq_getElem (by rw [h4]; exact h2)))
  | ptr b off=>exact .ptr b off
  | eptr cs b off f hv hcell hone hrep ih =>
    exact .eptr cs b off f (WN h hv fun hp=>JP (hcell 0 _ (List.getElem?_eq_getElem hp))) hcell hone ih
  | bnd g fs vs hl hrep ih=>exact .bnd g fs vs hl ih
  | fn g caps vs hb hl hrep ih=>exact .fn g caps vs hb hl ih
  | nilp=>exact .nilp
  | nilfn=>exact .nilfn
  | mp r=>exact .mp r
  | hsl b n cap hc hm hb=>exact .hsl b n cap hc hm hb
  | osl b cap xs hp h ih=>exact .osl b cap xs hp ih
  | oslnil b cap a=>exact .oslnil b cap a
  | agg cs vs hl hone hrep ih=>exact .agg cs vs hl hone ih
  | tup cs vs hl hrep ih=>exact .tup cs vs hl ih
  | any v=>exact .any v
theorem OwnAt.re (h : ReK K K' w) {o : Who} (hno : o ≠ .outer) {xs : List (List D)} {v : Value} (ho : OwnAt K w o xs v) : OwnAt K' w o xs v := by
  rcases ho with ho | ⟨b,cap,sz,c,T,hv,hk,hh,hcs,hp,hl,hm,hb,hs,hrep⟩
  · exact .inl ho
  · refine .inr ⟨b,cap,sz,c,T,hv,(h b (Y5 hh) (by rw [hk]; simp) (by rw [hk]; simpa using fun _=>hno)).trans hk,hh,hcs,hp,hl,hm,hb,hs,fun i x hi j d hj=>?_⟩
    obtain ⟨u,e1,e2,e3⟩ := hrep i x hi j d hj
    exact ⟨u,e1,e2,e3.re h⟩
theorem RepC.re (h : ReK K K' w) {o : Who} (hno : o ≠ .outer) {d : D} {v : Value} (hr : RepC K w o d v) : RepC K' w o d v := by
  cases d <;> first | exact OwnAt.re h hno hr | exact RepV.re h hr
theorem RepO.re (h : ReK K K' w) {i : Nat} {d : D} {v : Value} (hr : RepO K w i d v) : RepO K' w i d v := by
  cases d <;> first
    | exact OwnAt.re h (by simp) hr
    | exact RepV.re h hr
    | (obtain ⟨vs,hv,hl,hh⟩ := hr
       exact ⟨vs,hv,hl,fun j d u hd hu=>(hh j d u hd hu).re h (by simp)⟩)
theorem AO.re (h : ReK K K' w) {b : Nat} (hp : K b = .priv → K' b = .priv) {o : AO} (ho : o.at_ K w b) : o.at_ K' w b := by
  cases o with
  | cells cs =>
    obtain ⟨hk,c,T,hh,hc,hr⟩ := ho
    refine ⟨hp hk,c,T,hh,hc,fun j d hd=>?_⟩
    obtain ⟨u,e1,e2,e3⟩ := hr j d hd
    exact ⟨u,e1,e2,RepC.re h (by simp) e3⟩
  | room cap xs=>exact ⟨ho.1,OwnAt.re h (by simp) ho.2⟩
theorem St.re (h : ReK K K' w) {F : List D} {H : AH} {t : Array Value} (hs : St K w F H t) (hk : KRel K' w) (hp : ∀ b o,(b,o) ∈ H → K b = .priv → K' b = .priv) : St K' w F H t :=
  ⟨hk,⟨hs.hrel.nd,fun b o hm=>AO.re h (hp b o hm) (hs.hrel.ok b o hm)⟩,hs.len,fun i d v hd hv=>(hs.slot i d v hd hv).re h⟩
theorem HRel.isC {H : AH} (h : HRel K w H) {b : Nat} {o : AO} (hm : (b,o) ∈ H) : isC w b = true := by
  have := h.ok b o hm
  cases o with
  | cells cs=>obtain ⟨_,c,T,hh,_⟩ := this; exact Y5 hh
  | room cap xs =>
    obtain ⟨hp,h2⟩ := this
    rcases h2 with ⟨rfl,_⟩ | ⟨b',cap',sz,c,T,hv,hk,hh,_⟩
    · simp at hp
    · injection hv with e
      injection e with e
      injection e with e
      subst e
      exact Y5 hh
def z5 (s : Nat) (w : World) (K : Nat → BK) : Nat → BK := fun b=>if s ≤ b ∧ b < w.heap.size ∧ isC w b = false then .priv else K b
theorem demK_re {s : Nat} : ReK K (z5 s w K) w := fun b hb _ _=>by
  unfold z5
  rw [if_neg]
  rintro ⟨_,_,h⟩
  rw [hb] at h
  cases h
theorem Wp {s : Nat} (hk : KRel K w) : KRel (z5 s w K) w := fun b hb=>by
  unfold z5
  rw [if_neg (by omega)]
  exact hk b hb
theorem St.dem {s : Nat} {F : List D} {H : AH} {t : Array Value} (hs : St K w F H t) : St (z5 s w K) w F H t :=
  hs.re demK_re (Wp hs.krel) fun b o hm hp=>by
    unfold z5
    rw [if_neg]
    · exact hp
    · rintro ⟨_,_,h⟩
      rw [hs.hrel.isC hm] at h
      cases h
theorem FKm.dem {w' : World} (hk : KRel K w) (h : FKm K w K' w') : FK K w (z5 w.heap.size w' K') w' := by
  have hd : ∀ b,b < w.heap.size → z5 w.heap.size w' K' b = K' b := fun b hb=>by
    unfold z5
    rw [if_neg (by omega)]
  refine ⟨⟨h.ext.os,h.ext.tape,h.ext.output,h.ext.size,fun b hb hi=>?_,fun b n o hb=>?_,fun b hb=>?_⟩,fun b n hb=>?_,fun b n hb=>?_⟩
  · rw [hd b hb]; exact h.ext.imm b hb hi
  · rw [hd b (hk.lt_of (by rw [hb]; simp))]; exact h.ext.tok b n o hb
  · rw [hd b (hk.lt_of (by rw [hb]; simp))]; exact h.ext.priv b hb
  · rw [hd b (hk.lt_of (by rw [hb]; simp))]; exact h.own b n hb
  · unfold z5 at hb
    split at hb
    · cases hb
    · rename_i hn
      rcases h.new b n hb with h1 | ⟨h1,h2⟩
      · exact h1
      · exact (hn ⟨h1,(Array.getElem?_eq_some_iff.1 h2).1,by simp [isC,h2]⟩).elim
structure Sh (K : Nat → BK) (w w' : World) : Prop where
  os : w'.os = w.os
  tape : w'.tape = w.tape
  output : w'.output = w.output
  size : w'.heap.size = w.heap.size
  same : ∀ b,K b ≠ .priv ∨ isC w b = true → w'.heap[b]? = w.heap[b]?
theorem Sh.refl (K : Nat → BK) (w : World) : Sh K w w := ⟨rfl,rfl,rfl,rfl,fun _ _=>rfl⟩
theorem WP {w' : World} {b : Nat} (h : w'.heap[b]? = w.heap[b]?) : isC w' b = isC w b := by unfold isC; rw [h]
theorem Sh.trans {w' w'' : World} (h : Sh K w w') (g : Sh K w' w'') : Sh K w w'' :=
  ⟨g.os.trans h.os,g.tape.trans h.tape,g.output.trans h.output,g.size.trans h.size,fun b hb=>by
    have h1 := h.same b hb
    refine (g.same b ?_).trans h1
    rcases hb with hb | hb
    · exact .inl hb
    · exact .inr ((WP h1).trans hb)⟩
theorem Sh.keep {w' : World} (h : Sh K w w') : Keep noE (fun b=>isC w b = false) K w K w' := by
  refine ⟨⟨h.os,h.tape,h.output,Nat.le_of_eq h.size.symm,fun b hb hi=>⟨hi,h.same b (.inl (by rw [hi]; simp))⟩,fun b n o hb=>⟨n,o,hb,Nat.le_refl _,fun j _=>jz (h.same b (.inl (by rw [hb]; simp))) j⟩,fun b hb=>.inl hb⟩,
    fun b n o hb _=>⟨hb,h.same b (.inl (by rw [hb]; simp))⟩,fun b n hb=>hb,fun b hb hB=>⟨hb,h.same b (.inr (by simpa using hB))⟩⟩
theorem Sh.st {w' : World} (h : Sh K w w') {F : List D} {H : AH} {t : Array Value} (hs : St K w F H t) : St K w' F H t :=
  ⟨fun b hb=>hs.krel b (by rw [← h.size]; exact hb),hs.hrel.keep h.keep (fun b o hm=>⟨by rw [hs.hrel.isC hm]; simp,fun _ h=>h⟩),hs.len,fun i d v hd hv=>(hs.slot i d v hd hv).keep h.keep (fun _ h=>h)⟩
theorem Sh.fk {w' : World} (h : Sh K w w') : FK K w K w' := h.keep.fk (fun h=>h)
theorem Sh.put {b : Nat} {o : Obj} (hp : K b = .priv) (hc : isC w b = false) : Sh K w (w.putObj b o) :=
  ⟨rfl,rfl,rfl,by simp,fun c hb=>World.putObj_heap_other fun e=>by
    subst e
    rcases hb with hb | hb
    · exact hb hp
    · rw [hc] at hb; cases hb⟩
theorem Yu {P : Program} {fn : Func} {tmps : Array Value} {R : Ending → World → Prop} {n : Nat} : ∀ (Ds : List Nat) (w : World),Ds.Nodup → (∀ D ∈ Ds,K D = .priv ∧ w.heap[D]? = some (.deferred (some []))) →
    (∀ w',Sh K w w' → ∃ v,(results fn tmps).run P w' = .ok v w' ∧ R (.returned v) w') → LeavesInM Fence.wide n P fn tmps R (Ds.map fun D=>{ target := .collected D,args := #[] }) .returning w
  | [],w,_,_,h=>h w (.refl K w)
  | D :: Ds,w,hn,hD,h=>by
    obtain ⟨h1,h2⟩ := hD D (.head _)
    have hsh : Sh K w (w.putObj D (.deferred none)) := Sh.put h1 (by simp [isC,h2])
    refine ⟨by simp,.inl ⟨D,_,rfl,run_takeDeferred h2,Yu Ds _ (List.nodup_cons.1 hn).2 (fun D' hD'=>⟨(hD D' (.tail _ hD')).1,?_⟩) fun w' hw=>h w' (hsh.trans hw)⟩⟩
    rw [World.putObj_heap_other]
    · exact (hD D' (.tail _ hD')).2
    · rintro rfl
      exact (List.nodup_cons.1 hn).1 hD'
end
theorem zj {P : Program} {f : FuncId} {fn : Func} {c : Code} {K : Nat → BK} {w : World} {F : List D} {H : AH} {Q : AQ} {vs : Array Value} {R : Ending → World → Prop} (hf : P.funcs[f]? = some fn) (hb : fn.body = some c)
    (hw : AW P c F H Q) (hst : St K w F H (vs ++ Array.replicate (fn.ntmps - vs.size) undef))
    (hend : ∀ e F' H' K' w' (a' : Act),Q e F' H' → FK K w K' w' → St K' w' F' H' a'.tmps → (e = .normal ∨ e = .ret) ∧ ∃ v,(results fn a'.tmps).run P w' = .ok v w' ∧ R (.returned v) w') : Calls P f vs w R := by
  refine (callsIn_wide (n := 3)).1 (callsIn_of_wp_marks hf hb trivial (wpIn_wide.2 (wp_mono (hw K w { tmps := vs ++ Array.replicate (fn.ntmps - vs.size) undef,defers := [] } w.heap.size hst ⟨Nat.le_refl _,Mk.nil K w _⟩) fun e a' w' ⟨F',H',K',g1,g2,g3,g4,g5⟩=>?_)) rfl)
  obtain ⟨Ds,d1,d2,d3⟩ := g5
  have hfk := g2.dem hst.krel
  have hst' : St (z5 w.heap.size w' K') w' F' H' a'.tmps := g3.dem
  have key : LeavesInM Fence.wide 3 P fn a'.tmps R a'.defers .returning w' := by
    rw [d2]
    refine Yu (K := z5 w.heap.size w' K') Ds w' d1 (fun D hD=>⟨?_,(d3 D hD).2.2⟩) fun w'' hw'=>(hend e F' H' _ w'' a' g1 (hfk.trans hw'.fk) (hw'.st hst')).2
    unfold z5
    rw [if_pos ⟨(d3 D hD).1,(Array.getElem?_eq_some_iff.1 (d3 D hD).2.2).1,by simp [isC,(d3 D hD).2.2]⟩]
  rcases (hend e F' H' _ w' a' g1 hfk hst').1 with rfl | rfl
  · exact key
  · exact key
end Go.Aw
end
section
namespace Go.Aw
open Go Go.RowKit
structure XO where
  op : Op
  dst : Option Tmp
  g : Option (Option (Tmp × Bool))
  tk : Bool
  ta : Bool
inductive XC where
  | skip
  | reg (l : List XO)
  | regD (l : List XO)
  | seq (x y : XC)
  | cond (c : Operand) (x y : XC)
  | block (id : Nat) (c : XC)
  | exit (id : Nat)
  | ret
  | loop (c : XC)
  | gh (c : XC)
  | scope (c : XC)
  | regV (l tail : List XO)
  | regT (qs : List Tmp) (segs : List (List XO × XO × Bool)) (last tail : List XO)
  | rgf (g : Operand) (p t : Tmp) (c : XC)
  | bad
def xof (ops : List Oper) (o : Oper) : XO :=
  ⟨o.op,o.dst,(match o.guard with | none=>none | some (j,want)=>match (ops[j]?).bind (·.dst) with | some t=>some (some (t,want)) | none=>some none),
    (match o.dst with | some d=>takes ops d | none=>false),(match o.dst with | some d=>Y3 ops d | none=>false)⟩
def Kc : Code → Option (Tmp × Tmp)
  | .region _ ops false=>match ops.toList with
    | [o]=>match o.op,o.dst,o.guard with
      | .assign (.tmp p),some t,none=>some (p,t)
      | _,_,_=>none
    | _=>none
  | _=>none
def Kp (g : Operand) (ps : Array Tmp) (asg : Code) (x : XC) : XC := match ps.toList,Kc asg with
  | [p],some (p',t)=>if p' = p then .rgf g p t x else .bad
  | _,_=>.bad
def cmp : Code → XC
  | .skip=>.skip
  | .label _=>.skip
  | .region _ ops false=>.reg (ops.toList.map (xof ops.toList))
  | .region _ ops true=>.regD (ops.toList.map (xof ops.toList))
  | .seq x y=>.seq (cmp x) (cmp y)
  | .cond c x y=>.cond c (cmp x) (cmp y)
  | .block id c=>.block id (cmp c)
  | .exit id=>.exit id
  | .ret=>.ret
  | .loop c=>.loop (cmp c)
  | .scope c=>.scope (cmp c)
  | .rangeFunc g ps asg c=>Kp g ps asg (cmp c)
  | _=>.bad
def kV : XC → Bool
  | .rgf _ _ _ _=>true
  | .bad=>true
  | _=>false
theorem ju {g : Operand} {ps : Array Tmp} {asg : Code} {x y : XC} (h : Kp g ps asg x = y) : kV y = true := by
  subst h
  unfold Kp
  split
  · split <;> rfl
  · rfl
theorem rgf_inv {g g' : Operand} {ps : Array Tmp} {asg : Code} {p t : Tmp} {x y : XC} (h : Kp g ps asg x = .rgf g' p t y) : g = g' ∧ ps.toList = [p] ∧ Kc asg = some (p,t) ∧ x = y := by
  unfold Kp at h
  split at h
  · rename_i h1 h2
    split at h
    · rename_i e
      injection h with a1 a2 a3 a4
      subst a1 a2 a3 a4 e
      exact ⟨rfl,h1,h2,rfl⟩
    · cases h
  · cases h
def inB : XC → Bool
  | .skip=>true
  | .reg _=>true
  | .regT _ _ _ _=>true
  | .seq x y=>inB x && inB y
  | .block _ x=>inB x
  | .gh x=>inB x
  | _=>false
def Jg : Code → Bool
  | .region _ ops _=>ops.toList.all fun o=>match o.op with
    | .defer _=>false
    | _=>true
  | .seq x y=>Jg x && Jg y
  | .block _ c=>Jg c
  | _=>true
abbrev HK := List D → AH → Prop
def vq (P : Program) (m : Bool) (x : XO) (F : List D) (H : AH) (k : HK) : Prop :=
  match x.op with
  | .move (.tmp s)=>match x.dst with
    | some d=>if x.tk = true then k ((F.set s (rv F (.tmp s))).set d (ev F (.tmp s))) H else k (F.set d (rv F (.tmp s))) H
    | none=>k F H
  | .assign (.tmp s)=>match x.dst with
    | some d=>k ((F.set s (rv F (.tmp s))).set d (ev F (.tmp s))) H
    | none=>k F H
  | .move y=>k (j0 F x.dst (ev F y)) H
  | .assign y=>k (j0 F x.dst (ev F y)) H
  | .extract (.tmp s) ix=>match x.dst,ev F (.tmp s) with
    | some d,.tup ds=>match ds[ix]? with
      | some c=>if x.tk = true then fact c.view1 → k ((F.set s (.tup (ds.set ix c.view1))).set d c) H else fact c.view1 → k (F.set d c.view1) H
      | none=>False
    | _,_=>False
  | .alloc t=>m = false ∧ match yF P t with
    | some z=>∀ b,qZ H b → k (j0 F x.dst (.ptr b 0)) ((b,.cells z) :: H)
    | none=>False
  | .box t y=>m = false ∧ okc (rv F y) = true ∧ ∀ b,qZ H b → k (j0 F x.dst (.ptr b 0)) ((b,.cells (cellsOf (rv F y))) :: H)
  | .store t a y=>m = false ∧ match wi P t,rv F a with
    | some (true,n),.ptr b off=>match qK H b with
      | some (.cells cs)=>okc (rv F y) = true ∧ (cellsOf (rv F y)).length = n ∧ off + n ≤ cs.length ∧ k (j0 F x.dst (.tup [])) (qY H b (.cells (cs.take off ++ (cellsOf (rv F y) ++ cs.drop (off + n)))))
      | _=>False
    | some (false,n),.ptr b off=>match qK H b with
      | some (.cells cs)=>n = 1 ∧ off < cs.length ∧ one1 (ev F y) = true ∧ x.dst = none ∧ (match y with
        | .tmp s=>k (F.set s (rv F y)) (qY H b (.cells (cs.set off (ev F y))))
        | _=>k F (qY H b (.cells (cs.set off (ev F y)))))
      | _=>False
    | _,_=>False
  | .call c=>match c.callee with
    | .value f=>match rv F f with
      | .fn g caps=>if m = true then ∃ d,ACall P g (vN (c.args.toList.map (rv F)) caps) H (fun d' H'=>d' = d ∧ H' = H) ∧ (fact d.view → k (j0 F x.dst d) H)
        else ACall P g (vN (c.args.toList.map (rv F)) caps) H fun d H'=>fact d.view → k (j0 F x.dst d) H'
      | _=>False
    | .builtin .append=>match c.args.toList,c.argTypes.toList,x.dst with
      | [.tmp s,y],[t,u],some d=>match ev F (.tmp s),Ju P t u with
        | .own xs,some (_,sz,bs)=>match rv F y with
          | .slc ys=>(∀ y ∈ xs,y.length = sz) ∧ (∀ y ∈ ys,y.length = sz) ∧ (xs.length + ys.length) * bs ≤ 140737488355328 ∧ k ((F.set s (.slc xs)).set d (.own (xs ++ ys))) H
          | .str l=>sz = 1 ∧ (∀ y ∈ xs,y.length = 1) ∧ (xs.length + l.length) * bs ≤ 140737488355328 ∧ k ((F.set s (.slc xs)).set d (.own (xs ++ l.map qr))) H
          | _=>False
        | _,_=>False
      | _,_,_=>False
    | _=>qW P (rv F) H x.op fun d=>k (j0 F x.dst d) H
  | .binOp bo t y z _=>if m = false ∧ gZ z = true then nilcmp P bo t (rv F y) fun d=>k (j0 F x.dst d) H else qW P (rv F) H x.op fun d=>k (j0 F x.dst d) H
  | .load t (.tmp s)=>match x.dst with
    | some d=>if m = false ∧ x.ta = true then (match wi P t,rv F (.tmp s) with
        | some (false,_),.ptr b off=>match qK H b with
          | some (.cells cs)=>match cs[off]? with
            | some (.own xs)=>k (F.set d (.own xs)) (qY H b (.cells (cs.set off (.slc xs))))
            | _=>False
          | _=>False
        | _,_=>False)
      else qW P (rv F) H x.op fun c=>k (j0 F x.dst c) H
    | none=>qW P (rv F) H x.op fun c=>k (j0 F x.dst c) H
  | _=>qW P (rv F) H x.op fun d=>k (j0 F x.dst d) H
def yq : Op → Option Op
  | .call ⟨.builtin .append,args,tys⟩=>match args.toList,tys.toList with
    | [l,c],[t]=>some (.makeSlice t l c)
    | [x,y],[t,u,_]=>some (.call ⟨.builtin .append,#[x,y],#[t,u]⟩)
    | [x,y],[t,u,_,_]=>some (.call ⟨.builtin .append,#[x,y],#[t,u]⟩)
    | _,_=>none
  | .call ⟨.builtin .complex,args,tys⟩=>match tys.toList with
    | t :: is=>some (.build t (is.zip args.toList).toArray)
    | []=>none
  | .call ⟨.builtin .real,args,tys⟩=>match tys.toList with
    | [t]=>some (.buildSlice t args.toList.length ((List.range args.toList.length).zip args.toList).toArray)
    | _=>none
  | _=>none
def altK (P : Program) (op : Op) (dst : Option Tmp) (F : List D) (H : AH) (k : HK) : Prop := match op with
  | .call ⟨.builtin .append,args,tys⟩=>match args.toList,tys.toList with
    | [l,c],[t]=>mkH P t l c dst F H k
    | [x,y],[t,u,_]=>apH P t u x y dst F H k
    | [x,y],[t,u,_,_]=>Gz F H fun F' H'=>vq P false ⟨.call ⟨.builtin .append,#[x,y],#[t,u]⟩,dst,none,false,false⟩ F' H' k
    | _,_=>False
  | .call ⟨.builtin .complex,args,tys⟩=>match tys.toList with
    | t :: is=>zbH P t (is.zip args.toList) dst F H k
    | []=>False
  | .call ⟨.builtin .real,args,tys⟩=>match tys.toList with
    | [t]=>bsR P t args.toList dst F H k
    | _=>False
  | _=>False
def erO (x : XO) : XO := match yq x.op with
  | some op=>{ x with op := op }
  | none=>x
def xop (P : Program) (m : Bool) (x : XO) (F : List D) (H : AH) (k : HK) : Prop := match yq x.op with
  | some _=>m = false ∧ altK P x.op x.dst F H k
  | none=>vq P m x F H k
def o9 : List (List XO × XO × Bool) → List XO
  | []=>[]
  | (l,x,_) :: r=>l ++ x :: o9 r
def uy (x : XO) : Bool := (yq x.op).isNone && !g7 x.op && !Qs x.op
def VA (x : XO) : Bool := (yq x.op).isNone && x.g.isNone
def tOk (segs : List (List XO × XO × Bool)) (last : List XO) : Bool := segs.all (fun p=>p.1.all uy && VA p.2.1) && last.all uy
def uo : List (List XO × XO × Bool) → Option (Nat × TypeId)
  | []=>none
  | (_,x,_) :: r=>match x.op,x.dst with
    | .alloc t,some d=>some (d,t)
    | _,_=>uo r
def Uy (ops : Array Oper) (n : Nat) (a : Option (Nat × TypeId)) : Bool := match a with
  | none=>true
  | some (d,_)=>(ops.toList.take n).all fun o=>(yy o.op && o.guard.isNone) || (!yy o.op && !(o.looksAt ops).contains d && o.dst != some d)
def Jl (ops : Array Oper) : Nat → List Nat → List (List XO × XO × Bool) → Bool
  | _,_,[]=>true
  | k,ps,(l,_,fl) :: r=>(!fl || ps.all fun i=>match ops[k + l.length]? with | some o=>K9 .any o i | none=>false) && Jl ops (k + l.length + 1) ((k + l.length) :: ps) r
def vOk (l : List XO) : Bool := l.all fun x=>(yq x.op).isNone && !g7 x.op
def er : XC → XC
  | .regV l tail=>if vOk l = true then .regD (l ++ tail.map erO) else .gh .bad
  | .regT _ segs last tail=>if tOk segs last = true then .regD ((o9 segs ++ last) ++ tail.map erO) else .gh .bad
  | .reg l=>.reg (l.map erO)
  | .regD l=>if l.all (fun x=>(yq x.op).isNone) = true then .regD l else .gh .bad
  | .seq x y=>.seq (er x) (er y)
  | .cond c x y=>.cond c (er x) (er y)
  | .block id c=>.block id (er c)
  | .loop c=>.loop (er c)
  | .gh c=>er c
  | .scope c=>.scope (er c)
  | .rgf g p t c=>.rgf g p t (er c)
  | x=>x
def jD : Code → Bool
  | .region _ ops _=>ops.all jR
  | .seq x y=>jD x && jD y
  | .cond c x y=>y9 c && jD x && jD y
  | .block _ c=>jD c
  | .loop c=>jD c
  | .scope c=>jD c
  | .rangeFunc _ _ _ c=>jD c
  | _=>true
def ga (fn : Func) : Bool := match fn.body with
  | some c=>jD c && rOk fn.results.toList
  | none=>false
def uP : XC → Code → Bool
  | .regV l _,.region _ ops true=>oH ops l.length
  | .regD _,.region _ ops true=>K4 ops
  | .regT _ segs last _,.region _ ops true=>oH ops (o9 segs ++ last).length && Jl ops 0 [] segs && Uy ops (o9 segs ++ last).length (uo segs)
  | .seq x y,.seq c d=>uP x c && uP y d
  | .cond _ x y,.cond _ c d=>uP x c && uP y d
  | .block _ x,.block _ c=>uP x c
  | .loop x,.loop c=>uP x c
  | .gh x,c=>uP x c
  | .scope x,.scope c=>uP x c
  | .rgf _ _ _ x,.rangeFunc _ _ _ c=>uP x c && inB x && Jg c
  | _,_=>true
def xops (P : Program) : Bool → List XO → List D → AH → HK → Prop
  | _,[],F,H,k=>k F H
  | m,x :: r,F,H,k=>match x.g with
    | none=>xop P (!g7 x.op && m) x F H fun F' H'=>xops P (!g7 x.op && m) r F' H' k
    | some none=>xops P m r (j0 F x.dst (.tup [])) H k
    | some (some (t,want))=>match F.getD t .any with
      | .bool b=>(b = want → xop P (!g7 x.op && m) x (F.set t (.bool want)) H fun F' H'=>xops P (!g7 x.op && m) r F' H' k) ∧ (b = (!want) → xops P m r (j0 (F.set t (.bool (!want))) x.dst (.tup [])) H k)
      | .tup _=>xops P m r (j0 F x.dst (.tup [])) H k
      | _=>False
theorem vb {F : List D} {t : Nat} {d : D} (h : F.getD t .any = d) (hd : d ≠ .any) : F.set t d = F := by
  rcases Nat.lt_or_ge t F.length with h' | h'
  · rw [List.getD_eq_getElem?_getD,List.getElem?_eq_getElem h'] at h
    simp only [Option.getD_some] at h
    rw [← h,List.set_getElem_self]
  · rw [List.set_eq_of_length_le h']
section
variable {P : Program} {ops : List Oper} {o : Oper} {F : List D} {H : AH}
theorem JS {k : HK} : vq P false (xof ops o) F H k = aop P ops o F H k := by
  obtain ⟨dst,op,ty,pos,af,g⟩ := o
  unfold vq aop
  simp only [xof,Bool.false_eq_true,if_false,true_and]
  cases dst <;> cases op
  all_goals first
    | rfl
    | (rename_i x; cases x <;> rfl)
    | (rename_i x y; cases x <;> rfl)
    | (rename_i c
       obtain ⟨callee,cargs,ctys⟩ := c
       cases callee <;> first | rfl | (rename_i b; cases b <;> rfl))
    | (rename_i x y; cases y <;> rfl)
    | (rename_i x y; cases x <;> first
        | rfl
        | (dsimp only; generalize ev F _ = e; cases e <;> rfl))
theorem Wc {k : HK} : vq P true (xof ops o) F H k = jP P ops o F H (fun F'=>k F' H) := by
  obtain ⟨dst,op,ty,pos,af,g⟩ := o
  unfold vq jP
  simp only [xof,Bool.true_eq_false,if_true,false_and,if_false]
  cases dst <;> cases op
  all_goals first
    | rfl
    | (rename_i x; cases x <;> rfl)
    | (rename_i x y; cases x <;> rfl)
    | (rename_i c
       obtain ⟨callee,cargs,ctys⟩ := c
       cases callee <;> first | rfl | (rename_i b; cases b <;> rfl))
    | (rename_i x y; cases y <;> rfl)
    | (rename_i x y; cases x <;> first
        | rfl
        | (dsimp only [aop]; generalize ev F _ = e; cases e <;> rfl))
theorem JF {F : List D} {t : Nat} {want : Bool} {A B : List D → Prop} {N T : Prop} :
    (match F.getD t .any with
      | .bool b=>(b = want → A (F.set t (.bool want))) ∧ (b = (!want) → B (F.set t (.bool (!want))))
      | .tup _=>T
      | _=>N) =
    (match F.getD t .any with
      | .bool b=>(b = want → A F) ∧ (b = (!want) → B F)
      | .tup _=>T
      | _=>N) := by
  generalize he : F.getD t .any = e
  cases e <;> try rfl
  rename_i b
  have h1 : b = want → F.set t (.bool want) = F := fun hb=>vb (by rw [he,hb]) (by simp)
  have h2 : b = (!want) → F.set t (.bool (!want)) = F := fun hb=>vb (by rw [he,hb]) (by simp)
  simp only [eq_iff_iff]
  exact ⟨fun h=>⟨fun hb=>by rw [← h1 hb]; exact h.1 hb,fun hb=>by rw [← h2 hb]; exact h.2 hb⟩,fun h=>⟨fun hb=>by rw [h1 hb]; exact h.1 hb,fun hb=>by rw [h2 hb]; exact h.2 hb⟩⟩
theorem We {x : XO} {k : HK} {K : Nat → BK} {w : World} {a : Act} {Q : Exit → Act → World → Prop} (hs : St K w F H a.tmps) (hok : jR o = true) (he : erO x = xof ops o) (h : xop P false x F H k) : o.wp P a w (OKd k K w a.defers) Q := by
  unfold erO at he
  unfold xop at h
  cases hal : yq x.op with
  | none =>
    simp only [hal] at he h
    subst he
    rw [JS] at h
    exact yn hs hok h
  | some op =>
    simp only [hal] at he h
    have ho : o.op = op := (congrArg XO.op he).symm
    have hd : o.dst = x.dst := (congrArg XO.dst he).symm
    obtain ⟨_,h⟩ := h
    unfold yq at hal
    unfold altK at h
    split at hal
    · rename_i args tys hxo
      rw [hxo] at h
      simp only at h
      split at hal
      · rename_i l c t h1 h2
        simp only [Option.some.injEq] at hal
        simp only [h1,h2] at h
        rw [← hd] at h
        exact stp_mkH hs hok (ho.trans hal.symm) h
      · rename_i x1 y1 t u v h1 h2
        simp only [Option.some.injEq] at hal
        simp only [h1,h2] at h
        rw [← hd] at h
        exact stp_apH hs hok (ho.trans hal.symm) rfl rfl rfl h
      · rename_i x1 y1 t u v1 v2 h1 h2
        simp only [Option.some.injEq] at hal
        simp only [h1,h2] at h
        rw [← hd] at h
        obtain ⟨F',H',K',g1,g2,g3⟩ := h K w a.tmps hs
        have g4 : aop P ops o F' H' k := by
          simp only [aop,ho.trans hal.symm]
          exact g1
        refine Oper.wp_mono (fun a2 w2 h2=>?_) (Q2 g3 hok (ho.trans hal.symm) rfl g4)
        obtain ⟨F'',H'',K'',q1,q2,q3,q4⟩ := h2
        exact ⟨F'',H'',K'',q1,g2.trans q2,q3,q4⟩
      · cases hal
    · rename_i args tys hxo
      rw [hxo] at h
      simp only at h
      split at hal
      · rename_i t is h2
        simp only [Option.some.injEq] at hal
        simp only [h2] at h
        rw [← hd] at h
        exact Yh hs hok (ho.trans hal.symm) (by simpa using h)
      · cases hal
    · rename_i args tys hxo
      rw [hxo] at h
      simp only at h
      split at hal
      · rename_i t h2
        simp only [Option.some.injEq] at hal
        simp only [h2] at h
        rw [← hd] at h
        exact stp_bsR (ops := ops) hs hok (ho.trans hal.symm) h
      · cases hal
    · cases hal
theorem yM {k : HK} {K : Nat → BK} {w : World} {a : Act} {Q : Exit → Act → World → Prop} {opA : Array Oper} (hQ : ∀ a' w',OKd k K w a.defers a' w' → Q .normal a' w') : ∀ (l : List XO) (os : List Oper) (F : List D) (H : AH) (K1 : Nat → BK) (w1 : World) (a1 : Act),l.map erO = os.map (xof opA.toList) → (∀ o ∈ os,jR o = true) → St K1 w1 F H a1.tmps → FK K w K1 w1 → a1.defers = a.defers →
    xops P false l F H k → wpList P opA Q os a1 w1
  | [],[],F,H,K1,w1,a1,_,_,hs,hfk,hd,h=>wpList_nil (hQ a1 w1 ⟨F,H,K1,h,hfk,hs,hd⟩)
  | [],o :: os,F,H,K1,w1,a1,hl,_,hs,hfk,hd,h=>by simp at hl
  | x :: r,[],F,H,K1,w1,a1,hl,_,hs,hfk,hd,h=>by simp at hl
  | x :: r,o :: os,F,H,K1,w1,a1,hl,hok,hs,hfk,hd,h=>by
    simp only [List.map_cons,List.cons.injEq] at hl
    obtain ⟨hx,hl⟩ := hl
    have hgo : ∀ F1,St K1 w1 F1 H a1.tmps → xop P false x F1 H (fun F' H'=>xops P false r F' H' k) → o.wp P a1 w1 (wpList P opA Q os) Q := fun F1 hs h=>by
      refine Oper.wp_mono (fun a2 w2 h2=>?_) (We (ops := opA.toList) (Q := Q) hs (hok o (.head _)) hx h)
      obtain ⟨F',H',K',g1,g2,g3,g4⟩ := h2
      exact yM hQ r os F' H' K' w2 a2 hl (fun o ho=>hok o (.tail _ ho)) g3 (hfk.trans g2) (g4.trans hd) g1
    have hdst : x.dst = o.dst := by
      have := congrArg XO.dst hx
      unfold erO at this
      split at this <;> exact this
    have hgx : x.g = (xof opA.toList o).g := by
      have := congrArg XO.g hx
      unfold erO at this
      split at this <;> exact this
    have hskip : ∀ F1,St K1 w1 F1 H a1.tmps → xops P false r (j0 F1 x.dst (.tup [])) H k → wpList P opA Q os (a1.put o.dst undef) w1 := fun F1 hs h =>
      yM hQ r os _ H K1 w1 _ hl (fun o ho=>hok o (.tail _ ho)) (by rw [hdst]; exact vv hs o.dst) hfk ((qS o.dst undef).trans hd) h
    have hw := fun b=>y4 (ops := opA) (o := o) hs (b := b)
    unfold gst at hw
    unfold wpList
    simp only [xops,hgx,Bool.and_false] at h
    cases hg : o.guard with
    | none =>
      simp only [xof,hg] at h
      simp only [hg] at hw
      rw [if_pos (hw true rfl)]
      exact .inl (hgo F hs h)
    | some g =>
      obtain ⟨j,want⟩ := g
      simp only [xof,hg] at h
      simp only [hg] at hw
      cases hdd : (opA.toList[j]?).bind (·.dst) with
      | none =>
        simp only [hdd] at h hw
        rw [if_neg (by rw [hw false rfl]; simp)]
        exact hskip F hs h
      | some t =>
        simp only [hdd] at h hw
        split at h
        · rename_i b hb
          simp only [hb] at hw
          by_cases e : b = want
          · rw [if_pos (by rw [hw true (by simp [e])])]
            exact .inl (hgo F hs (by have := h.1 e; rwa [vb (by rw [hb,e]) (by simp)] at this))
          · rw [if_neg (by rw [hw false (by simp [e])]; simp)]
            have hbw : b = (!want) := by cases b <;> cases want <;> simp_all
            exact hskip F hs (by have := h.2 hbw; rwa [vb (by rw [hb,hbw]) (by simp)] at this)
        · rename_i ds hb
          simp only [hb] at hw
          rw [if_neg (by rw [hw false rfl]; simp)]
          exact hskip F hs h
        · exact h.elim
theorem ui {k : HK} : ∀ (l : List Oper) (F : List D) (H : AH),(∀ o ∈ l,yq o.op = none) → xops P false (l.map (xof ops)) F H k = aops P ops l F H k
  | [],F,H,_=>rfl
  | o :: r,F,H,hn=>by
    have ih : (fun F' H'=>xops P false (r.map (xof ops)) F' H' k) = fun F' H'=>aops P ops r F' H' k := funext fun F'=>funext fun H'=>ui r F' H' (fun o ho=>hn o (.tail _ ho))
    have hx0 : ∀ {F' : List D} {H' : AH} {k' : HK},xop P false (xof ops o) F' H' k' = aop P ops o F' H' k' := fun {F' H' k'}=>by
      unfold xop
      have : yq (xof ops o).op = none := hn o (.head _)
      rw [this]
      exact JS
    simp only [List.map_cons,xops,Bool.and_false]
    unfold aops
    cases hg : o.guard with
    | none =>
      have hx : (xof ops o).g = none := by simp [xof,hg]
      simp only [hx,hx0,ih]
    | some g =>
      obtain ⟨j,want⟩ := g
      simp only
      cases hd : (ops[j]?).bind (·.dst) with
      | none =>
        have hx : (xof ops o).g = some none := by simp [xof,hg,hd]
        simp only [hx]
        exact ui r _ _ (fun o ho=>hn o (.tail _ ho))
      | some t =>
        have hx : (xof ops o).g = some (some (t,want)) := by simp [xof,hg,hd]
        simp only [hx,hx0,ih]
        have h1 : ∀ F',xops P false (r.map (xof ops)) F' H k = aops P ops r F' H k := fun F'=>ui r F' H (fun o ho=>hn o (.tail _ ho))
        simp only [h1]
        exact JF (A := fun F=>aop P ops o F H fun F' H'=>aops P ops r F' H' k) (B := fun F=>aops P ops r (j0 F (xof ops o).dst (.tup [])) H k)
theorem Wo {x : XO} {r : List XO} {k : HK} (h : g7 x.op = true) (hg : x.g = none) : xops P true (x :: r) F H k = xops P false (x :: r) F H k := by
  simp only [xops,hg,h,Bool.not_true,Bool.false_and]
theorem uM {k : HK} : ∀ (l : List Oper) (F : List D),(∀ o ∈ l,yq o.op = none) → (∀ o ∈ l,g7 o.op = true → o.guard = none) → xops P true (l.map (xof ops)) F H k = kQ P ops (ym l) F H (fun F'=>aops P ops (vj l) F' H k)
  | [],F,_,_=>rfl
  | o :: r,F,hn,hgd=>by
    cases hp : g7 o.op with
    | true =>
      have e1 : ym (o :: r) = [] := by simp [ym,hp]
      have e2 : vj (o :: r) = o :: r := by simp [vj,hp]
      rw [e1,e2,List.map_cons,Wo (x := xof ops o) hp (by simp [xof,hgd o (.head _) hp]),← List.map_cons,ui (o :: r) F H hn]
      rfl
    | false =>
      have e1 : ym (o :: r) = o :: ym r := by simp [ym,hp]
      have e2 : vj (o :: r) = vj r := by simp [vj,hp]
      rw [e1,e2]
      have hpx : g7 (xof ops o).op = false := hp
      have h1 : ∀ F',xops P true (r.map (xof ops)) F' H k = kQ P ops (ym r) F' H (fun F'=>aops P ops (vj r) F' H k) := fun F'=>uM r F' (fun o ho=>hn o (.tail _ ho)) (fun o ho=>hgd o (.tail _ ho))
      have hx0 : ∀ {F' : List D} {k' : HK},xop P true (xof ops o) F' H k' = jP P ops o F' H (fun F'=>k' F' H) := fun {F' k'}=>by
        unfold xop
        have : yq (xof ops o).op = none := hn o (.head _)
        rw [this]
        exact Wc
      simp only [List.map_cons,xops,hpx,Bool.not_false,Bool.true_and]
      unfold kQ
      cases hg : o.guard with
      | none =>
        have hx : (xof ops o).g = none := by simp [xof,hg]
        simp only [hx,hx0,h1]
      | some g =>
        obtain ⟨j,want⟩ := g
        simp only
        cases hd : (ops[j]?).bind (·.dst) with
        | none =>
          have hx : (xof ops o).g = some none := by simp [xof,hg,hd]
          simp only [hx]
          exact h1 _
        | some t =>
          have hx : (xof ops o).g = some (some (t,want)) := by simp [xof,hg,hd]
          simp only [hx,hx0,h1]
          exact JF (A := fun F=>jP P ops o F H fun F'=>kQ P ops (ym r) F' H (fun F'=>aops P ops (vj r) F' H k)) (B := fun F=>kQ P ops (ym r) (j0 F (xof ops o).dst (.tup [])) H (fun F'=>aops P ops (vj r) F' H k))
end
end Go.Aw
end
