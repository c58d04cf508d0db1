/- A part of the proof of what the last text says: AwV, Gc1, Gq1, Gr6, Gq2. Conditions: those in each theorem. -/
import Derived.Test.YtpdhandimdibhaaGreatDoorN21
import Derived.RangeFuncWrites
import Derived.RangeFuncBound
import Derived.RangeFuncNested
import Derived.RangeFuncCalls
import Derived.RangeFuncLeaves
import Derived.Shelf.Abstract
import Derived.Shelf.RegionOpen
import Derived.WalkKit
import Derived.WalkSpells
import Derived.OwnWalkIn
import Derived.TacticsInMore
import Derived.LoopNIn
import Derived.LoopIn
import Derived.Test.YtpdhandimdibhaaGreatDoorRows
set_option linter.unusedVariables false
set_option linter.unusedSimpArgs false
set_option maxRecDepth 100000
set_option maxHeartbeats 16000000
open Nat renaming reduceSub → qa,reduceAdd → qb,reduceMul → qc,reduceEqDiff → qd,reduceLeDiff → qe,reduceBEq → qf
section
namespace Go.Aw
open Go Go.RowKit
theorem VA (d:D):d.view.view=d.view:=by
 have h1:∀d:D,d.view1.view1=d.view1:=fun d=>by cases d<;>rfl
 cases d<;>first|rfl|(simp only [D.view,List.map_map];congr 1;exact List.map_congr_left fun d _=>h1 d)
theorem St.view {K:Nat→BK} {w:World} {F:List D} {H:AH} {t:Array Value} (h:St K w F H t):St K w (F.map D.view) H t:=
 ⟨h.krel,h.hrel,by simpa using h.len,fun i d v hd hv=>by
  rw [List.getElem?_map,Option.map_eq_some_iff] at hd
  obtain ⟨d0,h1,rfl⟩:=hd
  exact (h.slot i d0 v h1 hv).rep.viewO⟩
theorem St.onward {K K':Nat→BK} {w w':World} {F:List D} {H H':AH} {t:Array Value} (hv:∀d∈F,d.view=d) (h:St K w F H t) (he:ExtV K w K' w') (hk:KRel K' w') (hh:HRel K' w' H'):St K' w' F H' t:=
 ⟨hk,hh,h.len,fun i d v hd hvv=>by
  have h1:=(h.slot i d v hd hvv).rep
  rw [hv d (List.mem_of_getElem? hd)] at h1
  exact (RepV.mono he h1).viewO⟩
theorem St.setP {K:Nat→BK} {w:World} {F:List D} {H:AH} {t:Array Value} (h:St K w F H t) {p:Nat} {d:D} {v:Value} (hr:RepV K w d v):St K w (F.set p d) H (t.setIfInBounds p v):=by
 refine ⟨h.krel,h.hrel,by simpa using h.len,fun i d' u hd hu=>?_⟩
 rcases getElem?_set_some hd with ⟨rfl,rfl,hl⟩|⟨hne,hd⟩
 ·rw [Array.getElem?_setIfInBounds_self_of_lt (by rw [h.len];exact hl)] at hu
  obtain rfl:=Option.some.inj hu
  exact hr.viewO
 ·rw [Array.getElem?_setIfInBounds_ne hne] at hu
  exact h.slot i d' u hd hu
structure LI (K:Nat→BK) (w:World) (b1 b2:Nat) (r:Loop) (Fv:List D) (t:Array Value) (K1:Nat→BK) (W:World) (H1:AH):Prop where
 ext:ExtV K w K1 W
 own:∀b n,K b= .tok n .outer→K1 b= .tok n .outer∧W.heap[b]?=w.heap[b]?
 new:∀b n,K1 b= .tok n .outer→K b= .tok n .outer∨(n=0∧(b=b1∨b=b2∨b=w.heap.size∨b=w.heap.size+1))
 st:St K1 W Fv H1 t
 s1:K1 b1= .tok 0 .outer
 s2:K1 b2= .tok 0 .outer
 sD:K1 w.heap.size= .tok 0 .outer
 sL:K1 (w.heap.size+1)= .tok 0 .outer
 h1:W.heap[b1]?=w.heap[b1]?
 h2:W.heap[b2]?=w.heap[b2]?
 hD:W.heap[w.heap.size]?=some (.deferred (some []))
 hL:W.heap[w.heap.size+1]?=some (.loop r)
section
variable {K:Nat→BK} {w:World} {b1 b2:Nat} {r:Loop} {Fv:List D} {t:Array Value} {K1:Nat→BK} {W:World} {H1:AH}
theorem LI.step (hk0:KRel K w) (hb1:b1<w.heap.size) (hb2:b2<w.heap.size) (h:LI K w b1 b2 r Fv t K1 W H1) {W':World} {r':Loop} (ho:W'.os=W.os) (ht:W'.tape=W.tape) (hp:W'.output=W.output) (hd:W.drawn≤W'.drawn) (hz:W'.heap.size=W.heap.size)
  (hh:∀b,b≠w.heap.size+1→W'.heap[b]?=W.heap[b]?) (hl:W'.heap[w.heap.size+1]?=some (.loop r')):LI K w b1 b2 r' Fv t K1 W' H1:=by
 have hext:ExtV K1 W K1 W':=by
  refine ⟨ho,ht,⟨hp,hd⟩,Nat.le_of_eq hz.symm,fun b hb hi=>⟨hi,hh b fun e=>?_⟩,fun b n o hb hn=>⟨n,o,hb,Nat.le_refl _,fun j _=>j3 (hh b fun e=>?_) j⟩,fun b hb=>.inl hb⟩
  ·rw [e,h.sL] at hi;cases hi
  ·rw [e,h.sL] at hb;injection hb with hb _;omega
 have hkeep:Keep (fun o=>o= .outer) noB K1 W K1 W':=⟨hext,fun b n o hb ho=>⟨hb,hh b fun e=>ho (by rw [e,h.sL] at hb;injection hb with _ hb;exact hb.symm)⟩,fun b n hb=>hb,
  fun b hb _=>⟨hb,hh b fun e=>by rw [e,h.sL] at hb;cases hb⟩⟩
 have hst:St K1 W' Fv H1 t:=⟨fun b hb=>h.st.krel b (by omega),h.st.hrel.keep hkeep (fun b o _=>⟨fun h=>h,fun j h=>by cases h⟩),h.st.len,fun i d v hd hv=>(h.st.slot i d v hd hv).keep hkeep (fun j h=>by cases h)⟩
 have old:∀b,b<w.heap.size→W'.heap[b]?=W.heap[b]?:=fun b hb=>hh b (by omega)
 exact ⟨h.ext.trans hext,fun b n hb=>⟨(h.own b n hb).1,(old b (hk0.lt_of (by rw [hb];simp))).trans (h.own b n hb).2⟩,h.new,hst,h.s1,h.s2,h.sD,h.sL,(old b1 hb1).trans h.h1,(old b2 hb2).trans h.h2,(hh _ (by omega)).trans h.hD,hl⟩
theorem LI.start {F:List D} {H:AH} (hs:St K w F H t) {o1 o2:AO} (e1:qu H b1=some o1) (e2:qu H b2=some o2) (hp1:K b1= .priv) (hp2:K b2= .priv) (hsb:Sbn H1 (qW (qW H b1) b2)) (hb1:b1<w.heap.size) (hb2:b2<w.heap.size)
  (ho:W.os=w.os) (ht:W.tape=w.tape) (hp:W.output=w.output) (hd:W.drawn=w.drawn) (hz:W.heap.size=w.heap.size+2) (hh:∀b,b<w.heap.size→W.heap[b]?=w.heap[b]?) (hD:W.heap[w.heap.size]?=some (.deferred (some []))) (hL:W.heap[w.heap.size+1]?=some (.loop r)):
  ∃K1,LI K w b1 b2 r (F.map D.view) t K1 W H1:=by
 have hn1:((qW H b1).map (·.1)).Nodup:=(erase_sub.map (·.1)).nodup hs.hrel.nd
 have hn2:((qW (qW H b1) b2).map (·.1)).Nodup:=(erase_sub.map (·.1)).nodup hn1
 obtain ⟨hnd,hsub⟩:=hsb hn2
 have hmem:∀b o,(b,o)∈H1→(b,o)∈H∧b≠b1∧b≠b2:=fun b o hm=>by
  have h1:=hsub _ hm
  exact ⟨erase_sub.subset (erase_sub.subset h1),yE hs.hrel.nd (erase_sub.subset h1),yE hn1 h1⟩
 have kp1:∀b n o,K b= .tok n o→b≠b1∧b≠b2∧b<w.heap.size:=fun b n o hb=>⟨fun e=>(by rw [e,hp1] at hb;cases hb),fun e=>(by rw [e,hp2] at hb;cases hb),hs.krel.lt_of (by rw [hb];simp)⟩
 have hext:ExtV K w K W:=⟨ho,ht,⟨hp,Nat.le_of_eq hd.symm⟩,by omega,fun b hb hi=>⟨hi,hh b hb⟩,fun b n o hb _=>⟨n,o,hb,Nat.le_refl _,fun j _=>j3 (hh b (kp1 b n o hb).2.2) j⟩,fun b hb=>.inl hb⟩
 have hkeep:Keep noE noB K w K W:=⟨hext,fun b n o hb _=>⟨hb,hh b (kp1 b n o hb).2.2⟩,fun b n hb=>hb,fun b hb _=>⟨hb,hh b (hs.krel.lt_of (by rw [hb];simp))⟩⟩
 have hv:=hs.view
 have hs1:St K w (F.map D.view) H1 t:=⟨hv.krel,⟨hnd,fun b o hm=>hs.hrel.ok b o (hmem b o hm).1⟩,hv.len,hv.slot⟩
 have hs2:St K W (F.map D.view) H1 t:=⟨fun b hb=>hs.krel b (by omega),hs1.hrel.keep hkeep (fun b o _=>⟨fun h=>h,fun j h=>by cases h⟩),hs1.len,fun i d v hd hv=>(hs1.slot i d v hd hv).keep hkeep (fun j h=>by cases h)⟩
 have hC:isC W w.heap.size=false∧isC W (w.heap.size+1)=false:=⟨by simp [isC,hD],by simp [isC,hL]⟩
 obtain ⟨K1,hK1⟩:∃K1:Nat→BK,K1=fun b=>if b=b1∨b=b2∨b=w.heap.size∨b=w.heap.size+1 then .tok 0 .outer else K b:=⟨_,rfl⟩
 have kin:∀b,(b=b1∨b=b2∨b=w.heap.size∨b=w.heap.size+1)→K1 b= .tok 0 .outer:=fun b hb=>by rw [hK1];exact if_pos hb
 have kout:∀b,¬(b=b1∨b=b2∨b=w.heap.size∨b=w.heap.size+1)→K1 b=K b:=fun b hb=>by rw [hK1];exact if_neg hb
 have ktok:∀b n o,K b= .tok n o→K1 b= .tok n o:=fun b n o hb=>by
  obtain ⟨q1,q2,q3⟩:=kp1 b n o hb
  rw [kout b (by omega)];exact hb
 refine ⟨K1,⟨⟨ho,ht,⟨hp,Nat.le_of_eq hd.symm⟩,by omega,fun b hb hi=>⟨?_,hh b hb⟩,fun b n o hb _=>⟨n,o,ktok b n o hb,Nat.le_refl _,fun j _=>j3 (hh b (kp1 b n o hb).2.2) j⟩,fun b hb=>.inr (by have:=hs.krel.lt_of (b:=b) (by rw [hb];simp);omega)⟩,
  fun b n hb=>⟨ktok b n _ hb,hh b (kp1 b n _ hb).2.2⟩,fun b n hb=>?_,?_,kin _ (.inl rfl),kin _ (.inr (.inl rfl)),kin _ (.inr (.inr (.inl rfl))),kin _ (.inr (.inr (.inr rfl))),hh b1 hb1,hh b2 hb2,hD,hL⟩⟩
 ·rw [kout b]
  ·exact hi
  ·rintro (e|e|e|e)
   ·rw [e,hp1] at hi;cases hi
   ·rw [e,hp2] at hi;cases hi
   ·omega
   ·omega
 ·by_cases hc:b=b1∨b=b2∨b=w.heap.size∨b=w.heap.size+1
  ·rw [kin b hc] at hb;injection hb with hb _;exact .inr ⟨hb.symm,hc⟩
  ·rw [kout b hc] at hb;exact .inl hb
 ·refine hs2.re ⟨fun b hc h1 _=>kout b ?_,fun b n c j hb=>(ktok b n _ hb).trans hb.symm⟩ (fun b hb=>?_) fun b o hm hp=>?_
  ·rintro (e|e|e|e)
   ·rw [e] at h1;exact h1 hp1
   ·rw [e] at h1;exact h1 hp2
   ·rw [e,hC.1] at hc;cases hc
   ·rw [e,hC.2] at hc;cases hc
  ·rw [kout b (by omega)];exact hs.krel b (by omega)
  ·rw [kout b]
   ·exact hp
   ·have:=hmem b o hm
    have hlt:=hs.hrel.lt hs.krel this.1
    omega
theorem LI.round (hk0:KRel K w) (hv:∀d∈Fv,d.view=d) (h:LI K w b1 b2 r Fv t K1 W H1) {K':Nat→BK} {W':World} {F':List D} {H' H3:AH} {t':Array Value} (hf:FK K1 W K' W') (hs:St K' W' F' H' t') (hsb:Sbn H3 H'):
  LI K w b1 b2 r Fv t K' W' H3:=
 ⟨h.ext.trans hf.ext,fun b n hb=>⟨(hf.own b n (h.own b n hb).1).1,(hf.own b n (h.own b n hb).1).2.trans (h.own b n hb).2⟩,fun b n hb=>h.new b n (hf.new b n hb),h.st.onward hv hf.ext hs.krel (hs.sb (hsb hs.hrel.nd)).hrel,
  (hf.own _ _ h.s1).1,(hf.own _ _ h.s2).1,(hf.own _ _ h.sD).1,(hf.own _ _ h.sL).1,(hf.own _ _ h.s1).2.trans h.h1,(hf.own _ _ h.s2).2.trans h.h2,(hf.own _ _ h.sD).2.trans h.hD,(hf.own _ _ h.sL).2.trans h.hL⟩
theorem LI.finish (hk0:KRel K w) (h:LI K w b1 b2 r Fv t K1 W H1) (hb1:b1<w.heap.size) (hb2:b2<w.heap.size) (hp1:K b1= .priv) (hp2:K b2= .priv) {s:Nat} {ds:List Deferred} (hs:s≤w.heap.size) (hm:Mk K w s ds):
  ∃K',FKm K w K' W∧St K' W Fv H1 t∧Mk K' W s ({target:= .collected w.heap.size,args:=#[]}::ds):=by
 obtain ⟨K',hK'⟩:∃K':Nat→BK,K'=fun b=>if b=b1∨b=b2∨b=w.heap.size+1 then .priv else K1 b:=⟨_,rfl⟩
 have kin:∀b,(b=b1∨b=b2∨b=w.heap.size+1)→K' b= .priv:=fun b hb=>by rw [hK'];exact if_pos hb
 have kout:∀b,¬(b=b1∨b=b2∨b=w.heap.size+1)→K' b=K1 b:=fun b hb=>by rw [hK'];exact if_neg hb
 have hsz:w.heap.size+1<W.heap.size:=(Array.getElem?_eq_some_iff.1 h.hL).1
 have old:∀b,b<w.heap.size→K b≠ .priv→K' b=K1 b:=fun b hb hn=>kout b (by
  rintro (e|e|e)
  ·exact hn (e▸hp1)
  ·exact hn (e▸hp2)
  ·omega)
 refine ⟨K',⟨⟨h.ext.os,h.ext.tape,h.ext.output,h.ext.size,fun b hb hi=>?_,fun b n o hb hn=>?_,fun b hb=>.inr (Nat.lt_of_lt_of_le (hk0.lt_of (by rw [hb];simp)) h.ext.size)⟩,fun b n hb=>?_,fun b n hb=>?_⟩,?_,?_⟩
 ·rw [old b hb (by rw [hi];simp)];exact h.ext.imm b hb hi
 ·rw [old b (hk0.lt_of (by rw [hb];simp)) (by rw [hb];simp)];exact h.ext.tok b n o hb hn
 ·rw [old b (hk0.lt_of (by rw [hb];simp)) (by rw [hb];simp)];exact h.own b n hb
 ·by_cases hc:b=b1∨b=b2∨b=w.heap.size+1
  ·rw [kin b hc] at hb;cases hb
  ·rw [kout b hc] at hb
   rcases h.new b n hb with h1|⟨_,h1⟩
   ·exact .inl h1
   ·have:b=w.heap.size:=by omega
    subst this
    exact .inr ⟨Nat.le_refl _,h.hD⟩
 ·have kt:∀b,b=b1∨b=b2∨b=w.heap.size+1→K1 b= .tok 0 .outer:=fun b hb=>by
   rcases hb with rfl|rfl|rfl
   ·exact h.s1
   ·exact h.s2
   ·exact h.sL
  refine h.st.re ⟨fun b hc h1 h2=>kout b fun e=>h2 (kt b e),fun b n c j hb=>kout b fun e=>by rw [kt b e] at hb;injection hb with _ hb;cases hb⟩ (fun b hb=>?_) fun b o hm hp=>?_
  ·rw [kout b (by omega)];exact h.st.krel b hb
  ·rw [kout b fun e=>by rw [kt b e] at hp;cases hp];exact hp
 ·obtain ⟨Ds,d1,d2,d3⟩:=hm
  have hlt:∀D'∈Ds,D'<w.heap.size:=fun D' hD'=>(Array.getElem?_eq_some_iff.1 (d3 D' hD').2.2).1
  refine ⟨w.heap.size::Ds,List.nodup_cons.2 ⟨fun hm=>by have:=hlt _ hm;omega,d1⟩,by rw [d2];rfl,fun D' hD'=>?_⟩
  rcases List.mem_cons.1 hD' with rfl|hD'
  ·exact ⟨hs,(kout _ (by omega)).trans h.sD,h.hD⟩
  ·obtain ⟨q1,q2,q3⟩:=d3 D' hD'
   exact ⟨q1,(old D' (hlt D' hD') (by rw [q2];simp)).trans (h.own _ _ q2).1,(h.own _ _ q2).2.trans q3⟩
end
def vt (len k:Nat):Nat:=(len+k - 1) / k
def v6 (a:Option Addr) (len k j:Nat):Value:=sliced a (j*k) (j*k+min k (len - j*k)) (j*k+min k (len - j*k)) 1
def KpB (b1 b2:Nat) (W W':World):Prop:=W'.cell? ⟨b1,0,none⟩=W.cell? ⟨b1,0,none⟩∧W'.cell? ⟨b2,0,none⟩=W.cell? ⟨b2,0,none⟩
def ItC (P:Program) (f:FuncId):Prop:=(∀args w,(callFunc f args).run P w= .ok (.enter f args) w)∧∀(n l:Nat) (a:Option Addr) (len cap k m b1 b2:Nat),m=vt len k→0<k→k≤1000→len≤cap→len≤big→∀J:List (Fin m)→World→Prop,
 (∀pre (x:Fin m) W,J pre W→pre.length<m→YieldAt Fence.wide (n - 1) P l #[v6 a len k x.val] W fun e W'=>e= .returned (.bool true)∧J (pre++ [x]) W'∧KpB b1 b2 W W')→
 (∀s A,J s A→J s A.drew)→∀W:World,W.cell? ⟨b1,0,none⟩=some (.slice a len cap)→W.cell? ⟨b2,0,none⟩=some (.int .i64 k)→J [] W→
 CallsIn Fence.wide n P f #[.func (.yield l) #[] #[],.pointer (some ⟨b1,0,none⟩),.pointer (some ⟨b2,0,none⟩)] W fun e W'=>(∃v,e= .returned v)∧∃ys:List (Fin m),ys.map Fin.val=List.range m∧J ys W'
def jO (xs:List (List D)) (k j:Nat):List (List D):=(xs.drop (j*k)).take k
theorem Ws {len k j:Nat} (hk:0<k) (h:j<vt len k):j*k<len:=by
 unfold vt at h
 have:=(Nat.le_div_iff_mul_le hk).1 h
 rw [Nat.succ_mul] at this
 omega
theorem YA {K:Nat→BK} {w:World} {ys:List (List D)} {a:Option Addr} {n c c':Nat} (h:RepV K w (.slc ys) (.slice a n c)) (h1:n≤c') (h2:c'≤c):RepV K w (.slc ys) (.slice a n c'):=by
 cases h with
 | slcnil a=>
  obtain rfl:c'=0:=by omega
  exact .slcnil a
 |slc xs b off cap sz f hb hc hm hs hv hcell hone hrep=>exact .slc ys b off c' sz f hb h1 (by omega) hs hv hcell hone hrep
theorem VV {K:Nat→BK} {w:World} {xs:List (List D)} {a:Option Addr} {len cap k j:Nat} (hr:RepV K w (.slc xs) (.slice a len cap)) (hx:∀y∈xs,y.length=1) (hk:0<k) (hj:j<vt xs.length k):RepV K w (.slc (jO xs k j)) (v6 a xs.length k j):=by
 have hlt:=Ws hk hj
 obtain ⟨e1,e2,h3⟩:=Vb hr 1 (fun i x hi=>hx x (List.mem_of_getElem? hi)) (l:=j*k) (h:=j*k+min k (xs.length - j*k)) (by omega) (by omega)
 unfold sliced at h3
 rw [if_neg (by omega)] at h3
 unfold v6 sliced
 rw [if_neg (by omega)]
 have hl:(xs.take (j*k+min k (xs.length - j*k))).drop (j*k)=jO xs k j:=by
  unfold jO
  rw [List.drop_take,List.take_eq_take_iff,List.length_drop]
  omega
 rw [hl] at h3
 exact YA h3 (Nat.le_refl _) (by omega)
theorem asg_in {P:Program} {asg:Code} {p t:Tmp} (h:KL asg=some (p,t)) {l n:Nat} {a:Act} {W:World} {K:Act→World→Prop} (hK:K (a.put (some t) (a.eval (.tmp p))) W):asg.wpIn (Fence.wide.inRound l) n P (Exit.then K (fun _ _ _=>False)) a W:=by
 unfold KL at h
 split at h
 ·rename_i id ops
  split at h
  ·rename_i o hops
   split at h
   ·rename_i p' t' ho hd hg
    cases h
    refine wpIn_region_list ?_
    rw [hops]
    unfold wpListIn
    rw [if_pos (by simp [Region.wanted,hg])]
    refine G7 (by simp [vv,ho]) ?_
    unfold Oper.wp
    rw [show (execOp a.eval o).run P W= .ok (.value (a.eval (.tmp p))) W by simp [execOp,ho]]
    simp only [Oper.upon,hd]
    exact hK
   ·cases h
  ·cases h
 ·cases h
theorem XRF.chunk {P:Program} (hm:P.follows .mixedOrders=true) {f:FuncId} (hit:ItC P f) {s p t:Tmp} {x:XC} {F:List D} {H:AH} {Q:AQ} {b1 b2 k:Nat} {xs:List (List D)} (hg:rv F (.tmp s)= .fn f [.ptr b1 0,.ptr b2 0]) (hp:p<F.length)
  (e1:qu H b1=some (.cells [.slc xs])) (e2:qu H b2=some (.cells [.int .i64 k])) (hk:0<k) (hk2:k≤1000) (hx:∀y∈xs,y.length=1) (Inv:List Nat→AH→Prop) (H0:AH) (hsb:Sbn H0 (qW (qW H b1) b2)) (h0:Inv [] H0)
  (hbody:∀(pre:List Nat) (j:Nat) (H':AH),Inv pre H'→j<vt xs.length k→pre.length<vt xs.length k→fact (.slc (jO xs k j))→xcode P x (((F.map D.view).set p (.slc (jO xs k j))).set t (.slc (jO xs k j))) H' (oV (fun _ H''=>∃H3,Sbn H3 H''∧Inv (pre++ [j]) H3) (fun _ _ _=>False)))
  (hdone:∀H',Inv (List.range (vt xs.length k)) H'→Q .normal (F.map D.view) H'):XRF P (.tmp s) p t x F H Q:=by
 intro ps asg c hps hasg hc ho hv hib hdb K w a s0 hs hd
 obtain ⟨vs,hev,hsz,hvs⟩:=(hg▸hs.rep (x:= .tmp s) rfl).fn_inv rfl
 have hvs2:vs=#[.pointer (some ⟨b1,0,none⟩),.pointer (some ⟨b2,0,none⟩)]:=by
  have hz:vs.size=2:=hsz
  have q0:=(hvs 0 _ _ rfl (Array.getElem?_eq_getElem (show 0<vs.size by omega))).ptr_inv
  have q1:=(hvs 1 _ _ rfl (Array.getElem?_eq_getElem (show 1<vs.size by omega))).ptr_inv
  apply Array.ext
  ·simpa using hz
  ·intro i h1 h2
   have h3:i<2:=by simpa using h2
   obtain rfl|rfl:i=0∨i=1:=by omega
   ·exact q0
   ·exact q1
 obtain ⟨hp1,c1,T1,hh1,hz1,hr1⟩:=hs.hrel.ok b1 _ (j4 e1)
 obtain ⟨hp2,c2,T2,hh2,hz2,hr2⟩:=hs.hrel.ok b2 _ (j4 e2)
 obtain ⟨u1,hu1,_,hru1⟩:=hr1 0 _ rfl
 obtain ⟨u2,hu2,_,hru2⟩:=hr2 0 _ rfl
 have hru1':RepV K w (.slc xs) u1:=hru1
 obtain ⟨a0,cap,rfl,hlc,hcm⟩:=hru1'.slc_form
 obtain ⟨rfl,_⟩:=(show RepV K w (.int .i64 k) u2 from hru2).int_inv
 have hb1:=(Array.getElem?_eq_some_iff.1 hh1).1
 have hb2:=(Array.getElem?_eq_some_iff.1 hh2).1
 have hcell1:w.cell? ⟨b1,0,none⟩=some (.slice a0 xs.length cap):=by rw [kO hh1];exact hu1
 have hcell2:w.cell? ⟨b2,0,none⟩=some (.int .i64 k):=by rw [kO hh2];exact hu2
 obtain rfl:ps=#[p]:=by
  apply Array.ext'
  simpa using hps
 have hvv:∀d∈F.map D.view,d.view=d:=fun d hd=>by
  obtain ⟨d0,_,rfl⟩:=List.mem_map.1 hd
  exact VA d0
 refine (wpIn_wide (n:=3)).1 (wpIn_rangeFunc fun fn _=>?_)
 obtain ⟨r,hr⟩:∃r:Loop,r={state:= .ready,pending:=none,fn,tmps:=a.tmps,params:=#[p],assign:=asg,body:=c,defers:=w.heap.size}:=⟨_,rfl⟩
 obtain ⟨W1,hW1⟩:∃W1,(w.alloc (.deferred (some []))).alloc (.loop r)=W1:=⟨_,rfl⟩
 have hl1:W1.heap[w.heap.size+1]?=some (.loop r):=by
  rw [←hW1];have:=World.alloc_heap_new (w.alloc (.deferred (some []))) (.loop r);rwa [World.size_alloc] at this
 have hd1:W1.heap[w.heap.size]?=some (.deferred (some [])):=by
  rw [←hW1];exact (Below.heap_alloc _ _ _ (by simp)).trans (World.alloc_heap_new w _)
 have hold:∀b,b<w.heap.size→W1.heap[b]?=w.heap[b]?:=fun b hb=>by
  rw [←hW1];exact (Below.heap_alloc _ _ _ (by simp;omega)).trans (Below.heap_alloc _ _ _ hb)
 have hsz1:W1.heap.size=w.heap.size+2:=by rw [←hW1];simp
 have hos1:W1.os=w.os∧W1.tape=w.tape∧W1.output=w.output∧W1.drawn=w.drawn:=by rw [←hW1];exact ⟨rfl,rfl,rfl,rfl⟩
 refine ⟨w.heap.size+1,[{target:= .collected w.heap.size,args:=#[]}],W1,{target:= .fn (.func f) vs,args:=#[.func (.yield (w.heap.size+1)) #[] #[]]},W1,f,#[.func (.yield (w.heap.size+1)) #[] #[]]++vs,W1,?_,?_,fun _ _=>trivial,?_,fun _=>by omega,?_⟩
 ·rw [←hW1,hr];exact run_enterLoop_outer _ _ _ _ _
 ·simp only [resolve,hev]
  simp [go_sem]
 ·simp [invoke,go_sem,hit.1]
 ·subst hvs2
  have hput:∀{r1:Loop} {K1:Nat→BK} {W:World} {H1:AH} (r2:Loop),LI K w b1 b2 r1 (F.map D.view) a.tmps K1 W H1→LI K w b1 b2 r2 (F.map D.view) a.tmps K1 (W.putObj (w.heap.size+1) (.loop r2)) H1:=fun r2 g=>
   g.step hs.krel hb1 hb2 rfl rfl rfl (Nat.le_refl _) (by simp [World.putObj]) (fun b hb=>World.putObj_heap_other hb) (World.putObj_heap_same (Array.getElem?_eq_some_iff.1 g.hL).1)
  refine (hit.2 _ (w.heap.size+1) a0 xs.length cap k _ b1 b2 rfl hk hk2 hlc hru1'.slc_big (fun pre W=>∃K1 H1,Inv (pre.map Fin.val) H1∧LI K w b1 b2 r (F.map D.view) a.tmps K1 W H1) ?_ ?_ W1
   ((j3 (hold b1 hb1) 0).trans hcell1) ((j3 (hold b2 hb2) 0).trans hcell2) (let ⟨K1,h⟩:=LI.start hs e1 e2 hp1 hp2 hsb hb1 hb2 hos1.1 hos1.2.1 hos1.2.2.1 hos1.2.2.2 hsz1 hold hd1 hl1;⟨K1,H0,h0,h⟩)).mono ?_
  ·rintro pre j W ⟨K1,H1,g1,g2⟩ hlen
   have hy:=run_yield (P:=P) (args:=#[v6 a0 xs.length k j.val]) g2.hL (by rw [hr];rfl)
   refine ⟨r.fn,_,r.assign,r.body,hy,roundIn_of_wpIn trivial ?_⟩
   have he:Act.eval {tmps:=a.tmps.setIfInBounds p (v6 a0 xs.length k j.val),defers:= []} (.tmp p)=v6 a0 xs.length k j.val:=by
    have hlt:p<a.tmps.size:=by rw [hs.len];exact hp
    simp [Act.eval,hlt]
   have htm:(Array.zip r.params #[v6 a0 xs.length k j.val]).foldl (fun t (p,v)=>t.setIfInBounds p v) r.tmps=a.tmps.setIfInBounds p (v6 a0 xs.length k j.val):=by rw [hr];simp
   rw [htm]
   have hra:r.assign=asg:=by rw [hr]
   have hrb:r.body=c:=by rw [hr]
   rw [hra,hrb]
   refine asg_in hasg ?_
   rw [he]
   refine ⟨_,run_beginRound g2.hL (by rw [hr]),?_⟩
   have g3:=hput {r with state:= .busy} g2
   have hrep:RepV K1 (W.putObj (w.heap.size+1) (.loop {r with state:= .busy})) (.slc (jO xs k j.val)) (v6 a0 xs.length k j.val):=VV (RepV.mono g3.ext hru1') hx hk j.isLt
   refine wpIn_mono (uq hm x c _ H1 _ hib hdb hc ho hv (fun _ _ h=>h) (hbody (pre.map Fin.val) j.val H1 g1 j.isLt (by simpa using hlen) hrep.fact) K1 _ _ ((g3.st.setP hrep).setP hrep)) fun e a' W' ⟨F',H',K',q1,q2,q3⟩=>?_
   cases e with
   | normal=>
    obtain ⟨H3,q4,q5⟩:=q1
    have g4:=g3.round hs.krel hvv q2 q3 q4
    refine ⟨_,_,run_endRound none g4.hL,rfl,⟨K',H3,by simpa using q5,?_⟩,?_⟩
    ·have hrr:({({r with state:= .busy}:Loop) with state:=if (none:Option Code).isNone then .ready else .done,pending:=none}:Loop)=r:=by
      rw [hr];rfl
     rw [hrr]
     exact hput r g4
    ·have o1:∀b,b<w.heap.size→((W'.putObj (w.heap.size+1) (.loop {({r with state:= .busy}:Loop) with state:=if (none:Option Code).isNone then .ready else .done,pending:=none})).heap[b]?=W'.heap[b]?):=fun b hb=>World.putObj_heap_other (by omega)
     exact ⟨j3 ((o1 b1 hb1).trans (g4.h1.trans g2.h1.symm)) 0,j3 ((o1 b2 hb2).trans (g4.h2.trans g2.h2.symm)) 0⟩
   |_=>exact q1.elim
  ·rintro pre W ⟨K1,H1,g1,g2⟩
   exact ⟨K1,H1,g1,g2.step hs.krel hb1 hb2 rfl rfl rfl (Nat.le_succ _) rfl (fun _ _=>rfl) g2.hL⟩
  ·rintro e W2 ⟨⟨v,rfl⟩,ys,hS,K1,H1,g1,g2⟩
   rw [hS] at g1
   refine ⟨none,W2.putObj (w.heap.size+1) (.loop {r with state:= .exhausted}),?_,?_⟩
   ·have:=run_endLoop (P:=P) g2.hL (by rw [hr];simp)
    have hpn:r.pending=none:=by rw [hr]
    rw [hpn] at this ⊢
    exact this
   ·obtain ⟨K',q1,q2,q3⟩:=(hput _ g2).finish hs.krel hb1 hb2 hp1 hp2 hd.1 hd.2
    exact ⟨_,H1,K',hdone H1 g1,q1,q2,Nat.le_trans hd.1 q1.ext.size,q3⟩
theorem XRF.chunkK {P:Program} (hm:P.follows .mixedOrders=true) {f:FuncId} (hit:ItC P f) {s p t:Tmp} {x:XC} {F:List D} {H:AH} {Q:AQ} {b1 b2 k:Nat} {xs:List (List D)} (hg:rv F (.tmp s)= .fn f [.ptr b1 0,.ptr b2 0]) (hp:p<F.length)
  (e1:qu H b1=some (.cells [.slc xs])) (e2:qu H b2=some (.cells [.int .i64 k])) (hk:0<k) (hk2:k≤1000) (hx:∀y∈xs,y.length=1) (Inv:List Nat→AH→Prop) (H0:AH) (hsb:Sbn H0 (qW (qW H b1) b2)) (h0:Inv [] H0)
  (hbody:∀(pre:List Nat) (j:Nat) (H':AH),Inv pre H'→j<vt xs.length k→pre.length<vt xs.length k→fact (.slc (jO xs k j))→∀K:AQ,(∀F' H'' H3,Sbn H3 H''→Inv (pre++ [j]) H3→K .normal F' H'')→xcode P x (((F.map D.view).set p (.slc (jO xs k j))).set t (.slc (jO xs k j))) H' K)
  (hdone:∀H',Inv (List.range (vt xs.length k)) H'→Q .normal (F.map D.view) H'):XRF P (.tmp s) p t x F H Q:=
 XRF.chunk hm hit hg hp e1 e2 hk hk2 hx Inv H0 hsb h0 (fun pre j H' h1 h2 h3 h4=>hbody pre j H' h1 h2 h3 h4 _ fun F' H'' H3 g1 g2=>⟨H3,g1,g2⟩) hdone
end Go.Aw
end
section
namespace Go.Proofs.YtpdhandimdibhaaGreatDoor
open Go Go.Aw Go.RowKit Go.Shelf
attribute [local go_sem] Oper.semAt_some
def Same (x y:Nat):Prop:=x=y
theorem Ga (n:Nat) (l b1 b2 len cap k m:Nat) (a:Option Addr) (hm0:m=vt len k) (hk:0<k) (hk2:k≤1000) (hlc:len≤cap) (hlb:len≤big) (J:List (Fin m)→World→Prop)
  (hY:∀pre (x:Fin m) W,J pre W→pre.length<m→YieldAt Fence.wide (n - 1) Tryz.prog l #[v6 a len k x.val] W fun e W'=>
   e= .returned (.bool true)∧J (pre++ [x]) W'∧KpB b1 b2 W W')
  (hJd:∀s A,J s A→J s A.drew) (W:World) (hB1:W.cell? ⟨b1,0,none⟩=some (.slice a len cap)) (hB2:W.cell? ⟨b2,0,none⟩=some (.int .i64 k)) (h0:J [] W):
  CallsIn Fence.wide n Tryz.prog 76 #[.func (.yield l) #[] #[],.pointer (some ⟨b1,0,none⟩),.pointer (some ⟨b2,0,none⟩)] W fun e W'=>(∃v,e= .returned v)∧
   ∃ys:List (Fin m),ys.map Fin.val=List.range m∧J ys W':=by
 have hmo:Tryz.prog.follows .mixedOrders=true:=by kernel_rfl
 refine callsIn_of_wp Tryz.func76 rfl trivial ?_ rfl
 simp only [Tryz.ntmps76,List.size_toArray,List.length_cons,List.length_nil,Nat.reduceAdd,Nat.reduceSub,Array.replicate_succ,Array.replicate_zero,List.push_toArray,List.append_toArray,List.nil_append,List.cons_append]
 gi_wp2
 gi_loopw [4] (fun i wr=>∃(c i0:Nat) (pre:List (Fin m)),c≤m∧Same i0 (c*k)∧i0≤len+k∧i= .int .i64 i0∧pre.map Fin.val=List.range c∧J pre wr∧KpB b1 b2 W wr)
  (fun i _=>len+k - (intOf i).toNat)
 case atStart=>exact ⟨0,0,[],Nat.zero_le _,by simp [Same],Nat.zero_le _,rfl,rfl,h0,rfl,rfl⟩
 case round=>
  obtain ⟨c,i0,pre,hc,hi0,hile,rfl,hpre,hJs,hk1,hk3⟩:=hrel
  have hc1:wr.cell? ⟨b1,0,none⟩=some (.slice a len cap):=hk1.trans hB1
  have hc2:wr.cell? ⟨b2,0,none⟩=some (.int .i64 k):=hk3.trans hB2
  have hbig:=qt
  by_cases hlt:i0<len
  ·have hcm1:c<m:=by
    unfold Same at hi0
    subst hm0 hi0
    unfold vt
    refine (Nat.le_div_iff_mul_le hk).2 ?_
    rw [Nat.succ_mul]
    omega
   have hlt':(i0:Int)<len:=by omega
   obtain ⟨e0,he0⟩:∃e0,e0=min k (len - i0):=⟨_,rfl⟩
   have he1:min (k:Int) (len - i0:Nat)=e0:=by omega
   have he2:0<e0:=by omega
   have he3:i0+e0≤len:=by omega
   obtain ⟨fn,tmps,assign,body,hy,hR⟩:=hY _ (⟨c,hcm1⟩:Fin m) wr.drew (hJd _ _ hJs) (by have:=congrArg List.length hpre;simp at this;omega)
   unfold v6 at hy
   dsimp only at hy
   rw [←show i0=c*k from hi0,←he0] at hy
   have hyA:∀x:Nat,e0=x→(Instr.yield l #[Value.slice (Option.map (fun y=>y.add i0) a) (((i0:Int)+(x:Int)).toNat - i0) (((i0:Int)+(x:Int)).toNat - i0)]).run Tryz.prog wr.drew= .ok (.round l fn tmps assign body) wr.drew:=fun x hx=>by
    rw [←hy,←hx]
    unfold sliced
    rw [if_neg (by omega),show ((i0:Int)+(e0:Int)).toNat=i0+e0 by omega,Nat.mul_one]
   clear hy
   have hd1:wr.drew.cell? ⟨b1,0,none⟩=some (.slice a len cap):=hc1
   have hd2:wr.drew.cell? ⟨b2,0,none⟩=some (.int .i64 k):=hc2
   gi_wp2
   gi_region_o
   all_goals gi_wp2
   all_goals
    rw [hyA _ (by omega)]
    refine ⟨fun h=>(by cases h),hR.mono ?_⟩
    rintro e W3 ⟨rfl,hJ3,hk5,hk6⟩
    ·have hc3:W3.cell? ⟨b1,0,none⟩=some (.slice a len cap):=hk5.trans hd1
     have hc4:W3.cell? ⟨b2,0,none⟩=some (.int .i64 k):=hk6.trans hd2
     gi_wp2
     go_roundw
     case rel=>exact ⟨c+1,i0+k,pre++ [⟨c,hcm1⟩],by omega,by unfold Same at*;rw [hi0,Nat.succ_mul],by omega,by simp,by rw [List.map_append,hpre,List.range_succ];rfl,hJ3,hk5.trans hk1,hk6.trans hk3⟩
     case measure=>simp [intOf];omega
  ·have hcm2:c=m:=by
    refine Nat.le_antisymm hc (Nat.le_of_not_lt fun h=>hlt ?_)
    rw [show i0=c*k from hi0]
    exact Ws hk (hm0▸h)
   have hlt':¬((i0:Int)<len):=by omega
   gi_wp2
   go_end0
   exact ⟨⟨_,rfl⟩,pre,hpre.trans (by rw [hcm2,←hm0]),hJs⟩
theorem it76:ItC Tryz.prog 76:=by
 refine ⟨enters_of Tryz.func76 (by kernel_rfl) rfl,fun n l a len cap k m b1 b2 hm hk hk2 hlc hlb J hY hJd W h1 h2 h0=>?_⟩
 exact Ga n l b1 b2 len cap k m a hm hk hk2 hlc hlb J hY hJd W h1 h2 h0
end Go.Proofs.YtpdhandimdibhaaGreatDoor
end
section
namespace Go.Proofs.YtpdhandimdibhaaGreatDoor
open Go Go.Aw
def sml (n:Int):Prop:= -2000000≤n∧n≤2000000
theorem Kn {n:Int} (h:sml n):vk .i64 n:=by
 rw [wI]
 unfold sml at h
 omega
theorem Q9 {x:Id3} (h:jy x∨x=wE):sml x.o∧sml x.s∧sml x.i:=by
 unfold sml
 rcases h with h|h
 ·unfold jy at h;omega
 ·subst h;simp [wE]
theorem uses_k {k:Int} (h:uses k≠ []):1≤k∧k≤18:=by
 refine Classical.byContradiction fun hc=>h ?_
 unfold uses
 repeat rw [if_neg (by omega)]
theorem vJ {o:OpP} (h:uK o):(∀x∈wu o,sml x)∧(∀x∈o.ids,sml x.o∧sml x.s∧sml x.i)∧o.ids.length≤4∧o.name.length≤16∧o.text.length≤1024:=by
 obtain ⟨⟨h1,h2,h3,h4,h5⟩,⟨g1,g2,g3,g4⟩,⟨i1,i2,i3,i4⟩,⟨j1,j2⟩,_⟩:=h
 have hk:=uses_k h1
 have hon:jy o.on∨o.on=wE:=by
  by_cases c:79∈uses o.k
  ·exact .inl (h2 c)
  ·exact .inr (h3 c)
 have hto:jy o.to∨o.to=wE:=by
  by_cases c:84∈uses o.k
  ·exact .inl (h4 c)
  ·exact .inr (h5 c)
 have hil:o.ids.length≤4:=by
  by_cases c:73∈uses o.k
  ·obtain ⟨_,_,c3,c4⟩:=g3 c
   by_cases c5:o.k=18
   ·have:=c3 c5;omega
   ·exact (c4 c5).2
  ·rw [g4 c];simp
 have hids:∀x∈o.ids,sml x.o∧sml x.s∧sml x.i:=by
  intro x hx
  by_cases c:73∈uses o.k
  ·exact Q9 (.inl ((g3 c).1 x hx).1)
  ·rw [g4 c] at hx;simp at hx
 have hn:sml o.n:=by
  by_cases c:78∈uses o.k
  ·obtain ⟨c1,c2⟩:=g1 c
   unfold ww at c1
   unfold yr at c2
   unfold sml
   constructor
   ·split at c1<;>omega
   ·repeat' (split at c2)
    all_goals omega
  ·rw [g2 c];unfold sml;omega
 have hab:sml o.a∧sml o.b:=by
  unfold sml
  by_cases c:83∈uses o.k
  ·have:=j1 c;unfold yS at this;omega
  ·have:=j2 c;omega
 have hk2:sml o.k:=by unfold sml;omega
 have a1:=Q9 hon
 have a2:=Q9 hto
 refine ⟨?_,hids,hil,?_,?_⟩
 ·intro x hx
  simp only [wu,uX,List.cons_append,List.nil_append,List.mem_cons,List.not_mem_nil,or_false] at hx
  rcases hx with rfl|rfl|rfl|rfl|rfl|rfl|rfl|rfl|rfl|rfl
  ·exact hk2
  ·exact a1.1
  ·exact a1.2.1
  ·exact a1.2.2
  ·exact a2.1
  ·exact a2.2.1
  ·exact a2.2.2
  ·exact hn
  ·exact hab.1
  ·exact hab.2
 ·by_cases c:65∈uses o.k
  ·exact (i1 c).2
  ·rw [i2 c];simp
 ·by_cases c:88∈uses o.k
  ·exact i3 c
  ·rw [i4 c];simp
def triple (l:List Int) (j:Nat):Id3:=⟨l.getD (3*j) 0,l.getD (3*j+1) 0,l.getD (3*j+2) 0⟩
def triples (l:List Int):List Id3:=(List.range (l.length / 3)).map (triple l)
def pair (l:List Int) (j:Nat):Rf:=⟨l.getD (2*j) 0,l.getD (2*j+1) 0⟩
def pairs (l:List Int):List Rf:=(List.range (l.length / 2)).map (pair l)
theorem z8:∀(l:List Id3),triples (l.flatMap uX)=l
 | []=>rfl
 | x::l=>by
  have h:=z8 l
  unfold triples at h ⊢
  rw [wU] at h ⊢
  rw [show 3*(x::l).length / 3=l.length+1 by rw [List.length_cons];omega,List.range_succ_eq_map,List.map_cons,List.map_map]
  rw [show 3*l.length / 3=l.length by omega] at h
  rw [show triple ((x::l).flatMap uX) 0=x from rfl]
  exact congrArg _ h
theorem Qz:∀(l:List Rf),pairs (jo l)=l
 | []=>rfl
 | x::l=>by
  have h:=Qz l
  unfold pairs at h ⊢
  rw [yP] at h ⊢
  rw [show 2*(x::l).length / 2=l.length+1 by rw [List.length_cons];omega,List.range_succ_eq_map,List.map_cons,List.map_map]
  rw [show 2*l.length / 2=l.length by omega] at h
  rw [show pair (jo (x::l)) 0=x from rfl]
  exact congrArg _ h
theorem JC {l:List Int} {r:List UInt8} {many:Int} {by':Nat} (h:∀x∈l,vk .i64 x) (hb:l.length≤140737488355328) (hm:0≤many→(l.length:Int)=many) (hy:l.length % by'=0):
  yl (jg l++r) false many by'=false∧QS (jg l++r) false many by'=l∧(jg l++r).drop (jn (jg l++r)).2.1=r:=by
 have e:=UN (rest:=r) h hb
 have e1:yl (jg l++r) false many by'=false:=by
  unfold yl
  rw [e]
  simp [hy]
  exact hm
 refine ⟨e1,?_,?_⟩
 ·unfold QS
  rw [e1,e]
  rfl
 ·rw [e]
  exact List.drop_left
def opOf (l:List Int) (ids:List Id3) (name text:List UInt8):OpP:=⟨l.getD 0 0,⟨l.getD 1 0,l.getD 2 0,l.getD 3 0⟩,⟨l.getD 4 0,l.getD 5 0,l.getD 6 0⟩,ids,l.getD 7 0,name,text,l.getD 8 0,l.getD 9 0⟩
def Qp (l m:List Int) (b2:List UInt8) (x2:Bool):OpP×List UInt8×Bool:=
 if (kg b2).1.length=2 then (opOf l (triples m) ((kg b2).1.getD 0 []) ((kg b2).1.getD 1 []),b2.drop (kg b2).2.1,x2||decide ((kg b2).2.2≠0))
 else (opOf l (triples m) [] [],b2.drop (kg b2).2.1,true)
def JM (l:List Int) (b1:List UInt8) (x1:Bool):OpP×List UInt8×Bool:=Qp l (QS b1 x1 (-1) 3) (b1.drop (jn b1).2.1) (yl b1 x1 (-1) 3)
def jv (b:List UInt8) (bad:Bool):OpP×List UInt8×Bool:=JM (QS b bad 10 1) (b.drop (jn b).2.1) (yl b bad 10 1)
theorem op_enc {o:OpP} {r:List UInt8} (h:uK o):jv (jM o++r) false=(o,r,false):=by
 obtain ⟨h1,h2,h3,h4,h5⟩:=vJ h
 have e:jM o++r=jg (wu o)++(jg (o.ids.flatMap uX)++(yv [o.name,o.text]++r)):=by simp only [jM,List.append_assoc]
 have l10:(wu o).length=10:=rfl
 obtain ⟨a1,a2,a3⟩:=JC (l:=wu o) (r:=jg (o.ids.flatMap uX)++(yv [o.name,o.text]++r)) (many:=10) (by':=1) (fun x hx=>Kn (h1 x hx)) (by omega) (fun _=>by rw [l10];rfl) (by omega)
 have hi:∀x∈o.ids.flatMap uX,vk .i64 x:=by
  intro x hx
  obtain ⟨y,hy,hx⟩:=List.mem_flatMap.1 hx
  have:=h2 y hy
  simp only [uX,List.mem_cons,List.not_mem_nil,or_false] at hx
  rcases hx with rfl|rfl|rfl
  ·exact Kn this.1
  ·exact Kn this.2.1
  ·exact Kn this.2.2
 obtain ⟨b1,b2,b3⟩:=JC (l:=o.ids.flatMap uX) (r:=yv [o.name,o.text]++r) (many:= -1) (by':=3) hi (by rw [wU];omega) (fun hc=>by omega) (by rw [wU];omega)
 have s1:=Z7 (l:= [o.name,o.text]) (rest:=r) (by
  intro x hx
  simp only [List.mem_cons,List.not_mem_nil,or_false] at hx
  rcases hx with rfl|rfl<;>omega) (by simp)
 unfold jv JM
 rw [e,a1,a2,a3,b1,b2,b3]
 unfold Qp
 rw [s1,z8]
 dsimp only
 rw [if_pos (by rfl),List.drop_left]
 rfl
def ua:Nat→List UInt8→Bool→List OpP×List UInt8×Bool
 |0,b,bad=>([],b,bad)
 |c+1,b,bad=>if bad=true then ([],b,bad) else ((jv b bad).1::(ua c (jv b bad).2.1 (jv b bad).2.2).1,(ua c (jv b bad).2.1 (jv b bad).2.2).2)
theorem Kv:∀(l:List OpP) (r:List UInt8),(∀o∈l,uK o)→ua l.length (l.flatMap jM++r) false=(l,r,false)
 | [],r,_=>rfl
 | o::l,r,h=>by
  have e:=op_enc (r:=l.flatMap jM++r) (h o (.head _))
  have e2:=Kv l r (fun x hx=>h x (.tail _ hx))
  rw [show (o::l).flatMap jM++r=jM o++(l.flatMap jM++r) by simp,List.length_cons]
  unfold ua
  rw [e]
  dsimp only
  rw [e2]
  rfl
def wA (many:Int):Nat:=min many.toNat 17
def Zk (l m:List Int) (ops:List OpP) (b4:List UInt8) (x4:Bool):Pt×Bool:=(⟨l.getD 0 0,l.getD 1 0,l.getD 2 0,pairs m,ops,(qX b4).1⟩,x4||decide ((qX b4).2.2≠0))
def Wn (l m:List Int) (b2:List UInt8) (x2:Bool):Pt×Bool:=
 Zk l m (ua (wA (qP b2).1) (b2.drop (qP b2).2.1) (x2||decide ((qP b2).2.2≠0))).1 (ua (wA (qP b2).1) (b2.drop (qP b2).2.1) (x2||decide ((qP b2).2.2≠0))).2.1 (ua (wA (qP b2).1) (b2.drop (qP b2).2.1) (x2||decide ((qP b2).2.2≠0))).2.2
def W9 (l:List Int) (b1:List UInt8) (x1:Bool):Pt×Bool:=Wn l (QS b1 x1 (-1) 2) (b1.drop (jn b1).2.1) (yl b1 x1 (-1) 2)
def ut (b:List UInt8):Pt×Bool:=W9 (QS b false 3 1) (b.drop (jn b).2.1) (yl b false 3 1)
def Good (p:Pt):Prop:=gj p=0
theorem We {p:Pt} (h:Good p):wz p∧p.needs.length≤8∧p.ops.length≤16∧vN p∧o5 p∧p.sl.length≤1200:=by
 unfold Good gj at h
 by_cases c:kr p=0
 ·rw [if_neg (fun d=>d c)] at h
  have hs:p.sl.length≤1200:=by
   split at h
   ·simp at h
   ·omega
  unfold kr at c
  by_cases c1:wz p
  ·rw [if_neg (fun d=>d c1)] at c
   by_cases c2:8<p.needs.length∨16<p.ops.length
   ·rw [if_pos c2] at c;simp at c
   rw [if_neg c2] at c
   by_cases c3:p.ops= []
   ·rw [if_pos c3] at c;simp at c
   rw [if_neg c3] at c
   by_cases c4:vN p
   ·rw [if_neg (fun d=>d c4)] at c
    by_cases c5:o5 p
    ·exact ⟨c1,by omega,by omega,c4,c5,hs⟩
    ·rw [if_pos c5] at c;simp at c
   ·rw [if_pos c4] at c;simp at c
  ·rw [if_pos c1] at c;simp at c
 ·rw [if_pos c] at h;exact (c h).elim
theorem pt_enc {p:Pt} (h:Good p):ut (yn p)=(p,false):=by
 obtain ⟨h1,h2,h3,h4,h5,h6⟩:=We h
 unfold wz at h1
 have e:yn p=jg [p.o,p.s,p.day]++(jg (jo p.needs)++(qQ p.ops.length++(p.ops.flatMap jM++(j6 p.sl++ [])))):=by simp only [yn,List.append_assoc,List.append_nil]
 obtain ⟨a1,a2,a3⟩:=JC (l:= [p.o,p.s,p.day]) (r:=jg (jo p.needs)++(qQ p.ops.length++(p.ops.flatMap jM++(j6 p.sl++ [])))) (many:=3) (by':=1) (by
  intro x hx
  simp only [List.mem_cons,List.not_mem_nil,or_false] at hx
  rw [wI]
  rcases hx with rfl|rfl|rfl<;>omega) (by simp) (fun _=>rfl) (by simp)
 obtain ⟨b1,b2,b3⟩:=JC (l:=jo p.needs) (r:=qQ p.ops.length++(p.ops.flatMap jM++(j6 p.sl++ []))) (many:= -1) (by':=2) (by
  intro x hx
  obtain ⟨y,hy,hx⟩:=List.mem_flatMap.1 hx
  obtain ⟨i,hi,hy⟩:=List.getElem_of_mem hy
  have hv:=h4 i hi
  unfold vH at hv
  rw [js hi,hy] at hv
  simp only [List.mem_cons,List.not_mem_nil,or_false] at hx
  rw [wI]
  rcases hx with rfl|rfl<;>omega) (by rw [yP];omega) (fun hc=>by omega) (by rw [yP];omega)
 have c1:=Kg (m:=(p.ops.length:Int)) (rest:=p.ops.flatMap jM++(j6 p.sl++ [])) (Wa (by omega))
 have d1:=Kv p.ops (j6 p.sl++ []) h5
 have f1:=Jj (s:=p.sl) (rest:= []) (by omega)
 unfold ut W9
 rw [e,a1,a2,a3,b1,b2,b3]
 unfold Wn
 rw [c1,show wA ((p.ops.length:Int),(qQ (p.ops.length:Int)).length,(0:Int)).1=p.ops.length by simp [wA];omega,List.drop_left]
 rw [show (false||decide (((p.ops.length:Int),(qQ (p.ops.length:Int)).length,(0:Int)).2.2≠0))=false from rfl,d1]
 unfold Zk
 rw [f1,Qz]
 rfl
noncomputable def oR (b:List UInt8):Pt×Int:=open Classical in if (ut b).2=false∧gj (ut b).1=0∧yn (ut b).1=b then ((ut b).1,0) else (uB,2)
theorem Ys {p:Pt} (h:Good p):oR (yn p)=(p,0):=by
 unfold oR
 rw [pt_enc h,if_pos ⟨rfl,h,rfl⟩]
end Go.Proofs.YtpdhandimdibhaaGreatDoor
end
section
namespace Go.Proofs.YtpdhandimdibhaaGreatDoor
open Go Go.Aw
theorem r46 {args:List D} {H:AH} {R:D→AH→Prop} (h:facts args→xcode Tryz.prog x46 (args++List.replicate (9 - args.length) (.tup [])) H (JB Tryz.prog [(.tmp 4)] R)):ACall Tryz.prog 46 args H R:=
 yy hm Tryz.func46 rfl (by kernel_rfl) (by kernel_rfl) (by kernel_rfl) (by kernel_rfl) (by kernel_rfl) (by kernel_rfl) h
theorem WM {fi:Nat} {xs:List (List D)} {k:Int} {H:AH} {R:D→AH→Prop} (hfi:fi=76) (hk:1≤k) (h:∀b2 b3,qD H b2→(b2≠b3∧qD H b3)→R (.fn fi [.ptr b2 0,.ptr b3 0]) ((b3,.cells [.int .i64 k])::(b2,.cells [.slc xs])::H)):ACall Tryz.prog 46 [.slc xs,.int .i64 k] H R:=by
 refine r46 fun hf=>?_
 subst hfi
 simp+contextual only [x46,kN,j8,ji,show (k<1)=False from eq_false (by omega),↓U46,↓XP,↓XU,qn,XW1,qa,qb,qc,qd,qe,qf,reduceCtorEq]
 refine fun b2 h2 b3 h3 _=>⟨_,Sbn.sub (List.Sublist.refl _),h b2 b3 h2 h3⟩
section
variable {l:List XO} {r:List (List XO×XO×Bool)} {dst:Option Tmp} {g:Option (Option (Tmp×Bool))} {tk ta fl:Bool} {t:TypeId} {ps:Array (Nat×Operand)}
theorem yg:gb ((l,⟨.build t ps,dst,g,tk,ta⟩,fl)::r)=gb r:= .trans rfl rfl
theorem yh:QQ (.build t ps)=false:= .trans rfl rfl
end
theorem Vn {b:List UInt8} {bad:Bool} {m:Nat}:(QS b bad (m:Int) 1).length=m:=by
 unfold QS
 split
 ·simp
 ·next h=>
  unfold yl at h
  simp at h
  omega
theorem ZE {b:List UInt8} {bad:Bool} {k:Nat}:(QS b bad (-1) k).length % k=0:=by
 unfold QS
 split
 ·simp
 ·next h=>
  unfold yl at h
  simp at h
  exact h.2
theorem YH {b:List UInt8} {bad:Bool} {k:Nat}:(QS b bad (-1) k).length≤b.length:=by
 unfold QS
 split
 ·simp
 ·exact ints_le.2
theorem UV {l:List Int} (h:l.length=10):∃a0 a1 a2 a3 a4 a5 a6 a7 a8 a9,l= [a0,a1,a2,a3,a4,a5,a6,a7,a8,a9]:=by
 match l,h with
 | [a0,a1,a2,a3,a4,a5,a6,a7,a8,a9],_=>exact ⟨_,_,_,_,_,_,_,_,_,_,rfl⟩
theorem chunk_3 {m:List Int} {j:Nat} (h3:m.length % 3=0) (hj:j<vt (ints m).length 3):(jO (ints m) 3 j).length=3∧(jO (ints m) 3 j).getD 0 []= [.int .i64 (triple m j).o]∧(jO (ints m) 3 j).getD 1 []= [.int .i64 (triple m j).s]∧(jO (ints m) 3 j).getD 2 []= [.int .i64 (triple m j).i]:=by
 unfold vt at hj
 rw [qr] at hj
 have hlt:j*3+2<m.length:=by omega
 have hg:∀i,i<3→(jO (ints m) 3 j).getD i []= [.int .i64 (m.getD (3*j+i) 0)]:=by
  intro i hi
  unfold jO
  rw [List.getD_eq_getElem?_getD,List.getElem?_take_of_lt hi,List.getElem?_drop,ints,List.getElem?_map,List.getElem?_eq_getElem (show j*3+i<m.length by omega)]
  rw [List.getD_eq_getElem?_getD,List.getElem?_eq_getElem (show 3*j+i<m.length by omega)]
  simp only [Option.map_some,Option.getD_some,Nat.mul_comm j 3]
 refine ⟨?_,hg 0 (by omega),hg 1 (by omega),hg 2 (by omega)⟩
 unfold jO
 rw [List.length_take,List.length_drop,qr]
 omega
theorem cnt_3 {m:List Int} (h3:m.length % 3=0):vt (ints m).length 3=m.length / 3:=by
 unfold vt
 rw [qr]
 omega
theorem f_op {b:List UInt8} {bad:Bool} {br:Nat} {H:AH} {R:D→AH→Prop} (hB:b.length≤1000000000) (hg:qu H br=some (vn b bad)) (h:R (.agg (jv b bad).1.d) (qF H br (vn (jv b bad).2.1 (jv b bad).2.2))):ACall Tryz.prog 49 [.ptr br 0] H R:=by
 refine b49 fun hf=>?_
 have hbig:=qt
 simp+contextual only [Zx,qj,qr,yg,yh,↓U49,↓XP,↓XU,qn,XW1,qa,qb,qc,qd,qe,qf,reduceCtorEq]
 intro b2 h2
 have e2:br≠b2:=fun e=>by
  have:=jf h2
  rw [←e,hg] at this
  simp at this
 refine oG (b:=b) (bad:=bad) (many:=((10:Nat):Int)) (by':=1) hB (by omega) (by omega) (by omega) (by rw [qg e2];exact hg) fun d hd=>?_
 rw [qh e2]
 have hg1:∀o,qu (qF H br o) br=some o:=fun o=>Ji (by rw [hg];rfl)
 have hl:=Vn (b:=b) (bad:=bad) (m:=10)
 obtain ⟨l,hl0⟩:∃l,QS b bad ((10:Nat):Int) 1=l:=⟨_,rfl⟩
 obtain ⟨bad1,hbad1⟩:∃x,yl b bad ((10:Nat):Int) 1=x:=⟨_,rfl⟩
 obtain ⟨c1,hc1⟩:∃x,b.drop (jn b).2.1=x:=⟨_,rfl⟩
 rw [hl0] at hl hd
 rw [hbad1,hc1]
 obtain ⟨a0,a1,a2,a3,a4,a5,a6,a7,a8,a9,rfl⟩:=UV hl
 have hB1:c1.length≤1000000000:=by rw [←hc1];simp;omega
 clear hl
 obtain ⟨xs,hxs,hx10,x0,x1,x2,x3,x4,x5,x6,x7,x8,x9⟩:∃xs,ints [a0,a1,a2,a3,a4,a5,a6,a7,a8,a9]=xs∧xs.length=10∧xs.getD 0 []= [.int .i64 a0]∧xs.getD 1 []= [.int .i64 a1]∧xs.getD 2 []= [.int .i64 a2]∧xs.getD 3 []= [.int .i64 a3]∧xs.getD 4 []= [.int .i64 a4]∧xs.getD 5 []= [.int .i64 a5]∧xs.getD 6 []= [.int .i64 a6]∧xs.getD 7 []= [.int .i64 a7]∧xs.getD 8 []= [.int .i64 a8]∧xs.getD 9 []= [.int .i64 a9]:=⟨_,rfl,rfl,rfl,rfl,rfl,rfl,rfl,rfl,rfl,rfl,rfl,rfl⟩
 rw [hxs] at hd
 simp+contextual only [Zx,qj,qr,yg,yh,hd,hx10,x0,x1,x2,x3,x4,x5,x6,x7,x8,x9,show ((10:Nat):Int)=10 from rfl,Int.reduceToNat,Int.reduceLE,Int.reduceLT,↓U49,↓XP,↓XU,qn,XW1,qa,qb,qc,qd,qe,qf,reduceCtorEq]
 refine fun _ _ _ _ _ _ _ _ _ _ _=>⟨by omega,fun b4 hb4=>?_⟩
 obtain ⟨h24,h4⟩:=hb4
 have e4:br≠b4:=fun e=>by
  have:=jf h4
  rw [←e,hg] at this
  simp at this
 rw [zA]
 refine Gz.take (j:=7) rfl (fun h=>(h rfl).elim) ?_
 simp only [jx,if_true]
 simp+contextual only [Zx,qj,qr,yg,yh,↓U49,↓XP,↓XU,qn,XW1,qa,qb,qc,qd,qe,qf,reduceCtorEq]
 refine oG (b:=c1) (bad:=bad1) (many:= -1) (by':=3) hB1 (by omega) (by omega) (by omega) (by rw [qg e4,qg e2];exact hg1 _) fun d2 hd2=>?_
 rw [qh e4,qh e2,QY]
 have hm3:=ZE (b:=c1) (bad:=bad1) (k:=3)
 have hml:=YH (b:=c1) (bad:=bad1) (k:=3)
 obtain ⟨m,hm0⟩:∃m,QS c1 bad1 (-1) ((3:Nat):Int).toNat=m:=⟨_,rfl⟩
 rw [show ((3:Nat):Int).toNat=3 from rfl] at hm0
 obtain ⟨bad2,hbad2⟩:∃x,yl c1 bad1 (-1) 3=x:=⟨_,rfl⟩
 obtain ⟨c2,hc2⟩:∃x,c1.drop (jn c1).2.1=x:=⟨_,rfl⟩
 have hB2:c2.length≤1000000000:=by rw [←hc2];simp;omega
 rw [hm0] at hm3 hml hd2
 rw [hbad2,hc2]
 obtain ⟨fi,hfi⟩:∃fi,fi=76:=⟨_,rfl⟩
 simp+contextual only [Zx,qj,qr,yg,yh,hd2,↓U49,↓XP,↓XU,qn,XW1,qa,qb,qc,qd,qe,qf,reduceCtorEq]
 refine fun _=>WM (fi:=fi) hfi (by omega) fun bA bB hA hB'=>?_
 simp+contextual only [Zx,qj,qr,yg,yh,↓U49,↓XP,↓XU,qn,XW1,qa,qb,qc,qd,qe,qf,reduceCtorEq]
 have hAB:bA≠bB:=hB'.1
 refine XRF.chunkK hm (by rw [hfi];exact it76) (p:=48) (t:=5) (k:=3) (xs:=ints m) (b1:=bA) (b2:=bB) (f:=fi) rfl (by show (48:Nat)<93;omega) (by rw [qg hAB];exact jS) jS (by omega) (by omega) ug
  (fun pre H'=>H'=((b4,AO.cells [.int .i64 a0,.int .i64 a1,.int .i64 a2,.int .i64 a3,.int .i64 a4,.int .i64 a5,.int .i64 a6,.own (qI (pre.map (triple m))),.int .i64 a7,.str [],.str [],.int .i64 a8,.int .i64 a9])::(b2,AO.cells [.int .i64 0,.int .i64 0,.int .i64 0,.int .i64 0,.int .i64 0,.int .i64 0,.int .i64 0,.own [],.int .i64 0,.str [],.str [],.int .i64 0,.int .i64 0])::qF H br (vn c2 bad2)))
  _ (by rw [jK hAB,vK,vK];exact Sbn.sub (List.Sublist.refl _)) rfl ?_ ?_
 ·intro pre j H' hI hj hpl hfact K hK
  subst hI
  obtain ⟨y3,y0,y1,y2⟩:=chunk_3 hm3 hj
  rw [cnt_3 hm3] at hj hpl
  generalize jO (ints m) 3 j=ys at y3 y0 y1 y2 ⊢
  have nx:=fun F' H''=>hK F' H'' _ (Sbn.sub (List.Sublist.refl _)) 
  clear hK
  rw [List.map_append,List.map_cons,List.map_nil,←uL] at nx
  have il:(qI (pre.map (triple m))).length=pre.length:=by simp [qI]
  have hac:=zV (l:=pre.map (triple m))
  generalize qI (pre.map (triple m))=acc at nx il hac ⊢
  generalize triple m j=tj at nx y0 y1 y2
  simp+contextual only [Zx,qj,qr,yg,yh,y3,y0,y1,y2,hd,hd2,show ((3:Nat):Int)=3 from rfl,Int.reduceToNat,Int.reduceLE,Int.reduceLT,↓U49,↓XP,↓XU,qn,XW1,qa,qb,qc,qd,qe,qf,reduceCtorEq]
  have n4:qu ((b2,AO.cells [.int .i64 0,.int .i64 0,.int .i64 0,.int .i64 0,.int .i64 0,.int .i64 0,.int .i64 0,.own [],.int .i64 0,.str [],.str [],.int .i64 0,.int .i64 0])::qF H br (vn c2 bad2)) b4=none:=by
   rw [qg (Ne.symm h24),h_oth (Ne.symm e4)]
   exact jf h4
  exact ⟨.inl n4,fun _ _ _=>⟨hac,by omega,by omega,nx _ _ rfl⟩⟩
 ·intro H' hI
  subst hI
  rw [cnt_3 hm3,show (List.range (m.length / 3)).map (triple m)=triples m from rfl]
  have hg5:qu ((b4,AO.cells [.int .i64 a0,.int .i64 a1,.int .i64 a2,.int .i64 a3,.int .i64 a4,.int .i64 a5,.int .i64 a6,.own (qI (triples m)),.int .i64 a7,.str [],.str [],.int .i64 a8,.int .i64 a9])::(b2,AO.cells [.int .i64 0,.int .i64 0,.int .i64 0,.int .i64 0,.int .i64 0,.int .i64 0,.int .i64 0,.own [],.int .i64 0,.str [],.str [],.int .i64 0,.int .i64 0])::qF H br (vn c2 bad2)) br=some (vn c2 bad2):=by
   rw [qg e4,qg e2]
   exact hg1 _
  have hg5':=hg5
  unfold vn at hg5'
  simp+contextual only [Zx,qj,qr,yg,yh,hd,hd2,hg5',vn,↓U49,↓XP,↓XU,qn,XW1,qa,qb,qc,qd,qe,qf,reduceCtorEq]
  refine fun _=>QP hB2 ?_
  simp+contextual only [Zx,qj,qr,yg,yh,hd,hd2,↓U49,↓XP,↓XU,qn,XW1,qa,qb,qc,qd,qe,qf,reduceCtorEq]
  refine fun _ _ _=>JT (b:=c2) (bad:=bad2) strs_le.1 hg5 ?_
  rw [qh e4,qh e2,QY]
  obtain ⟨ss,hss⟩:∃s,kg c2=s:=⟨_,rfl⟩
  rw [hss]
  obtain ⟨ss,kk,ee⟩:=ss
  dsimp only
  have sl:(strs ss).length=ss.length:=qK
  have hp:jv b bad=Qp [a0,a1,a2,a3,a4,a5,a6,a7,a8,a9] m c2 bad2:=by
   unfold jv JM
   rw [show QS b bad 10 1=_ from hl0,show yl b bad 10 1=_ from hbad1,hc1,hm0,hc2,hbad2]
  rw [hp] at h
  clear hp
  unfold Qp at h
  rw [hss] at h
  dsimp only at h
  by_cases c2l:ss.length=2
  ·have s0:=kR (l:=ss) (i:=0) (by omega)
   have s1:=kR (l:=ss) (i:=1) (by omega)
   have c2':((ss.length:Int)=2)=True:=eq_true (by omega)
   rw [if_pos c2l] at h
   have n4:∀o,qu ((b2,AO.cells [.int .i64 0,.int .i64 0,.int .i64 0,.int .i64 0,.int .i64 0,.int .i64 0,.int .i64 0,.own [],.int .i64 0,.str [],.str [],.int .i64 0,.int .i64 0])::qF H br o) b4=none:=fun o=>by
    rw [qg (Ne.symm h24),h_oth (Ne.symm e4)]
    exact jf h4
   simp+contextual only [Zx,qj,qr,yg,yh,hd,hd2,sl,c2',c2l,s0,s1,n4,qg h24,qh h24,show ((2:Nat):Int)=2 from rfl,show (9<13)=True from eq_true (by omega),show (10<13)=True from eq_true (by omega),Int.reduceToNat,Int.reduceLE,Int.reduceLT,↓U49,↓XP,↓XU,qn,XW1,qa,qb,qc,qd,qe,qf,reduceCtorEq]
   exact fun _ _ _=>h
  ·have c2':((ss.length:Int)=2)=False:=eq_false (by omega)
   rw [if_neg c2l] at h
   simp+contextual only [Zx,qj,qr,yg,yh,hd,hd2,sl,c2',qg e4,qg e2,hg1,vn,qh e4,qh e2,QY,qg h24,qh h24,↓U49,↓XP,↓XU,qn,XW1,qa,qb,qc,qd,qe,qf,reduceCtorEq]
   exact fun _=>h
end Go.Proofs.YtpdhandimdibhaaGreatDoor
end
section
namespace Go.Proofs.YtpdhandimdibhaaGreatDoor
open Go Go.Aw
theorem Y9 {α:Type} {f:List UInt8→α×Nat×Int} {p:α→Prop} {B:Nat} (hf:∀b,b.length≤B→p (f b).1):∀(n:Nat) (b:List UInt8),b.length≤B→∀x∈(zl f n b).1,p x
 |0,b,_=>by simp [zl]
 | n+1,b,hb=>by
  have h2:=Y9 hf n (b.drop (f b).2.1) (by simp;omega)
  unfold zl
  split
  ·simp
  ·split
   ·simp
   ·intro x hx
    rcases List.mem_cons.1 hx with rfl|hx
    ·exact hf b hb
    ·exact h2 x hx
theorem Zp {b:List UInt8} {B:Nat} (hb:b.length≤B):∀x∈(kg b).1,x.length≤B:=by
 unfold kg uY
 split
 ·simp
 ·split
  ·simp
  ·exact Y9 (f:=qX) (p:=fun x:List UInt8=>x.length≤B) (B:=B) (fun b hb=>Nat.le_trans Ky hb) _ _ (by rw [List.length_drop];omega)
theorem J3 {l:List (List UInt8)} {B i:Nat} (h:∀x∈l,x.length≤B):(l.getD i []).length≤B:=by
 rw [List.getD_eq_getElem?_getD]
 cases e:l[i]? with
 |none=>simp
 |some x=>exact h x (List.mem_of_getElem? e)
theorem op_le {b:List UInt8} {bad:Bool} {B:Nat} (hb:b.length≤B):(jv b bad).1.ids.length≤B∧(jv b bad).1.name.length≤B∧(jv b bad).1.text.length≤B∧(jv b bad).2.1.length≤b.length:=by
 unfold jv JM Qp
 obtain ⟨c1,h1⟩:∃x,b.drop (jn b).2.1=x:=⟨_,rfl⟩
 have l1:c1.length≤b.length:=by rw [←h1];simp
 rw [h1]
 obtain ⟨c2,h2⟩:∃x,c1.drop (jn c1).2.1=x:=⟨_,rfl⟩
 have l2:c2.length≤c1.length:=by rw [←h2];simp
 rw [h2]
 have h3:=YH (b:=c1) (bad:=yl b bad 10 1) (k:=3)
 have h4:(triples (QS c1 (yl b bad 10 1) (-1) 3)).length≤B:=by unfold triples;rw [List.length_map,List.length_range];omega
 have h5:=Zp (b:=c2) (B:=B) (by omega)
 split
 ·refine ⟨h4,J3 h5,J3 h5,?_⟩
  show (c2.drop _).length≤_
  rw [List.length_drop]
  omega
 ·refine ⟨h4,Nat.zero_le _,Nat.zero_le _,?_⟩
  show (c2.drop _).length≤_
  rw [List.length_drop]
  omega
theorem Ww {B:Nat}:∀(c:Nat) (b:List UInt8) (bad:Bool),b.length≤B→(ua c b bad).1.length≤c∧(ua c b bad).2.1.length≤b.length∧∀o∈(ua c b bad).1,o.ids.length≤B∧o.name.length≤B∧o.text.length≤B
 |0,b,bad,hb=>by simp [ua]
 | c+1,b,bad,hb=>by
  unfold ua
  split
  ·simp
  ·have h1:=op_le (b:=b) (bad:=bad) hb
   have h2:=Ww (B:=B) c (jv b bad).2.1 (jv b bad).2.2 (by omega)
   refine ⟨by simp;exact h2.1,by dsimp only;omega,?_⟩
   intro o ho
   rcases List.mem_cons.1 ho with rfl|ho
   ·exact ⟨h1.1,h1.2.1,h1.2.2.1⟩
   ·exact h2.2.2 o ho
theorem Wg {l:List Int} (h:l.length=3):∃a0 a1 a2,l= [a0,a1,a2]:=by
 match l,h with
 | [a0,a1,a2],_=>exact ⟨_,_,_,rfl⟩
theorem chunk_2 {m:List Int} {j:Nat} (h2:m.length % 2=0) (hj:j<vt (ints m).length 2):(jO (ints m) 2 j).length=2∧(jO (ints m) 2 j).getD 0 []= [.int .i64 (pair m j).o]∧(jO (ints m) 2 j).getD 1 []= [.int .i64 (pair m j).s]:=by
 unfold vt at hj
 rw [qr] at hj
 have hlt:j*2+1<m.length:=by omega
 have hg:∀i,i<2→(jO (ints m) 2 j).getD i []= [.int .i64 (m.getD (2*j+i) 0)]:=by
  intro i hi
  unfold jO
  rw [List.getD_eq_getElem?_getD,List.getElem?_take_of_lt hi,List.getElem?_drop,ints,List.getElem?_map,List.getElem?_eq_getElem (show j*2+i<m.length by omega)]
  rw [List.getD_eq_getElem?_getD,List.getElem?_eq_getElem (show 2*j+i<m.length by omega)]
  simp only [Option.map_some,Option.getD_some,Nat.mul_comm j 2]
 refine ⟨?_,hg 0 (by omega),hg 1 (by omega)⟩
 unfold jO
 rw [List.length_take,List.length_drop,qr]
 omega
theorem cnt_2 {m:List Int} (h2:m.length % 2=0):vt (ints m).length 2=m.length / 2:=by
 unfold vt
 rw [qr]
 omega
theorem WI {a b:List UInt8} {H:AH} {R:D→AH→Prop} (h:R (.bool (decide (a=b))) H):ACall Tryz.prog 51 [.slc (a.map qA),.slc (b.map qA)] H R:=by
 refine b51 fun hf=>?_
 simp+contextual only [x51,K4,↓u51_s0,↓XP,↓XU,qn,XW1,qa,qb,qc,qd,qe,qf,reduceCtorEq]
 exact ⟨gr,fun _=>⟨gr,fun _=>h⟩⟩
end Go.Proofs.YtpdhandimdibhaaGreatDoor
end
