/- A part of the proof of what the last text says: Aw10, AwN, Aw11. Conditions: those in each theorem. -/
import Derived.Test.YtpdhandimdibhaaGreatDoorN4
import Derived.RangeFuncRecord
set_option linter.unusedVariables false
set_option linter.unusedSimpArgs false
set_option maxRecDepth 100000
set_option maxHeartbeats 16000000
open Nat renaming reduceSub → qa,reduceAdd → qb,reduceMul → qc,reduceEqDiff → qd,reduceLeDiff → qe,reduceBEq → qf
section
namespace Go.Aw
open Go Go.RowKit
section
variable {P:Program} {ops:List Oper} {o:Oper} {F:List D} {H:AH} {k:List D→AH→Prop} {K:Nat→BK} {w:World} {a:Act} {Q:Exit→Act→World→Prop}
theorem YC {i:Nat} {d:D} {v:Value} (h:RepC K w (.slot i 0) d v):RepO K w i d v:=by
  cases d<;>first|exact RepV.viewO h|exact h
theorem Kw {vs:Array Value} {ix:Nat} {v:Value} (h:vs[ix]?=some v):(Instr.extract (.tuple vs) ix).run P w= .ok v w:=by
  simp [Instr.extract,h]
theorem Ku (hs:St K w F H a.tmps) {s ix:Nat} (ho:o.op= .extract (.tmp s) ix) (h:aop P ops o F H k):o.wp P a w (OKd k K w a.defers) Q:=by
  simp only [aop,ho] at h
  split at h
  · rename_i d ds hd hev
    split at h
    · rename_i c hc
      have hlt:s<F.length:=by
        rcases Nat.lt_or_ge s F.length with h'|h'
        · exact h'
        · simp [ev,List.getD,List.getElem?_eq_none h'] at hev
      have hF:F[s]?=some (.tup ds):=by
        have:F[s]?=some (ev F (.tmp s)):=by simp [ev,List.getD,List.getElem?_eq_getElem hlt]
        rw [this,hev]
      have hts:s<a.tmps.size:=by rw [hs.len];exact hlt
      have hT:a.tmps[s]?=some (a.eval (.tmp s)):=by simp [Act.eval,Array.getElem?_eq_getElem hts]
      obtain ⟨vs,hv,hl,hh⟩:=hs.slot s _ _ hF hT
      have hix:ix<vs.size:=by rw [hl];exact (List.getElem?_eq_some_iff.1 hc).1
      have hvi:vs[ix]?=some vs[ix]:=Array.getElem?_eq_getElem hix
      have hrc:=hh ix c _ hc hvi
      have hrun:(execOp a.eval o).run P w= .ok (.value vs[ix]) w:=by
        simp only [execOp,ho,hv,Sem.run_bind,Kw hvi,Result.andThen_ok]
        rfl
      split at h
      · -- what it owns goes along
        let φ:=mvφ (.slot s (ix+1)) (.slot d 0)
        have hfk:FK K w (relab φ K) w:=gL (by simp) (by simp)
        refine qL hrun ⟨_,H,relab φ K,h hrc.rep.fact,hfk,⟨jE hs.krel,mv_hrel (by simp) hs.hrel,by rw [hd];simpa [Act.put] using hs.len,fun i x v hx hv'=>?_⟩,qy _ _⟩
        rw [hd] at hv'
        simp only [Act.put] at hv'
        rcases getElem?_set_some hx with ⟨rfl,rfl,hl'⟩|⟨hne,hx⟩
        · rw [Array.getElem?_setIfInBounds_self_of_lt (by rw [hs.len];simpa using hl')] at hv'
          obtain rfl:=Option.some.inj hv'
          have hcv:=RepC.conv (o':= .slot d 0) (qC φ K w) (fun b n hb=>by rw [qR hb];simp [φ,mvφ]) hrc
          exact YC hcv
        · rw [Array.getElem?_setIfInBounds_ne hne] at hv'
          rcases getElem?_set_some hx with ⟨rfl,rfl,hl'⟩|⟨hne2,hx⟩
          · rw [hT] at hv'
            obtain rfl:=Option.some.inj hv'
            refine ⟨vs,hv,by simpa using hl,fun j d' u hd' hu=>?_⟩
            rcases getElem?_set_some hd' with ⟨rfl,rfl,_⟩|⟨hne3,hd'⟩
            · rw [hvi] at hu
              obtain rfl:=Option.some.inj hu
              exact (RepV.mono (qC φ K w) hrc.rep).repC (fun xs e=>by cases c<;>simp [D.view1] at e)
            · exact (hh j d' u hd' hu).conv (qC φ K w) (fun b n hb=>by
                rw [qR hb]
                simp only [φ,mvφ,BK.tok.injEq,true_and]
                rw [if_neg]
                intro e
                injection e with _ e
                omega)
          · exact (hs.slot i x v hx hv').conv (qC φ K w) (fun b n j hb=>by
              rw [qR hb]
              simp only [φ,mvφ,BK.tok.injEq,true_and]
              rw [if_neg]
              intro e
              injection e with e _
              exact hne2 e.symm)
      · refine qL hrun ⟨_,H,K,h hrc.rep.fact,.refl K w,?_,qy _ _⟩
        rw [hd]
        exact hs.put ((Pres.refl K w).keep hs.krel) (fun _ _ h=>h) hs.krel hs.hrel (some d) (fun i _=>hrc.rep.viewO)
    · exact h.elim
  · exact h.elim
theorem WF (hs:St K w F H a.tmps) (t:TypeId) (c:Array Value) (cs:List D) (hc:c.size=cs.length)
    (hr:∀(j:Nat) (d:D),cs[j]?=some d→∃u,c[j]?=some u∧u.oneCell'=true∧(RepV K w d u∨(∃x,d= .own []∧u= .slice x 0 0))) (dst:Option Tmp):
    ∃K',FK K w K' (w.alloc (.cells c t))∧St K' (w.alloc (.cells c t)) (qG F dst (.ptr w.heap.size 0)) ((w.heap.size,.cells cs)::H) (a.put dst (.pointer (some ⟨w.heap.size,0,none⟩))).tmps:=by
  obtain ⟨hp,hk'⟩:=yQ (K:=K) (w:=w) hs.krel (.cells c t) (x:= .priv) (by simp)
  refine ⟨_,hp.fk hs.krel,hs.put (hp.keep hs.krel) (fun _ _ h=>h) hk' ?_ dst (fun i _=>RepV.viewO (.ptr _ _))⟩
  have hold:=hs.hrel.pres hs.krel hp
  refine ⟨?_,fun b o hm=>?_⟩
  · simp only [List.map_cons,List.nodup_cons]
    refine ⟨fun hm=>?_,hold.nd⟩
    rw [List.mem_map] at hm
    obtain ⟨⟨b,o⟩,h1,h2⟩:=hm
    have:=hs.hrel.lt hs.krel h1
    simp only [] at h2
    omega
  · rcases List.mem_cons.1 hm with h|h
    · injection h with h1 h2
      subst h1 h2
      refine ⟨jR _ _ _,c,t,heap_alloc_new w _,hc,fun j d hd=>?_⟩
      obtain ⟨u,e1,e2,e3⟩:=hr j d hd
      refine ⟨u,e1,e2,?_⟩
      rcases e3 with e3|⟨x,rfl,rfl⟩
      · exact (RepV.mono (hp.keep hs.krel).ext e3).repC (fun xs e=>by subst e;exact e3.not_own)
      · exact .inl ⟨rfl,x,rfl⟩
    · exact hold.ok b o h
theorem VG (hs:St K w F H a.tmps) {t:TypeId} (ho:o.op= .alloc t) (h:aop P ops o F H k):o.wp P a w (OKd k K w a.defers) Q:=by
  simp only [aop,ho] at h
  split at h
  · rename_i z hz
    obtain ⟨i,zv,hi,hzv,z1,z2,z3,z4⟩:=y7 hz
    obtain ⟨K',h1,h2⟩:=WF hs t zv.cells z z1 (fun j d hd=>by
      have hj:j<zv.cells.size:=by rw [z1];exact (List.getElem?_eq_some_iff.1 hd).1
      have hu:=Array.getElem?_eq_getElem hj
      obtain ⟨e1,e2⟩:=z3 j _ hu
      refine ⟨_,hu,e1,?_⟩
      have hcd:=y4 (K:=K) (w:=w) (o:= .outer) e2
      have hd':=z4 j d _ hd hu
      subst hd'
      generalize hcc:jj zv.cells[j]=cc at hcd
      cases cc with
      | own xs=>
        right
        unfold jj at hcc
        split at hcc<;>first
          | (injection hcc with hcc
             subst hcc
             exact ⟨none,rfl,by assumption⟩)
          |(exact absurd hcc (by simp))
      |_=>exact .inl hcd) o.dst
    refine qL (w':=w.alloc (.cells zv.cells t)) ?_ ⟨_,_,K',h _ (hs.hrel.fresh hs.krel),h1,h2,qy _ _⟩
    simp [execOp,ho,Instr.alloc,zeroValue,typeInfo,hi,hzv,newVar,newRow]
  · exact h.elim
theorem stp_box (hs:St K w F H a.tmps) (hok:jq o=true) {t:TypeId} {x:Operand} (ho:o.op= .box t x) (h:aop P ops o F H k):o.wp P a w (OKd k K w a.defers) Q:=by
  simp only [aop,ho] at h
  obtain ⟨hc,h⟩:=h
  have hx:jL x=true:=by
    unfold jq at hok
    simp only [ho,Op.operands,Bool.and_eq_true] at hok
    simpa using hok.1
  obtain ⟨c1,c2,c3⟩:=vF (hs.rep hx) hc
  obtain ⟨K',h1,h2⟩:=WF hs t (a.eval x).cells _ c1 (fun j d hd=>by
    have hj:j<(a.eval x).cells.size:=by rw [c1];exact (List.getElem?_eq_some_iff.1 hd).1
    have hu:=Array.getElem?_eq_getElem hj
    exact ⟨_,hu,c2 j _ hu,.inl (c3 j d _ hd hu)⟩) o.dst
  refine qL (w':=w.alloc (.cells (a.eval x).cells t)) ?_ ⟨_,_,K',h _ (hs.hrel.fresh hs.krel),h1,h2,qy _ _⟩
  simp [execOp,ho,Instr.box,newVar,newRow]
theorem ko {b:Nat} {x:AO}:∀{H:AH},(qF H b x).map (·.1)=H.map (·.1)
  | []=>rfl
  | (c,o)::r=>by
    simp only [qF]
    split
    · rfl
    · simp only [List.map_cons,ko]
theorem yu {b:Nat} {x:AO}:∀{H:AH},(H.map (·.1)).Nodup→∀{b':Nat} {o':AO},(b',o')∈qF H b x→(b'=b∧o'=x)∨(b'≠b∧(b',o')∈H)
  | [],_,b',o',h=>by simp [qF] at h
  | (c,o)::r,hn,b',o',h=>by
    simp only [List.map_cons,List.nodup_cons] at hn
    simp only [qF] at h
    split at h
    · rename_i e
      subst e
      rcases List.mem_cons.1 h with h'|h'
      · injection h' with h1 h2;exact .inl ⟨h1,h2⟩
      · refine .inr ⟨fun e=>?_,.tail _ h'⟩
        subst e
        exact hn.1 (List.mem_map.2 ⟨_,h',rfl⟩)
    · rename_i e
      rcases List.mem_cons.1 h with h|h
      · injection h with h1 h2;subst h1 h2;exact .inr ⟨Ne.symm e,.head _⟩
      · rcases yu hn.2 h with h|⟨h1,h2⟩
        · exact .inl h
        · exact .inr ⟨h1,.tail _ h2⟩
theorem gw {b off:Nat} {cs cs':List D} {vs:List Value} (hk:KRel K w) (hh:HRel K w H) (hg:qu H b=some (.cells cs)) {K':Nat→BK} (hfk:FK K w K' w) (hK':KRel K' w) (hpriv:∀b',K b'= .priv→K' b'= .priv) (hcell:∀b' n c j,K b'= .tok n (.cell c j)→K' b'= .tok n (.cell c j))
    (hfit:off+vs.length≤cs.length) (h1:∀v∈vs,v.oneCell'=true) (hlen:cs'.length=cs.length)
    (hold:∀(j:Nat) (d:D),cs'[j]?=some d→(j<off∨off+vs.length≤j)→cs[j]?=some d)
    (hnew:∀(j:Nat) (d:D) (u:Value),cs'[off+j]?=some d→vs[j]?=some u→RepC K' w (.cell b (off+j)) d u):
    ∃c' T,(storeCells ⟨b,off,none⟩ vs).run P w= .ok () (w.setRow b c')∧w.heap[b]?≠none∧FK K w K' (w.setRow b c')∧KRel K' (w.setRow b c')∧HRel K' (w.setRow b c') (qF H b (.cells cs'))∧Keep noE (fun x=>x=b) K' w K' (w.setRow b c')∧T=b:=by
  obtain ⟨hpb,c,T,hb,hc,hr⟩:=hh.ok b _ (j4 hg)
  have hrun:=run_storeCells_at P b off T vs 0 c w hb (by simpa [hc] using hfit) h1
  simp only [Nat.add_zero] at hrun
  generalize hcc:(c.toList.take off++vs++c.toList.drop (off+vs.length)).toArray=c' at hrun
  have hsame:=setRow_heap w b c c' T (0,0) hb
  have hoth:∀b',b'≠b→(w.setRow b c').heap[b']?=w.heap[b']?:=fun b' h=>setRow_other w b b' c' h
  have hpb':K' b= .priv:=hpriv b hpb
  have hkeep:Keep noE (fun x=>x=b) K' w K' (w.setRow b c'):=by
    refine ⟨⟨rfl,rfl,⟨rfl,Nat.le_refl _⟩,by simp,fun b' _ hi=>⟨hi,hoth b' (fun e=>by subst e;rw [hpb'] at hi;cases hi)⟩,fun b' n o hb' _=>⟨n,o,hb',Nat.le_refl _,fun j _=>j3 (hoth b' (fun e=>by subst e;rw [hpb'] at hb';cases hb')) j⟩,fun b' h=>.inl h⟩,
      fun b' n o hb' _=>⟨hb',hoth b' (fun e=>by subst e;rw [hpb'] at hb';cases hb')⟩,fun b' n h=>h,fun b' hb' hne=>⟨hb',hoth b' hne⟩⟩
  have hcs':c'.size=cs'.length:=by
    rw [←hcc,hlen,←hc]
    simp only [List.size_toArray,List.length_append,List.length_take,List.length_drop,Array.length_toList]
    omega
  have hget:∀j,c'[j]?=if j<off then c[j]? else if j<off+vs.length then vs[j - off]? else c[j]?:=fun j=>by
    rw [←hcc]
    simp only [List.getElem?_toArray]
    have hl1:(c.toList.take off).length=off:=by simp;omega
    by_cases a1:j<off
    · rw [if_pos a1,List.append_assoc,List.getElem?_append_left (by rw [hl1];exact a1),List.getElem?_take,if_pos a1];simp
    · rw [if_neg a1,List.append_assoc,List.getElem?_append_right (by rw [hl1];omega),hl1]
      by_cases a2:j<off+vs.length
      · rw [if_pos a2,List.getElem?_append_left (by omega)]
      · rw [if_neg a2,List.getElem?_append_right (by omega),List.getElem?_drop]
        simp only [Array.getElem?_toList]
        congr 1
        omega
  have hhK':HRel K' w H:=hh.conv hfk.ext hpriv hcell
  refine ⟨c',b,hrun,by rw [hb];simp,hfk.trans (hkeep.fk (fun h=>h)),fun b' hb'=>hK' b' (by simpa using hb'),⟨by rw [ko];exact hh.nd,fun b' o' hm=>?_⟩,hkeep,rfl⟩
  rcases yu hh.nd hm with ⟨rfl,rfl⟩|⟨hne,hm⟩
  · refine ⟨hpb',c',T,hsame,hcs',fun j d hd=>?_⟩
    by_cases hj:j<off∨off+vs.length≤j
    · obtain ⟨u,e1,e2,e3⟩:=hr j d (hold j d hd hj)
      refine ⟨u,?_,e2,((e3.conv (o':= .cell b' j) hfk.ext (fun b'' n hb''=>hcell b'' n _ _ hb'')).keep hkeep (fun h=>h))⟩
      rw [hget]
      rcases hj with hj|hj
      · rw [if_pos hj];exact e1
      · rw [if_neg (by omega),if_neg (by omega)];exact e1
    · have hj1:off≤j:=by omega
      have hj2:j - off<vs.length:=by omega
      have hu:=List.getElem?_eq_getElem hj2
      have hd':cs'[off+(j - off)]?=some d:=by rw [show off+(j - off)=j by omega];exact hd
      have:=hnew (j - off) d _ hd' hu
      rw [show off+(j - off)=j by omega] at this
      refine ⟨_,?_,h1 _ (List.mem_of_getElem? hu),this.keep hkeep (fun h=>h)⟩
      rw [hget,if_neg (by omega),if_pos (by omega)]
      exact hu
  · exact (AO.keep hkeep hne (fun _ h=>h) (hhK'.ok b' o' hm))
end
end Go.Aw
end
section
namespace Go.Aw
open Go Go.RowKit
section
variable {P:Program} {ops:List Oper} {o:Oper} {F:List D} {H:AH} {k:List D→AH→Prop} {K:Nat→BK} {w:World} {a:Act} {Q:Exit→Act→World→Prop}
theorem Yu (hs:St K w F H a.tmps) {t:TypeId} {r:Option Operand} (ho:o.op= .makeMap t r) (h:aop P ops o F H k):o.wp P a w (OKd k K w a.defers) Q:=by
 simp only [aop,ho,mkmO] at h
 obtain ⟨rfl,h⟩:=h
 obtain ⟨hp,hk'⟩:=yQ (K:=K) (w:=w) hs.krel (.map #[] 0) (x:= .priv) (by simp)
 refine qL (w':=w.alloc (.map #[] 0)) (v:= .map (some w.heap.size)) ?_ ⟨_,_,_,h _ (hs.hrel.fresh hs.krel),hp.fk hs.krel,hs.put (hp.keep hs.krel) (fun _ _ h=>h) hk' ?_ o.dst (fun i _=>RepV.viewO (.mp _)),qy _ _⟩
 ·simp only [execOp,ho,Option.map_none,Instr.makeMap]
  rfl
 ·have hold:=hs.hrel.pres hs.krel hp
  refine ⟨?_,fun b o hm=>?_⟩
  ·simp only [List.map_cons,List.nodup_cons]
   refine ⟨fun hm=>?_,hold.nd⟩
   rw [List.mem_map] at hm
   obtain ⟨⟨b,o⟩,h1,h2⟩:=hm
   have:=hs.hrel.lt hs.krel h1
   simp only [] at h2
   omega
  ·rcases List.mem_cons.1 hm with h|h
   ·injection h with h1 h2
    subst h1 h2
    exact ⟨jR _ _ _,#[],heap_alloc_new w _,rfl,fun j p hj=>by simp at hj⟩
   ·exact hold.ok b o h
theorem JA {b:Nat} {es es':List (D×D)} {c':Array MapEntry} (hk:KRel K w) (hh:HRel K w H) (hg:qu H b=some (.mp es)) (hlen:c'.size=es'.length)
  (hr:∀(j:Nat) (p:D×D),es'[j]?=some p→∃e:MapEntry,c'[j]?=some e∧e.born=j∧RepV K w p.1 e.key∧RepV K w p.2 e.val):
  Keep noE (fun x=>x=b) K w K (w.putObj b (.map c' c'.size))∧KRel K (w.putObj b (.map c' c'.size))∧HRel K (w.putObj b (.map c' c'.size)) (qF H b (.mp es')):=by
 obtain ⟨hpb,c,hb,_,_⟩:=hh.ok b _ (j4 hg)
 have hlt:b<w.heap.size:=(Array.getElem?_eq_some_iff.1 hb).1
 have hoth:∀b',b'≠b→(w.putObj b (.map c' c'.size)).heap[b']?=w.heap[b']?:=fun b' h=>World.putObj_heap_other h
 have hsz:(w.putObj b (.map c' c'.size)).heap.size=w.heap.size:=by simp [World.putObj]
 have hkeep:Keep noE (fun x=>x=b) K w K (w.putObj b (.map c' c'.size)):=
  ⟨⟨rfl,rfl,⟨rfl,Nat.le_refl _⟩,Nat.le_of_eq hsz.symm,fun b' _ hi=>⟨hi,hoth b' (fun e=>by subst e;rw [hpb] at hi;cases hi)⟩,fun b' n o hb' _=>⟨n,o,hb',Nat.le_refl _,fun j _=>j3 (hoth b' (fun e=>by subst e;rw [hpb] at hb';cases hb')) j⟩,fun b' h=>.inl h⟩,
   fun b' n o hb' _=>⟨hb',hoth b' (fun e=>by subst e;rw [hpb] at hb';cases hb')⟩,fun b' n h=>h,fun b' hb' hne=>⟨hb',hoth b' hne⟩⟩
 refine ⟨hkeep,fun b' hb'=>hk b' (by omega),by rw [ko];exact hh.nd,fun b' o' hm=>?_⟩
 rcases yu hh.nd hm with ⟨rfl,rfl⟩|⟨hne,hm⟩
 ·refine ⟨hpb,c',World.putObj_heap_same hlt,hlen,fun j p hj=>?_⟩
  obtain ⟨e,e1,e2,e3,e4⟩:=hr j p hj
  exact ⟨e,e1,e2,e3.mono hkeep.ext,e4.mono hkeep.ext⟩
 ·exact AO.keep hkeep hne (fun _ h=>h) (hh.ok b' o' hm)
theorem o7:∀{l:List CT} {us vs:List Value},jF l us→jF l vs→y8 us vs→wt us vs=true→vs.length=us.length∧∀n,∀p∈vs.zip us,Instr.sameBits n p.1 p.2=true
 | [],[],[],_,_,_,_=>⟨rfl,fun n p hp=>by simp at hp⟩
 | c::l,u::us,v::vs,h1,h2,h3,h4=>by
  have go:jF l us→jF l vs→y8 us vs→wt us vs=true→(∀n,Instr.sameBits n v u=true)→(v::vs).length=(u::us).length∧∀n,∀p∈(v::vs).zip (u::us),Instr.sameBits n p.1 p.2=true:=fun a1 a2 a3 a4 a5=>by
   obtain ⟨g1,g2⟩:=o7 a1 a2 a3 a4
   refine ⟨by simp [g1],fun n p hp=>?_⟩
   rcases List.mem_cons.1 hp with rfl|hp
   ·exact a5 n
   ·exact g2 n p hp
  simp only [wt,Bool.and_eq_true] at h4
  cases c<;>cases u<;>simp only [jF] at h1<;>first|exact h1.elim|skip
  all_goals (cases v<;>simp only [jF] at h2<;>first|exact h2.elim|skip)
  ·simp only [y8] at h3
   refine go h1 h2 h3.2 h4.2 fun n=>?_
   have:=h4.1
   simp only [Um] at this
   rw [beq_iff_eq] at this
   cases n<;>simp [Instr.sameBits,h3.1,this]
  ·refine go h1 h2 h3 h4.2 fun n=>?_
   have:=h4.1
   simp only [Um,beq_iff_eq] at this
   cases n<;>simp [Instr.sameBits,this]
  ·refine go h1 h2 h3 h4.2 fun n=>?_
   have:=h4.1
   simp only [Um,beq_iff_eq] at this
   cases n<;>simp [Instr.sameBits,beq_toListBytes,this]
 | [],[],_::_,_,h,_,_=>by simp [jF] at h
 | [],_::_,_,h,_,_,_=>by simp [jF] at h
 |c::_,[],_,h,_,_,_=>by cases c<;>simp [jF] at h
 |c::_,_::_,[],_,h,_,_=>by cases c<;>simp [jF] at h
theorem Qm:∀{es:List (D×D)} {k:List D} {i:Nat},yA es k=some i→∃p,es[i]?=some p∧eqCells k (cellsOf p.1)=true
 | p::r,k,i,h=>by
  simp only [yA] at h
  split at h
  ·rename_i hc
   cases h;exact ⟨p,rfl,hc⟩
  ·obtain ⟨j,h1,rfl⟩:=Option.map_eq_some_iff.1 h
   obtain ⟨q,g1,g2⟩:=Qm h1
   exact ⟨q,by simpa using g1,g2⟩
theorem gZ:∀(es:List (D×D)) (d v:D),uk es d v=match yA es (cellsOf d) with
  |some i=>es.set i (d,v)
  |none=>es++ [(d,v)]
 | [],d,v=>rfl
 | p::r,d,v=>by
  simp only [uk,yA]
  split
  ·rfl
  ·rw [gZ r d v]
   cases yA r (cellsOf d)<;>rfl
theorem Kx {t:TypeId} {ag:Bool} {l:List CT} {z:D} (hm:VN P t=some (ag,l,z)) {es:List (D×D)} {c:Array MapEntry} {d:D} {v:Value} {b n:Nat}
  (hb:w.heap[b]?=some (.map c n)) (hlen:c.size=es.length) (hr:RepV K w d v) (hk:kX ag l es d) (hc:∀(j:Nat) (p:D×D),es[j]?=some p→∃e:MapEntry,c[j]?=some e∧e.born=j∧RepV K w p.1 e.key∧RepV K w p.2 e.val):
  ∃ kt et,P.underlying t=some (.map kt et)∧zD P et=some z∧(getObj b).run P w= .ok (.map c n) w∧(Instr.checkKey false 10000 kt v).run P w= .ok () w∧
   (Instr.findKey kt v c.toList).run P w= .ok ((yA es (cellsOf d)).bind fun j=>(c[j]?).map fun e=>(j,e.val)) w∧
   ∀j,yA es (cellsOf d)=some j→∃e p,c[j]?=some e∧es[j]?=some p∧e.born=j∧RepV K w p.2 e.val∧(Instr.keyThatStays e.key v).run P w= .ok v w:=by
 obtain ⟨kt,et,hu,hl,hz,rfl⟩:=KH hm
 obtain ⟨k1,k2,k3⟩:=hk
 obtain ⟨vs,h1,h2,h3,h4⟩:=vQ (P:=P) (t:=kt) hr k1 k2 (yB hl)
 have hkey:∀(j:Nat) (p:D×D) (e:MapEntry),es[j]?=some p→c[j]?=some e→RepV K w p.1 e.key:=fun j p e hp he=>by
  obtain ⟨e',g1,_,g3,_⟩:=hc j p hp
  rw [he] at g1;cases g1;exact g3
 have hfk:=vr hl hr k1 k2 es c.toList (by simpa using hlen) k3 (fun j p e hj he=>hkey j p e hj (by simpa using he))
 refine ⟨kt,et,hu,hz,?_,by rw [h1];exact vb false 8 10000 kt l hl (by decide) vs w h3,?_,fun j hj=>?_⟩
 ·unfold getObj
  simp only [Sem.run,hb]
 ·rw [hfk];simp
 ·obtain ⟨p,hp,hq⟩:=Qm hj
  obtain ⟨e,g1,g2,g3,g4⟩:=hc j p hp
  refine ⟨e,p,g1,hp,g2,g4,?_⟩
  obtain ⟨b1,b2,b3⟩:=k3 p (List.mem_of_getElem? hp)
  obtain ⟨us,q1,q2,q3,q4⟩:=vQ (P:=P) (t:=kt) g3 b1 b2 (yB hl)
  obtain ⟨hev,hsk⟩:=uP k2 b2 b3 h2 q2 h4 q4
  obtain ⟨s1,s2⟩:=o7 h3 q3 hsk (hev.trans hq)
  have hsb:Instr.sameBits 10000 e.key v=true:=by
   rw [h1,q1]
   cases ha:ja P kt
   ·have hl1:=yB hl ha
    have e1:=k9 h3
    have e2:=k9 q3
    match vs,us,(e1.trans hl1),(e2.trans hl1),s2 with
    | [x],[y],_,_,s2=>simpa [Qv,ha] using s2 10000 (y,x) (.head _)
   ·simp only [Qv,ha,if_true,Instr.sameBits,List.size_toArray,Bool.and_eq_true,beq_iff_eq]
    exact ⟨s1,List.all_eq_true.2 fun x hx=>s2 _ x hx⟩
  simp [Instr.keyThatStays,hsb]
theorem wQ {b n m:Nat} {c c':Array MapEntry} (hb:w.heap[b]?=some (.map c n)):(setObj b (.map c' m)).run P w= .ok () (w.putObj b (.map c' m)):=by
 simp [setObj,Sem.run,hb,World.putObj]
theorem JZ {es:List (D×D)} {c:Array MapEntry} {d x:D} {v u:Value} (hlen:c.size=es.length) (hc:∀(j:Nat) (p:D×D),es[j]?=some p→∃e:MapEntry,c[j]?=some e∧e.born=j∧RepV K w p.1 e.key∧RepV K w p.2 e.val)
  (hd:RepV K w d v) (hx:RepV K w x u):
  (∀i,yA es (cellsOf d)=some i→∀e,c[i]?=some e→∀c':Array MapEntry,c'.size=c.size→(∀j,c'[j]?=if j=i then some {e with key:=v,val:=u} else c[j]?)→
   c'.size=(uk es d x).length∧∀(j:Nat) (p:D×D),(uk es d x)[j]?=some p→∃e:MapEntry,c'[j]?=some e∧e.born=j∧RepV K w p.1 e.key∧RepV K w p.2 e.val)∧
  (yA es (cellsOf d)=none→(c.push {key:=v,val:=u,born:=c.size}).size=(uk es d x).length∧∀(j:Nat) (p:D×D),(uk es d x)[j]?=some p→∃e:MapEntry,(c.push {key:=v,val:=u,born:=c.size})[j]?=some e∧e.born=j∧RepV K w p.1 e.key∧RepV K w p.2 e.val):=by
 constructor
 ·intro i hi e he c' hs hg
  rw [gZ,hi]
  refine ⟨by simp [hs,hlen],fun j p hj=>?_⟩
  rw [List.getElem?_set] at hj
  rw [hg]
  split at hj
  ·rename_i hij
   split at hj
   ·cases hj
    obtain ⟨p,hp,_⟩:=Qm hi
    obtain ⟨e',g1,g2,_⟩:=hc i p hp
    rw [he] at g1;cases g1
    exact ⟨_,by rw [if_pos hij.symm],by rw [←hij];exact g2,hd,hx⟩
   ·cases hj
  ·rename_i hij
   rw [if_neg (Ne.symm hij)]
   exact hc j p hj
 ·intro hn
  rw [gZ,hn]
  refine ⟨by simp [hlen],fun j p hj=>?_⟩
  rw [List.getElem?_append] at hj
  rw [Array.getElem?_push]
  split at hj
  ·rename_i hlt
   rw [if_neg (by omega)]
   exact hc j p hj
  ·rename_i hge
   have hj0:j - es.length=0:=by
    have:=(List.getElem?_eq_some_iff.1 hj).1
    simp at this
    omega
   rw [hj0] at hj
   cases hj
   rw [if_pos (by omega)]
   exact ⟨_,rfl,by simp only [];omega,hd,hx⟩
theorem opnd3 {o:Oper} {x y z:Operand} (hok:jq o=true) (h:o.op.operands=#[x,y,z]):jL x=true∧jL y=true∧jL z=true:=by
 unfold jq at hok
 simp only [h,Bool.and_eq_true] at hok
 simpa using hok.1
theorem UY {o:Oper} {x y:Operand} (hok:jq o=true) (h:o.op.operands=#[x,y]):jL x=true∧jL y=true:=by
 unfold jq at hok
 simp only [h,Bool.and_eq_true] at hok
 simpa using hok.1
theorem QL (hs:St K w F H a.tmps) (hok:jq o=true) {t:TypeId} {m i v:Operand} (ho:o.op= .mapUpdate t m i v) (h:aop P ops o F H k):o.wp P a w (OKd k K w a.defers) Q:=by
 simp only [aop,ho,mupO] at h
 obtain ⟨om,oi,ov⟩:=opnd3 hok (show o.op.operands=#[m,i,v] by rw [ho];rfl)
 split at h
 ·rename_i ag l z b hm hmp
  split at h
  ·rename_i es hg
   obtain ⟨hko,h⟩:=h
   have hmv:a.eval m= .map (some b):=(hmp▸hs.rep om).mp_inv
   obtain ⟨_,c,hb,hlen,hc⟩:=hs.hrel.ok b _ (j4 hg)
   obtain ⟨kt,et,hu,hz,q1,q2,q3,q4⟩:=Kx (P:=P) hm hb hlen (hs.rep oi) hko hc
   obtain ⟨u1,u2⟩:=JZ (x:=rv F v) hlen hc (hs.rep oi) (hs.rep ov)
   have fin:∀c':Array MapEntry,(Instr.mapUpdate t (a.eval m) (a.eval i) (a.eval v)).run P w= .ok () (w.putObj b (.map c' c'.size))→c'.size=(uk es (rv F i) (rv F v)).length∧(∀(j:Nat) (p:D×D),(uk es (rv F i) (rv F v))[j]?=some p→∃e:MapEntry,c'[j]?=some e∧e.born=j∧RepV K w p.1 e.key∧RepV K w p.2 e.val)→
     o.wp P a w (OKd k K w a.defers) Q:=fun c' hrun ⟨r1,r2⟩=>by
    obtain ⟨s1,s2,s3⟩:=JA hs.krel hs.hrel hg r1 r2
    refine vV (w':=w.putObj b (.map c' c'.size)) ?_ ⟨_,_,K,h,s1.fk (fun h=>h),hs.put s1 (fun _ _ h=>h) s2 s3 o.dst (fun i _=>RepV.viewO (.tup [] #[] rfl (fun j d u hd=>by simp at hd))),qy _ _⟩
    simp only [execOp,ho,Sem.run_bind,hrun,Result.andThen_ok]
    rfl
   cases hix:yA es (cellsOf (rv F i)) with
   | some j=>
    obtain ⟨e,p,p1,p2,p3,p4,p5⟩:=q4 j hix
    refine fin (c.modify j fun _=>{e with key:=a.eval i,val:=a.eval v}) ?_ (u1 j hix e p1 _ (by simp) (fun q=>?_))
    ·unfold Instr.mapUpdate
     simp only [hmv,Sem.run_bind,run_underlying hu,Result.andThen_ok,q1,q2,q3,hix,Option.bind_some,p1,Option.map_some,Option.getD_some,p5]
     rw [wQ hb]
     have:(c.modify j fun e=>{e with key:=a.eval i,val:=a.eval v})=c.modify j fun _=>{e with key:=a.eval i,val:=a.eval v}:=by
      apply Array.ext
      ·simp
      ·intro q h1 h2
       simp only [Array.getElem_modify]
       split
       ·rename_i hq
        subst hq
        have:=(Array.getElem?_eq_some_iff.1 p1).2
        rw [this]
       ·rfl
     rw [this]
     simp
    ·rw [Array.getElem?_modify]
     by_cases hq:j=q
     ·subst hq;simp [p1]
     ·rw [if_neg hq,if_neg (Ne.symm hq)]
   | none=>
    refine fin (c.push {key:=a.eval i,val:=a.eval v,born:=c.size}) ?_ (u2 hix)
    unfold Instr.mapUpdate
    simp only [hmv,Sem.run_bind,run_underlying hu,Result.andThen_ok,q1,q2,q3,hix,Option.bind_none]
    rw [wQ hb]
    simp
  ·exact h.elim
 ·exact h.elim
theorem Kh (hs:St K w F H a.tmps) (hok:jq o=true) {t:TypeId} {m i:Operand} (ho:o.op= .mapEntry t m i) (h:aop P ops o F H k):o.wp P a w (OKd k K w a.defers) Q:=by
 simp only [aop,ho,menO] at h
 obtain ⟨om,oi⟩:=UY hok (show o.op.operands=#[m,i] by rw [ho];rfl)
 split at h
 ·rename_i ag l z b hm hmp
  split at h
  ·rename_i es hg
   obtain ⟨hko,hbg,h⟩:=h
   have hmv:a.eval m= .map (some b):=(hmp▸hs.rep om).mp_inv
   obtain ⟨_,c,hb,hlen,hc⟩:=hs.hrel.ok b _ (j4 hg)
   obtain ⟨kt,et,hu,hz,q1,q2,q3,q4⟩:=Kx (P:=P) hm hb hlen (hs.rep oi) hko hc
   obtain ⟨inf,zv,hi,hzv,hzr⟩:=Vj hz
   have hzero:(zeroValue et).run P w= .ok zv w:=by simp [zeroValue,typeInfo,hi,hzv]
   have fin:∀(c':Array MapEntry) (d:D) (x:Value) (n:Nat),RepV K w d x→(kw es (cellsOf (rv F i))).getD z=d→(yA es (cellsOf (rv F i))).getD es.length=n→vk .i64 n→
     (Instr.mapEntry t (a.eval m) (a.eval i)).run P w= .ok (.tuple #[x,.int .i64 n]) (w.putObj b (.map c' c'.size))→c'.size=(uk es (rv F i) d).length∧(∀(j:Nat) (p:D×D),(uk es (rv F i) d)[j]?=some p→∃e:MapEntry,c'[j]?=some e∧e.born=j∧RepV K w p.1 e.key∧RepV K w p.2 e.val)→
     o.wp P a w (OKd k K w a.defers) Q:=fun c' d x n hx hd hn hin hrun ⟨r1,r2⟩=>by
    rw [hd,hn] at h
    obtain ⟨s1,s2,s3⟩:=JA hs.krel hs.hrel hg r1 r2
    refine qL (w':=w.putObj b (.map c' c'.size)) (v:= .tuple #[x,.int .i64 n]) ?_ ⟨_,_,K,h,s1.fk (fun h=>h),hs.put s1 (fun _ _ h=>h) s2 s3 o.dst (fun i _=>RepV.viewO (RepV.tup [d,.int .i64 n] #[x,.int .i64 n] rfl (fun j d' u hd' hu'=>?_))),qy _ _⟩
    ·simp only [execOp,ho,Sem.run_bind,hrun,Result.andThen_ok]
     rfl
    ·match j with
     |0=>simp at hd' hu';subst hd' hu';exact hx.mono s1.ext
     |1=>simp at hd' hu';subst hd' hu';exact .int _ _ hin
     |j+2=>simp at hd'
   have hin:∀n,n≤c.size→vk .i64 n:=fun n hn=>by
    unfold vk
    simp only [Lit.wf,IntKind.min,IntKind.max,IntKind.signed,IntKind.bits,Bool.and_eq_true,decide_eq_true_eq]
    simp
    omega
   cases hix:yA es (cellsOf (rv F i)) with
   | some j=>
    obtain ⟨e,p,p1,p2,p3,p4,p5⟩:=q4 j hix
    have hl:(kw es (cellsOf (rv F i))).getD z=p.2:=by rw [uE,hix];simp [p2]
    have hjc:=(Array.getElem?_eq_some_iff.1 p1).1
    refine fin (c.modify j fun _=>{e with key:=a.eval i,val:=e.val}) p.2 e.val j p4 hl (by rw [hix];rfl) (hin j (by omega)) ?_ ((JZ hlen hc (hs.rep oi) p4).1 j hix e p1 _ (by simp) (fun q=>?_))
    ·unfold Instr.mapEntry
     simp only [hmv,Sem.run_bind,run_underlying hu,Result.andThen_ok,q1,q2,q3,hix,Option.bind_some,p1,Option.map_some,Option.getD_some,p5]
     rw [wQ hb]
     have:(c.modify j fun e=>{e with key:=a.eval i})=c.modify j fun _=>{e with key:=a.eval i,val:=e.val}:=by
      apply Array.ext
      ·simp
      ·intro q h1 h2
       simp only [Array.getElem_modify]
       split
       ·rename_i hq
        subst hq
        have:=(Array.getElem?_eq_some_iff.1 p1).2
        rw [this]
       ·rfl
     rw [this]
     simp [goInt,p3]
    ·rw [Array.getElem?_modify]
     by_cases hq:j=q
     ·subst hq;simp [p1]
     ·rw [if_neg hq,if_neg (Ne.symm hq)]
   | none=>
    refine fin (c.push {key:=a.eval i,val:=zv,born:=c.size}) z zv es.length (hzr K w) (by rw [uE,hix];rfl) (by rw [hix];rfl) (hin _ (by omega)) ?_ ((JZ hlen hc (hs.rep oi) (hzr K w)).2 hix)
    unfold Instr.mapEntry
    simp only [hmv,Sem.run_bind,run_underlying hu,Result.andThen_ok,q1,q2,q3,hix,Option.bind_none,hzero]
    rw [wQ hb]
    simp [goInt,hlen]
  ·exact h.elim
 ·exact h.elim
theorem VJ (hs:St K w F H a.tmps) (hok:jq o=true) {t:TypeId} {m i:Operand} {ok:Bool} (ho:o.op= .lookup t m i ok) (h:gS P false t H (rv F m) (rv F i) ok fun d=>k (qG F o.dst d) H):o.wp P a w (OKd k K w a.defers) Q:=by
 obtain ⟨om,oi⟩:=UY hok (show o.op.operands=#[m,i] by rw [ho];rfl)
 obtain ⟨d,hd,hrun⟩:=Yb h hs.krel hs.hrel (hs.rep om) (hs.rep oi)
 obtain ⟨u,h1,h2⟩:=hrun K w _ _ hs.hrel (hs.rep om) (hs.rep oi)
 refine qL (w':=w) (v:=u) ?_ ⟨_,_,K,hd,.refl K w,hs.put ((Pres.refl K w).keep hs.krel) (fun _ _ h=>h) hs.krel hs.hrel o.dst (fun i _=>h2.viewO),qy _ _⟩
 simp only [execOp,ho,Sem.run_bind,h1,Result.andThen_ok]
 rfl
theorem uh (hs:St K w F H a.tmps) (hok:jq o=true) {t:TypeId} {m s v:Operand} (ho:o.op= .entryStore t m s v) (h:aop P ops o F H k):o.wp P a w (OKd k K w a.defers) Q:=by
 simp only [aop,ho,mesO] at h
 obtain ⟨om,oi,ov⟩:=opnd3 hok (show o.op.operands=#[m,s,v] by rw [ho];rfl)
 split at h
 ·rename_i b n hmp hsp
  split at h
  ·rename_i es hg
   obtain ⟨h0,h1,h⟩:=h
   obtain ⟨j,rfl⟩:∃j:Nat,n=j:=⟨n.toNat,by omega⟩
   rw [Int.toNat_natCast] at h
   have hmv:a.eval m= .map (some b):=(hmp▸hs.rep om).mp_inv
   have hsv:=(hsp▸hs.rep oi).int_inv.1
   obtain ⟨_,c,hb,hlen,hc⟩:=hs.hrel.ok b _ (j4 hg)
   have hjl:j<es.length:=by omega
   have hgo:(getObj b).run P w= .ok (.map c c.size) w:=by
    unfold getObj
    simp only [Sem.run,hb]
   have hfind:c.findIdx? (fun e=>(e.born:Int)==(j:Int))=some j:=by
    rw [Array.findIdx?_eq_some_iff_getElem]
    refine ⟨by omega,?_,fun q hq=>?_⟩
    ·obtain ⟨e,e1,e2,_⟩:=hc j _ (List.getElem?_eq_getElem hjl)
     rw [(Array.getElem?_eq_some_iff.1 e1).2,e2]
     simp
    ·obtain ⟨e,e1,e2,_⟩:=hc q _ (List.getElem?_eq_getElem (by omega))
     rw [(Array.getElem?_eq_some_iff.1 e1).2,e2]
     simp
     omega
   obtain ⟨s1,s2,s3⟩:=JA (c':=c.modify j fun e=>{e with val:=a.eval v}) (es':=VR es j (rv F v)) hs.krel hs.hrel hg (by simp [VR,hlen]) (fun q p hp=>by
    unfold VR at hp
    rw [List.getElem?_modify] at hp
    obtain ⟨p',hp1,hp2⟩:=Option.map_eq_some_iff.1 hp
    obtain ⟨e,e1,e2,e3,e4⟩:=hc q p' hp1
    rw [Array.getElem?_modify]
    by_cases hq:j=q
    ·subst hq
     simp only [if_true] at hp2
     subst hp2
     exact ⟨{e with val:=a.eval v},by rw [if_pos rfl,e1];rfl,e2,e3,hs.rep ov⟩
    ·rw [if_neg hq]
     simp only [if_neg hq,id_eq] at hp2
     subst hp2
     exact ⟨e,e1,e2,e3,e4⟩)
   refine vV (w':=w.putObj b (.map (c.modify j fun e=>{e with val:=a.eval v}) (c.modify j fun e=>{e with val:=a.eval v}).size)) ?_ ⟨_,_,K,h,s1.fk (fun h=>h),hs.put s1 (fun _ _ h=>h) s2 s3 o.dst (fun i _=>RepV.viewO (.tup [] #[] rfl (fun j d u hd=>by simp at hd))),qy _ _⟩
   have hrun:(Instr.entryStore t (a.eval m) (a.eval s) (a.eval v)).run P w= .ok () (w.putObj b (.map (c.modify j fun e=>{e with val:=a.eval v}) c.size)):=by
    unfold Instr.entryStore
    simp only [hmv,hsv,Sem.run_bind,hgo,Result.andThen_ok,asInt,asIntOf,Sem.run_pure,hfind]
    exact wQ hb
   simp only [execOp,ho,Sem.run_bind,hrun,Result.andThen_ok,Array.size_modify]
   rfl
  ·exact h.elim
 ·exact h.elim
theorem zc_get {z:Array Value} {n sz j:Nat} (hz:z.size=sz) (hp:0<sz) (h:j<n*sz):(Builtin.zeroCells z n)[j]?=z[j % sz]?:=by
 have hm:j % sz<z.size:=by rw [hz];exact Nat.mod_lt _ hp
 unfold Builtin.zeroCells
 rw [Array.getElem?_map,Array.getElem?_range,hz,if_pos h,Option.map_some,getElem!_pos z _ hm]
 exact (Array.getElem?_eq_getElem hm).symm
theorem Yg {α:Type} {l:List α} (hp:0<l.length):∀(n j:Nat),j<n*l.length→(List.replicate n l).flatten[j]?=l[j % l.length]?
 |0,j,h=>by simp at h
 | n+1,j,h=>by
  rw [List.replicate_succ,List.flatten_cons,List.getElem?_append]
  split
  ·rename_i hlt
   rw [Nat.mod_eq_of_lt hlt]
  ·rename_i hge
   have hj:j - l.length<n*l.length:=by rw [Nat.succ_mul] at h;omega
   rw [Yg hp n (j - l.length) hj,Nat.mod_eq_sub_mod (a:=j) (b:=l.length) (by omega)]
theorem Uc (hs:St K w F H a.tmps) (hok:jq o=true) {c:Call} (ho:o.op= .call c) (hf:c.callee= .builtin .clear) (h:aop P ops o F H k):o.wp P a w (OKd k K w a.defers) Q:=by
 simp only [aop,ho,hf,clrO] at h
 split at h
 ·rename_i b off n t ha ht
  split at h
  ·rename_i e sz hsl
   split at h
   ·rename_i z cs hz hg
    obtain ⟨hzl,hfit,h⟩:=h
    obtain ⟨hu,hpos,i,hi,his⟩:=ju hsl
    obtain ⟨x,hx,hxd⟩:∃x,c.args=#[x]∧rv F x= .hso b off n:=by
     obtain ⟨x,h1,h2⟩:=List.map_eq_singleton_iff.1 ha
     exact ⟨x,by apply Array.ext';simpa using h1,h2⟩
    have hox:jL x=true:=by
     unfold jq at hok
     simp only [ho,hx,Bool.and_eq_true] at hok
     simpa using hok.2
    obtain ⟨cap,hv,hp,_,_,_⟩:=(hxd▸hs.rep hox).hso_inv
    obtain ⟨i',zv,hi',hzv,z1,z2,z3,z4⟩:=y7 hz
    have htt:c.argTypes=#[t]:=vw ht
    have hzs:zv.cells.size=sz:=by omega
    have hlen:(Builtin.zeroCells zv.cells n).toList.length=n*sz:=by rw [Array.length_toList,size_zeroCells,hzs]
    have hget:∀(j:Nat) (u:Value),(Builtin.zeroCells zv.cells n).toList[j]?=some u→j<n*sz∧zv.cells[j % sz]?=some u:=fun j u hu=>by
     have hj:j<n*sz:=by rw [←hlen];exact (List.getElem?_eq_some_iff.1 hu).1
     refine ⟨hj,?_⟩
     rw [←zc_get hzs hpos hj,←Array.getElem?_toList]
     exact hu
    obtain ⟨c',T,q1,q2,q3,q4,q5,q6,_⟩:=gw (cs':=cs.take off++((List.replicate n (z.map D.view1)).flatten++cs.drop (off+n*sz))) (vs:=(Builtin.zeroCells zv.cells n).toList) (P:=P) (off:=off) hs.krel hs.hrel hg (K':=K) (.refl K w) hs.krel (fun _ h=>h) (fun _ _ _ _ h=>h)
     (by rw [hlen];exact hfit) (fun v hv=>by
      obtain ⟨j,hj⟩:=List.mem_iff_getElem?.1 hv
      exact (z3 _ _ (hget j v hj).2).1)
     (by simp [hzl];omega) (fun j d hd hj=>by
      rw [hlen] at hj
      rw [List.getElem?_append] at hd
      have hto:(cs.take off).length=off:=by simp;omega
      split at hd
      ·rename_i hlt
       rw [List.getElem?_take] at hd
       split at hd
       ·exact hd
       ·cases hd
      ·rename_i hge
       rw [hto] at hge hd
       rw [List.getElem?_append_right (by simp [hzl];omega)] at hd
       rw [List.getElem?_drop] at hd
       simp only [List.length_flatten,List.map_replicate,List.length_map,List.sum_replicate_nat,hzl] at hd
       rw [show off+n*sz+(j - off - n*sz)=j by omega] at hd
       exact hd)
     (fun j d u hd hu=>by
      obtain ⟨hj,hu'⟩:=hget j u hu
      have hto:(cs.take off).length=off:=by simp;omega
      rw [List.getElem?_append_right (by omega),hto,show off+j - off=j by omega,List.getElem?_append_left (by simp [hzl];omega)] at hd
      rw [Yg (by simp;omega) n j (by simp [hzl];exact hj)] at hd
      simp only [List.length_map,hzl,List.getElem?_map] at hd
      obtain ⟨d',hd',rfl⟩:=Option.map_eq_some_iff.1 hd
      obtain rfl:=z4 _ d' u hd' hu'
      have hr:=(y4 (K:=K) (w:=w) (o:= .outer) (z3 _ _ hu').2).rep
      exact hr.repC (fun xs e=>by rw [e] at hr;exact hr.not_own))
    have hzero:(zeroValue e).run P w= .ok zv w:=by
     rw [hi] at hi';cases hi'
     simp [zeroValue,typeInfo,hi,hzv]
    refine qL (w':=w.setRow b c') (v:= .tuple #[]) ?_ ⟨_,_,K,h,q3,hs.put (q6) (fun _ _ h=>h) q4 q5 o.dst (fun i _=>RepV.viewO (.tup [] #[] rfl (fun j d u hd=>by simp at hd))),qy _ _⟩
    have hrun:(Builtin.clear_ #[t] o.type #[.slice (some ⟨b,off,none⟩) n cap]).run P w= .ok (.tuple #[]) (w.setRow b c'):=by
     have hn:n≠0:=by omega
     unfold Builtin.clear_
     simp only [List.getElem?_toArray,List.getElem?_cons_zero,Sem.run_bind,run_underlying hu,Result.andThen_ok]
     obtain ⟨n',rfl⟩:∃n',n=n'+1:=⟨n - 1,by omega⟩
     simp only [Sem.run_bind,hzero,Result.andThen_ok,q1,Sem.run_pure]
    simp only [execOp,ho,resolve,hf,hx,htt,Sem.run_bind,Sem.run_pure,Result.andThen_ok,invoke,builtin,List.map_toArray,List.map_cons,List.map_nil,hv,hrun]
   ·exact h.elim
  ·exact h.elim
 ·exact h.elim
end
end Go.Aw
end
section
namespace Go.Aw
open Go Go.RowKit
section
variable {P:Program} {ops:List Oper} {o:Oper} {F:List D} {H:AH} {k:List D→AH→Prop} {K:Nat→BK} {w:World} {a:Act} {Q:Exit→Act→World→Prop}
theorem o6 {t:TypeId} {n b off:Nat} {ag:Bool} (ht:wb P t=some (ag,n)) {v:Value} (hn:v.cells.size=n) {w':World} (h:(storeCells ⟨b,off,none⟩ v.cells.toList).run P w= .ok () w'):
  (Instr.storeAt t (.pointer (some ⟨b,off,none⟩)) v).run P w= .ok () w':=by
 obtain ⟨h1,h2⟩:=wg ht
 simp [Instr.storeAt,Instr.sureAddr,storeVar,h2,hn,h]
theorem Wv {d:D} {v:Value} {i:Nat} (h:RepO K w i d v) (h1:one1 d=true):v.oneCell'=true∧v.cells=#[v]:=by
 cases d<;>simp [one1] at h1
 case own xs=>rcases h with ⟨_,a,rfl⟩|⟨_,_,_,_,_,rfl,_⟩<;>exact ⟨rfl,rfl⟩
 all_goals (cases h<;>exact ⟨rfl,rfl⟩)
theorem repO_C {i:Nat} {d:D} {v:Value} (h:RepO K w i d v) (h1:one1 d=true):RepC K w (.slot i 0) d v:=by
 cases d<;>simp [one1] at h1<;>exact h
theorem uI (hs:St K w F H a.tmps) {s:Nat} {d:D} (hev:ev F (.tmp s)=d) (hd:d≠ .any):F[s]?=some d∧a.tmps[s]?=some (a.eval (.tmp s)):=by
 have hlt:s<F.length:=by
  rcases Nat.lt_or_ge s F.length with h'|h'
  ·exact h'
  ·simp [ev,List.getD,List.getElem?_eq_none h'] at hev
   exact (hd hev.symm).elim
 have hts:s<a.tmps.size:=by rw [hs.len];exact hlt
 refine ⟨?_,by simp [Act.eval,Array.getElem?_eq_getElem hts]⟩
 have:F[s]?=some (ev F (.tmp s)):=by simp [ev,List.getD,List.getElem?_eq_getElem hlt]
 rw [this,hev]
theorem Vr (hs:St K w F H a.tmps) (hok:jq o=true) {t:TypeId} {x y:Operand} (ho:o.op= .store t x y) (h:aop P ops o F H k):o.wp P a w (OKd k K w a.defers) Q:=by
 simp only [aop,ho] at h
 have hx:jL x=true∧jL y=true:=by
  unfold jq at hok
  simp only [ho,Op.operands,Bool.and_eq_true] at hok
  simpa using hok.1
 split at h
 ·rename_i n b off ht hp
  split at h
  ·rename_i cs hg
   obtain ⟨hc,hn,hfit,h⟩:=h
   have hv:=(hp▸hs.rep hx.1).ptr_inv
   obtain ⟨c1,c2,c3⟩:=vF (hs.rep hx.2) hc
   have hsz:(a.eval y).cells.size=n:=by rw [c1,hn]
   obtain ⟨c',T,hrun,_,hfk,hk',hh',hkeep,_⟩:=gw (P:=P) (off:=off) (cs':=cs.take off++(cellsOf (rv F y)++cs.drop (off+n))) (vs:=(a.eval y).cells.toList) hs.krel hs.hrel hg (.refl K w) hs.krel (fun _ h=>h) (fun _ _ _ _ h=>h)
    (by simp;omega) (fun v hm=>by
     obtain ⟨j,hj,he⟩:=List.mem_iff_getElem.1 hm
     exact c2 j v (by rw [←he];simp at hj ⊢)) (by simp;omega)
    (fun j d hd hj=>by
     simp only [Array.length_toList,hsz] at hj
     rcases hj with hj|hj
     ·rw [List.getElem?_append_left (by simp;omega),List.getElem?_take,if_pos hj] at hd;exact hd
     ·have hl1:(cs.take off).length=off:=by simp;omega
      rw [List.getElem?_append_right (by rw [hl1];omega),hl1,List.getElem?_append_right (by omega),List.getElem?_drop] at hd
      rw [←hd];congr 1;omega)
    (fun j d u hd hu=>by
     have hj:j<n:=by rw [←hsz];simpa using (List.getElem?_eq_some_iff.1 hu).1
     have hl1:(cs.take off).length=off:=by simp;omega
     rw [List.getElem?_append_right (by rw [hl1];omega),hl1,show off+j - off=j by omega,List.getElem?_append_left (by omega)] at hd
     exact (c3 j d u hd (by simpa using hu)).repC (fun xs e=>by subst e;exact (c3 j _ u hd (by simpa using hu)).not_own))
   have hst:=o6 (P:=P) ht hsz hrun
   refine vV (w':=w.setRow b c') ?_ ⟨_,_,K,h,hfk,hs.put (E:=noE) (B:=fun x=>x=b) hkeep (fun _ _ h=>h) hk' hh' o.dst (fun i _=>RepV.viewO (.tup [] #[] rfl (fun j d u hd=>by simp at hd))),qy _ _⟩
   simp only [execOp,ho,hv,Sem.run_bind,hst,Result.andThen_ok]
   rfl
  ·exact h.elim
 ·rename_i n b off ht hp
  split at h
  ·rename_i cs hg
   obtain ⟨rfl,hoff,h1,hdst,h⟩:=h
   have hv:=(hp▸hs.rep hx.1).ptr_inv
   have main:∃K',FK K w K' w∧KRel K' w∧(∀b',K b'= .priv→K' b'= .priv)∧(∀b' n c j,K b'= .tok n (.cell c j)→K' b'= .tok n (.cell c j))∧RepC K' w (.cell b off) (ev F y) (a.eval y)∧(a.eval y).oneCell'=true∧(a.eval y).cells=#[a.eval y]∧
     ∃F',(∀H',(match y with| .tmp s=>k (F.set s (rv F y)) H'|_=>k F H')→k F' H')∧F'.length=F.length∧∀(i:Nat) (d:D) (v:Value),F'[i]?=some d→a.tmps[i]?=some v→RepO K' w i d v:=by
    cases y with
    | tmp s=>
     obtain ⟨hF,hT⟩:=uI hs (s:=s) rfl (fun e=>by rw [e] at h1;simp [one1] at h1)
     have hr:=hs.slot s _ _ hF hT
     obtain ⟨o1,o2⟩:=Wv hr h1
     let φ:=mvφ (.slot s 0) (.cell b off)
     have hcv:=RepC.conv (o':= .cell b off) (qC φ K w) (fun b' n hb'=>by rw [qR hb'];simp [φ,mvφ]) (repO_C hr h1)
     refine ⟨relab φ K,gL (by simp) (by simp),jE hs.krel,fun b' h=>relab_priv.2 h,fun b' n c j hb'=>by rw [qR hb'];simp [φ,mvφ],hcv,o1,o2,F.set s (rv F (.tmp s)),fun H' h=>h,by simp,fun i d v hd hv=>?_⟩
     rcases getElem?_set_some hd with ⟨rfl,rfl,_⟩|⟨hne,hd⟩
     ·rw [hT] at hv
      obtain rfl:=Option.some.inj hv
      exact (RepV.mono (qC φ K w) hr.rep).viewO
     ·exact uF (fun j e=>by injection e with e _;exact hne e) (hs.slot i d v hd hv)
    | const c=>
     have hr:=y4 (K:=K) (w:=w) (o:= .cell b off) hx.2
     have hr0:=zR (K:=K) (w:=w) c hx.2 0
     obtain ⟨o1,o2⟩:=Wv hr0 h1
     exact ⟨K,.refl K w,hs.krel,fun _ h=>h,fun _ _ _ _ h=>h,hr,o1,o2,F,fun H' h=>h,rfl,hs.slot⟩
    |global g=>exact ⟨K,.refl K w,hs.krel,fun _ h=>h,fun _ _ _ _ h=>h,.ptr g 0,rfl,rfl,F,fun H' h=>h,rfl,hs.slot⟩
    |func f=>exact ⟨K,.refl K w,hs.krel,fun _ h=>h,fun _ _ _ _ h=>h,hs.rep (x:= .func f) rfl,rfl,rfl,F,fun H' h=>h,rfl,hs.slot⟩
   obtain ⟨K',hfk0,hk0,hpriv0,hcell,hrc,ho1,ho2,F',hF',hlen',hslots⟩:=main
   obtain ⟨c',T,hrun,_,hfk,hk',hh',hkeep,_⟩:=gw (P:=P) (off:=off) (cs':=cs.set off (ev F y)) (vs:= [a.eval y]) hs.krel hs.hrel hg hfk0 hk0 hpriv0 hcell
    (by simp;omega) (fun v hm=>by simp at hm;subst hm;exact ho1) (by simp)
    (fun j d hd hj=>by
     rcases getElem?_set_some hd with ⟨rfl,_,_⟩|⟨_,hd⟩
     ·simp only [List.length_cons,List.length_nil] at hj;omega
     ·exact hd)
    (fun j d u hd hu=>by
     cases j with
     | zero=>
      simp only [List.getElem?_cons_zero,Option.some.injEq] at hu
      subst hu
      rcases getElem?_set_some hd with ⟨_,rfl,_⟩|⟨hne,_⟩
      ·exact hrc
      ·exact (hne rfl).elim
     |succ j=>simp at hu)
   have hst:=o6 (P:=P) ht (v:=a.eval y) (by rw [ho2];rfl) (w':=w.setRow b c') (by rw [ho2];exact hrun)
   have hdef:(a.put o.dst undef)=a:=by rw [hdst];rfl
   refine vV (w':=w.setRow b c') ?_ ⟨F',_,K',hF' _ (by cases y<;>exact h),hfk,⟨hk',hh',by rw [hdef,hlen'];exact hs.len,fun i d v hd hv'=>?_⟩,qy _ _⟩
   ·simp only [execOp,ho,hv,Sem.run_bind,hst,Result.andThen_ok]
    rfl
   ·rw [hdef] at hv'
    exact (hslots i d v hd hv').keep hkeep (fun _ h=>h)
  ·exact h.elim
 ·exact h.elim
theorem ZU (hs:St K w F H a.tmps) (hok:jq o=true) {c:Call} {f:Operand} (ho:o.op= .call c) (hf:c.callee= .value f) (h:aop P ops o F H k):o.wp P a w (OKd k K w a.defers) Q:=by
 simp only [aop,ho,hf] at h
 split at h
 ·rename_i g caps hg
  have hall:jL f=true∧c.args.all jL=true:=by
   unfold jq at hok
   simp only [ho,Op.operands,Call.operands,hf,Bool.and_eq_true] at hok
   exact ⟨(Array.all_eq_true'.1 hok.1) f (by simp),hok.2⟩
  obtain ⟨fs,vs,hv,hcap⟩:=(hg▸hs.rep hall.1).fn_call
  obtain ⟨hcall,hR⟩:=h
  unfold wR at hcall
  split at hcall
  ·rename_i fn hfn
   simp only [Bool.and_eq_true,Bool.not_eq_true'] at hcall
   have hrun:(execOp a.eval o).run P w= .ok (.enter g (fs++c.args.map a.eval++vs)) w:=by
    have hb:fn.body.isNone=false:=by cases hbb:fn.body<;>simp_all
    simp only [execOp,ho,resolve,hf,hv,Deferred.ofValue,Sem.run_bind,Sem.run_pure,Result.andThen_ok,invoke,callFunc,run_program,hfn,hcall.2,hb,Bool.false_eq_true,if_false]
   obtain ⟨hl,hcap⟩:=hcap (c.args.toList.map (rv F)) (c.args.map a.eval) (by simp) (fun j d v hd hv'=>by
    rw [List.getElem?_map,Option.map_eq_some_iff] at hd
    rw [Array.getElem?_map,Option.map_eq_some_iff] at hv'
    obtain ⟨x,h1,rfl⟩:=hd
    obtain ⟨y,h2,rfl⟩:=hv'
    rw [Array.getElem?_toList,h2] at h1
    obtain rfl:=Option.some.inj h1
    exact hs.rep ((Array.all_eq_true'.1 hall.2) _ (Array.mem_of_getElem? h2)))
   have hc:=hR (relab outerize K) w (fs++c.args.map a.eval++vs) (jE hs.krel) (z7 K) (yw ⟨fun _ _=>rfl,rfl⟩ hs.hrel) hl (fun j d v hd hv'=>(hcap j d v hd hv').mono (qC outerize K w))
   unfold Oper.wp
   rw [hrun,Oper.upon_enter]
   refine hc.mono fun e w' ⟨v,d,H',K',he,hk,hfk,hk',hh',hr⟩=>?_
   subst he
   have key:∀dst,(∀i,o.dst=some i→i=dst)→St (kG K K' dst) w' (qG F o.dst d) H' (a.put o.dst v).tmps:=by
    intro dst hd
    obtain ⟨hkeep,hext⟩:=wN hfk dst
    have hkr:KRel (kG K K' dst) w':=fun b hb=>by simp [kG,hk' b hb]
    have hhr:HRel (kG K K' dst) w' H':=hh'.conv hext (fun b h=>by simp [kG,h]) (fun b n c j hb=>by simp [kG,hb])
    exact hs.put hkeep (fun _ _ h=>h) hkr hhr o.dst (fun i hi=>by
      obtain rfl:=hd i hi
      exact hr.conv hext (fun b n j hb=>by simp [kG,hb]))
   have hkk:=hk hr.rep.fact
   cases hd:o.dst with
   |none=>exact ⟨_,H',_,hkk,(wN hfk 0).1.fk (fun h=>h),hd▸key 0 (fun i hi=>by rw [hd] at hi;cases hi),qy _ _⟩
   |some t=>exact ⟨_,H',_,hkk,(wN hfk t).1.fk (fun h=>h),hd▸key t (fun i hi=>by rw [hd] at hi;exact (Option.some.inj hi).symm),qy _ _⟩
  ·cases hcall
 ·exact h.elim
theorem kI {α:Type} {xs:Array α} {x y:α} (h:xs.toList= [x,y]):xs=#[x,y]:=by
 obtain ⟨l⟩:=xs
 simp at h
 simp [h]
theorem gR (hs:St K w F H a.tmps) (hok:jq o=true) {c:Call} (ho:o.op= .call c) (hf:c.callee= .builtin .append) (h:aop P ops o F H k):o.wp P a w (OKd k K w a.defers) Q:=by
 simp only [aop,ho,hf] at h
 split at h
 ·rename_i s x t u d hargs htys hd
  split at h
  ·rename_i xs e sz bs hev hap
   obtain ⟨hF,hT⟩:=uI hs hev (by simp)
   have hown:OwnAt K w (.slot s 0) xs (a.eval (.tmp s)):=hs.slot s _ _ hF hT
   have hx:jL x=true:=by
    unfold jq at hok
    simp only [ho,Op.operands,Call.operands,hf,Bool.and_eq_true] at hok
    exact (Array.all_eq_true'.1 hok.2) x (by rw [kI hargs];simp)
   have fin:∀ys:List (List D),(∀y∈xs,y.length=sz)→Src P w K sz ys (a.eval x)→(xs.length+ys.length)*bs≤140737488355328→k ((F.set s (.slc xs)).set d (.own (xs++ys))) H→o.wp P a w (OKd k K w a.defers) Q:=by
    intro ys hxs hsrc hb hk
    obtain ⟨r,K',w',hrun,hkeep,hk',hh',hown'⟩:=VM (P:=P) (ty:=o.type) hs.krel hs.hrel hap (s:= .slot s 0) (d:= .slot d 0) (by simp) (by simp) (by simp) hown hxs hsrc hb
    refine qL (v:=r) (w':=w') ?_ ⟨_,H,K',hk,hkeep.fk (by simp),⟨hk',hh',by rw [hd];simpa [Act.put] using hs.len,fun i dd v hdd hv=>?_⟩,qy _ _⟩
    ·simp only [execOp,ho,resolve,hf,Sem.run_bind,Sem.run_pure,Result.andThen_ok,invoke,builtin,kI hargs,kI htys]
     simp [hrun]
    ·rw [hd] at hv
     simp only [Act.put] at hv
     rcases getElem?_set_some hdd with ⟨rfl,rfl,hl⟩|⟨hne,hdd⟩
     ·rw [Array.getElem?_setIfInBounds_self_of_lt (by rw [hs.len];simpa using hl)] at hv
      obtain rfl:=Option.some.inj hv
      exact hown'
     ·rw [Array.getElem?_setIfInBounds_ne hne] at hv
      rcases getElem?_set_some hdd with ⟨rfl,rfl,_⟩|⟨hne2,hdd⟩
      ·rw [hT] at hv
       obtain rfl:=Option.some.inj hv
       exact (RepV.mono hkeep.ext hown.rep).viewO
      ·exact (hs.slot i dd v hdd hv).keep hkeep (fun j e=>by injection e with e _;exact hne2 e.symm)
   split at h
   ·rename_i ys hy
    obtain ⟨h1,h2,h3,h4⟩:=h
    have hpos:0<sz:=(ju (zd hap).1).2.1
    exact fin ys h1 (ou (hy▸hs.rep hx) h2 hpos) h3 h4
   ·rename_i l hy
    obtain ⟨rfl,h2,h3,h4⟩:=h
    exact fin _ h2 (Wd (hy▸hs.rep hx)) (by simpa using h3) h4
   ·exact h.elim
  ·exact h.elim
 ·exact h.elim
theorem Zq (hs:St K w F H a.tmps) (hok:jq o=true) {t:TypeId} {s:Nat} (ho:o.op= .load t (.tmp s)) (h:aop P ops o F H k):o.wp P a w (OKd k K w a.defers) Q:=by
 simp only [aop,ho] at h
 split at h
 ·rename_i d hd
  split at h
  ·split at h
   ·rename_i n b off ht hp
    split at h
    ·rename_i cs hg
     split at h
     ·rename_i xs hc
      have hv:=(hp▸hs.rep (x:= .tmp s) rfl).ptr_inv
      obtain ⟨hpb,c,T,hb,hcs,hr⟩:=hs.hrel.ok b _ (j4 hg)
      obtain ⟨u,e1,e2,e3⟩:=hr off _ hc
      have hcell:w.cell? ⟨b,off,none⟩=some u:=by rw [kO hb];exact e1
      let φ:=mvφ (.cell b off) (.slot d 0)
      have hfk:FK K w (relab φ K) w:=gL (by simp) (by simp)
      have hcv:OwnAt (relab φ K) w (.slot d 0) xs u:=OwnAt.conv (qC φ K w) (fun b' n hb'=>by rw [qR hb'];simp [φ,mvφ]) e3
      refine qL (v:=u) (w':=w) ?_ ⟨_,_,relab φ K,h,hfk,⟨jE hs.krel,⟨by rw [ko];exact hs.hrel.nd,fun b' o' hm=>?_⟩,by rw [hd];simpa [Act.put] using hs.len,fun i dd v hdd hv'=>?_⟩,qy _ _⟩
      ·simp only [execOp,ho,hv,Sem.run_bind,ve ht b off u hcell,Result.andThen_ok]
       rfl
      ·have conv:∀(b':Nat) (cs':List D),b'≠b→AO.at_ K w b' (.cells cs')→AO.at_ (relab φ K) w b' (.cells cs'):=by
        rintro b' cs' hne ⟨g1,c',T',g2,g3,g4⟩
        refine ⟨relab_priv.2 g1,c',T',g2,g3,fun j d' hd'=>?_⟩
        obtain ⟨u',q1,q2,q3⟩:=g4 j d' hd'
        exact ⟨u',q1,q2,q3.conv (qC φ K w) (fun b'' n hb''=>by
         rw [qR hb'']
         simp only [φ,mvφ,BK.tok.injEq,true_and]
         rw [if_neg]
         intro e
         injection e with e _
         exact hne e)⟩
       rcases yu hs.hrel.nd hm with ⟨rfl,rfl⟩|⟨hne,hm⟩
       ·refine ⟨relab_priv.2 hpb,c,T,hb,by simpa using hcs,fun j d' hd'=>?_⟩
        rcases getElem?_set_some hd' with ⟨rfl,rfl,_⟩|⟨hnej,hd'⟩
        ·exact ⟨u,e1,e2,RepV.mono (qC φ K w) (OwnAt.rep e3)⟩
        ·obtain ⟨u',q1,q2,q3⟩:=hr j d' hd'
         exact ⟨u',q1,q2,q3.conv (qC φ K w) (fun b'' n hb''=>by
          rw [qR hb'']
          simp only [φ,mvφ,BK.tok.injEq,true_and]
          rw [if_neg]
          intro e
          injection e with _ e
          exact hnej e.symm)⟩
       ·cases o' with
        |cells cs'=>exact conv b' cs' hne (hs.hrel.ok b' _ hm)
        | room cap' xs'=>
         have hro:=hs.hrel.ok b' _ hm
         exact ⟨hro.1,hro.2.conv (qC φ K w) (fun b'' n hb''=>by
          rw [qR hb'']
          simp only [φ,mvφ,BK.tok.injEq,true_and]
          rw [if_neg]
          intro e
          injection e with e _
          exact hne e)⟩
        | mp es'=>
         have hro:=hs.hrel.ok b' _ hm
         exact ⟨relab_priv.2 hro.1,hro.2.ext (qC φ K w) rfl⟩
        | lp J pre=>
         have hc:∀c n j,K c= .tok n (.cell b' j)→relab φ K c= .tok n (.cell b' j):=fun c n j hb''=>by
          rw [qR hb'']
          simp only [φ,mvφ,BK.tok.injEq,true_and]
          rw [if_neg]
          intro e
          injection e with e _
          exact hne e
         obtain ⟨⟨n,j,h1⟩,h2,h3⟩:=hs.hrel.ok b' _ hm
         exact ⟨⟨n,j,hc _ _ _ h1⟩,h3 pre K w _ w h2 fun c n j h=>⟨hc c n j h,rfl⟩,h3⟩
      ·rw [hd] at hv'
       simp only [Act.put] at hv'
       rcases getElem?_set_some hdd with ⟨rfl,rfl,hl⟩|⟨hne,hdd⟩
       ·rw [Array.getElem?_setIfInBounds_self_of_lt (by rw [hs.len];exact hl)] at hv'
        obtain rfl:=Option.some.inj hv'
        exact hcv
       ·rw [Array.getElem?_setIfInBounds_ne hne] at hv'
        exact uF (fun j e=>by cases e) (hs.slot i dd v hdd hv')
     ·rename_i b' n' c' hc
      exact wJ hs hok (by rw [ho,hd];simp only [qO,ht,hp,hg,hc];exact fun _=>h)
     ·exact h.elim
    ·exact h.elim
   ·exact h.elim
  ·exact wJ hs hok (by simpa only [ho,hd] using h)
 ·rename_i hd
  exact wJ hs hok (by simpa only [ho,hd] using h)
theorem o9 {t e:TypeId} (ht:P.underlying t=some (.slice e)) (w:World) (ad:Option Addr) (n c d:Nat):(Op.equalIn (d+1) t (.slice ad n c) (.slice none 0 0)).run P w= .ok ad.isNone w:=by
 cases ad<;>simp [Op.equalIn,run_underlying ht]
theorem Jb {t e:TypeId} (ht:P.underlying t=some (.slice e)) (w:World) (ad:Option Addr) (n c:Nat):(binOp .eql t (.slice ad n c) (.slice none 0 0)).run P w= .ok (.bool ad.isNone) w:=by
 have:binOp .eql t (.slice ad n c) (.slice none 0 0)=(do pure (.bool (←Op.equal t (.slice ad n c) (.slice none 0 0)))):=rfl
 rw [this,Sem.run_bind,show Op.equal t (.slice ad n c) (.slice none 0 0)=Op.equalIn (9999+1) t (.slice ad n c) (.slice none 0 0) from rfl,o9 ht]
 rfl
theorem J9 {t e:TypeId} (ht:P.underlying t=some (.slice e)) (w:World) (ad:Option Addr) (n c:Nat):(binOp .neq t (.slice ad n c) (.slice none 0 0)).run P w= .ok (.bool (!ad.isNone)) w:=by
 have:binOp .neq t (.slice ad n c) (.slice none 0 0)=(do pure (.bool (!(←Op.equal t (.slice ad n c) (.slice none 0 0))))):=rfl
 rw [this,Sem.run_bind,show Op.equal t (.slice ad n c) (.slice none 0 0)=Op.equalIn (9999+1) t (.slice ad n c) (.slice none 0 0) from rfl,o9 ht]
 rfl
theorem stp_bin (hs:St K w F H a.tmps) (hok:jq o=true) {bo:BinOp} {t ty:TypeId} {x y:Operand} (ho:o.op= .binOp bo t x y ty) (h:aop P ops o F H k):o.wp P a w (OKd k K w a.defers) Q:=by
 simp only [aop,ho] at h
 split at h
 ·rename_i hn
  obtain rfl:y= .const (.slice none 0 0):=by
   unfold od at hn
   split at hn
   ·rfl
   ·cases hn
  have hx:jL x=true:=by
   unfold jq at hok
   simp only [ho,Op.operands,Bool.and_eq_true] at hok
   have:=hok.1
   simp at this
   exact this.1
  have hr:=hs.rep hx
  unfold nilcmp at h
  split at h
  ·rename_i xs hxs
   rw [hxs] at hr
   obtain ⟨hsl,h⟩:=h
   obtain ⟨⟨e,sz⟩,hsl⟩:=Option.isSome_iff_exists.1 hsl
   obtain ⟨ht,_⟩:=ju hsl
   have hform:∃ad n c,a.eval x= .slice ad n c∧(ad=none→xs= []):=by
    rcases hr.slc_inv with ⟨rfl,ad,hv⟩|⟨b,off,cap,sz',f,hv,_⟩
    ·exact ⟨_,_,_,hv,fun _=>rfl⟩
    ·exact ⟨_,_,_,hv,fun e=>by cases e⟩
   obtain ⟨ad,n,c,hv,hne⟩:=hform
   have put:∀(b:Bool),k (qG F o.dst (.bool b)) H→(execOp a.eval o).run P w= .ok (.value (.bool b)) w→o.wp P a w (OKd k K w a.defers) Q:=fun b hk hrun=>
    qL hrun ⟨_,H,K,hk,.refl K w,hs.put ((Pres.refl K w).keep hs.krel) (fun _ _ h=>h) hs.krel hs.hrel o.dst (fun i _=>RepV.viewO (.bool b)),qy _ _⟩
   have hrun:∀v,(binOp bo t (.slice ad n c) (.slice none 0 0)).run P w= .ok v w→(execOp a.eval o).run P w= .ok (.value v) w:=fun v hv'=>by
    have hy:a.eval (.const (.slice none 0 0))= .slice none 0 0:=rfl
    have hg:eqGuard bo t x (.const (.slice none 0 0)) (.slice ad n c) (.slice none 0 0)=pure ():=by cases bo<;>rfl
    simp only [execOp,ho]
    rw [hv,hy,hg,Sem.run_bind,Sem.run_bind,Sem.run_pure,Result.andThen_ok,hv']
    rfl
   split at h
   ·cases ad with
    |none=>exact put true (h.1 (hne rfl)) (hrun _ (Jb ht _ _ _ _))
    |some ad=>exact put false h.2 (hrun _ (Jb ht _ _ _ _))
   ·cases ad with
    |none=>exact put false (h.1 (hne rfl)) (hrun _ (J9 ht _ _ _ _))
    |some ad=>exact put true h.2 (hrun _ (J9 ht _ _ _ _))
   ·exact h.elim
  ·exact h.elim
 ·exact wJ hs hok (by simpa only [ho] using h)
theorem kS (hs:St K w F H a.tmps) (hok:jq o=true) (h:aop P ops o F H k):o.wp P a w (OKd k K w a.defers) Q:=by
 have hopnd:∀x,o.op.operands=#[x]→jL x=true:=fun x hx=>by
  unfold jq at hok
  simp only [hx,Bool.and_eq_true] at hok
  simpa using hok.1
 cases ho:o.op
 case move x=>
  cases x with
  |tmp s=>exact UU hs ho h
  |_=>exact Jl hs (hopnd _ (by rw [ho];rfl)) (fun s e=>by cases e) (by simp [execOp,ho]) (by simpa only [aop,ho] using h)
 case assign x=>
  cases x with
  |tmp s=>exact YG hs ho h
  |_=>exact Jl hs (hopnd _ (by rw [ho];rfl)) (fun s e=>by cases e) (by simp [execOp,ho]) (by simpa only [aop,ho] using h)
 case extract x ix=>
  cases x with
  |tmp s=>exact Ku hs ho h
  |_=>exact wJ hs hok (by simpa only [aop,ho] using h)
 case alloc t=>exact VG hs ho h
 case box t x=>exact stp_box hs hok ho h
 case makeMap t r=>exact Yu hs ho h
 case mapUpdate t m i v=>exact QL hs hok ho h
 case mapEntry t m i=>exact Kh hs hok ho h
 case entryStore t m s v=>exact uh hs hok ho h
 case store t x y=>exact Vr hs hok ho h
 case binOp bo t x y ty=>exact stp_bin hs hok ho h
 case load t x=>
  cases x with
  |tmp s=>exact Zq hs hok ho h
  |_=>exact wJ hs hok (by simpa only [aop,ho] using h)
 case call c=>
  cases hf:c.callee with
  |value f=>exact ZU hs hok ho hf h
  |invoke r m=>exact wJ hs hok (by simpa only [aop,ho,hf] using h)
  | builtin b=>
   cases b
   case append=>exact gR hs hok ho hf h
   case clear=>exact Uc hs hok ho hf h
   all_goals exact wJ hs hok (by simpa only [aop,ho,hf] using h)
 all_goals exact wJ hs hok (by simpa only [aop,ho] using h)
end
end Go.Aw
end
