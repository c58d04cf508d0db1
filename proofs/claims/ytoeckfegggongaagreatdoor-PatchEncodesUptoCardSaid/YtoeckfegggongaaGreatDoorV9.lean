/- A part of the proof of what the last text says: Aw17. Conditions: those in each theorem. -/
import Derived.Test.YtoeckfegggongaaGreatDoorV8
set_option linter.unusedVariables false
set_option linter.unusedSimpArgs false
set_option maxRecDepth 100000
set_option maxHeartbeats 16000000
open Nat renaming reduceSub → qa,reduceAdd → qb,reduceMul → qc,reduceEqDiff → qd,reduceLeDiff → qe,reduceBEq → qf
section
namespace Go.Aw
open Go Go.RowKit
def XW (P : Program) (x : XC) (F : List D) (H : AH) (Q : AQ) : Prop := ∀ c,cmp c = er x → jD c = true → uP x c = true → AW P (.loop c) F H Q
def XRF (P : Program) (g : Operand) (p t : Tmp) (x : XC) (F : List D) (H : AH) (Q : AQ) : Prop := ∀ ps asg c,ps.toList = [p] → Kc asg = some (p,t) → cmp c = er x → jD c = true → uP x c = true → inB x = true → Jg c = true → AW P (.rangeFunc g ps asg c) F H Q
theorem Kq {P : Program} {t : TypeId} : ∀ {l : List (Nat × List D)} {z : List D} {k : List D → Prop},yX P t l z k → ∃ cs,k cs ∧ yX P t l z (fun c=>c = cs)
 | [],z,k,h=>⟨z,h,rfl⟩
 | (i,cs) :: r,z,k,h=>by
  unfold yX at h ⊢
  split at h
  ·rename_i off b n he
   obtain ⟨h1,h2,h3⟩ := h
   obtain ⟨c,g1,g2⟩ := Kq h3
   exact ⟨c,g1,h1,h2,g2⟩
  ·exact h.elim
theorem zbH_ex {P : Program} {t : TypeId} {ps : List (Nat × Operand)} {dst : Option Tmp} {F : List D} {H : AH} {k : List D → AH → Prop} (h : zbH P t ps dst F H k) :
  ∃ cs,k (j0 F dst (.agg cs)) H ∧ ∀ (G : List D) (H1 : AH),(∀ p ∈ ps,rv G p.2 = rv F p.2) → zbH P t ps dst G H1 (fun G' H''=>G' = j0 G dst (.agg cs) ∧ H'' = H1) := by
 unfold zbH at h ⊢
 split at h
 ·rename_i z hz
  obtain ⟨h1,h2,h3⟩ := h
  obtain ⟨cs,g1,g2⟩ := Kq h3
  refine ⟨cs,g1,fun G H1 hG=>?_⟩
  have e : (ps.map fun p=>(p.1,rv G p.2)) = ps.map fun p=>(p.1,rv F p.2) := List.map_congr_left fun p hp=>by rw [hG p hp]
  rw [e]
  refine ⟨h1,h2,?_⟩
  have : ∀ {l : List (Nat × List D)} {z : List D} {k k' : List D → Prop},(∀ c,k c → k' c) → yX P t l z k → yX P t l z k' := by
   intro l
   induction l with
   | nil=>intro z k k' hk h; exact hk _ h
   | cons x r ih =>
    intro z k k' hk h
    obtain ⟨i,cs⟩ := x
    unfold yX at h ⊢
    split at h
    ·exact ⟨h.1,h.2.1,ih hk h.2.2⟩
    ·exact h.elim
  exact this (fun c hc=>by rw [hc]; exact ⟨rfl,rfl⟩) g2
 ·exact h.elim
def xtk (P : Program) (al : Option (Nat × List D)) (x : XO) (fl : Bool) (H0 : AH) (S : List Nat) (F : List D) (H : AH) (k : List Nat → List D → AH → Prop) : Prop :=
 match x.op with
 | .load t (.tmp s)=>match x.dst with
  | some d=>x.ta = true ∧ (match wi P t,rv F (.tmp s) with
    | some (false,_),.ptr b off=>match qK H b with
     | some (.cells cs)=>match cs[off]? with
      | some (.own xs)=>qK H0 b = none ∧ (fl = true ∨ b ∉ S) ∧ k (b :: S) (F.set d (.own xs)) (qY H b (.cells (cs.set off (.slc xs))))
      | _=>False
     | _=>False
    | _,_=>False)
  | none=>False
 | .store t a y=>match wi P t,rv F a with
  | some (true,n),.ptr b off=>match qK H b with
   | some (.cells cs)=>okc (rv F y) = true ∧ (cellsOf (rv F y)).length = n ∧ off + n ≤ cs.length ∧ qK H0 b = none ∧ (fl = true ∨ b ∉ S) ∧ k (b :: S) (j0 F x.dst (.tup [])) (qY H b (.cells (cs.take off ++ (cellsOf (rv F y) ++ cs.drop (off + n)))))
   | _=>False
  | some (false,n),.ptr b off=>match qK H b with
   | some (.cells cs)=>n = 1 ∧ off < cs.length ∧ one1 (ev F y) = true ∧ x.dst = none ∧ qK H0 b = none ∧ (fl = true ∨ b ∉ S) ∧ (match y with
    | .tmp s=>k (b :: S) (F.set s (rv F y)) (qY H b (.cells (cs.set off (ev F y))))
    | _=>k (b :: S) F (qY H b (.cells (cs.set off (ev F y)))))
   | _=>False
  | _,_=>False
 | .alloc t=>match x.dst with
  | some d=>match al,yF P t with
   | some (d',z),some z'=>d' = d ∧ z = z' ∧ k S (F.set d .any) H
   | _,_=>False
  | none=>False
 | .call c=>match c.callee with
  | .value f=>match rv F f with
   | .fn g caps=>∃ d b ob ob',qK H0 b = none ∧ (fl = true ∨ b ∉ S) ∧ qK H b = some ob ∧ (∀ H,qK H b = some ob → ACall P g (vN (c.args.toList.map (rv F)) caps) H (fun d' H'=>d' = d ∧ H' = qY H b ob')) ∧ (fact d.view → k (b :: S) (j0 F x.dst d) (qY H b ob'))
   | _=>False
  | _=>False
 | .build t ps=>zbH P t ps.toList x.dst F H fun F' _=>k S F' H
 | _=>False
def KT (P : Program) (al : Option (Nat × List D)) (tail : List XO) (F : List D) (H : AH) (k : HK) : Prop := match al with
 | none=>xops P false tail F H k
 | some (d,z)=>∀ b,qZ H b → xops P false tail (F.set d (.ptr b 0)) ((b,.cells z) :: H) k
def xsegs (P : Program) (al : Option (Nat × List D)) : List (List XO × XO × Bool) → List XO → List XO → AH → List Nat → Bool → List D → AH → HK → Prop
 | [],last,tail,H0,_,dn,F,H,k=>dn = al.isSome ∧ xops P true last F H0 fun F' _=>KT P al tail F' H k
 | (l,x,fl) :: r,last,tail,H0,S,dn,F,H,k=>xops P true l F H0 fun F' _=>xtk P al x fl H0 S F' H fun S' F'' H''=>xsegs P al r last tail H0 S' (dn || yy x.op) F'' H'' k
def yD : List (List XO × XO × Bool) → Nat
 | []=>0
 | (_,x,_) :: r=>(if yy x.op = true then 1 else 0) + yD r
def alR (d : Nat) (o : Option (List D)) : Option (Nat × List D) := match o with
 | some z=>some (d,z)
 | none=>none
def alQ (P : Program) (a : Option (Nat × TypeId)) : Option (Nat × List D) := match a with
 | some (d,t)=>alR d (yF P t)
 | none=>none
def delB : D → AH → AH
 | .ptr b _,H=>jB H b
 | _,H=>H
def gQ (F : List D) : List Tmp → AH → AH
 | [],H=>H
 | q :: r,H=>gQ F r (delB (F.getD q .any) H)
theorem VX {d : D} {H : AH} : (delB d H).Sublist H := by
 cases d <;> first | exact List.Sublist.refl _ | exact erase_sub
theorem Kj {F : List D} : ∀ {qs : List Tmp} {H : AH},(gQ F qs H).Sublist H
 | [],H=>List.Sublist.refl _
 | q :: r,H=>(Kj (qs := r)).trans VX
section
variable {P : Program} {ops : Array Oper} {H0 : AH}
theorem uQ {F : List D} {k : List D → Prop} (l : List Oper) (h : ∀ o ∈ l,yq o.op = none ∧ g7 o.op = false) : xops P true (l.map (xof ops.toList)) F H0 (fun F' _=>k F') = kQ P ops.toList l F H0 k := by
 rw [uM l F (fun o ho=>(h o ho).1) (fun o ho hp=>by rw [(h o ho).2] at hp; cases hp)]
 have e1 : ym l = l := by
  unfold ym
  have := List.takeWhile_append_of_pos (p := fun o : Oper=>!g7 o.op) (l₁ := l) (l₂ := []) (fun o ho=>by simp [(h o ho).2])
  simpa using this
 have e2 : vj l = [] := by
  have := YS l
  rw [e1] at this
  simpa using this
 rw [e1,e2]
 rfl
theorem Wm {o : Oper} (h : uy (xof ops.toList o) = true) : yq o.op = none ∧ g7 o.op = false ∧ Qs o.op = false := by
 unfold uy at h
 simp only [Bool.and_eq_true,Option.isNone_iff_eq_none,Bool.not_eq_true'] at h
 exact ⟨h.1.1,h.1.2,h.2⟩
theorem QD {l : List XO} {os : List Oper} (he : os.map (xof ops.toList) = l) (h : l.all uy = true) : ∀ o ∈ os,yq o.op = none ∧ g7 o.op = false ∧ Qs o.op = false := fun o ho =>
 Wm (List.all_eq_true.1 h _ (he ▸ List.mem_map.2 ⟨o,ho,rfl⟩))
theorem Kw {al : Option (Nat × List D)} {T : List D → AH × Bool → Prop} {F : List D} {H : AH} {dn fl : Bool} {n : Nat} {S : List (Nat × Nat)} {o : Oper} {r : List Oper} {k : List Nat → List D → AH → Prop} (hok : jR o = true) (hg : o.guard = none) (hfl : fl = true → ∀ q ∈ S,K9 .any o q.1 = true) (hdn : yy o.op = true → dn = false) (hsub : Sub H0 H) (hs : Some F H)
  (h : xtk P al (xof ops.toList o) fl H0 (S.map (·.2)) F H k)
  (hk : ∀ S' F' H',(S' = S ∨ ∃ b,S' = (n,b) :: S) → Sub H0 H' → Some F' H' → k (S'.map (·.2)) F' H' → kR P .any H0 al ops r (n + 1) S' F' (H',dn || yy o.op) T) : kR P .any H0 al ops (o :: r) n S F (H,dn) T := by
 have ord : ∀ {b : Nat},(fl = true ∨ b ∉ S.map (·.2)) → ∀ q ∈ S,q.2 = b → K9 .any o q.1 = true := fun hb q hq hqb=>by
  rcases hb with hb | hb
  ·exact hfl hb q hq
  ·exact (hb (List.mem_map.2 ⟨q,hq,hqb⟩)).elim
 unfold xtk at h
 split at h
 ·rename_i t s hop
  have ho : o.op = .load t (.tmp s) := hop
  have hna : yy o.op = false := by rw [ho]; rfl
  split at h
  ·rename_i d hd
   have hdst : o.dst = some d := hd
   obtain ⟨hta,h⟩ := h
   have hta' : Y3 ops.toList d = true := by simpa [xof,hdst] using hta
   split at h
   ·rename_i n b off hty hp
    split at h
    ·rename_i cs hgb
     split at h
     ·rename_i xs hc
      obtain ⟨q1,q2,q3⟩ := h
      refine wI (e := ⟨none,.own xs⟩) (ob' := .cells (cs.set off (.slc xs))) hg hna q1 hgb (ord q2) (fun s v h=>by cases h) hsub (fun H1 hb1=>j3 (ops := ops.toList) hok fun G hG hlen=>?_) hs fun hs'=>?_
      ·have he : rv G (.tmp s) = .ptr b off := by rw [← hp]; unfold rv; rw [jH hG (by simp [ho,Op.operands])]
       simp only [aop,ho,hdst,hta',if_true,hty,he,hb1,hc]
       exact ⟨rfl,by trivial⟩
      ·rw [hdst] at hs' ⊢
       have := hk _ _ _ (.inr ⟨b,rfl⟩) (hsub.set q1) hs' q3
       rwa [hna,Bool.or_false] at this
     ·exact h.elim
    ·exact h.elim
   ·exact h.elim
  ·exact h.elim
 ·rename_i t a y hop
  have ho : o.op = .store t a y := hop
  have hna : yy o.op = false := by rw [ho]; rfl
  have hma : a ∈ o.op.operands.toList := by simp [ho,Op.operands]
  have hmy : y ∈ o.op.operands.toList := by simp [ho,Op.operands]
  split at h
  ·rename_i n' b off hty hp
   split at h
   ·rename_i cs hgb
    obtain ⟨h1,h2,h3,q1,q2,q3⟩ := h
    refine wI (e := ⟨none,.tup []⟩) (ob' := .cells (cs.take off ++ (cellsOf (rv F y) ++ cs.drop (off + n')))) hg hna q1 hgb (ord q2) (fun s v h=>by cases h) hsub (fun H1 hb1=>j3 (ops := ops.toList) hok fun G hG hlen=>?_) hs fun hs'=>?_
    ·have he : rv G a = .ptr b off := by rw [← hp]; unfold rv; rw [jH hG hma]
     have hy : rv G y = rv F y := by unfold rv; rw [jH hG hmy]
     simp only [aop,ho,hty,he,hb1,hy]
     exact ⟨h1,h2,h3,rfl,by trivial⟩
    ·have := hk _ _ _ (.inr ⟨b,rfl⟩) (hsub.set q1) hs' q3
     rwa [hna,Bool.or_false] at this
   ·exact h.elim
  ·rename_i n' b off hty hp
   split at h
   ·rename_i cs hgb
    obtain ⟨h1,h2,h3,h4,q1,q2,q3⟩ := h
    have hdst : o.dst = none := h4
    have hoth : ∀ {e : Eff},e.app o.dst F = F → (∀ G : List D,e.app o.dst G = G) → (∀ s v,e.tk = some (s,v) → oQ ops.toList o = some s) → (∀ s,y ≠ .tmp s) → k (b :: S.map (·.2)) F (qY H b (.cells (cs.set off (ev F y)))) → kR P .any H0 al ops (o :: r) n S F (H,dn) T := fun {e} hF hG' htk hyn hkk=>by
     refine wI (e := e) (ob' := .cells (cs.set off (ev F y))) hg hna q1 hgb (ord q2) htk hsub (fun H1 hb1=>j3 (ops := ops.toList) hok fun G hG hlen=>?_) hs fun hs'=>?_
     ·have he : rv G a = .ptr b off := by rw [← hp]; unfold rv; rw [jH hG hma]
      have hy : ev G y = ev F y := jH hG hmy
      simp only [aop,ho,hty,he,hb1,hy,hG']
      refine ⟨h1,h2,h3,hdst,?_⟩
      cases y <;> first | exact (hyn _ rfl).elim | exact ⟨trivial,by trivial⟩ | simp
     ·rw [hF] at hs' ⊢
      have := hk _ _ _ (.inr ⟨b,rfl⟩) (hsub.set q1) hs' hkk
      rwa [hna,Bool.or_false] at this
    split at q3
    ·rename_i s
     refine wI (e := ⟨some (s,rv F (.tmp s)),.any⟩) (ob' := .cells (cs.set off (ev F (.tmp s)))) hg hna q1 hgb (ord q2) (fun s' v h=>by
      simp only [Option.some.injEq,Prod.mk.injEq] at h
      simp [oQ,ho,h.1]) hsub (fun H1 hb1=>j3 (ops := ops.toList) hok fun G hG hlen=>?_) hs fun hs'=>?_
     ·have he : rv G a = .ptr b off := by rw [← hp]; unfold rv; rw [jH hG hma]
      have hy : ev G (.tmp s) = ev F (.tmp s) := jH hG hmy
      have hyr : rv G (.tmp s) = rv F (.tmp s) := by unfold rv; rw [hy]
      simp only [aop,ho,hty,he,hb1,hy,hyr]
      refine ⟨h1,h2,h3,hdst,?_,by trivial⟩
      rw [hdst]
      rfl
     ·rw [hdst] at hs' ⊢
      have := hk _ _ _ (.inr ⟨b,rfl⟩) (hsub.set q1) hs' q3
      rwa [hna,Bool.or_false] at this
    ·rename_i hyn
     refine hoth (e := ⟨none,.any⟩) (by rw [hdst]; rfl) (fun G=>by rw [hdst]; rfl) (fun s v h=>by cases h) (fun s e=>hyn s e) q3
   ·exact h.elim
  ·exact h.elim
 ·rename_i t hop
  have ho : o.op = .alloc t := hop
  have hia : yy o.op = true := by rw [ho]; rfl
  split at h
  ·rename_i d hd
   have hdst : o.dst = some d := hd
   split at h
   ·rename_i d' z z' hz
    obtain ⟨rfl,rfl,h⟩ := h
    have hd0 := hdn hia
    subst hd0
    refine Wf hg ho hdst hz rfl hs fun hs'=>?_
    have := hk S _ _ (.inl rfl) hsub hs' h
    rwa [hia,Bool.false_or] at this
   ·exact h.elim
  ·exact h.elim
 ·rename_i c hop
  have ho : o.op = .call c := hop
  have hna : yy o.op = false := by rw [ho]; rfl
  split at h
  ·rename_i f hf
   split at h
   ·rename_i g caps hgv
    obtain ⟨d,b,ob,ob',q1,q2,q3,q4,q5⟩ := h
    have hops : o.op.operands = #[f] ++ c.args := by simp only [ho,Op.operands,Call.operands,hf]
    have hse : ∀ H,qK H b = some ob → zn P H (qY H b ob') o F ⟨none,d⟩ := fun H1 hb1=>j3 (ops := ops.toList) hok fun G hG hlen=>by
     have h1 : rv G f = .fn g caps := by rw [← hgv]; unfold rv; rw [jH hG (by rw [hops]; simp)]
     have h2 : c.args.toList.map (rv G) = c.args.toList.map (rv F) := List.map_congr_left fun x hx=>by
      unfold rv
      rw [jH hG (by rw [hops]; simp; exact .inr (by simpa using hx))]
     simp only [aop,ho,hf,h1,h2]
     exact (q4 H1 hb1).mono fun d' H' ⟨e1,e2⟩ _=>by subst e1 e2; exact ⟨rfl,by trivial⟩
    have hfact : fact d.view := by
     obtain ⟨K,w,a,hs⟩ := hs
     have hap : aop P ops.toList o F H (fun _ _=>fact d.view) := by
      simp only [aop,ho,hf,hgv]
      exact (q4 H q3).mono fun d' H' ⟨e1,_⟩ hfct=>by subst e1; exact hfct
     obtain ⟨a',w',F',H',K',hfct,_⟩ := uj (yn (Q := fun _ _ _=>False) hs hok hap)
     exact hfct
    refine wI (e := ⟨none,d⟩) hg hna q1 q3 (ord q2) (fun s v h=>by cases h) hsub hse hs fun hs'=>?_
    have := hk _ _ _ (.inr ⟨b,rfl⟩) (hsub.set q1) hs' (q5 hfact)
    rwa [hna,Bool.or_false] at this
   ·exact h.elim
  ·exact h.elim
 ·rename_i t ps hop
  have ho : o.op = .build t ps := hop
  have hna : yy o.op = false := by rw [ho]; rfl
  have h : zbH P t ps.toList o.dst F H (fun F' _=>k (S.map (·.2)) F' H) := h
  obtain ⟨cs,hk',hz⟩ := zbH_ex h
  have hse : ∀ H1,zn P H1 H1 o F ⟨none,.agg cs⟩ := fun H1 K w a G Q hs hG hlen=>Yh hs hok ho (hz G H1 fun p hp=>by
   unfold rv
   rw [jH hG (by simp only [ho,Op.operands,List.mem_map,Array.toList_map]; exact ⟨p,hp,rfl⟩)])
  refine ⟨⟨⟨none,.agg cs⟩,.no⟩,.inl ⟨by simp [gst,hg],by simp,hna,fun H1 _ _=>hse H1,fun s v h=>by cases h⟩,trivial,trivial,?_⟩
  obtain ⟨K,w,a,hs0⟩ := hs
  obtain ⟨a',w',F',H',K',⟨hF',hH'⟩,_,hs',_⟩ := uj (hse H K w a F (fun _ _ _=>False) hs0 (fun _ _=>rfl) rfl)
  rw [hF',hH'] at hs'
  have := hk S _ _ (.inl rfl) hsub ⟨K',w',a',hs'⟩ hk'
  rwa [hna,Bool.or_false] at this
 ·exact h.elim
theorem zf {al : Option (Nat × List D)} {last tail : List XO} {k : HK} (hn : (H0.map (·.1)).Nodup) (hl : last.all uy = true) : ∀ (segs : List (List XO × XO × Bool)) (os : List Oper) (n : Nat) (ps : List Nat) (S : List (Nat × Nat)) (dn : Bool) (F : List D) (H : AH),os.map (xof ops.toList) = o9 segs ++ last → (∀ o ∈ os,jR o = true) → (∀ j,j < os.length → os[j]? = ops[n + j]?) →
  segs.all (fun p=>p.1.all uy && VA p.2.1) = true → Jl ops n ps segs = true → (∀ q ∈ S,q.1 ∈ ps) → (dn = true → yD segs = 0) → yD segs ≤ 1 → Sub H0 H → Some F H → xsegs P al segs last tail H0 (S.map (·.2)) dn F H k → kR P .any H0 al ops os n S F (H,dn) (fun F' H'=>H'.2 = al.isSome ∧ KT P al tail F' H'.1 k)
 | [],os,n,ps,S,dn,F,H,he,hok,hget,hsg,hso,hS,hd1,hd2,hsub,hs,h=>by
  simp only [o9,List.nil_append] at he
  have hp := QD he hl
  simp only [xsegs] at h
  obtain ⟨hdn,h⟩ := h
  rw [← he,uQ os (fun o ho=>⟨(hp o ho).1,(hp o ho).2.1⟩)] at h
  have := wh (al := al) (b := dn) (T := fun F' H'=>H'.2 = al.isSome ∧ KT P al tail F' H'.1 k) (S := S) hn hsub (r := []) os n F (fun o ho=>⟨hok o ho,(hp o ho).2.2,by have := (hp o ho).2.1; cases ho' : o.op <;> simp_all [yy,g7]⟩) hs h (fun F' _ hk=>⟨hdn,hk⟩)
  rwa [List.append_nil] at this
 | (l,x,fl) :: r,os,n,ps,S,dn,F,H,he,hok,hget,hsg,hso,hS,hd1,hd2,hsub,hs,h=>by
  simp only [o9,List.append_assoc,List.cons_append] at he
  simp only [List.all_cons,Bool.and_eq_true] at hsg
  obtain ⟨⟨hl1,hx1⟩,hr1⟩ := hsg
  simp only [Jl,Bool.and_eq_true] at hso
  obtain ⟨hso1,hso2⟩ := hso
  obtain ⟨os1,os2,rfl,e1,e2⟩ := List.map_eq_append_iff.1 he
  obtain ⟨ox,os3,rfl,e3,e4⟩ := List.map_eq_cons_iff.1 e2
  have hp := QD e1 hl1
  have hlen : os1.length = l.length := by rw [← e1,List.length_map]
  simp only [xsegs] at h
  rw [← e1,uQ os1 (fun o ho=>⟨(hp o ho).1,(hp o ho).2.1⟩)] at h
  subst e3
  have hgx : ox.guard = none := by
   unfold VA at hx1
   simp only [Bool.and_eq_true,Option.isNone_iff_eq_none] at hx1
   have := hx1.2
   simp only [xof] at this
   split at this
   ·assumption
   ·split at this <;> cases this
  have hox : ops[n + l.length]? = some ox := by
   have := hget os1.length (by simp)
   rw [hlen] at this
   rw [← this,← hlen]
   simp
  have hcnt : yD ((l,xof ops.toList ox,fl) :: r) = (if yy ox.op = true then 1 else 0) + yD r := rfl
  rw [hcnt] at hd1 hd2
  refine wh hn hsub os1 n F (fun o ho=>⟨hok o (List.mem_append_left _ ho),(hp o ho).2.2,by have := (hp o ho).2.1; cases ho' : o.op <;> simp_all [yy,g7]⟩) hs h fun F' hs' hk=>?_
  rw [hlen]
  refine Kw (hok ox (by simp)) hgx (fun hf q hq=>?_) (fun hia=>?_) hsub hs' hk fun S' F'' H'' hS' hsub' hs'' hk'=>?_
  ·rw [hf] at hso1
   simp only [Bool.not_true,Bool.false_or] at hso1
   have := List.all_eq_true.1 hso1 q.1 (hS q hq)
   rw [hox] at this
   exact this
  ·cases dn with
   | false=>rfl
   | true=>have := hd1 rfl; rw [if_pos hia] at this; omega
  ·refine zf hn hl r os3 (n + l.length + 1) ((n + l.length) :: ps) S' _ F'' H'' e4 (fun o ho=>hok o (by simp [ho])) (fun j hj=>?_) hr1 hso2 (fun q hq=>?_) (fun hdn=>?_) (by omega) hsub' hs'' hk'
   ·have := hget (os1.length + (j + 1)) (by simp only [List.length_append,List.length_cons]; omega)
    rw [List.getElem?_append_right (by omega),show os1.length + (j + 1) - os1.length = j + 1 by omega,List.getElem?_cons_succ] at this
    rw [this,hlen]
    congr 1
    omega
   ·rcases hS' with rfl | ⟨b,rfl⟩
    ·exact .tail _ (hS q hq)
    ·rcases List.mem_cons.1 hq with rfl | hq
     ·exact .head _
     ·exact .tail _ (hS q hq)
   ·cases dn with
    | true=>have := hd1 rfl; omega
    | false =>
     rw [Bool.false_or] at hdn
     rw [if_pos hdn] at hd2
     omega
theorem lone_of {n : Nat} {a : Option (Nat × TypeId)} (h : Uy ops n a = true) : Lone (alQ P a) ops n := by
 intro d z hal j oj hj hoj
 cases a with
 | none=>cases hal
 | some q =>
  obtain ⟨d',t⟩ := q
  have hd : d' = d := by
   unfold alQ alR at hal
   simp only at hal
   cases hz : yF P t with
   | none=>rw [hz] at hal; cases hal
   | some z'=>rw [hz] at hal; cases hal; rfl
  subst hd
  simp only [Uy] at h
  have hm : oj ∈ ops.toList.take n := by
   rw [List.mem_take_iff_getElem]
   obtain ⟨hlt,rfl⟩ := Array.getElem?_eq_some_iff.1 hoj
   exact ⟨j,by simp; omega,by simp⟩
  have := List.all_eq_true.1 h oj hm
  simp only [Bool.or_eq_true,Bool.and_eq_true,Option.isNone_iff_eq_none,Bool.not_eq_true',bne_iff_ne,ne_eq] at this
  rcases this with ⟨h1,h2⟩ | ⟨⟨h1,h2⟩,h3⟩
  ·exact .inl ⟨h1,h2⟩
  ·exact .inr ⟨h1,by simpa using h2,h3⟩
end
def gR (Q : AQ) : AQ
 | .goto _,_,_=>False
 | e,F,H=>Q e F H
def xcode (P : Program) : XC → List D → AH → AQ → Prop
 | .skip,F,H,Q=>Q .normal F H
 | .reg l,F,H,Q=>xops P false l F H (Q .normal)
 | .regD l,F,H,Q=>xops P true l F H (Q .normal)
 | .seq x y,F,H,Q=>xcode P x F H (uV (fun F' H'=>xcode P y F' H' Q) Q)
 | .cond (.tmp t) x y,F,H,Q=>match F.getD t .any with
  | .bool b=>(b = true → xcode P x (F.set t (.bool true)) H Q) ∧ (b = false → xcode P y (F.set t (.bool false)) H Q)
  | _=>False
 | .cond (.const (.bool true)) x y,F,H,Q=>xcode P x F H Q
 | .cond (.const (.bool false)) x y,F,H,Q=>xcode P y F H Q
 | .block id c,F,H,Q=>xcode P c F H (kT id Q)
 | .exit id,F,H,Q=>Q (.exit id) F H
 | .ret,F,H,Q=>Q .ret F H
 | .loop c,F,H,Q=>XW P c F H Q
 | .rgf g p t c,F,H,Q=>XRF P g p t c F H Q
 | .scope c,F,H,Q=>xcode P c F H (gR Q)
 | .regV l tail,F,H,Q=>xops P true l F H fun F' _=>xops P false tail F' H (Q .normal)
 | .regT qs segs last tail,F,H,Q=>yD segs ≤ 1 ∧ xsegs P (alQ P (uo segs)) segs last tail (gQ F qs H) [] false F H (Q .normal)
 | .gh c,F,H,Q=>Gz F H fun F' H'=>xcode P c F' H' Q
 | _,_,_,_=>False
theorem AW.fromG {P : Program} {c : Code} {F : List D} {H : AH} {Q : AQ} (hz : Gz F H fun F' H'=>AW P c F' H' Q) : AW P c F H Q := fun K w a s hs hd =>
 let ⟨_,_,K1,hk,h1,h2⟩ := hz K w a.tmps hs
 wp_mono (hk K1 w a s h2 ⟨hd.1,hd.2.keep h1.m⟩) fun _ _ _ ⟨F',H',K',g1,g2,g3⟩=>⟨F',H',K',g1,h1.m.trans g2,g3⟩
theorem JD {P : Program} {ops : Array Oper} {qs : List Tmp} {segs : List (List XO × XO × Bool)} {last tail : List XO} {F : List D} {H : AH} {k : HK} {K : Nat → BK} {w : World} {a : Act} {Q' : Exit → Act → World → Prop} {id : Nat}
  (hall : tOk segs last = true) (he : ops.toList.map (xof ops.toList) = (o9 segs ++ last) ++ tail.map erO) (hok : ∀ o ∈ ops.toList,jR o = true) (hv : uP (.regT qs segs last tail) (.region id ops true) = true) (hs : St K w F H a.tmps) (hQ : ∀ a' w',OKd k K w a.defers a' w' → Q' .normal a' w')
  (h : yD segs ≤ 1 ∧ xsegs P (alQ P (uo segs)) segs last tail (gQ F qs H) [] false F H k) : wpAny P .any ops Q' ops.size (Array.replicate ops.size false) a { w with drawn := w.drawn + 1 } := by
 simp only [uP,Bool.and_eq_true] at hv
 obtain ⟨⟨hv1,hv2⟩,hv3⟩ := hv
 obtain ⟨os1,os2,e0,e1,e2⟩ := List.map_eq_append_iff.1 he
 unfold tOk at hall
 simp only [Bool.and_eq_true] at hall
 obtain ⟨a1,a2⟩ := hall
 obtain ⟨hcnt,h⟩ := h
 have hsl : (gQ F qs H).Sublist H := Kj
 have hn : ((gQ F qs H).map (·.1)).Nodup := (hsl.map (·.1)).nodup hs.hrel.nd
 have hsub : Sub (gQ F qs H) H := fun b o hb=>vS hs.hrel.nd (hsl.subset (jp hb))
 have hlen1 : (o9 segs ++ last).length = os1.length := by rw [← e1,List.length_map]
 rw [hlen1] at hv1 hv3
 refine V3 (a := a) (pre := os1) (suf := os2) hv1 e0.symm hs hsub (lone_of hv3)
  (zf hn a2 segs os1 0 [] [] false F H e1 (fun o hoo=>hok o (by rw [e0]; exact List.mem_append_left _ hoo)) (fun j hj=>by
   rw [Nat.zero_add,← Array.getElem?_toList,e0,List.getElem?_append_left hj]) a1 hv2 (fun q hq=>by cases hq) (fun hf=>by cases hf) hcnt hsub ⟨K,w,a,hs⟩ h) fun F1 H1 G1 H2 K1 w1 a1 hT hlf hs1 hfk1 hd1=>?_
 obtain ⟨hT1,hT2⟩ := hT
 have hfin : xops P false tail G1 H2 k := by
  rcases hlf with ⟨f1,rfl,rfl⟩ | ⟨f1,d,z,b,f2,f3,rfl,rfl⟩
  ·rw [f1] at hT1
   cases hal : alQ P (uo segs) with
   | none=>rw [hal] at hT2; exact hT2
   | some q=>rw [hal] at hT1; cases hT1
  ·rw [f2] at hT2
   exact hT2 b f3
 exact yM (opA := ops) (k := k) (w := w) (a := a) (K := K) hQ tail os2 G1 H2 K1 w1 a1 e2.symm (fun o hoo=>hok o (by rw [e0]; exact List.mem_append_right _ hoo)) hs1 hfk1 hd1 hfin
theorem kt {P : Program} (hm : P.follows .mixedOrders = true) : ∀ (x : XC) (c : Code) (F : List D) (H : AH) (Q : AQ),cmp c = er x → jD c = true → uP x c = true → xcode P x F H Q → AW P c F H Q
 | .gh x,c,F,H,Q,he,ho,hv,h=>by
   exact AW.fromG (Gz.mono (fun F' H' h=>kt hm x c F' H' Q he ho (by unfold uP at hv; exact hv) h) h)
 | .skip,c,F,H,Q,he,ho,hv,h=>by
   cases c <;> simp only [cmp,er] at he <;> first | (cases he; done) | exact jQ hm _ F H Q rfl h | (exact absurd (ju he) (by simp [kV])) | (rename_i id ops d; cases d <;> cases he)
 | .exit id,c,F,H,Q,he,ho,hv,h=>by
   cases c <;> simp only [cmp,er] at he <;> first | (cases he; done) | (injection he with he; subst he; exact jQ hm _ F H Q rfl h) | (exact absurd (ju he) (by simp [kV])) | (rename_i id ops d; cases d <;> cases he)
 | .ret,c,F,H,Q,he,ho,hv,h=>by
   cases c <;> simp only [cmp,er] at he <;> first | (cases he; done) | exact jQ hm _ F H Q rfl h | (exact absurd (ju he) (by simp [kV])) | (rename_i id ops d; cases d <;> cases he)
 | .bad,c,F,H,Q,he,ho,hv,h=>h.elim
 | .loop x,c,F,H,Q,he,ho,hv,h=>by
   cases c <;> simp only [cmp,er] at he <;> first | (cases he; done) | (exact absurd (ju he) (by simp [kV])) | (rename_i id ops d; cases d <;> cases he) | skip
   injection he with he
   exact h _ he (by simpa [jD] using ho) (by simpa [uP] using hv)
 | .rgf g p t x,c,F,H,Q,he,ho,hv,h=>by
   cases c <;> simp only [cmp,er] at he <;> first | (cases he; done) | (rename_i id ops d; cases d <;> cases he; done) | skip
   obtain ⟨rfl,h1,h2,h3⟩ := rgf_inv he
   simp only [uP,Bool.and_eq_true] at hv
   exact h _ _ _ h1 h2 h3 (by simpa [jD] using ho) hv.1.1 hv.1.2 hv.2
 | .reg l,c,F,H,Q,he,ho,hv,h=>by
   cases c <;> simp only [cmp,er] at he <;> first | (cases he; done) | (exact absurd (ju he) (by simp [kV])) | skip
   rename_i id ops d
   cases d <;> (try simp only [cmp] at he) <;> first | (cases he; done) | skip
   injection he with he
   intro K w a s hs hd
   simp only [jD] at ho
   simp only [xcode] at h
   exact wp_region_list (yM (opA := ops) (k := fun F' H'=>Q .normal F' H') (w := w) (a := a) (K := K) (fun a' w' ⟨F',H',K',g1,g2,g3,g4⟩=>⟨F',H',K',g1,g2.m,g3,Nat.le_trans hd.1 g2.ext.size,hd.2.step g2 g4⟩) l ops.toList F H K w a he.symm (fun o hoo=>(Array.all_eq_true'.1 ho) o (by simpa using hoo)) hs (.refl K w) rfl h)
 | .regD l,c,F,H,Q,he,ho,hv,h=>by
   simp only [er] at he
   split at he
   ·rename_i hall
    cases c <;> (try simp only [cmp] at he) <;> first | (cases he; done) | (exact absurd (ju he) (by simp [kV])) | skip
    rename_i id ops d
    cases d <;> (try simp only [cmp] at he) <;> first | (cases he; done) | skip
    injection he with he
    subst he
    simp only [jD] at ho
    simp only [uP] at hv
    refine jQ hm _ F H Q (by simp only [yu,Bool.and_eq_true]; exact ⟨ho,hv⟩) ?_
    simp only [xcode] at h
    rw [uM _ _ (fun o hoo=>by
     have := List.all_eq_true.1 hall (xof ops.toList o) (List.mem_map.2 ⟨o,hoo,rfl⟩)
     exact (show yq (xof ops.toList o).op = none by simpa using this)) (fun o hoo hp=>by
     simp only [K4,Bool.and_eq_true] at hv
     have := List.all_eq_true.1 hv.1 o hoo
     simpa [hp] using this)] at h
    exact h
   ·cases c <;> (try simp only [cmp] at he) <;> first | (cases he; done) | (exact absurd (ju he) (by simp [kV])) | (rename_i id ops d; cases d <;> cases he)
 | .regT qs segs last tail,c,F,H,Q,he,ho,hv,h=>by
   simp only [er] at he
   split at he
   ·rename_i hall
    cases c <;> (try simp only [cmp] at he) <;> first | (cases he; done) | (exact absurd (ju he) (by simp [kV])) | skip
    rename_i id ops d
    cases d <;> (try simp only [cmp] at he) <;> first | (cases he; done) | skip
    injection he with he
    simp only [jD] at ho
    intro K w a s hs hd
    simp only [xcode] at h
    exact wp_region_any hm (JD hall he (fun o hoo=>(Array.all_eq_true'.1 ho) o (by simpa using hoo)) hv hs (fun a' w' ⟨F',H',K',g1,g2,g3,g4⟩=>⟨F',H',K',g1,g2.m,g3,Nat.le_trans hd.1 g2.ext.size,hd.2.step g2 g4⟩) h)
   ·cases c <;> (try simp only [cmp] at he) <;> first | (cases he; done) | (exact absurd (ju he) (by simp [kV])) | (rename_i id ops d; cases d <;> cases he)
 | .regV l tail,c,F,H,Q,he,ho,hv,h=>by
   simp only [er] at he
   split at he
   ·rename_i hall
    cases c <;> (try simp only [cmp] at he) <;> first | (cases he; done) | (exact absurd (ju he) (by simp [kV])) | skip
    rename_i id ops d
    cases d <;> (try simp only [cmp] at he) <;> first | (cases he; done) | skip
    injection he with he
    simp only [jD] at ho
    simp only [uP] at hv
    obtain ⟨os1,os2,e0,e1,e2⟩ := List.map_eq_append_iff.1 he
    have hok : ∀ o ∈ ops.toList,jR o = true := fun o hoo=>(Array.all_eq_true'.1 ho) o (by simpa using hoo)
    have hp : ∀ o ∈ os1,yq o.op = none ∧ g7 o.op = false := fun o hoo=>by
     have := List.all_eq_true.1 hall (xof ops.toList o) (e1 ▸ List.mem_map.2 ⟨o,hoo,rfl⟩)
     simp only [Bool.and_eq_true,Option.isNone_iff_eq_none,Bool.not_eq_true'] at this
     exact this
    intro K w a s hs hd
    simp only [xcode] at h
    rw [← e1,uQ os1 hp] at h
    refine wp_region_any hm (UD (a := a) (pre := os1) (suf := os2) (by rw [← e1,List.length_map] at hv; exact hv) e0.symm hs
     (uW (ops := ops) os1 F K w a (fun o hoo=>hok o (by rw [e0]; exact List.mem_append_left _ hoo)) hs h) fun F1 K1 w1 a1 hT hs1 hfk1 hd1=>?_)
    exact yM (opA := ops) (k := fun F' H'=>Q .normal F' H') (w := w) (a := a) (K := K) (fun a' w' ⟨F',H',K',g1,g2,g3,g4⟩=>⟨F',H',K',g1,g2.m,g3,Nat.le_trans hd.1 g2.ext.size,hd.2.step g2 g4⟩) tail os2 F1 H K1 w1 a1 e2.symm (fun o hoo=>hok o (by rw [e0]; exact List.mem_append_right _ hoo)) hs1 hfk1 hd1 hT
   ·cases c <;> (try simp only [cmp] at he) <;> first | (cases he; done) | (exact absurd (ju he) (by simp [kV])) | (rename_i id ops d; cases d <;> cases he)
 | .scope x,c,F,H,Q,he,ho,hv,h=>by
   cases c <;> simp only [cmp,er] at he <;> first | (cases he; done) | (exact absurd (ju he) (by simp [kV])) | (rename_i id ops d; cases d <;> cases he) | skip
   injection he with he
   simp only [jD] at ho
   simp only [uP] at hv
   simp only [xcode] at h
   intro K w a s hs hd
   refine wp_scope_straight (wp_mono (kt hm x _ F H _ he ho hv h K w a s hs hd) fun e a' w' ⟨F',H',K',g1,g2⟩=>?_)
   cases e <;> first | exact g1.elim | exact ⟨F',H',K',g1,g2⟩
 | .seq x y,c,F,H,Q,he,ho,hv,h=>by
   cases c <;> simp only [cmp,er] at he <;> first | (cases he; done) | (exact absurd (ju he) (by simp [kV])) | (rename_i id ops d; cases d <;> cases he) | skip
   injection he with h1 h2
   simp only [jD,Bool.and_eq_true] at ho
   simp only [uP,Bool.and_eq_true] at hv
   refine AW.and_then ((kt hm x _ F H _ h1 ho.1 hv.1 h).mono fun e F' H' hq=>?_)
   cases e with
   | normal=>exact kt hm y _ F' H' Q h2 ho.2 hv.2 hq
   | _=>exact hq
 | .cond (.tmp t) x y,c,F,H,Q,he,ho,hv,h=>by
   cases c <;> simp only [cmp,er] at he <;> first | (cases he; done) | (exact absurd (ju he) (by simp [kV])) | (rename_i id ops d; cases d <;> cases he) | skip
   injection he with h0 h1 h2
   subst h0
   intro K w a s hs hd
   simp only [jD,Bool.and_eq_true] at ho
   simp only [xcode] at h
   split at h
   ·rename_i b hb
    simp only [uP,Bool.and_eq_true] at hv
    have hvb := (show rv F (.tmp t) = D.bool b by show (F.getD t D.any).view = _; rw [hb]; rfl) ▸ hs.rep ho.1.1
    cases b with
    | true=>exact wp_cond_true hvb.bool_inv (kt hm x _ F H Q h1 ho.1.2 hv.1 (by have := h.1 rfl; rwa [vb hb (by simp)] at this) K w a s hs hd)
    | false=>exact wp_cond_false hvb.bool_inv (kt hm y _ F H Q h2 ho.2 hv.2 (by have := h.2 rfl; rwa [vb hb (by simp)] at this) K w a s hs hd)
   ·exact h.elim
 | .cond (.const v) x y,c,F,H,Q,he,ho,hv,h=>by
   cases c <;> simp only [cmp,er] at he <;> first | (cases he; done) | (exact absurd (ju he) (by simp [kV])) | (rename_i id ops d; cases d <;> cases he) | skip
   injection he with h0 h1 h2
   subst h0
   intro K w a s hs hd
   simp only [jD,Bool.and_eq_true] at ho
   simp only [uP,Bool.and_eq_true] at hv
   cases v <;> first | exact h.elim | skip
   rename_i b
   cases b with
   | true=>exact wp_cond_true rfl (kt hm x _ F H Q h1 ho.1.2 hv.1 h K w a s hs hd)
   | false=>exact wp_cond_false rfl (kt hm y _ F H Q h2 ho.2 hv.2 h K w a s hs hd)
 | .cond (.global g) x y,c,F,H,Q,he,ho,hv,h=>h.elim
 | .cond (.func g) x y,c,F,H,Q,he,ho,hv,h=>h.elim
 | .block id x,c,F,H,Q,he,ho,hv,h=>by
   cases c <;> simp only [cmp,er] at he <;> first | (cases he; done) | (exact absurd (ju he) (by simp [kV])) | (rename_i id ops d; cases d <;> cases he) | skip
   injection he with h0 h1
   subst h0
   intro K w a s hs hd
   simp only [jD] at ho
   refine wp_block (wp_mono (kt hm x _ F H _ h1 ho (by simpa only [uP] using hv) h K w a s hs hd) fun e a' w' ⟨F',H',K',g1,g2⟩=>?_)
   cases e with
   | exit id' =>
    simp only [kT] at g1
    simp only [Exit.inBlock]
    split
    ·rename_i e; rw [if_pos e] at g1; exact ⟨F',H',K',g1,g2⟩
    ·rename_i e; rw [if_neg e] at g1; exact ⟨F',H',K',g1,g2⟩
   | _=>exact ⟨F',H',K',g1,g2⟩
def JR (I : List D → AH → Prop) (μ : List D → AH → Nat) (F : List D) (H : AH) (Q : AQ) : AQ := uV (fun F' H'=>I F' (back H.length H') ∧ μ F' (back H.length H') < μ F H) Q
theorem XW.loop {P : Program} (hm : P.follows .mixedOrders = true) {x : XC} {F : List D} {H : AH} {Q : AQ} (I : List D → AH → Prop) (μ : List D → AH → Nat) (h0 : I F H)
  (round : ∀ F H,I F H → xcode P x F H (JR I μ F H Q)) : XW P x F H Q := by
 intro c hc ho hv K0 w0 a0 s0 hs0 hd0
 let R : Act → World → Nat → Prop := fun a w n=>∃ F H K,I F H ∧ μ F H = n ∧ FKm K0 w0 K w ∧ St K w F H a.tmps ∧ s0 ≤ w.heap.size ∧ Mk K w s0 a.defers
 refine wp_loop (fun a w=>∃ n,R a w n) (fun a w=>open Classical in if h : ∃ n,R a w n then Classical.choose (least (R a w) h.choose h.choose_spec) else 0) ⟨_,F,H,K0,h0,rfl,.refl K0 w0,hs0,hd0⟩ ?_
 intro a w hR
 have hmin := Classical.choose_spec (least (R a w) hR.choose hR.choose_spec)
 simp only [dif_pos hR]
 generalize Classical.choose (least (R a w) hR.choose hR.choose_spec) = m at hmin
 obtain ⟨⟨F1,H1,K1,i1,i2,i3,i4,i5⟩,hleast⟩ := hmin
 refine wp_mono (kt hm x c F1 H1 _ hc ho hv (round F1 H1 i1) K1 w a s0 i4 i5) fun e a' w' ⟨F',H',K',g1,g2,g3,g4⟩=>?_
 cases e with
 | normal =>
  obtain ⟨q1,q2⟩ := g1
  have hR' : R a' w' (μ F' (back H1.length H')) := ⟨F',_,K',q1,rfl,i3.trans g2,g3.sub (u5 _ _),g4⟩
  have hex : ∃ n,R a' w' n := ⟨_,hR'⟩
  refine ⟨hex,?_⟩
  simp only [dif_pos hex]
  have hmin' := Classical.choose_spec (least (R a' w') hex.choose hex.choose_spec)
  generalize Classical.choose (least (R a' w') hex.choose hex.choose_spec) = m' at hmin'
  have : m' ≤ μ F' (back H1.length H') := Nat.le_of_not_lt fun hlt=>hmin'.2 _ hlt hR'
  omega
 | _=>exact ⟨F',H',K',g1,i3.trans g2,g3,g4⟩
def Vl (I : List D → AH → Prop) (μ : List D → AH → Nat) (F : List D) (H : AH) (Q : AQ) : AQ := uV (fun F' H'=>∃ H'',Sbn H'' H' ∧ I F' H'' ∧ μ F' H'' < μ F H) Q
theorem XW.loopR {P : Program} (hm : P.follows .mixedOrders = true) {x : XC} {F : List D} {H : AH} {Q : AQ} (I : List D → AH → Prop) (μ : List D → AH → Nat) (h0 : I F H)
  (round : ∀ F H,I F H → xcode P x F H (Vl I μ F H Q)) : XW P x F H Q := by
 intro c hc ho hv K0 w0 a0 s0 hs0 hd0
 let R : Act → World → Nat → Prop := fun a w n=>∃ F H K,I F H ∧ μ F H = n ∧ FKm K0 w0 K w ∧ St K w F H a.tmps ∧ s0 ≤ w.heap.size ∧ Mk K w s0 a.defers
 refine wp_loop (fun a w=>∃ n,R a w n) (fun a w=>open Classical in if h : ∃ n,R a w n then Classical.choose (least (R a w) h.choose h.choose_spec) else 0) ⟨_,F,H,K0,h0,rfl,.refl K0 w0,hs0,hd0⟩ ?_
 intro a w hR
 have hmin := Classical.choose_spec (least (R a w) hR.choose hR.choose_spec)
 simp only [dif_pos hR]
 generalize Classical.choose (least (R a w) hR.choose hR.choose_spec) = m at hmin
 obtain ⟨⟨F1,H1,K1,i1,i2,i3,i4,i5⟩,hleast⟩ := hmin
 refine wp_mono (kt hm x c F1 H1 _ hc ho hv (round F1 H1 i1) K1 w a s0 i4 i5) fun e a' w' ⟨F',H',K',g1,g2,g3,g4⟩=>?_
 cases e with
 | normal =>
  obtain ⟨H'',hsb,q1,q2⟩ := g1
  have hR' : R a' w' (μ F' H'') := ⟨F',_,K',q1,rfl,i3.trans g2,g3.sb (hsb g3.hrel.nd),g4⟩
  have hex : ∃ n,R a' w' n := ⟨_,hR'⟩
  refine ⟨hex,?_⟩
  simp only [dif_pos hex]
  have hmin' := Classical.choose_spec (least (R a' w') hex.choose hex.choose_spec)
  generalize Classical.choose (least (R a' w') hex.choose hex.choose_spec) = m' at hmin'
  have : m' ≤ μ F' H'' := Nat.le_of_not_lt fun hlt=>hmin'.2 _ hlt hR'
  omega
 | _=>exact ⟨F',H',K',g1,i3.trans g2,g3,g4⟩
def Yb (P : Program) (rs : List ResultVar) (R : D → AH → Prop) : AQ
 | .normal,F,H=>uL P rs F H fun d=>∃ H',Sbn H' H ∧ R d H'
 | .ret,F,H=>uL P rs F H fun d=>∃ H',Sbn H' H ∧ R d H'
 | _,_,_=>False
theorem Yc {P : Program} (hm : P.follows .mixedOrders = true) {f : FuncId} {fn : Func} {c : Code} {x : XC} (hf : P.funcs[f]? = some fn) (hb : fn.body = some c) (hk : ga fn = true) (hcall : gV P f = true) (hx : cmp c = er x) (hxv : uP x c = true) {n : Nat} (hn : fn.ntmps = n) {rs : List ResultVar} (hr : fn.results.toList = rs)
  {args : List D} {H : AH} {R : D → AH → Prop} (h : facts args → xcode P x (args ++ List.replicate (n - args.length) (.tup [])) H (jN P rs H.length R)) : ACall P f args H R := by
 subst hn hr
 refine ⟨hcall,fun K w vs h1 h2 h3 h4 h5=>?_⟩
 unfold ga at hk
 simp only [hb,Bool.and_eq_true] at hk
 have hfacts : facts args := gr args vs.toList (by simpa using h4) (fun j d v hd hv=>h5 j d v hd (by simpa using hv))
 have hst : St K w (args ++ List.replicate (fn.ntmps - args.length) (.tup [])) H (vs ++ Array.replicate (fn.ntmps - vs.size) undef) := by
  refine ⟨h1,h3,by simp [h4],fun i d v hd hv=>?_⟩
  rw [List.getElem?_append] at hd
  split at hd
  ·rename_i hi
   rw [Array.getElem?_append_left (by rw [h4]; exact hi)] at hv
   exact (h5 i d v hd hv).viewO
  ·rename_i hi
   rw [Array.getElem?_append_right (by rw [h4]; omega)] at hv
   have hd' := List.eq_of_mem_replicate (List.mem_of_getElem? hd)
   have hv' : v = undef := by
    have := Array.mem_of_getElem? hv
    simpa using (Array.mem_replicate.1 this).2
   rw [hd',hv']
   exact undef_rep.viewO
 refine zj hf hb (kt hm x c _ H _ hx hk.1 hxv (h hfacts)) hst fun e F' H' K' w' a' g1 g2 g3=>?_
 cases e with
 | normal =>
  obtain ⟨v,d,H'',K'',e1,e2,e3,e4,e5,e6⟩ := Qm (fn := fn) hk.2 g3 g1
  exact ⟨.inl rfl,v,e1,v,d,H'',K'',rfl,e2,g2.trans e3,e4,e5,e6⟩
 | ret =>
  obtain ⟨v,d,H'',K'',e1,e2,e3,e4,e5,e6⟩ := Qm (fn := fn) hk.2 g3 g1
  exact ⟨.inr rfl,v,e1,v,d,H'',K'',rfl,e2,g2.trans e3,e4,e5,e6⟩
 | exit id=>exact g1.elim
 | goto l=>exact g1.elim
 | panic ch=>exact g1.elim
 | outgrown=>exact g1.elim
theorem wT {P : Program} (hm : P.follows .mixedOrders = true) {f : FuncId} {fn : Func} {c : Code} {x : XC} (hf : P.funcs[f]? = some fn) (hb : fn.body = some c) (hk : ga fn = true) (hcall : gV P f = true) (hx : cmp c = er x) (hxv : uP x c = true) {n : Nat} (hn : fn.ntmps = n) {rs : List ResultVar} (hr : fn.results.toList = rs)
  {args : List D} {H : AH} {R : D → AH → Prop} (h : facts args → xcode P x (args ++ List.replicate (n - args.length) (.tup [])) H (Yb P rs R)) : ACall P f args H R := by
 subst hn hr
 refine ⟨hcall,fun K w vs h1 h2 h3 h4 h5=>?_⟩
 unfold ga at hk
 simp only [hb,Bool.and_eq_true] at hk
 have hfacts : facts args := gr args vs.toList (by simpa using h4) (fun j d v hd hv=>h5 j d v hd (by simpa using hv))
 have hst : St K w (args ++ List.replicate (fn.ntmps - args.length) (.tup [])) H (vs ++ Array.replicate (fn.ntmps - vs.size) undef) := by
  refine ⟨h1,h3,by simp [h4],fun i d v hd hv=>?_⟩
  rw [List.getElem?_append] at hd
  split at hd
  ·rename_i hi
   rw [Array.getElem?_append_left (by rw [h4]; exact hi)] at hv
   exact (h5 i d v hd hv).viewO
  ·rename_i hi
   rw [Array.getElem?_append_right (by rw [h4]; omega)] at hv
   have hd' := List.eq_of_mem_replicate (List.mem_of_getElem? hd)
   have hv' : v = undef := by
    have := Array.mem_of_getElem? hv
    simpa using (Array.mem_replicate.1 this).2
   rw [hd',hv']
   exact undef_rep.viewO
 refine zj hf hb (kt hm x c _ H _ hx hk.1 hxv (h hfacts)) hst fun e F' H' K' w' a' g1 g2 g3=>?_
 cases e with
 | normal =>
  obtain ⟨v,d,H'',K'',e1,e2,e3,e4,e5,e6⟩ := zZ (fn := fn) hk.2 g3 g1
  exact ⟨.inl rfl,v,e1,v,d,H'',K'',rfl,e2,g2.trans e3,e4,e5,e6⟩
 | ret =>
  obtain ⟨v,d,H'',K'',e1,e2,e3,e4,e5,e6⟩ := zZ (fn := fn) hk.2 g3 g1
  exact ⟨.inr rfl,v,e1,v,d,H'',K'',rfl,e2,g2.trans e3,e4,e5,e6⟩
 | exit id=>exact g1.elim
 | goto l=>exact g1.elim
 | panic ch=>exact g1.elim
 | outgrown=>exact g1.elim
end Go.Aw
end
