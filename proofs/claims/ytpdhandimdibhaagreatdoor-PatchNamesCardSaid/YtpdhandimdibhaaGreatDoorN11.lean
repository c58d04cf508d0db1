/- A part of the proof of what the last text says: Aw17, AwI, AwF. Conditions: those in each theorem. -/
import Derived.Test.YtpdhandimdibhaaGreatDoorN10
import Derived.RangeFuncWrites
import Derived.RangeFuncBound
set_option linter.unusedVariables false
set_option linter.unusedSimpArgs false
set_option maxRecDepth 100000
set_option maxHeartbeats 16000000
open Nat renaming reduceSub → qa,reduceAdd → qb,reduceMul → qc,reduceEqDiff → qd,reduceLeDiff → qe,reduceBEq → qf
section
namespace Go.Aw
open Go Go.RowKit
def XW (P:Program) (x:XC) (F:List D) (H:AH) (Q:AQ):Prop:=∀c,cmp c=er x→jl c=true→u9 x c=true→AW P (.loop c) F H Q
def XRF (P:Program) (g:Operand) (p t:Tmp) (x:XC) (F:List D) (H:AH) (Q:AQ):Prop:=∀ps asg c,ps.toList= [p]→KL asg=some (p,t)→cmp c=er x→jl c=true→u9 x c=true→VX x=true→zm c=true→AW P (.rangeFunc g ps asg c) F H Q
def XRG (P:Program) (g:Operand) (p:Tmp) (x y:XC) (F:List D) (H:AH) (Q:AQ):Prop:=∀ps a c,ps.toList= [p]→cmp a=er x→cmp c=er y→jl a=true→jl c=true→u9 x a=true→u9 y c=true→VX x=true→VX y=true→zm a=true→zm c=true→AW P (.rangeFunc g ps a c) F H Q
theorem Yq {P:Program} {t:TypeId}:∀{l:List (Nat×List D)} {z:List D} {k:List D→Prop},wc P t l z k→∃cs,k cs∧wc P t l z (fun c=>c=cs)
 | [],z,k,h=>⟨z,h,rfl⟩
 | (i,cs)::r,z,k,h=>by
  unfold wc at h ⊢
  split at h
  ·rename_i off b n he
   obtain ⟨h1,h2,h3⟩:=h
   obtain ⟨c,g1,g2⟩:=Yq h3
   exact ⟨c,g1,h1,h2,g2⟩
  ·exact h.elim
theorem zbH_ex {P:Program} {t:TypeId} {ps:List (Nat×Operand)} {dst:Option Tmp} {F:List D} {H:AH} {k:List D→AH→Prop} (h:zbH P t ps dst F H k):
  ∃cs,k (qG F dst (.agg cs)) H∧∀(G:List D) (H1:AH),(∀p∈ps,rv G p.2=rv F p.2)→zbH P t ps dst G H1 (fun G' H''=>G'=qG G dst (.agg cs)∧H''=H1):=by
 unfold zbH at h ⊢
 split at h
 ·rename_i z hz
  obtain ⟨h1,h2,h3⟩:=h
  obtain ⟨cs,g1,g2⟩:=Yq h3
  refine ⟨cs,g1,fun G H1 hG=>?_⟩
  have e:(ps.map fun p=>(p.1,rv G p.2))=ps.map fun p=>(p.1,rv F p.2):=List.map_congr_left fun p hp=>by rw [hG p hp]
  rw [e]
  refine ⟨h1,h2,?_⟩
  have:∀{l:List (Nat×List D)} {z:List D} {k k':List D→Prop},(∀c,k c→k' c)→wc P t l z k→wc P t l z k':=by
   intro l
   induction l with
   |nil=>intro z k k' hk h;exact hk _ h
   | cons x r ih=>
    intro z k k' hk h
    obtain ⟨i,cs⟩:=x
    unfold wc at h ⊢
    split at h
    ·exact ⟨h.1,h.2.1,ih hk h.2.2⟩
    ·exact h.elim
  exact this (fun c hc=>by rw [hc];exact ⟨rfl,rfl⟩) g2
 ·exact h.elim
abbrev ub:=List (Nat×Bool×List D)
def lookv:ub→Nat→Option (Bool×List D)
 | [],_=>none
 |(d,q)::r,c=>if c=d then some q else lookv r c
def setv:ub→Nat→Bool×List D→ub
 | [],_,_=>[]
 |(d,q)::r,c,x=>if c=d then (d,x)::r else (d,q)::setv r c x
def YO (A:ub):Operand→Option (Nat×Bool×List D)
 | .tmp d=>(lookv A d).map fun q=>(d,q)
 |_=>none
theorem Wf {A:ub} {d:Nat} {x:Bool×List D}:upv (lookv A) d x=lookv ((d,x)::A):=rfl
theorem J7 {d:Nat} {x:Bool×List D}:∀{A:ub},lookv A d≠none→upv (lookv A) d x=lookv (setv A d x)
 | [],h=>(h rfl).elim
 | (e,q)::r,h=>funext fun c=>by
  unfold setv
  by_cases hd:d=e
  ·subst hd
   rw [if_pos rfl]
   unfold upv lookv
   split<;>rfl
  ·rw [if_neg hd]
   have h':lookv r d≠none:=by unfold lookv at h;rwa [if_neg hd] at h
   have ih:=congrFun (J7 (x:=x) h') c
   unfold upv at ih ⊢
   unfold lookv
   by_cases hc:c=d
   ·subst hc
    rw [if_pos rfl] at ih ⊢
    rw [if_neg hd]
    exact ih
   ·rw [if_neg hc] at ih ⊢
    split
    ·rfl
    ·exact ih
theorem zL {d:Nat} {x:Bool×List D}:∀{A:ub},(setv A d x).map (·.1)=A.map (·.1)
 | []=>rfl
 | (e,q)::r=>by
  unfold setv
  split
  ·rfl
  ·simp [zL]
theorem lookv_key {d:Nat}:∀{A:ub},lookv A d≠none↔d∈A.map (·.1)
 | []=>by simp [lookv]
 | (e,q)::r=>by
  unfold lookv
  split
  ·rename_i h;subst h;simp
  ·rename_i h;rw [lookv_key];simp [h]
theorem oO {d:Nat} {q:Bool×List D}:∀{A:ub},(A.map (·.1)).Nodup→(d,q)∈A→lookv A d=some q
 | (e,x)::r,hn,h=>by
  simp only [List.map_cons,List.nodup_cons] at hn
  unfold lookv
  rcases List.mem_cons.1 h with h|h
  ·injection h with h1 h2
   subst h1 h2
   rw [if_pos rfl]
  ·rw [if_neg (fun e'=>hn.1 (by rw [←e'];exact List.mem_map.2 ⟨_,h,rfl⟩))]
   exact oO hn.2 h
def xtk (P:Program) (x:XO) (fl:Bool) (H0:AH) (S:List Nat) (A:ub) (F:List D) (H:AH) (k:ub→List Nat→List D→AH→Prop):Prop:=
 match x.op with
 | .load t (.tmp s)=>match x.dst with
  | some d=>x.ta=true∧(match wb P t,rv F (.tmp s) with
    | some (false,_),.ptr b off=>match qu H b with
     | some (.cells cs)=>match cs[off]? with
      |some (.own xs)=>(qu H0 b=none∨qu H0 b=some (wkO (.cells cs)))∧(fl=true∨b ∉ S)∧k A (b::S) (F.set d (.own xs)) (qF H b (.cells (cs.set off (.slc xs))))
      |_=>False
     |_=>False
    |_,_=>False)
  |none=>False
 | .store t a y=>match YO A a with
  | some (d,f,z)=>f=false∧(match wb P t with
   |some (true,n)=>okc (rv F y)=true∧(cellsOf (rv F y)).length=n∧n≤z.length∧k (setv A d (true,cellsOf (rv F y)++z.drop n)) S (qG F x.dst (.tup [])) H
   |_=>False)
  | none=>match wb P t,rv F a with
   | some (true,n),.ptr b off=>match qu H b with
    |some (.cells cs)=>okc (rv F y)=true∧(cellsOf (rv F y)).length=n∧off+n≤cs.length∧qu H0 b=none∧(fl=true∨b ∉ S)∧k A (b::S) (qG F x.dst (.tup [])) (qF H b (.cells (cs.take off++(cellsOf (rv F y)++cs.drop (off+n)))))
    |_=>False
   | some (false,n),.ptr b off=>match qu H b with
    | some (.cells cs)=>n=1∧off<cs.length∧one1 (ev F y)=true∧x.dst=none∧qu H0 b=none∧(fl=true∨b ∉ S)∧(match y with
     | .tmp s=>k A (b::S) (F.set s (rv F y)) (qF H b (.cells (cs.set off (ev F y))))
     |_=>k A (b::S) F (qF H b (.cells (cs.set off (ev F y)))))
    |_=>False
   |_,_=>False
 | .alloc t=>match x.dst,yK P t with
  |some d,some z=>d<F.length∧lookv A d=none∧k ((d,false,z)::A) S (F.set d .any) H
  |_,_=>False
 | .call c=>match c.callee with
  | .value f=>match rv F f with
   | .fn g caps=>∃d b ob ob',qu H0 b=none∧(fl=true∨b ∉ S)∧qu H b=some ob∧(∀H,qu H b=some ob→ACall P g (wx (c.args.toList.map (rv F)) caps) H (fun d' H'=>d'=d∧H'=qF H b ob'))∧(fact d.view→k A (b::S) (qG F x.dst d) (qF H b ob'))
   |_=>False
  |_=>False
 | .build t ps=>zbH P t ps.toList x.dst F H fun F' _=>k A S F' H
 |_=>False
def QN (P:Program):ub→List XO→List D→AH→HK→Prop
 | [],tail,F,H,k=>xops P false tail F H k
 |(d,_,z)::r,tail,F,H,k=>∀b,qD H b→QN P r tail (F.set d (.ptr b 0)) ((b,.cells z)::H) k
def xsegs (P:Program):List (List XO×XO×Bool)→List XO→List XO→AH→List Nat→ub→List D→AH→HK→Prop
 | [],last,tail,H0,_,A,F,H,k=>xops P true last F H0 fun F' _=>QN P A tail F' H k
 |(l,x,fl)::r,last,tail,H0,S,A,F,H,k=>xops P true l F H0 fun F' _=>xtk P x fl H0 S A F' H fun A' S' F'' H''=>xsegs P r last tail H0 S' A' F'' H'' k
def YM:D→AH→AH
 | .ptr b _,H=>qW H b
 | .hsl b _,H=>qW H b
 | .hso b _ _,H=>qW H b
 | .hgs b _ _,H=>qW H b
 |_,H=>H
def wkB (b:Nat) (o:Option AO) (H:AH):AH:=match o with
 |some o=>qF H b (wkO o)
 |none=>H
def wkH (d:D) (H:AH):AH:=match d with
 | .ptr b _=>wkB b (qu H b) H
 |_=>H
def K7 (F:List D):List Tmp→AH→AH
 | [],H=>H
 |q::r,H=>K7 F r (YM (F.getD q .any) H)
theorem ZV {d:D} {H:AH}:(YM d H).Sublist H:=by
 cases d<;>first|exact List.Sublist.refl _|exact erase_sub
theorem Q1 {F:List D}:∀{qs:List Tmp} {H:AH},(K7 F qs H).Sublist H
 | [],H=>List.Sublist.refl _
 |q::r,H=>(Q1 (qs:=r)).trans ZV
section
variable {P:Program} {ops:Array Oper} {H0:AH}
theorem oE {F:List D} {k:List D→Prop} (l:List Oper) (h:∀o∈l,kE o.op=none∧o0 o.op=false):xops P true (l.map (xof ops.toList)) F H0 (fun F' _=>k F')=ya P ops.toList l F H0 k:=by
 rw [oy l F (fun o ho=>(h o ho).1) (fun o ho hp=>by rw [(h o ho).2] at hp;cases hp)]
 have e1:yx l=l:=by
  unfold yx
  have:=List.takeWhile_append_of_pos (p:=fun o:Oper=>!o0 o.op) (l₁:=l) (l₂:= []) (fun o ho=>by simp [(h o ho).2])
  simpa using this
 have e2:vB l= []:=by
  have:=WZ l
  rw [e1] at this
  simpa using this
 rw [e1,e2]
 rfl
theorem VO {o:Oper} (h:oz (xof ops.toList o)=true):kE o.op=none∧o0 o.op=false:=by
 unfold oz at h
 simp only [Bool.and_eq_true,Option.isNone_iff_eq_none,Bool.not_eq_true'] at h
 exact ⟨h.1,h.2⟩
theorem Jr {l:List XO} {os:List Oper} (he:os.map (xof ops.toList)=l) (h:l.all oz=true):∀o∈os,kE o.op=none∧o0 o.op=false:=fun o ho=>
 VO (List.all_eq_true.1 h _ (he▸List.mem_map.2 ⟨o,ho,rfl⟩))
theorem YP {al:List Nat} {T:List D→AH×NV→Prop} {F:List D} {H:AH} {A:ub} {fl:Bool} {n:Nat} {S:List (Nat×Nat)} {o:Oper} {r:List Oper} {k:ub→List Nat→List D→AH→Prop} (hok:jq o=true) (hg:o.guard=none) (hfl:fl=true→∀q∈S,Y2 .any o q.1=true) (hsub:Sub H0 H) (hs:Some F H)
  (hal:∀t d,o.op= .alloc t→o.dst=some d→d∈al) (hA:∀d,lookv A d≠none→d∈al) (hso:∀t d y,o.op= .store t (.tmp d) y→d∈al→lookv A d≠none) (hAn:(A.map (·.1)).Nodup)
  (h:xtk P (xof ops.toList o) fl H0 (S.map (·.2)) A F H k)
  (hk:∀A' S' F' H',(S'=S∨∃b,S'=(n,b)::S)→Sub H0 H'→Some F' H'→(A'.map (·.1)).Nodup→(∀d,lookv A' d≠none↔lookv A d≠none∨(QQ o.op=true∧o.dst=some d))→k A' (S'.map (·.2)) F' H'→kz P .any H0 al ops r (n+1) S' F' (H',lookv A') T):kz P .any H0 al ops (o::r) n S F (H,lookv A) T:=by
 have kp:QQ o.op=false→∀S' F' H',(S'=S∨∃b,S'=(n,b)::S)→Sub H0 H'→Some F' H'→k A (S'.map (·.2)) F' H'→kz P .any H0 al ops r (n+1) S' F' (H',lookv A) T:=fun hna S' F' H' h1 h2 h3 h4=>
  hk A S' F' H' h1 h2 h3 hAn (fun d=>by rw [hna];simp) h4
 have ord:∀{b:Nat},(fl=true∨b ∉ S.map (·.2))→∀q∈S,q.2=b→Y2 .any o q.1=true:=fun hb q hq hqb=>by
  rcases hb with hb|hb
  ·exact hfl hb q hq
  ·exact (hb (List.mem_map.2 ⟨q,hq,hqb⟩)).elim
 unfold xtk at h
 split at h
 ·rename_i t s hop
  have ho:o.op= .load t (.tmp s):=hop
  have hna':QQ o.op=false:=by rw [ho];rfl
  have hna:wj al o.op=false:=by rw [ho];rfl
  split at h
  ·rename_i d hd
   have hdst:o.dst=some d:=hd
   obtain ⟨hta,h⟩:=h
   have hta':YT ops.toList d=true:=by simpa [xof,hdst] using hta
   split at h
   ·rename_i n b off hty hp
    split at h
    ·rename_i cs hgb
     split at h
     ·rename_i xs hc
      obtain ⟨q1,q2,q3⟩:=h
      refine wY (e:=⟨none,.own xs⟩) (ob':= .cells (cs.set off (.slc xs))) hg hna (fun H' hs' hb'=>hs'.take hb' hc q1) hgb (ord q2) (fun s v h=>by cases h) hsub (fun H1 hb1=>qS (ops:=ops.toList) hok fun G hG hlen=>?_) hs fun hs'=>?_
      ·have he:rv G (.tmp s)= .ptr b off:=by rw [←hp];unfold rv;rw [jw hG (by simp [ho,Op.operands])]
       simp only [aop,ho,hdst,hta',if_true,hty,he,hb1,hc]
       exact ⟨rfl,by trivial⟩
      ·rw [hdst] at hs' ⊢
       exact kp hna' _ _ _ (.inr ⟨b,rfl⟩) (hsub.take hgb hc q1) hs' q3
     ·exact h.elim
    ·exact h.elim
   ·exact h.elim
  ·exact h.elim
 ·rename_i t a y hop
  have ho:o.op= .store t a y:=hop
  have hna':QQ o.op=false:=by rw [ho];rfl
  have hma:a∈o.op.operands.toList:=by simp [ho,Op.operands]
  have hmy:y∈o.op.operands.toList:=by simp [ho,Op.operands]
  split at h
  ·rename_i d f z hA1
   obtain ⟨rfl,h⟩:=h
   cases a with
   | tmp s=>
    simp only [YO] at hA1
    cases hl:lookv A s with
    |none=>rw [hl] at hA1;cases hA1
    | some q=>
     rw [hl] at hA1
     simp only [Option.map_some,Option.some.injEq,Prod.mk.injEq] at hA1
     obtain ⟨rfl,rfl⟩:=hA1
     split at h
     ·rename_i m hty
      obtain ⟨h1,h2,h3,h4⟩:=h
      have hne:lookv A s≠none:=by rw [hl];simp
      refine Wo hg ho (hA s hne) hty h1 h2 h3 hl hs fun hs'=>?_
      rw [J7 hne]
      refine hk _ S _ _ (.inl rfl) hsub hs' (by rw [zL];exact hAn) (fun d=>?_) h4
      rw [lookv_key,zL,←lookv_key,hna']
      simp
     ·exact h.elim
   |_=>cases hA1
  ·rename_i hA1
   have hna:wj al o.op=false:=by
    rw [ho]
    cases a with
    | tmp s=>
     simp only [wj]
     cases hc:al.contains s with
     |false=>rfl
     | true=>
      have:=hso t s y ho (by simpa using hc)
      simp only [YO,Option.map_eq_none_iff] at hA1
      exact (this hA1).elim
    |_=>rfl
   split at h
   ·rename_i n' b off hty hp
    split at h
    ·rename_i cs hgb
     obtain ⟨h1,h2,h3,q1,q2,q3⟩:=h
     refine wY (e:=⟨none,.tup []⟩) (ob':= .cells (cs.take off++(cellsOf (rv F y)++cs.drop (off+n')))) hg hna (fun H' hs' _=>hs'.set q1) hgb (ord q2) (fun s v h=>by cases h) hsub (fun H1 hb1=>qS (ops:=ops.toList) hok fun G hG hlen=>?_) hs fun hs'=>?_
     ·have he:rv G a= .ptr b off:=by rw [←hp];unfold rv;rw [jw hG hma]
      have hy:rv G y=rv F y:=by unfold rv;rw [jw hG hmy]
      simp only [aop,ho,hty,he,hb1,hy]
      exact ⟨h1,h2,h3,rfl,by trivial⟩
     ·exact kp hna' _ _ _ (.inr ⟨b,rfl⟩) (hsub.set q1) hs' q3
    ·exact h.elim
   ·rename_i n' b off hty hp
    split at h
    ·rename_i cs hgb
     obtain ⟨h1,h2,h3,h4,q1,q2,q3⟩:=h
     have hdst:o.dst=none:=h4
     have hoth:∀{e:Eff},e.app o.dst F=F→(∀G:List D,e.app o.dst G=G)→(∀s v,e.tk=some (s,v)→g7 ops.toList o=some s)→(∀s,y≠ .tmp s)→k A (b::S.map (·.2)) F (qF H b (.cells (cs.set off (ev F y))))→kz P .any H0 al ops (o::r) n S F (H,lookv A) T:=fun {e} hF hG' htk hyn hkk=>by
      refine wY (e:=e) (ob':= .cells (cs.set off (ev F y))) hg hna (fun H' hs' _=>hs'.set q1) hgb (ord q2) htk hsub (fun H1 hb1=>qS (ops:=ops.toList) hok fun G hG hlen=>?_) hs fun hs'=>?_
      ·have he:rv G a= .ptr b off:=by rw [←hp];unfold rv;rw [jw hG hma]
       have hy:ev G y=ev F y:=jw hG hmy
       simp only [aop,ho,hty,he,hb1,hy,hG']
       refine ⟨h1,h2,h3,hdst,?_⟩
       cases y<;>first|exact (hyn _ rfl).elim|exact ⟨trivial,by trivial⟩|simp
      ·rw [hF] at hs' ⊢
       exact kp hna' _ _ _ (.inr ⟨b,rfl⟩) (hsub.set q1) hs' hkk
     split at q3
     ·rename_i s
      refine wY (e:=⟨some (s,rv F (.tmp s)),.any⟩) (ob':= .cells (cs.set off (ev F (.tmp s)))) hg hna (fun H' hs' _=>hs'.set q1) hgb (ord q2) (fun s' v h=>by
       simp only [Option.some.injEq,Prod.mk.injEq] at h
       simp [g7,ho,h.1]) hsub (fun H1 hb1=>qS (ops:=ops.toList) hok fun G hG hlen=>?_) hs fun hs'=>?_
      ·have he:rv G a= .ptr b off:=by rw [←hp];unfold rv;rw [jw hG hma]
       have hy:ev G (.tmp s)=ev F (.tmp s):=jw hG hmy
       have hyr:rv G (.tmp s)=rv F (.tmp s):=by unfold rv;rw [hy]
       simp only [aop,ho,hty,he,hb1,hy,hyr]
       refine ⟨h1,h2,h3,hdst,?_,by trivial⟩
       rw [hdst]
       rfl
      ·rw [hdst] at hs' ⊢
       exact kp hna' _ _ _ (.inr ⟨b,rfl⟩) (hsub.set q1) hs' q3
     ·rename_i hyn
      refine hoth (e:=⟨none,.any⟩) (by rw [hdst];rfl) (fun G=>by rw [hdst];rfl) (fun s v h=>by cases h) (fun s e=>hyn s e) q3
    ·exact h.elim
   ·exact h.elim
 ·rename_i t hop
  have ho:o.op= .alloc t:=hop
  have hia:QQ o.op=true:=by rw [ho];rfl
  split at h
  ·rename_i d z hd hz
   have hdst:o.dst=some d:=hd
   obtain ⟨h1,h2,h3⟩:=h
   refine Ug hg ho hdst hz (hal t d ho hdst) h1 h2 hs fun hs'=>?_
   rw [Wf]
   refine hk _ S _ _ (.inl rfl) hsub hs' ?_ (fun e=>?_) h3
   ·simp only [List.map_cons,List.nodup_cons]
    exact ⟨fun hm=>(lookv_key.2 hm) h2,hAn⟩
   ·rw [hia,hdst]
    show (if e=d then some (false,z) else lookv A e)≠none↔_
    by_cases hc:e=d
    ·subst hc;simp
    ·rw [if_neg hc]
     exact ⟨fun h=>.inl h,fun h=>h.elim id fun h=>(hc (Option.some.inj h.2).symm).elim⟩
  ·exact h.elim
 ·rename_i c hop
  have ho:o.op= .call c:=hop
  have hna':QQ o.op=false:=by rw [ho];rfl
  have hna:wj al o.op=false:=by rw [ho];rfl
  split at h
  ·rename_i f hf
   split at h
   ·rename_i g caps hgv
    obtain ⟨d,b,ob,ob',q1,q2,q3,q4,q5⟩:=h
    have hops:o.op.operands=#[f]++c.args:=by simp only [ho,Op.operands,Call.operands,hf]
    have hse:∀H,qu H b=some ob→oN P H (qF H b ob') o F ⟨none,d⟩:=fun H1 hb1=>qS (ops:=ops.toList) hok fun G hG hlen=>by
     have h1:rv G f= .fn g caps:=by rw [←hgv];unfold rv;rw [jw hG (by rw [hops];simp)]
     have h2:c.args.toList.map (rv G)=c.args.toList.map (rv F):=List.map_congr_left fun x hx=>by
      unfold rv
      rw [jw hG (by rw [hops];simp;exact .inr (by simpa using hx))]
     simp only [aop,ho,hf,h1,h2]
     exact (q4 H1 hb1).mono fun d' H' ⟨e1,e2⟩ _=>by subst e1 e2;exact ⟨rfl,by trivial⟩
    have hfact:fact d.view:=by
     obtain ⟨K,w,a,hs⟩:=hs
     have hap:aop P ops.toList o F H (fun _ _=>fact d.view):=by
      simp only [aop,ho,hf,hgv]
      exact (q4 H q3).mono fun d' H' ⟨e1,_⟩ hfct=>by subst e1;exact hfct
     obtain ⟨a',w',F',H',K',hfct,_⟩:=vT (kS (Q:=fun _ _ _=>False) hs hok hap)
     exact hfct
    refine wY (e:=⟨none,d⟩) hg hna (fun H' hs' _=>hs'.set q1) q3 (ord q2) (fun s v h=>by cases h) hsub hse hs fun hs'=>?_
    exact kp hna' _ _ _ (.inr ⟨b,rfl⟩) (hsub.set q1) hs' (q5 hfact)
   ·exact h.elim
  ·exact h.elim
 ·rename_i t ps hop
  have ho:o.op= .build t ps:=hop
  have hna':QQ o.op=false:=by rw [ho];rfl
  have hna:wj al o.op=false:=by rw [ho];rfl
  have h:zbH P t ps.toList o.dst F H (fun F' _=>k A (S.map (·.2)) F' H):=h
  obtain ⟨cs,hk',hz⟩:=zbH_ex h
  have hse:∀H1,oN P H1 H1 o F ⟨none,.agg cs⟩:=fun H1 K w a G Q hs hG hlen=>WN hs hok ho (hz G H1 fun p hp=>by
   unfold rv
   rw [jw hG (by simp only [ho,Op.operands,List.mem_map,Array.toList_map];exact ⟨p,hp,rfl⟩)])
  refine ⟨⟨⟨none,.agg cs⟩,.no⟩,.inl ⟨by simp [gst,hg],rfl,hna,fun H1 _ _=>hse H1,fun s v h=>by cases h⟩,trivial,trivial,?_⟩
  obtain ⟨K,w,a,hs0⟩:=hs
  obtain ⟨a',w',F',H',K',⟨hF',hH'⟩,_,hs',_⟩:=vT (hse H K w a F (fun _ _ _=>False) hs0 (fun _ _=>rfl) rfl)
  rw [hF',hH'] at hs'
  exact kp hna' S _ _ (.inl rfl) hsub ⟨K',w',a',hs'⟩ hk'
 ·exact h.elim
theorem Ua {x:XO} {seen:List Nat} {d:Nat}:d∈KB x seen↔d∈seen∨(QQ x.op=true∧x.dst=some d):=by
 obtain ⟨op,dst,g,tk,ta⟩:=x
 cases op<;>cases dst<;>simp [KB,QQ,eq_comm,or_comm]
theorem ga {al:List Nat} {last tail:List XO} {k:HK} (hn:(H0.map (·.1)).Nodup) (hl:last.all oz=true):∀(segs:List (List XO×XO×Bool)) (os:List Oper) (n:Nat) (ps:List Nat) (S:List (Nat×Nat)) (seen:List Nat) (A:ub) (F:List D) (H:AH),os.map (xof ops.toList)=u7 segs++last→(∀o∈os,jq o=true)→(∀j,j<os.length→os[j]?=ops[n+j]?)→
  segs.all (fun p=>p.1.all oz&&UT p.2.1)=true→Qu ops n ps segs=true→(∀q∈S,q.1∈ps)→(∀d∈gb segs,d∈al)→(∀d∈seen,d∈al)→Zv al seen segs=true→(A.map (·.1)).Nodup→(∀d,lookv A d≠none↔d∈seen)→Sub H0 H→Some F H→xsegs P segs last tail H0 (S.map (·.2)) A F H k→kz P .any H0 al ops os n S F (H,lookv A) (fun F' H'=>∃A,H'.2=lookv A∧(A.map (·.1)).Nodup∧QN P A tail F' H'.1 k)
 | [],os,n,ps,S,seen,A,F,H,he,hok,hget,hsg,hso,hS,hd1,hd2,hst,hAn,hAs,hsub,hs,h=>by
  simp only [u7,List.nil_append] at he
  have hp:=Jr he hl
  simp only [xsegs] at h
  rw [←he,oE os (fun o ho=>⟨(hp o ho).1,(hp o ho).2⟩)] at h
  have:=wL (al:=al) (b:=lookv A) (T:=fun F' H'=>∃A,H'.2=lookv A∧(A.map (·.1)).Nodup∧QN P A tail F' H'.1 k) (S:=S) hn hsub (r:= []) os n F (fun o ho=>⟨hok o ho,by have:=(hp o ho).2;cases ho':o.op<;>simp_all [wj,o0]⟩) hs h (fun F' _ hk=>⟨A,rfl,hAn,hk⟩)
  rwa [List.append_nil] at this
 | (l,x,fl)::r,os,n,ps,S,seen,A,F,H,he,hok,hget,hsg,hso,hS,hd1,hd2,hst,hAn,hAs,hsub,hs,h=>by
  simp only [u7,List.append_assoc,List.cons_append] at he
  simp only [List.all_cons,Bool.and_eq_true] at hsg
  obtain ⟨⟨hl1,hx1⟩,hr1⟩:=hsg
  simp only [Qu,Bool.and_eq_true] at hso
  obtain ⟨hso1,hso2⟩:=hso
  simp only [Zv,Bool.and_eq_true] at hst
  obtain ⟨hst1,hst2⟩:=hst
  obtain ⟨os1,os2,rfl,e1,e2⟩:=List.map_eq_append_iff.1 he
  obtain ⟨ox,os3,rfl,e3,e4⟩:=List.map_eq_cons_iff.1 e2
  have hp:=Jr e1 hl1
  have hlen:os1.length=l.length:=by rw [←e1,List.length_map]
  simp only [xsegs] at h
  rw [←e1,oE os1 (fun o ho=>⟨(hp o ho).1,(hp o ho).2⟩)] at h
  subst e3
  have hgx:ox.guard=none:=by
   unfold UT at hx1
   simp only [Bool.and_eq_true,Option.isNone_iff_eq_none] at hx1
   have:=hx1.2
   simp only [xof] at this
   split at this
   ·assumption
   ·split at this<;>cases this
  have hox:ops[n+l.length]?=some ox:=by
   have:=hget os1.length (by simp)
   rw [hlen] at this
   rw [←this,←hlen]
   simp
  have hr2:∀d∈gb r,d∈al:=fun d hd=>hd1 d (by
   unfold gb
   split
   ·exact .tail _ hd
   ·exact hd)
  have hxd:∀t d,ox.op= .alloc t→ox.dst=some d→d∈al:=fun t d h1 h2=>hd1 d (by
   unfold gb
   simp [xof,h1,h2])
  refine wL hn hsub os1 n F (fun o ho=>⟨hok o (List.mem_append_left _ ho),by have:=(hp o ho).2;cases ho':o.op<;>simp_all [wj,o0]⟩) hs h fun F' hs' hk=>?_
  rw [hlen]
  refine YP (hok ox (by simp)) hgx (fun hf q hq=>?_) hsub hs' hxd (fun d hd=>hd2 d ((hAs d).1 hd)) (fun t d y h1 h2=>(hAs d).2 ?_) hAn hk fun A' S' F'' H'' hS' hsub' hs'' hAn' hA' hk'=>?_
  ·rw [hf] at hso1
   simp only [Bool.not_true,Bool.false_or] at hso1
   have:=List.all_eq_true.1 hso1 q.1 (hS q hq)
   rw [hox] at this
   exact this
  ·simp only [xof,h1] at hst1
   simpa [h2] using hst1
  ·refine ga hn hl r os3 (n+l.length+1) ((n+l.length)::ps) S' (KB (xof ops.toList ox) seen) A' F'' H'' e4 (fun o ho=>hok o (by simp [ho])) (fun j hj=>?_) hr1 hso2 (fun q hq=>?_) hr2 (fun d hd=>?_) hst2 hAn' (fun d=>?_) hsub' hs'' hk'
   ·have:=hget (os1.length+(j+1)) (by simp only [List.length_append,List.length_cons];omega)
    rw [List.getElem?_append_right (by omega),show os1.length+(j+1) - os1.length=j+1 by omega,List.getElem?_cons_succ] at this
    rw [this,hlen]
    congr 1
    omega
   ·rcases hS' with rfl|⟨b,rfl⟩
    ·exact .tail _ (hS q hq)
    ·rcases List.mem_cons.1 hq with rfl|hq
     ·exact .head _
     ·exact .tail _ (hS q hq)
   ·unfold KB at hd
    split at hd
    ·rename_i t e h1 h2
     rcases List.mem_cons.1 hd with rfl|hd
     ·exact hxd t _ h1 h2
     ·exact hd2 d hd
    ·exact hd2 d hd
   ·rw [hA' d,hAs d]
    exact (Ua (x:=xof ops.toList ox)).symm
theorem lone_of {n:Nat} {al:List Nat} (h:Ve ops n al=true):Lone al ops n:=by
 intro j oj hj hoj
 unfold Ve at h
 have hm:oj∈ops.toList.take n:=by
  rw [List.mem_take_iff_getElem]
  obtain ⟨hlt,rfl⟩:=Array.getElem?_eq_some_iff.1 hoj
  exact ⟨j,by simp;omega,by simp⟩
 have:=List.all_eq_true.1 h oj hm
 split at this
 ·rename_i hnw
  simp only [Bool.and_eq_true,Option.isNone_iff_eq_none] at this
  refine .inl ⟨hnw,this.1,fun t a y hop d hd=>?_⟩
  have h2:=this.2
  rw [hop] at h2
  have h3:=List.all_eq_true.1 h2 d hd
  simp only [Bool.and_eq_true,bne_iff_ne,ne_eq,Bool.not_eq_true'] at h3
  exact ⟨fun e=>by rw [e] at h3;simp [J8] at h3,h3.2⟩
 ·rename_i hnw
  refine .inr ⟨by simpa using hnw,fun d hd=>?_⟩
  have h3:=List.all_eq_true.1 this d hd
  simp only [Bool.and_eq_true,bne_iff_ne,ne_eq,Bool.not_eq_true'] at h3
  exact ⟨by simpa using h3.1,h3.2⟩
def orA:Option (Nat×Bool×List D)→Option AO→Option AO
 |some q,_=>some (.cells q.2.2)
 |none,o=>o
theorem KR {P:Program} {tail:List XO} {k:HK} {B:Nat→Nat}:∀{A:ub} {F:List D} {H:AH},QN P A tail F H k→(∀q∈A,qD H (B q.1))→(A.map fun q=>B q.1).Nodup→
  ∃F' H',xops P false tail F' H' k∧F'=y5 ((A.map fun q=>(q.1,B q.1)).reverse) F∧H'.map (·.1)=(A.map fun q=>B q.1).reverse++H.map (·.1)∧∀c,qu H' c=orA (A.reverse.find? fun q=>c==B q.1) (qu H c)
 | [],F,H,h,_,_=>⟨F,H,h,rfl,rfl,fun c=>rfl⟩
 | (d,f,z)::r,F,H,h,hf,hn=>by
  simp only [List.map_cons,List.nodup_cons] at hn
  have hb:=hf _ (.head _)
  obtain ⟨F',H',h1,h2,h3,h4⟩:=KR (B:=B) (h (B d) hb) (fun q hq=>⟨fun e=>hn.1 (List.mem_map.2 ⟨q,hq,e⟩),hf q (.tail _ hq)⟩) hn.2
  refine ⟨F',H',h1,?_,?_,fun c=>?_⟩
  ·rw [h2]
   simp only [List.map_cons,List.reverse_cons]
   generalize (r.map fun q=>(q.1,B q.1)).reverse=L
   clear h1 h2 h3 h4 hf hn h
   induction L with
   |nil=>rfl
   | cons p r ih=>
    obtain ⟨e,b⟩:=p
    simp only [List.cons_append,y5]
    rw [ih]
  ·rw [h3];simp
  ·rw [h4 c]
   simp only [List.reverse_cons,List.find?_append]
   cases List.find? (fun q=>c==B q.1) r.reverse with
   |some q=>rfl
   | none=>
    show (if c=B d then some (.cells z) else qu H c)=orA ([(d,f,z)].find? fun q=>c==B q.1) (qu H c)
    by_cases e:c=B d
    ·rw [if_pos e]
     subst e
     simp [orA]
    ·rw [if_neg e]
     have:(c==B d)=false:=by simpa using e
     simp [orA,this]
end
def Q3 (Q:AQ):AQ
 | .goto _,_,_=>False
 |e,F,H=>Q e F H
def xcode (P:Program):XC→List D→AH→AQ→Prop
 | .skip,F,H,Q=>Q .normal F H
 | .reg l,F,H,Q=>xops P false l F H (Q .normal)
 | .regD l,F,H,Q=>xops P true l F H (Q .normal)
 | .seq x y,F,H,Q=>xcode P x F H (oV (fun F' H'=>xcode P y F' H' Q) Q)
 | .cond (.tmp t) x y,F,H,Q=>match F.getD t .any with
  | .bool b=>(b=true→xcode P x (F.set t (.bool true)) H Q)∧(b=false→xcode P y (F.set t (.bool false)) H Q)
  |_=>False
 | .cond (.const (.bool true)) x y,F,H,Q=>xcode P x F H Q
 | .cond (.const (.bool false)) x y,F,H,Q=>xcode P y F H Q
 | .block id c,F,H,Q=>xcode P c F H (yI id Q)
 | .exit id,F,H,Q=>Q (.exit id) F H
 | .ret,F,H,Q=>Q .ret F H
 | .loop c,F,H,Q=>XW P c F H Q
 | .rgf g p t c,F,H,Q=>XRF P g p t c F H Q
 | .rga g p x y,F,H,Q=>XRG P g p x y F H Q
 | .regY pre y post,F,H,Q=>xops P false pre F H fun F' H'=>Zo P y F' H' fun F'' H''=>xops P false post F'' H'' (Q .normal)
 | .scope c,F,H,Q=>xcode P c F H (Q3 Q)
 | .regV l tail,F,H,Q=>xops P true l F H fun F' _=>xops P false tail F' H (Q .normal)
 | .regW q segs last tail,F,H,Q=>xsegs P segs last tail (wkH (F.getD q .any) H) [] [] F H (Q .normal)
 | .regT qs segs last tail,F,H,Q=>xsegs P segs last tail (K7 F qs H) [] [] F H (Q .normal)
 | .gh c,F,H,Q=>Gz F H fun F' H'=>xcode P c F' H' Q
 |_,_,_,_=>False
theorem AW.fromG {P:Program} {c:Code} {F:List D} {H:AH} {Q:AQ} (hz:Gz F H fun F' H'=>AW P c F' H' Q):AW P c F H Q:=fun K w a s hs hd=>
 let ⟨_,_,K1,hk,h1,h2⟩:=hz K w a.tmps hs
 wp_mono (hk K1 w a s h2 ⟨hd.1,hd.2.keep h1.m⟩) fun _ _ _ ⟨F',H',K',g1,g2,g3⟩=>⟨F',H',K',g1,h1.m.trans g2,g3⟩
theorem gv {F:List D} {qs:List Tmp} {H:AH} (h:(H.map (·.1)).Nodup):((K7 F qs H).map (·.1)).Nodup∧Sub (K7 F qs H) H:=
 ⟨((Q1 (F:=F) (qs:=qs)).map (·.1)).nodup h,Sub.of fun b o hb=>wi h ((Q1 (F:=F) (qs:=qs)).subset (j4 hb))⟩
theorem ZK {d:D} {H:AH} (h:(H.map (·.1)).Nodup):((wkH d H).map (·.1)).Nodup∧Sub (wkH d H) H:=by
 unfold wkH
 split
 ·rename_i b off
  unfold wkB
  split
  ·rename_i o ho
   refine ⟨by rw [ko];exact h,fun c x hc=>?_⟩
   by_cases e:c=b
   ·subst e
    rw [uR ho] at hc
    injection hc with hc
    exact ⟨o,ho,.inr hc.symm⟩
   ·rw [kM e] at hc
    exact ⟨x,hc,.inl rfl⟩
  ·exact ⟨h,Sub.refl H⟩
 ·exact ⟨h,Sub.refl H⟩
theorem Qk {P:Program} {ops:Array Oper} {qs:List Tmp} {segs:List (List XO×XO×Bool)} {last tail:List XO} {F:List D} {H:AH} {k:HK} {K:Nat→BK} {w:World} {a:Act} {Q':Exit→Act→World→Prop} {id:Nat}
  (hall:tOk segs last=true) (he:ops.toList.map (xof ops.toList)=(u7 segs++last)++tail.map KA) (hok:∀o∈ops.toList,jq o=true) (hv:u9 (.regT qs segs last tail) (.region id ops true)=true) (hs:St K w F H a.tmps) (hQ:∀a' w',OKd k K w a.defers a' w'→Q' .normal a' w')
  {H0:AH} (hn:(H0.map (·.1)).Nodup) (hsub:Sub H0 H) (h:xsegs P segs last tail H0 [] [] F H k):wpAny P .any ops Q' ops.size (Array.replicate ops.size false) a {w with drawn:=w.drawn+1}:=by
 simp only [u9,Bool.and_eq_true] at hv
 obtain ⟨⟨hv1,hv2⟩,hv3,hv4⟩:=hv
 obtain ⟨os1,os2,e0,e1,e2⟩:=List.map_eq_append_iff.1 he
 unfold tOk at hall
 simp only [Bool.and_eq_true] at hall
 obtain ⟨a1,a2⟩:=hall
 have hlen1:(u7 segs++last).length=os1.length:=by rw [←e1,List.length_map]
 rw [hlen1] at hv1 hv3
 refine ZN (a:=a) (pre:=os1) (suf:=os2) hv1 e0.symm hs hsub (lone_of hv3) hok
  (ga hn a2 segs os1 0 [] [] [] [] F H e1 (fun o hoo=>hok o (by rw [e0];exact List.mem_append_left _ hoo)) (fun j hj=>by
   rw [Nat.zero_add,←Array.getElem?_toList,e0,List.getElem?_append_left hj]) a1 hv2 (fun q hq=>by cases hq) (fun d hd=>hd) (fun d hd=>by cases hd) hv4 .nil (fun d=>by simp [lookv]) hsub ⟨K,w,a,hs⟩ h) fun F1 H1 G0 H00 L K1 w1 a1 hT hlf hs0 hfk1 hd1=>?_
 obtain ⟨A,hA,hAn,hT2⟩:=hT
 have hdom:∀d,d∈A.map (·.1)↔d∈L.map (·.1):=fun d=>by
  rw [←lookv_key,←hlf.dom d,hA]
  cases lookv A d<;>simp
 have hB:∃B:Nat→Nat,∀p∈L,B p.1=p.2:=⟨fun d=>((L.find? fun p=>p.1==d).map (·.2)).getD 0,fun p hp=>by
  have:(L.find? fun q=>q.1==p.1).isSome=true:=List.find?_isSome.2 ⟨p,hp,by simp⟩
  obtain ⟨q,hq⟩:=Option.isSome_iff_exists.1 this
  have h1:=List.find?_some hq
  have h2:=List.mem_of_find?_eq_some hq
  simp only [beq_iff_eq] at h1
  obtain ⟨q1,q2⟩:=q
  obtain ⟨p1,p2⟩:=p
  simp only at h1
  subst h1
  simp only [hq,Option.map_some,Option.getD_some]
  exact Je hlf.n1 h2 hp⟩
 obtain ⟨B,hB⟩:=hB
 have hin:∀q∈A,(q.1,B q.1)∈L:=fun q hq=>by
  obtain ⟨p,hp,e⟩:=List.mem_map.1 ((hdom q.1).1 (List.mem_map.2 ⟨q,hq,rfl⟩))
  have:=hB p hp
  obtain ⟨p1,p2⟩:=p
  simp only at e this
  rw [←e,this]
  exact hp
 have hBi:∀p∈L,∀q∈L,p.2=q.2→p=q:=fun p hp q hq e=>by
  obtain ⟨i,hi,rfl⟩:=List.getElem_of_mem hp
  obtain ⟨j,hj,rfl⟩:=List.getElem_of_mem hq
  have:=(List.getElem_inj (i:=i) (j:=j) (h₀:=by simpa using hi) (h₁:=by simpa using hj) hlf.n2).1 (by simpa using e)
  subst this
  rfl
 have hnB:(A.map fun q=>B q.1).Nodup:=by
  have:∀(A:ub),(A.map (·.1)).Nodup→(∀q∈A,(q.1,B q.1)∈L)→(A.map fun q=>B q.1).Nodup:=by
   intro A
   induction A with
   |nil=>intro _ _;exact .nil
   | cons q r ih=>
    intro h1 h2
    simp only [List.map_cons,List.nodup_cons] at h1 ⊢
    refine ⟨fun hm=>h1.1 ?_,ih h1.2 fun q hq=>h2 q (.tail _ hq)⟩
    obtain ⟨q',hq',e⟩:=List.mem_map.1 hm
    have:=hBi _ (h2 q' (.tail _ hq')) _ (h2 q (.head _)) e
    injection this with e1 _
    exact List.mem_map.2 ⟨q',hq',e1⟩
  exact this A hAn hin
 obtain ⟨G1,H2,hfin,hG1,hk2,hg2⟩:=KR (B:=B) hT2 (fun q hq=>(hlf.inal _ (hin q hq)).2.2) hnB
 have hL':((A.map fun q=>(q.1,B q.1)).reverse.map (·.1)).Nodup:=by
  rw [List.map_reverse,List.map_map]
  exact (List.reverse_perm _).nodup_iff.2 (by simpa [Function.comp_def] using hAn)
 have hmem:∀p,p∈(A.map fun q=>(q.1,B q.1)).reverse↔p∈L:=fun p=>by
  rw [List.mem_reverse]
  constructor
  ·intro hp
   obtain ⟨q,hq,rfl⟩:=List.mem_map.1 hp
   exact hin q hq
  ·intro hp
   obtain ⟨q,hq,e⟩:=List.mem_map.1 ((hdom p.1).2 (List.mem_map.2 ⟨p,hp,rfl⟩))
   have:=hB p hp
   obtain ⟨p1,p2⟩:=p
   simp only at e this
   exact List.mem_map.2 ⟨q,hq,by rw [e,this]⟩
 have hGG:G1=G0:=by rw [hG1,hlf.g];exact YY hL' hlf.n1 hmem
 have hs1:St K1 w1 G1 H2 a1.tmps:=by
  rw [hGG]
  have hnd1:(H1.1.map (·.1)).Nodup∧True:=⟨?_,trivial⟩
  refine hs0.same ?_ fun c=>?_
  ·rw [hk2,List.nodup_append]
   refine ⟨(List.reverse_perm _).nodup_iff.2 hnB,hnd1.1,fun x hx y hy e=>?_⟩
   subst e
   obtain ⟨q,hq,e⟩:=List.mem_map.1 (List.mem_reverse.1 hx)
   obtain ⟨⟨y1,o⟩,hy,e2⟩:=List.mem_map.1 hy
   have h1:=zu (hlf.inal _ (hin q hq)).2.2
   simp only at h1 e2
   rw [e,←e2,wi hnd1.1 hy] at h1
   cases h1
  ·rw [hg2,hlf.h]
   by_cases hm:c∈L.map (·.2)
   ·obtain ⟨p,hp,rfl⟩:=List.mem_map.1 hm
    obtain ⟨d,c⟩:=p
    rw [vZ hlf.n2 hp,hA]
    have hd:=(hmem (d,c)).2 hp
    rw [List.mem_reverse] at hd
    obtain ⟨q,hq,e⟩:=List.mem_map.1 hd
    injection e with e1 e2
    have hfd:A.reverse.find? (fun q=>c==B q.1)=some q:=by
     have hsm:(A.reverse.find? fun q=>c==B q.1).isSome=true:=List.find?_isSome.2 ⟨q,List.mem_reverse.2 hq,by simp [e2]⟩
     obtain ⟨q',hq'⟩:=Option.isSome_iff_exists.1 hsm
     have t1:=List.find?_some hq'
     have t2:=List.mem_reverse.1 (List.mem_of_find?_eq_some hq')
     simp only [beq_iff_eq] at t1
     have:=hBi _ (hin q' t2) _ (hin q hq) (by simp only;rw [←t1,e2])
     injection this with t3 _
     rw [hq']
     obtain ⟨q1,q2⟩:=q
     obtain ⟨q3,q4⟩:=q'
     simp only at t3
     subst t3
     have a1:=oO hAn hq
     have a2:=oO hAn t2
     rw [a1] at a2
     injection a2 with a2
     rw [a2]
    rw [hfd]
    obtain ⟨q1,q2⟩:=q
    simp only at e1
    subst e1
    rw [oO hAn hq]
    rfl
   ·rw [yJ hm]
    have:A.reverse.find? (fun q=>c==B q.1)=none:=List.find?_eq_none.2 fun q hq=>by
     simp only [beq_iff_eq]
     intro e
     exact hm (List.mem_map.2 ⟨_,hin q (List.mem_reverse.1 hq),e.symm⟩)
    rw [this]
    rfl
  exact hlf.nd
 exact yY (opA:=ops) (k:=k) (w:=w) (a:=a) (K:=K) hQ tail os2 G1 H2 K1 w1 a1 e2.symm (fun o hoo=>hok o (by rw [e0];exact List.mem_append_right _ hoo)) hs1 hfk1 hd1 hfin
theorem ky {P:Program} (hm:P.follows .mixedOrders=true):∀(x:XC) (c:Code) (F:List D) (H:AH) (Q:AQ),cmp c=er x→jl c=true→u9 x c=true→xcode P x F H Q→AW P c F H Q
 | .gh x,c,F,H,Q,he,ho,hv,h=>by
   exact AW.fromG (Gz.mono (fun F' H' h=>ky hm x c F' H' Q he ho (by unfold u9 at hv;exact hv) h) h)
 | .skip,c,F,H,Q,he,ho,hv,h=>by
   cases c<;>simp only [cmp,er] at he<;>first|(cases he;done)|exact jQ hm _ F H Q rfl h|(exact absurd (jc he) (by simp [kB]))|(rename_i id ops d;cases d<;>cases he)
 | .exit id,c,F,H,Q,he,ho,hv,h=>by
   cases c<;>simp only [cmp,er] at he<;>first|(cases he;done)|(injection he with he;subst he;exact jQ hm _ F H Q rfl h)|(exact absurd (jc he) (by simp [kB]))|(rename_i id ops d;cases d<;>cases he)
 | .ret,c,F,H,Q,he,ho,hv,h=>by
   cases c<;>simp only [cmp,er] at he<;>first|(cases he;done)|exact jQ hm _ F H Q rfl h|(exact absurd (jc he) (by simp [kB]))|(rename_i id ops d;cases d<;>cases he)
 | .bad,c,F,H,Q,he,ho,hv,h=>h.elim
 | .loop x,c,F,H,Q,he,ho,hv,h=>by
   cases c<;>simp only [cmp,er] at he<;>first|(cases he;done)|(exact absurd (jc he) (by simp [kB]))|(rename_i id ops d;cases d<;>cases he)|skip
   injection he with he
   exact h _ he (by simpa [jl] using ho) (by simpa [u9] using hv)
 | .rgf g p t x,c,F,H,Q,he,ho,hv,h=>by
   cases c<;>simp only [cmp,er] at he<;>first|(cases he;done)|(rename_i id ops d;cases d<;>cases he;done)|skip
   obtain ⟨rfl,h1,h2,h3⟩:=rgf_inv he
   simp only [u9,Bool.and_eq_true] at hv
   simp only [jl,Bool.and_eq_true] at ho
   exact h _ _ _ h1 h2 h3 ho.2 hv.1.1 hv.1.2 hv.2
 | .rga g p x y,c,F,H,Q,he,ho,hv,h=>by
   cases c<;>simp only [cmp,er] at he<;>first|(cases he;done)|(rename_i id ops d;cases d<;>cases he;done)|skip
   obtain ⟨rfl,h1,h2,h3⟩:=rga_inv he
   simp only [u9,Bool.and_eq_true] at hv
   simp only [jl,Bool.and_eq_true] at ho
   exact h _ _ _ h1 h2 h3 ho.1 ho.2 hv.1.1.1.1.1 hv.1.1.1.1.2 hv.1.1.1.2 hv.1.1.2 hv.1.2 hv.2
 | .regY pre y post,c,F,H,Q,he,ho,hv,h=>by
   simp only [er] at he
   split at he
   ·rename_i hy
    cases c<;>(try simp only [cmp] at he)<;>first|(cases he;done)|(exact absurd (jc he) (by simp [kB]))|skip
    rename_i id ops d
    cases d<;>(try simp only [cmp] at he)<;>first|(cases he;done)|skip
    injection he with he
    intro K w a s hs hd
    simp only [jl] at ho
    simp only [u9] at hv
    simp only [xcode] at h
    exact YK (opA:=ops) (k:=fun F' H'=>Q .normal F' H') hs (by simpa using hy) he (fun o hoo=>(Array.all_eq_true'.1 ho) o (by simpa using hoo)) (fun o hoo=>List.all_eq_true.1 hv o hoo)
     (fun a' w' ⟨F',H',K',g1,g2,g3,g4⟩=>⟨F',H',K',g1,g2.m,g3,Nat.le_trans hd.1 g2.ext.size,hd.2.step g2 g4⟩) h
   ·cases c<;>(try simp only [cmp] at he)<;>first|(cases he;done)|(exact absurd (jc he) (by simp [kB]))|(rename_i id ops d;cases d<;>cases he)
 | .reg l,c,F,H,Q,he,ho,hv,h=>by
   cases c<;>simp only [cmp,er] at he<;>first|(cases he;done)|(exact absurd (jc he) (by simp [kB]))|skip
   rename_i id ops d
   cases d<;>(try simp only [cmp] at he)<;>first|(cases he;done)|skip
   injection he with he
   intro K w a s hs hd
   simp only [jl] at ho
   simp only [xcode] at h
   exact wp_region_list (yY (opA:=ops) (k:=fun F' H'=>Q .normal F' H') (w:=w) (a:=a) (K:=K) (fun a' w' ⟨F',H',K',g1,g2,g3,g4⟩=>⟨F',H',K',g1,g2.m,g3,Nat.le_trans hd.1 g2.ext.size,hd.2.step g2 g4⟩) l ops.toList F H K w a he.symm (fun o hoo=>(Array.all_eq_true'.1 ho) o (by simpa using hoo)) hs (.refl K w) rfl h)
 | .regD l,c,F,H,Q,he,ho,hv,h=>by
   simp only [er] at he
   split at he
   ·rename_i hall
    cases c<;>(try simp only [cmp] at he)<;>first|(cases he;done)|(exact absurd (jc he) (by simp [kB]))|skip
    rename_i id ops d
    cases d<;>(try simp only [cmp] at he)<;>first|(cases he;done)|skip
    injection he with he
    subst he
    simp only [jl] at ho
    simp only [u9] at hv
    refine jQ hm _ F H Q (by simp only [yC,Bool.and_eq_true];exact ⟨ho,hv⟩) ?_
    simp only [xcode] at h
    rw [oy _ _ (fun o hoo=>by
     have:=List.all_eq_true.1 hall (xof ops.toList o) (List.mem_map.2 ⟨o,hoo,rfl⟩)
     exact (show kE (xof ops.toList o).op=none by simpa using this)) (fun o hoo hp=>by
     simp only [KZ,Bool.and_eq_true] at hv
     have:=List.all_eq_true.1 hv.1 o hoo
     simpa [hp] using this)] at h
    exact h
   ·cases c<;>(try simp only [cmp] at he)<;>first|(cases he;done)|(exact absurd (jc he) (by simp [kB]))|(rename_i id ops d;cases d<;>cases he)
 | .regW q segs last tail,c,F,H,Q,he,ho,hv,h=>by
   simp only [er] at he
   split at he
   ·rename_i hall
    cases c<;>(try simp only [cmp] at he)<;>first|(cases he;done)|(exact absurd (jc he) (by simp [kB]))|skip
    rename_i id ops d
    cases d<;>(try simp only [cmp] at he)<;>first|(cases he;done)|skip
    injection he with he
    simp only [jl] at ho
    intro K w a s hs hd
    simp only [xcode] at h
    exact wp_region_any hm (Qk (qs:= []) (id:=id) hall he (fun o hoo=>(Array.all_eq_true'.1 ho) o (by simpa using hoo)) hv hs (fun a' w' ⟨F',H',K',g1,g2,g3,g4⟩=>⟨F',H',K',g1,g2.m,g3,Nat.le_trans hd.1 g2.ext.size,hd.2.step g2 g4⟩) (ZK hs.hrel.nd).1 (ZK hs.hrel.nd).2 h)
   ·cases c<;>(try simp only [cmp] at he)<;>first|(cases he;done)|(exact absurd (jc he) (by simp [kB]))|(rename_i id ops d;cases d<;>cases he)
 | .regT qs segs last tail,c,F,H,Q,he,ho,hv,h=>by
   simp only [er] at he
   split at he
   ·rename_i hall
    cases c<;>(try simp only [cmp] at he)<;>first|(cases he;done)|(exact absurd (jc he) (by simp [kB]))|skip
    rename_i id ops d
    cases d<;>(try simp only [cmp] at he)<;>first|(cases he;done)|skip
    injection he with he
    simp only [jl] at ho
    intro K w a s hs hd
    simp only [xcode] at h
    exact wp_region_any hm (Qk hall he (fun o hoo=>(Array.all_eq_true'.1 ho) o (by simpa using hoo)) hv hs (fun a' w' ⟨F',H',K',g1,g2,g3,g4⟩=>⟨F',H',K',g1,g2.m,g3,Nat.le_trans hd.1 g2.ext.size,hd.2.step g2 g4⟩) (gv hs.hrel.nd).1 (gv hs.hrel.nd).2 h)
   ·cases c<;>(try simp only [cmp] at he)<;>first|(cases he;done)|(exact absurd (jc he) (by simp [kB]))|(rename_i id ops d;cases d<;>cases he)
 | .regV l tail,c,F,H,Q,he,ho,hv,h=>by
   simp only [er] at he
   split at he
   ·rename_i hall
    cases c<;>(try simp only [cmp] at he)<;>first|(cases he;done)|(exact absurd (jc he) (by simp [kB]))|skip
    rename_i id ops d
    cases d<;>(try simp only [cmp] at he)<;>first|(cases he;done)|skip
    injection he with he
    simp only [jl] at ho
    simp only [u9] at hv
    obtain ⟨os1,os2,e0,e1,e2⟩:=List.map_eq_append_iff.1 he
    have hok:∀o∈ops.toList,jq o=true:=fun o hoo=>(Array.all_eq_true'.1 ho) o (by simpa using hoo)
    have hp:∀o∈os1,kE o.op=none∧o0 o.op=false:=fun o hoo=>by
     have:=List.all_eq_true.1 hall (xof ops.toList o) (e1▸List.mem_map.2 ⟨o,hoo,rfl⟩)
     simp only [Bool.and_eq_true,Option.isNone_iff_eq_none,Bool.not_eq_true'] at this
     exact this
    intro K w a s hs hd
    simp only [xcode] at h
    rw [←e1,oE os1 hp] at h
    refine wp_region_any hm (Ze (a:=a) (pre:=os1) (suf:=os2) (by rw [←e1,List.length_map] at hv;exact hv) e0.symm hs
     (oY (ops:=ops) os1 F K w a (fun o hoo=>hok o (by rw [e0];exact List.mem_append_left _ hoo)) hs h) fun F1 K1 w1 a1 hT hs1 hfk1 hd1=>?_)
    exact yY (opA:=ops) (k:=fun F' H'=>Q .normal F' H') (w:=w) (a:=a) (K:=K) (fun a' w' ⟨F',H',K',g1,g2,g3,g4⟩=>⟨F',H',K',g1,g2.m,g3,Nat.le_trans hd.1 g2.ext.size,hd.2.step g2 g4⟩) tail os2 F1 H K1 w1 a1 e2.symm (fun o hoo=>hok o (by rw [e0];exact List.mem_append_right _ hoo)) hs1 hfk1 hd1 hT
   ·cases c<;>(try simp only [cmp] at he)<;>first|(cases he;done)|(exact absurd (jc he) (by simp [kB]))|(rename_i id ops d;cases d<;>cases he)
 | .scope x,c,F,H,Q,he,ho,hv,h=>by
   cases c<;>simp only [cmp,er] at he<;>first|(cases he;done)|(exact absurd (jc he) (by simp [kB]))|(rename_i id ops d;cases d<;>cases he)|skip
   injection he with he
   simp only [jl] at ho
   simp only [u9] at hv
   simp only [xcode] at h
   intro K w a s hs hd
   refine wp_scope_straight (wp_mono (ky hm x _ F H _ he ho hv h K w a s hs hd) fun e a' w' ⟨F',H',K',g1,g2⟩=>?_)
   cases e<;>first|exact g1.elim|exact ⟨F',H',K',g1,g2⟩
 | .seq x y,c,F,H,Q,he,ho,hv,h=>by
   cases c<;>simp only [cmp,er] at he<;>first|(cases he;done)|(exact absurd (jc he) (by simp [kB]))|(rename_i id ops d;cases d<;>cases he)|skip
   injection he with h1 h2
   simp only [jl,Bool.and_eq_true] at ho
   simp only [u9,Bool.and_eq_true] at hv
   refine AW.and_then ((ky hm x _ F H _ h1 ho.1 hv.1 h).mono fun e F' H' hq=>?_)
   cases e with
   |normal=>exact ky hm y _ F' H' Q h2 ho.2 hv.2 hq
   |_=>exact hq
 | .cond (.tmp t) x y,c,F,H,Q,he,ho,hv,h=>by
   cases c<;>simp only [cmp,er] at he<;>first|(cases he;done)|(exact absurd (jc he) (by simp [kB]))|(rename_i id ops d;cases d<;>cases he)|skip
   injection he with h0 h1 h2
   subst h0
   intro K w a s hs hd
   simp only [jl,Bool.and_eq_true] at ho
   simp only [xcode] at h
   split at h
   ·rename_i b hb
    simp only [u9,Bool.and_eq_true] at hv
    have hvb:=(show rv F (.tmp t)=D.bool b by show (F.getD t D.any).view=_;rw [hb];rfl)▸hs.rep ho.1.1
    cases b with
    |true=>exact wp_cond_true hvb.bool_inv (ky hm x _ F H Q h1 ho.1.2 hv.1 (by have:=h.1 rfl;rwa [yp hb (by simp)] at this) K w a s hs hd)
    |false=>exact wp_cond_false hvb.bool_inv (ky hm y _ F H Q h2 ho.2 hv.2 (by have:=h.2 rfl;rwa [yp hb (by simp)] at this) K w a s hs hd)
   ·exact h.elim
 | .cond (.const v) x y,c,F,H,Q,he,ho,hv,h=>by
   cases c<;>simp only [cmp,er] at he<;>first|(cases he;done)|(exact absurd (jc he) (by simp [kB]))|(rename_i id ops d;cases d<;>cases he)|skip
   injection he with h0 h1 h2
   subst h0
   intro K w a s hs hd
   simp only [jl,Bool.and_eq_true] at ho
   simp only [u9,Bool.and_eq_true] at hv
   cases v<;>first|exact h.elim|skip
   rename_i b
   cases b with
   |true=>exact wp_cond_true rfl (ky hm x _ F H Q h1 ho.1.2 hv.1 h K w a s hs hd)
   |false=>exact wp_cond_false rfl (ky hm y _ F H Q h2 ho.2 hv.2 h K w a s hs hd)
 | .cond (.global g) x y,c,F,H,Q,he,ho,hv,h=>h.elim
 | .cond (.func g) x y,c,F,H,Q,he,ho,hv,h=>h.elim
 | .block id x,c,F,H,Q,he,ho,hv,h=>by
   cases c<;>simp only [cmp,er] at he<;>first|(cases he;done)|(exact absurd (jc he) (by simp [kB]))|(rename_i id ops d;cases d<;>cases he)|skip
   injection he with h0 h1
   subst h0
   intro K w a s hs hd
   simp only [jl] at ho
   refine wp_block (wp_mono (ky hm x _ F H _ h1 ho (by simpa only [u9] using hv) h K w a s hs hd) fun e a' w' ⟨F',H',K',g1,g2⟩=>?_)
   cases e with
   | exit id'=>
    simp only [yI] at g1
    simp only [Exit.inBlock]
    split
    ·rename_i e;rw [if_pos e] at g1;exact ⟨F',H',K',g1,g2⟩
    ·rename_i e;rw [if_neg e] at g1;exact ⟨F',H',K',g1,g2⟩
   |_=>exact ⟨F',H',K',g1,g2⟩
def Yj (I:List D→AH→Prop) (μ:List D→AH→Nat) (F:List D) (H:AH) (Q:AQ):AQ:=oV (fun F' H'=>I F' (back H.length H')∧μ F' (back H.length H')<μ F H) Q
theorem XW.loop {P:Program} (hm:P.follows .mixedOrders=true) {x:XC} {F:List D} {H:AH} {Q:AQ} (I:List D→AH→Prop) (μ:List D→AH→Nat) (h0:I F H)
  (round:∀F H,I F H→xcode P x F H (Yj I μ F H Q)):XW P x F H Q:=by
 intro c hc ho hv K0 w0 a0 s0 hs0 hd0
 let R:Act→World→Nat→Prop:=fun a w n=>∃F H K,I F H∧μ F H=n∧FKm K0 w0 K w∧St K w F H a.tmps∧s0≤w.heap.size∧Mk K w s0 a.defers
 refine wp_loop (fun a w=>∃n,R a w n) (fun a w=>open Classical in if h:∃n,R a w n then Classical.choose (least (R a w) h.choose h.choose_spec) else 0) ⟨_,F,H,K0,h0,rfl,.refl K0 w0,hs0,hd0⟩ ?_
 intro a w hR
 have hmin:=Classical.choose_spec (least (R a w) hR.choose hR.choose_spec)
 simp only [dif_pos hR]
 generalize Classical.choose (least (R a w) hR.choose hR.choose_spec)=m at hmin
 obtain ⟨⟨F1,H1,K1,i1,i2,i3,i4,i5⟩,hleast⟩:=hmin
 refine wp_mono (ky hm x c F1 H1 _ hc ho hv (round F1 H1 i1) K1 w a s0 i4 i5) fun e a' w' ⟨F',H',K',g1,g2,g3,g4⟩=>?_
 cases e with
 | normal=>
  obtain ⟨q1,q2⟩:=g1
  have hR':R a' w' (μ F' (back H1.length H')):=⟨F',_,K',q1,rfl,i3.trans g2,g3.sub (un _ _),g4⟩
  have hex:∃n,R a' w' n:=⟨_,hR'⟩
  refine ⟨hex,?_⟩
  simp only [dif_pos hex]
  have hmin':=Classical.choose_spec (least (R a' w') hex.choose hex.choose_spec)
  generalize Classical.choose (least (R a' w') hex.choose hex.choose_spec)=m' at hmin'
  have:m'≤μ F' (back H1.length H'):=Nat.le_of_not_lt fun hlt=>hmin'.2 _ hlt hR'
  omega
 |_=>exact ⟨F',H',K',g1,i3.trans g2,g3,g4⟩
def Zi (I:List D→AH→Prop) (μ:List D→AH→Nat) (F:List D) (H:AH) (Q:AQ):AQ:=oV (fun F' H'=>∃H'',Sbn H'' H'∧I F' H''∧μ F' H''<μ F H) Q
theorem XW.loopR {P:Program} (hm:P.follows .mixedOrders=true) {x:XC} {F:List D} {H:AH} {Q:AQ} (I:List D→AH→Prop) (μ:List D→AH→Nat) (h0:I F H)
  (round:∀F H,I F H→xcode P x F H (Zi I μ F H Q)):XW P x F H Q:=by
 intro c hc ho hv K0 w0 a0 s0 hs0 hd0
 let R:Act→World→Nat→Prop:=fun a w n=>∃F H K,I F H∧μ F H=n∧FKm K0 w0 K w∧St K w F H a.tmps∧s0≤w.heap.size∧Mk K w s0 a.defers
 refine wp_loop (fun a w=>∃n,R a w n) (fun a w=>open Classical in if h:∃n,R a w n then Classical.choose (least (R a w) h.choose h.choose_spec) else 0) ⟨_,F,H,K0,h0,rfl,.refl K0 w0,hs0,hd0⟩ ?_
 intro a w hR
 have hmin:=Classical.choose_spec (least (R a w) hR.choose hR.choose_spec)
 simp only [dif_pos hR]
 generalize Classical.choose (least (R a w) hR.choose hR.choose_spec)=m at hmin
 obtain ⟨⟨F1,H1,K1,i1,i2,i3,i4,i5⟩,hleast⟩:=hmin
 refine wp_mono (ky hm x c F1 H1 _ hc ho hv (round F1 H1 i1) K1 w a s0 i4 i5) fun e a' w' ⟨F',H',K',g1,g2,g3,g4⟩=>?_
 cases e with
 | normal=>
  obtain ⟨H'',hsb,q1,q2⟩:=g1
  have hR':R a' w' (μ F' H''):=⟨F',_,K',q1,rfl,i3.trans g2,g3.sb (hsb g3.hrel.nd),g4⟩
  have hex:∃n,R a' w' n:=⟨_,hR'⟩
  refine ⟨hex,?_⟩
  simp only [dif_pos hex]
  have hmin':=Classical.choose_spec (least (R a' w') hex.choose hex.choose_spec)
  generalize Classical.choose (least (R a' w') hex.choose hex.choose_spec)=m' at hmin'
  have:m'≤μ F' H'':=Nat.le_of_not_lt fun hlt=>hmin'.2 _ hlt hR'
  omega
 |_=>exact ⟨F',H',K',g1,i3.trans g2,g3,g4⟩
def JB (P:Program) (rs:List ResultVar) (R:D→AH→Prop):AQ
 | .normal,F,H=>ot P rs F H fun d=>∃H',Sbn H' H∧R d H'
 | .ret,F,H=>ot P rs F H fun d=>∃H',Sbn H' H∧R d H'
 |_,_,_=>False
theorem Wj {P:Program} (hm:P.follows .mixedOrders=true) {f:FuncId} {fn:Func} {c:Code} {x:XC} (hf:P.funcs[f]?=some fn) (hb:fn.body=some c) (hk:QC fn=true) (hcall:wR P f=true) (hx:cmp c=er x) (hxv:u9 x c=true) {n:Nat} (hn:fn.ntmps=n) {rs:List ResultVar} (hr:fn.results.toList=rs)
  {args:List D} {H:AH} {R:D→AH→Prop} (h:facts args→xcode P x (args++List.replicate (n - args.length) (.tup [])) H (kK P rs H.length R)):ACall P f args H R:=by
 subst hn hr
 refine ⟨hcall,fun K w vs h1 h2 h3 h4 h5=>?_⟩
 unfold QC at hk
 simp only [hb,Bool.and_eq_true] at hk
 have hfacts:facts args:=Qb args vs.toList (by simpa using h4) (fun j d v hd hv=>h5 j d v hd (by simpa using hv))
 have hst:St K w (args++List.replicate (fn.ntmps - args.length) (.tup [])) H (vs++Array.replicate (fn.ntmps - vs.size) undef):=by
  refine ⟨h1,h3,by simp [h4],fun i d v hd hv=>?_⟩
  rw [List.getElem?_append] at hd
  split at hd
  ·rename_i hi
   rw [Array.getElem?_append_left (by rw [h4];exact hi)] at hv
   exact (h5 i d v hd hv).viewO
  ·rename_i hi
   rw [Array.getElem?_append_right (by rw [h4];omega)] at hv
   have hd':=List.eq_of_mem_replicate (List.mem_of_getElem? hd)
   have hv':v=undef:=by
    have:=Array.mem_of_getElem? hv
    simpa using (Array.mem_replicate.1 this).2
   rw [hd',hv']
   exact undef_rep.viewO
 refine zU hf hb (ky hm x c _ H _ hx hk.1 hxv (h hfacts)) hst fun e F' H' K' w' a' g1 g2 g3=>?_
 cases e with
 | normal=>
  obtain ⟨v,d,H'',K'',e1,e2,e3,e4,e5,e6⟩:=J1 (fn:=fn) hk.2 g3 g1
  exact ⟨.inl rfl,v,e1,v,d,H'',K'',rfl,e2,g2.trans e3,e4,e5,e6⟩
 | ret=>
  obtain ⟨v,d,H'',K'',e1,e2,e3,e4,e5,e6⟩:=J1 (fn:=fn) hk.2 g3 g1
  exact ⟨.inr rfl,v,e1,v,d,H'',K'',rfl,e2,g2.trans e3,e4,e5,e6⟩
 |exit id=>exact g1.elim
 |goto l=>exact g1.elim
 |panic ch=>exact g1.elim
 |outgrown=>exact g1.elim
theorem yy {P:Program} (hm:P.follows .mixedOrders=true) {f:FuncId} {fn:Func} {c:Code} {x:XC} (hf:P.funcs[f]?=some fn) (hb:fn.body=some c) (hk:QC fn=true) (hcall:wR P f=true) (hx:cmp c=er x) (hxv:u9 x c=true) {n:Nat} (hn:fn.ntmps=n) {rs:List ResultVar} (hr:fn.results.toList=rs)
  {args:List D} {H:AH} {R:D→AH→Prop} (h:facts args→xcode P x (args++List.replicate (n - args.length) (.tup [])) H (JB P rs R)):ACall P f args H R:=by
 subst hn hr
 refine ⟨hcall,fun K w vs h1 h2 h3 h4 h5=>?_⟩
 unfold QC at hk
 simp only [hb,Bool.and_eq_true] at hk
 have hfacts:facts args:=Qb args vs.toList (by simpa using h4) (fun j d v hd hv=>h5 j d v hd (by simpa using hv))
 have hst:St K w (args++List.replicate (fn.ntmps - args.length) (.tup [])) H (vs++Array.replicate (fn.ntmps - vs.size) undef):=by
  refine ⟨h1,h3,by simp [h4],fun i d v hd hv=>?_⟩
  rw [List.getElem?_append] at hd
  split at hd
  ·rename_i hi
   rw [Array.getElem?_append_left (by rw [h4];exact hi)] at hv
   exact (h5 i d v hd hv).viewO
  ·rename_i hi
   rw [Array.getElem?_append_right (by rw [h4];omega)] at hv
   have hd':=List.eq_of_mem_replicate (List.mem_of_getElem? hd)
   have hv':v=undef:=by
    have:=Array.mem_of_getElem? hv
    simpa using (Array.mem_replicate.1 this).2
   rw [hd',hv']
   exact undef_rep.viewO
 refine zU hf hb (ky hm x c _ H _ hx hk.1 hxv (h hfacts)) hst fun e F' H' K' w' a' g1 g2 g3=>?_
 cases e with
 | normal=>
  obtain ⟨v,d,H'',K'',e1,e2,e3,e4,e5,e6⟩:=Ql (fn:=fn) hk.2 g3 g1
  exact ⟨.inl rfl,v,e1,v,d,H'',K'',rfl,e2,g2.trans e3,e4,e5,e6⟩
 | ret=>
  obtain ⟨v,d,H'',K'',e1,e2,e3,e4,e5,e6⟩:=Ql (fn:=fn) hk.2 g3 g1
  exact ⟨.inr rfl,v,e1,v,d,H'',K'',rfl,e2,g2.trans e3,e4,e5,e6⟩
 |exit id=>exact g1.elim
 |goto l=>exact g1.elim
 |panic ch=>exact g1.elim
 |outgrown=>exact g1.elim
end Go.Aw
end
section
namespace Go.Aw
open Go Go.RowKit
theorem Wx {id:Nat} {ops:Array Oper} {b:Bool} (h:zm (.region id ops b)=true):∀o∈ops.toList,vv o=true:=fun o ho=>by
 have:=List.all_eq_true.1 h o ho
 unfold vv
 exact this
theorem uq {P:Program} (hm:P.follows .mixedOrders=true) {l n:Nat}:∀(x:XC) (c:Code) (F:List D) (H:AH) (Q:AQ),VX x=true→zm c=true→cmp c=er x→jl c=true→u9 x c=true→(∀F H,¬Q .outgrown F H)→xcode P x F H Q→
  ∀(K:Nat→BK) (w:World) (a:Act),St K w F H a.tmps→c.wpIn (Fence.wide.inRound l) n P (fun e a' w'=>∃F' H' K',Q e F' H'∧FK K w K' w'∧St K' w' F' H' a'.tmps) a w
 | .gh x,c,F,H,Q,hb,hd,he,ho,hv,hq,h=>fun K w a hs=>by
   obtain ⟨F',H',K1,hk,h1,h2⟩:=h K w a.tmps hs
   exact wpIn_mono (uq hm x c F' H' Q hb hd he ho (by unfold u9 at hv;exact hv) hq hk K1 w a h2) fun e a' w' ⟨F'',H'',K'',g1,g2,g3⟩=>⟨F'',H'',K'',g1,h1.trans g2,g3⟩
 | .skip,c,F,H,Q,hb,hd,he,ho,hv,hq,h=>fun K w a hs=>by
   cases c<;>simp only [cmp,er] at he<;>first|(cases he;done)|(exact absurd (jc he) (by simp [kB]))|(rename_i id ops d;cases d<;>cases he;done)|exact wpIn_skip ⟨F,H,K,h,.refl K w,hs⟩|exact wpIn_label ⟨F,H,K,h,.refl K w,hs⟩
 | .reg l,c,F,H,Q,hb,hd,he,ho,hv,hq,h=>fun K w a hs=>by
   cases c<;>simp only [cmp,er] at he<;>first|(cases he;done)|(exact absurd (jc he) (by simp [kB]))|skip
   rename_i id ops d
   cases d<;>(try simp only [cmp] at he)<;>first|(cases he;done)|skip
   injection he with he
   simp only [jl] at ho
   simp only [xcode] at h
   exact wpIn_region_list (K9 (fun a w ⟨F',H',K',h1,_⟩=>hq F' H' h1) _ _ _ (Wx hd) (yY (opA:=ops) (k:=fun F' H'=>Q .normal F' H') (w:=w) (a:=a) (K:=K) (fun a' w' ⟨F',H',K',g1,g2,g3,g4⟩=>⟨F',H',K',g1,g2,g3⟩) l ops.toList F H K w a he.symm (fun o hoo=>(Array.all_eq_true'.1 ho) o (by simpa using hoo)) hs (.refl K w) rfl h))
 | .regT qs segs last tail,c,F,H,Q,hb,hd,he,ho,hv,hq,h=>fun K w a hs=>by
   simp only [er] at he
   split at he
   ·rename_i hall
    cases c<;>(try simp only [cmp] at he)<;>first|(cases he;done)|(exact absurd (jc he) (by simp [kB]))|skip
    rename_i id ops d
    cases d<;>(try simp only [cmp] at he)<;>first|(cases he;done)|skip
    injection he with he
    simp only [jl] at ho
    simp only [xcode] at h
    exact wpIn_region_any hm (Uq (fun a w ⟨F',H',K',h1,_⟩=>hq F' H' h1) (Wx hd) _ _ _ _ (Qk hall he (fun o hoo=>(Array.all_eq_true'.1 ho) o (by simpa using hoo)) hv hs (fun a' w' ⟨F',H',K',g1,g2,g3,g4⟩=>⟨F',H',K',g1,g2,g3⟩) (gv hs.hrel.nd).1 (gv hs.hrel.nd).2 h))
   ·cases c<;>(try simp only [cmp] at he)<;>first|(cases he;done)|(exact absurd (jc he) (by simp [kB]))|(rename_i id ops d;cases d<;>cases he)
 | .seq x y,c,F,H,Q,hb,hd,he,ho,hv,hq,h=>fun K w a hs=>by
   cases c<;>simp only [cmp,er] at he<;>first|(cases he;done)|(exact absurd (jc he) (by simp [kB]))|(rename_i id ops d;cases d<;>cases he)|skip
   injection he with h1 h2
   simp only [jl,Bool.and_eq_true] at ho
   simp only [u9,Bool.and_eq_true] at hv
   simp only [VX,Bool.and_eq_true] at hb
   simp only [zm,Bool.and_eq_true] at hd
   simp only [xcode] at h
   refine wpIn_seq (wpIn_mono (uq hm x _ F H (oV (fun F' H'=>xcode P y F' H' Q) Q) hb.1 hd.1 h1 ho.1 hv.1 (fun F H hh=>hq F H hh) h K w a hs) fun e a' w' ⟨F',H',K',g1,g2,g3⟩=>?_)
   cases e with
   |normal=>exact wpIn_mono (uq hm y _ F' H' Q hb.2 hd.2 h2 ho.2 hv.2 hq g1 K' w' a' g3) fun e a'' w'' ⟨F'',H'',K'',q1,q2,q3⟩=>⟨F'',H'',K'',q1,g2.trans q2,q3⟩
   |_=>exact ⟨F',H',K',g1,g2,g3⟩
 | .block id x,c,F,H,Q,hb,hd,he,ho,hv,hq,h=>fun K w a hs=>by
   cases c<;>simp only [cmp,er] at he<;>first|(cases he;done)|(exact absurd (jc he) (by simp [kB]))|(rename_i id ops d;cases d<;>cases he)|skip
   injection he with h0 h1
   subst h0
   rename_i id c
   simp only [jl] at ho
   simp only [VX] at hb
   simp only [zm] at hd
   simp only [xcode] at h
   refine wpIn_block (wpIn_mono (uq hm x _ F H (yI id Q) hb hd h1 ho (by simpa only [u9] using hv) (fun F H hh=>hq F H hh) h K w a hs) fun e a' w' ⟨F',H',K',g1,g2⟩=>?_)
   cases e with
   | exit id'=>
    simp only [yI] at g1
    simp only [Exit.inBlock]
    split
    ·rename_i e;rw [if_pos e] at g1;exact ⟨F',H',K',g1,g2⟩
    ·rename_i e;rw [if_neg e] at g1;exact ⟨F',H',K',g1,g2⟩
   |_=>exact ⟨F',H',K',g1,g2⟩
 | .exit _,c,F,H,Q,hb,hd,he,ho,hv,hq,h=>by cases hb
 | .ret,c,F,H,Q,hb,hd,he,ho,hv,hq,h=>by cases hb
 | .bad,c,F,H,Q,hb,hd,he,ho,hv,hq,h=>by cases hb
 | .cond _ _ _,c,F,H,Q,hb,hd,he,ho,hv,hq,h=>by cases hb
 | .loop _,c,F,H,Q,hb,hd,he,ho,hv,hq,h=>by cases hb
 | .scope _,c,F,H,Q,hb,hd,he,ho,hv,hq,h=>by cases hb
 | .regV _ _,c,F,H,Q,hb,hd,he,ho,hv,hq,h=>by cases hb
 | .regW _ _ _ _,c,F,H,Q,hb,hd,he,ho,hv,hq,h=>by cases hb
 | .regD _,c,F,H,Q,hb,hd,he,ho,hv,hq,h=>by cases hb
 | .rgf _ _ _ _,c,F,H,Q,hb,hd,he,ho,hv,hq,h=>by cases hb
 | .rga _ _ _ _,c,F,H,Q,hb,hd,he,ho,hv,hq,h=>by cases hb
 | .regY _ _ _,c,F,H,Q,hb,hd,he,ho,hv,hq,h=>by cases hb
end Go.Aw
end
section
namespace Go.Aw
open Go Go.RowKit
def mwk (es:List (D×D)):List (D×D):=es.map fun p=>(p.1,p.2.wkA)
theorem MpAt.frozen {K:Nat→BK} {w:World} {b:Nat} {es:List (D×D)} (h:MpAt K w b es) (hk:K b= .imm):RepV K w (.mpv (mwk es)) (.map (some b)):=by
 obtain ⟨c,h1,h2,h3⟩:=h
 refine .mpv _ b c hk (Array.getElem?_eq_some_iff.1 h1).1 h1 (by simpa [mwk] using h2) (fun j p e hp he=>?_) (fun j p e hp he=>?_)
 all_goals
  unfold mwk at hp
  rw [List.getElem?_map,Option.map_eq_some_iff] at hp
  obtain ⟨p',e1,rfl⟩:=hp
  obtain ⟨e',g1,g2,g3,g4⟩:=h3 j p' e1
  rw [he] at g1
  cases g1
 ·exact g3
 ·exact g4.wkA
end Go.Aw
end
