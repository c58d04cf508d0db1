/- A part of the proof of what the last text says: Gn5, Gn6, Gn2, Gn7, Gs3, Ea0, Em0, Ha1, Ha2. Conditions: those in each theorem. -/
import Derived.Test.YtpdhandimdibhaaGreatDoorN24
import Derived.KernelRfl
set_option linter.unusedVariables false
set_option linter.unusedSimpArgs false
set_option maxRecDepth 100000
set_option maxHeartbeats 16000000
open Nat renaming reduceSub → qa,reduceAdd → qb,reduceMul → qc,reduceEqDiff → qd,reduceLeDiff → qe,reduceBEq → qf
section
namespace Go.Proofs.YtpdhandimdibhaaGreatDoor
open Go Go.Aw
theorem n_steps {x:Gs} {seen:List Bool} {p:Pt} {m:List Int} {b3 b6 b8:Nat} {c6:AO} {H:AH} {Q:AQ} {F:List D} (hx:GInv x) (hb:x.l.length≤20) (hs:seen.length=x.l.length) (hp:p.ops= []) (hv:VOk x seen p) (n38:b3≠b8) (n36:b3≠b6) (n68:b6≠b8)
  (hF:Fr 139 [(2,.slc (ints m)),(3,.ptr b3 0),(6,.ptr b6 0),(8,.ptr b8 0),(9,.slc (jm seen)),(13,.int .i64 0)] F) (hE:∀F',Fr 139 [(2,.slc (ints m)),(3,.ptr b3 0),(6,.ptr b6 0),(8,.ptr b8 0),(9,.slc (jm seen))] F'→∀i,i=1+jG m 5 2→Q (.exit 4) F' ((b8,AO.cells (j9 x seen p m i).d)::(b6,c6)::(b3,AO.cells [.own (qY x.l),.own (j5 x.past)])::H)):
  ∀i,i=0→XW Tryz.prog x32_L14 F ((b8,AO.cells (j9 x seen p m i).d)::(b6,c6)::(b3,AO.cells [.own (qY x.l),.own (j5 x.past)])::H) Q:=by
 intro i0 hi0
 have hbig:=qt
 have a5:=qv (l:=m) (i:=5) (most:=2) (by omega)
 obtain ⟨n,hn⟩:∃n:Nat,1+jG m 5 2=n:=⟨_,rfl⟩
 have hn2:n≤2:=by unfold jG at hn;omega
 have hne:1+qB m 5 2=(n:Int):=by unfold jG at hn;omega
 have w1:IntKind.i64.wrap (1+qB m 5 2)=(n:Int):=by rw [hne];exact qJ (by omega) (by omega)
 refine XW.loopK hm (fun F H'=>∃(i:Nat),i≤n∧Fr 139 [(2,.slc (ints m)),(3,.ptr b3 0),(6,.ptr b6 0),(8,.ptr b8 0),(9,.slc (jm seen)),(13,.int .i64 (i:Int))] F∧((b8,AO.cells (j9 x seen p m i).d)::(b6,c6)::(b3,AO.cells [.own (qY x.l),.own (j5 x.past)])::H)=H') (fun F H=>match F.getD 13 .any with| .int _ n'=>n - n'.toNat|_=>0) ⟨0,by omega,hF,by rw [hi0]⟩ ?_
 clear hF hi0
 rintro _ _ ⟨i,hi,hF,rfl⟩ K hN hE' hR
 obtain ⟨z,rfl⟩:∃z:Nat→D,_=zz z 0 2 (.slc (ints m):: .ptr b3 0::zz z 4 2 (.ptr b6 0::z 7:: .ptr b8 0:: .slc (jm seen)::zz z 10 3 (.int .i64 (i:Int)::zz z 14 125 []))):=hF.lit
 try dsimp only [zz,qb] at*
 clear hF hR
 by_cases hlt:i<n
 ·have nx:∀F',Fr 139 [(2,.slc (ints m)),(3,.ptr b3 0),(6,.ptr b6 0),(8,.ptr b8 0),(9,.slc (jm seen)),(13,.int .i64 ((i+1:Nat):Int))] F'→∀j,j=i+1→K .normal F' ((b8,AO.cells (j9 x seen p m j).d)::(b6,c6)::(b3,AO.cells [.own (qY x.l),.own (j5 x.past)])::H):=fun F' hF' j hj=>hN _ _ ⟨i+1,hlt,hF',by rw [hj];exact (j7 rfl).symm⟩ (by
   rw [List.getD_eq_getElem?_getD,hF'.2.2.2.2.2.2.1]
   simp only [List.getD_cons_succ,List.getD_cons_zero,Option.getD_some]
   omega)
  have nx2:=nx
  clear hN hE' hE nx
  obtain ⟨more,g1,g2⟩:=wM (x:=x) (seen:=seen) (p:=p) (m:=m) hp hv i
  have nx:=fun F' hF'=>nx2 F' hF' (i+1) rfl
  simp only [j9] at nx
  clear nx2
  generalize j9 x seen p m i=q at g1 g2 nx ⊢
  have hqo:q.ops=more:=by rw [g1.eq];simp only [hp,List.nil_append]
  have hql:=g1.len
  have hqk:=g1.ok
  rw [←hqo] at hql hqk
  have hspl:=U2 hx (seen:=seen) (p:=q) hqk
  have w2:IntKind.i64.wrap (13*(i:Int))=13*(i:Int):=qJ (by omega) (by omega)
  have w3:IntKind.i64.wrap (6+13*(i:Int))=((6+13*i:Nat):Int):=by rw [qJ (by omega) (by omega)];omega
  have hd:=@dE q
  simp+contextual only [qg,qh,n38,n36,n68,oF,↓zb,↓XP,↓XU,qn,XW1,qa,qb,qc,qd,qe,qf,reduceCtorEq]
  refine jJ (i:=5) (by omega) ?_
  simp+contextual only [qg,qh,n38,n36,n68,oF,w1,hd,↓zb,↓XP,↓XU,qn,XW1,qa,qb,qc,qd,qe,qf,reduceCtorEq]
  refine fun _=>⟨fun _=>?_,fun hge=>absurd (by omega) hge⟩
  simp+contextual only [qg,qh,n38,n36,n68,oF,w2,w3,hd,↓zb,↓XP,↓XU,qn,XW1,qa,qb,qc,qd,qe,qf,reduceCtorEq]
  refine ⟨_,fun _ _=>ku ⟨rfl,rfl⟩,?_⟩
  simp+contextual only [qg,qh,n38,n36,n68,oF,hd,↓zb,↓XP,↓XU,qn,XW1,qa,qb,qc,qd,qe,qf,reduceCtorEq]
  refine fun _=>⟨_,fun _ _=>f_step (x:=x) (p:=q) (by omega) (by omega) (fun q hq=>by have:=hx.op q hq;omega) (by omega) g2 hspl ⟨rfl,rfl⟩,?_⟩
  generalize step x seen q (List.drop (6+13*i) m)=p3 at nx ⊢
  have hd3:=@dE p3
  simp only [hd3] at nx
  simp+contextual only [qg,qh,n38,n36,n68,oF,hd,hd3,qp (show i≤big by omega),↓zb,↓XP,↓XU,qn,XW1,qa,qb,qc,qd,qe,qf,reduceCtorEq]
  exact nx _ ⟨rfl,rfl,rfl,rfl,rfl,rfl,rfl,trivial⟩
 ·have hik:i=n:=by omega
  subst hik
  clear hN
  simp+contextual only [qg,qh,n38,n36,n68,oF,↓zb,↓XP,↓XU,qn,XW1,qa,qb,qc,qd,qe,qf,reduceCtorEq]
  refine jJ (i:=5) (by omega) ?_
  simp+contextual only [qg,qh,n38,n36,n68,oF,w1,↓zb,↓XP,↓XU,qn,XW1,qa,qb,qc,qd,qe,qf,reduceCtorEq]
  exact fun _=>hE' _ _ _ (hE _ ⟨rfl,rfl,rfl,rfl,rfl,rfl,trivial⟩ _ hn.symm)
theorem gX {H:AH} {c b:Nat} {o:AO} {xs:List (List D)} (h:xs≠ []→b≠c):jx ((c,o)::H) b xs=(c,o)::jx H b xs:=by
 unfold jx
 split
 ·rfl
 ·rename_i hx
  rw [jK (h hx)]
theorem U1 {H:AH} {b c:Nat} {o:AO} {xs:List (List D)} (h:xs≠ []→c≠b) (hg:qu H c=some o):qu (jx H b xs) c=some o:=by
 unfold jx
 split
 ·exact hg
 ·rename_i hx
  have hne:=h hx
  induction H with
  |nil=>cases hg
  | cons p r ih=>
   obtain ⟨e,o'⟩:=p
   unfold qW
   by_cases he:b=e
   ·rw [if_pos he]
    subst he
    rwa [qg hne] at hg
   ·rw [if_neg he]
    by_cases hc:c=e
    ·subst hc
     rw [jS] at hg ⊢
     exact hg
    ·rw [qg hc] at hg ⊢
     exact ih hg
theorem Gz.take2 {F:List D} {k:List D→AH→Prop} {H:AH} {b3 b6:Nat} {c6:AO} {bl cl bp cp:Nat} {xs ys:List (List D)} (h3:qD H b3) (h6:qD H b6) (hl:xs≠ []→qu H bl=some (.room cl xs)) (hp:ys≠ []→qu H bp=some (.room cp ys)) (hne:xs≠ []→ys≠ []→bl≠bp)
  (h:∀Hr:AH,Hr=jx (jx H bl xs) bp ys→Hr.Sublist H→k F ((b6,c6)::(b3,.cells [.own xs,.own ys])::Hr)):Gz F ((b6,c6)::(b3,.cells [.osl bl cl xs,.osl bp cp ys])::H) k:=by
 have f3:∀{b o},qu H b=some o→b≠b3:=fun hg=>zf h3 hg
 have f6:∀{b o},qu H b=some o→b≠b6:=fun hg=>zf h6 hg
 refine Gz.bind (k:=fun F' H'=>F'=F∧H'=(b3,.cells [.osl bl cl xs,.osl bp cp ys])::(b6,c6)::H) (Gz.sb (fun hn=>?_) ⟨rfl,rfl⟩) ?_
 ·refine ⟨?_,fun p hp=>?_⟩
  ·simp only [List.map_cons,List.nodup_cons,List.mem_cons,not_or] at hn ⊢
   exact ⟨⟨fun e=>hn.1.1 e.symm,hn.2.1⟩,hn.1.2,hn.2.2⟩
  ·simp only [List.mem_cons] at hp ⊢
   rcases hp with h|h|h
   ·exact .inr (.inl h)
   ·exact .inl h
   ·exact .inr (.inr h)
 intro F2 H2 hh
 rw [hh.1,hh.2]
 clear hh
 refine Gz.bind (k:=fun F'' H''=>F''=F∧H''=(b3,.cells [.own xs,.osl bp cp ys])::(b6,c6)::jx H bl xs) (Gz.take (j:=0) rfl (fun hx=>by rw [qg (f6 (hl hx))];exact hl hx) ⟨rfl,by rw [gX (fun hx=>f6 (hl hx))];rfl⟩) ?_
 intro F2 H2 hh
 rw [hh.1,hh.2]
 clear hh
 have hp2:ys≠ []→qu (jx H bl xs) bp=some (.room cp ys):=fun hy=>U1 (fun hx=>(hne hx hy).symm) (hp hy)
 refine Gz.bind (k:=fun F'' H''=>F''=F∧H''=(b3,.cells [.own xs,.own ys])::(b6,c6)::jx (jx H bl xs) bp ys) (Gz.take (j:=1) rfl (fun hy=>by rw [qg (f6 (hp hy))];exact hp2 hy) ⟨rfl,by rw [gX (fun hy=>f6 (hp hy))];rfl⟩) ?_
 intro F2 H2 hh
 rw [hh.1,hh.2]
 clear hh
 refine Gz.sb (fun hn=>?_) (h (jx (jx H bl xs) bp ys) rfl (dropR_sub.trans dropR_sub))
 refine ⟨?_,fun p hp=>?_⟩
 ·simp only [List.map_cons,List.nodup_cons,List.mem_cons,not_or] at hn ⊢
  exact ⟨⟨fun e=>hn.1.1 e.symm,hn.2.1⟩,hn.1.2,hn.2.2⟩
 ·simp only [List.mem_cons] at hp ⊢
  rcases hp with h|h|h
  ·exact .inr (.inl h)
  ·exact .inl h
  ·exact .inr (.inr h)
theorem Gz.view1 {F:List D} {k:List D→AH→Prop} {H:AH} {bx:Nat} {cs:List D} (hg:qu H bx=some (.cells cs)) (h:k F (qF H bx (.cells (cs.map D.view1)))):Gz F H k:=by
 intro K w t hs
 refine ⟨F,_,K,h,.refl K w,hs.krel,⟨by rw [ko];exact hs.hrel.nd,fun c' o' hm'=>?_⟩,hs.len,hs.slot⟩
 rcases yu hs.hrel.nd hm' with ⟨rfl,rfl⟩|⟨hne,hm'⟩
 ·obtain ⟨hpb,c,T,hb,hcs,hrc⟩:=hs.hrel.ok c' _ (j4 hg)
  refine ⟨hpb,c,T,hb,by simpa using hcs,fun j d hd=>?_⟩
  rw [List.getElem?_map,Option.map_eq_some_iff] at hd
  obtain ⟨d',e1,rfl⟩:=hd
  obtain ⟨u,f1,f2,f3⟩:=hrc j d' e1
  refine ⟨u,f1,f2,?_⟩
  cases d'<;>first|exact f3|exact OwnAt.rep f3
 ·exact hs.hrel.ok c' o' hm'
end Go.Proofs.YtpdhandimdibhaaGreatDoor
end
section
namespace Go.Proofs.YtpdhandimdibhaaGreatDoor
open Go Go.Aw
theorem VD {n:Nat}:(List.replicate n [D.bool false]).flatten=(List.replicate n false).map D.bool:=by
 induction n with
 |zero=>rfl
 |succ n ih=>rw [List.replicate_succ,List.replicate_succ,List.flatten_cons,ih];rfl
theorem YL {l:List Bool}:l.map D.bool=(jm l).flatten++ []:=by
 induction l with
 |nil=>rfl
 |cons b r ih=>simp only [List.map_cons,jm,List.flatten_cons,List.cons_append,List.nil_append];rw [ih];simp [jm]
theorem zH {H:AH} {b:Nat}:jx H b []=H:=by simp [jx]
theorem Gz.then {F:List D} {H:AH} {k:List D→AH→Prop} (h:Gz F H fun F' H'=>Gz F' H' k):Gz F H k:=Gz.bind h fun _ _ h=>h
theorem bytes4:(Tryz.prog.info? 4).map (·.bytes)=some 1:=by kernel_rfl
theorem info4 {n:Int} (h:n≤1000):match Tryz.prog.info? 4 with|some i=>(i.bytes:Int)*n≤140737488355328∧n≤140737488355328|none=>False:=by
 have h4:=bytes4
 cases hq:Tryz.prog.info? 4 with
 |none=>rw [hq] at h4;cases h4
 | some i=>
  rw [hq] at h4
  simp only [Option.map_some,Option.some.injEq] at h4
  simp only [h4]
  omega
theorem f_next {x:Gs} {offices:Nat} {m:List Int} {bl cl bp cp:Nat} {H:AH} {R:D→AH→Prop} (hx:GInv x) (hb:x.l.length≤20) (hof:1≤offices) (hof':offices≤10)
  (hr1:qY x.l≠ []→qu H bl=some (.room cl (qY x.l))) (hr2:j5 x.past≠ []→qu H bp=some (.room cp (j5 x.past)))
  (h:∀bl' cl' bp' cp',bl'≠bp'→qD (jx (jx H bl (qY x.l)) bp (j5 x.past)) bl'→qD (jx (jx H bl (qY x.l)) bp (j5 x.past)) bp'→R (.agg [.osl bl' cl' (qY (next x offices m).l),.osl bp' cp' (j5 (next x offices m).past)]) ((bp',.room cp' (j5 (next x offices m).past))::(bl',.room cl' (qY (next x offices m).l))::jx (jx H bl (qY x.l)) bp (j5 x.past))):
  ACall Tryz.prog 32 [.agg [.osl bl cl (qY x.l),.osl bp cp (j5 x.past)],.int .i64 offices,.slc (ints m)] H R:=by
 have hbig:=qt
 have hne:qY x.l≠ []→j5 x.past≠ []→bl≠bp:=fun h1 h2 e=>by
  have e1:=hr1 h1
  rw [e,hr2 h2] at e1
  injection e1 with e1
  injection e1 with e1 e2
  cases hl:x.l with
  |nil=>rw [hl] at h1;exact h1 rfl
  | cons p r=>
   cases hq:x.past with
   |nil=>rw [hq] at h2;exact h2 rfl
   |cons p' r'=>rw [hl,hq] at e2;simp [qY,j5,Pt.d] at e2
 refine r32 fun hf=>?_
 simp+contextual only [oF,qg,qh,j8,ji,↓zb,↓XP,↓XU,qn,XW1,qa,qb,qc,qd,qe,qf,reduceCtorEq]
 rintro b3 h3 b6 ⟨n36,h6⟩
 rw [zA]
 refine Gz.take2 h3 h6 hr1 hr2 hne fun Hr hHe hHr=>?_
 rw [←hHe] at h
 simp+contextual only [oF,qg,qh,j8,ji,↓zb,↓XP,↓XU,qn,XW1,qa,qb,qc,qd,qe,qf,reduceCtorEq]
 refine jJ (i:=0) (by omega) ?_
 have a0:=qv (l:=m) (i:=0) (most:=(offices:Int)) (by omega)
 simp+contextual only [oF,qg,qh,j8,ji,n36,↓zb,↓XP,↓XU,qn,XW1,qa,qb,qc,qd,qe,qf,reduceCtorEq]
 intro _ b8 hh
 obtain ⟨n68,n38,h8⟩:=hh
 rw [zA]
 refine Gz.then (Gz.take (j:=3) rfl (fun h=>(h rfl).elim) (Gz.weak jS ?_))
 rw [zH]
 simp+contextual only [oF,qg,qh,j8,ji,n36,n68,n38,D.wk,qm,↓zb,↓XP,↓XU,qn,XW1,qa,qb,qc,qd,qe,qf,reduceCtorEq]
 refine fun _=>⟨info4 (by omega),fun b9 hh=>?_⟩
 obtain ⟨n89,n69,n39,h9⟩:=hh
 rw [VD]
 have hrn:=kn (x:=x) (o:=qB m 0 offices) (m:=m) offices
 have hri:=yR hx (o:=qB m 0 offices) (m:=m) offices
 refine n_outer (x:=x) (offices:=offices) (n:=x.l.length) ⟨n39,n38,n36,n89,n69,n68⟩ hof' (by omega) rfl hx.np hx.pk (fun p hp=>by have:=hx.sq p hp;omega) (jf h8) ⟨rfl,rfl,rfl,rfl,rfl,rfl,rfl,rfl,rfl,trivial⟩ (fun F' hF' s hs=>?_) (qw x (qB m 0 offices) m 0) rfl
 have hnx:next x offices m=⟨x.l++ [j9 x s.seen {s.p with day:=s.p.day+qB m 4 4} m (1+jG m 5 2)],x.past++ [s.seen]⟩:=by rw [hs];rfl
 rw [hnx] at h
 have hp14:=J6 hx hof' (m:=m)
 rw [←hs] at hrn hri hp14
 obtain ⟨z,rfl⟩:∃z:Nat→D,_=z 0:: .int .i64 offices:: .slc (ints m):: .ptr b3 0::zz z 4 2 (.ptr b6 0:: .int .i64 (qB m 0 offices):: .ptr b8 0:: .hsl b9 x.l.length::zz z 10 129 []):=hF'.lit
 try dsimp only [zz,qb] at*
 clear hF' hnx hs
 obtain ⟨g1,g2,g3,g4⟩:=hrn
 obtain ⟨i1,i2,i3,i4,i5⟩:=hri
 have hdn:s.p.dn= [.int .i64 s.p.o,.int .i64 s.p.s,.int .i64 s.p.day,.own (qM s.p.needs),.slc [],.str []]:=rfl
 have a4:=qv (l:=m) (i:=4) (most:=4) (by omega)
 have wd:IntKind.i64.wrap (s.p.day+qB m 4 4)=s.p.day+qB m 4 4:=qJ (by omega) (by omega)
 simp+contextual only [oF,qg,qh,j8,ji,n36,n68,n38,n89,n69,n39,hdn,wd,↓zb,↓XP,↓XU,qn,XW1,qa,qb,qc,qd,qe,qf,reduceCtorEq]
 refine fun _=>⟨_,fun _ _=>jJ (i:=4) (by omega) ⟨rfl,rfl⟩,?_⟩
 simp+contextual only [oF,qg,qh,j8,ji,n36,n68,n38,n89,n69,n39,hdn,wd,↓zb,↓XP,↓XU,qn,XW1,qa,qb,qc,qd,qe,qf,reduceCtorEq]
 refine fun _=>⟨by omega,?_⟩
 rw [zA]
 refine Gz.then (Gz.of_fz (Fz.freeze (s:=9) (b:=b9) (n:=x.l.length) (sz:=1) (xs:=jm s.seen) (rest:= []) rfl jS YL (by rw [jt,g4]) bools_1 (by omega) (fun y hy d hd=>by
  obtain ⟨t,_,rfl⟩:=List.mem_map.1 hy
  rw [List.mem_singleton.1 hd]
  rfl)) ?_)
 rw [vK]
 refine Gz.view1 (bx:=b8) jS ?_
 obtain ⟨p,hpp⟩:∃p:Pt,p={s.p with day:=s.p.day+qB m 4 4}:=⟨_,rfl⟩
 have hpo:p.ops= []:=by rw [hpp];exact g2
 have hd0:p.d= [.int .i64 s.p.o,.int .i64 s.p.s,.int .i64 (s.p.day+qB m 4 4),.slc (qM s.p.needs),.slc [],.str []]:=by
  rw [hpp]
  simp only [Pt.d,g2,g3]
  rfl
 rw [←hpp] at h hp14
 simp+contextual only [oF,qg,qh,j8,ji,n36,n68,n38,↓zb,↓XP,↓XU,qn,XW1,qa,qb,qc,qd,qe,qf,reduceCtorEq]
 rw [←hd0]
 refine n_steps (x:=x) (seen:=s.seen) (p:=p) hx hb g4 hpo (VOk.base hx i1 hpo) n38 n36 n68 ⟨rfl,rfl,rfl,rfl,rfl,rfl,rfl,trivial⟩ (fun F' hF' i hi=>?_) 0 rfl
 rw [hi]
 clear hi i hd0
 obtain ⟨more,e1,-⟩:=hp14
 generalize j9 x s.seen p m (1+jG m 5 2)=q at h e1 ⊢
 obtain ⟨z,rfl⟩:∃z:Nat→D,_=zz z 0 2 (.slc (ints m):: .ptr b3 0::zz z 4 2 (.ptr b6 0::z 7:: .ptr b8 0:: .slc (jm s.seen)::zz z 10 129 [])):=hF'.lit
 try dsimp only [zz,qb] at*
 clear hF'
 have hd:=@dE q
 simp+contextual only [oF,qg,qh,j8,ji,n36,n68,n38,hd,kj,qm,↓zb,↓XP,↓XU,qn,XW1,qa,qb,qc,qd,qe,qf,reduceCtorEq]
 have hnp:=hx.np
 refine ⟨pts_6,by omega,past_1,by omega,?_⟩
 rw [←hd,show [q.d]=qY [q] from rfl,V2,show [[D.slc (jm s.seen)]]=j5 [s.seen] from rfl,show j5 x.past++j5 [s.seen]=j5 (x.past++ [s.seen]) by simp [j5]]
 rw [zA]
 have hx1:qY (x.l++ [q])≠ []:=by simp [qY]
 have hx2:j5 (x.past++ [s.seen])≠ []:=by simp [j5]
 try dsimp only at h
 generalize hX:qY (x.l++ [q])=X at h hx1 ⊢
 generalize hY:j5 (x.past++ [s.seen])=Y at h hx2 ⊢
 refine Gz.then (Gz.give (bx:=b3) (j:=0) (xs:=X) hx1 (by rw [qg n38,qg n36,jS]) rfl (fun bl' cl' f1=>?_))
 simp only [Jz] at f1
 obtain ⟨t8,t6,t3,tr⟩:=f1
 rw [qh n38,qh n36,uw]
 refine Gz.give (bx:=b3) (j:=1) (xs:=Y) hx2 (by rw [qg t3,qg n38,qg n36,jS]) rfl (fun bp' cp' f2=>?_)
 simp only [Jz] at f2
 obtain ⟨ul,u8,u6,u3,ur⟩:=f2
 rw [qh t3,qh n38,qh n36,uw]
 simp+contextual only [oF,qg,qh,j8,ji,n36,n68,n38,t8,t6,t3,ul,u8,u6,u3,↓zb,↓XP,↓XU,qn,XW1,qa,qb,qc,qd,qe,qf,reduceCtorEq]
 exact ⟨_,Sbn.sub (List.Sublist.cons_cons _ (List.Sublist.cons_cons _ (List.Sublist.cons _ (List.Sublist.cons _ (List.Sublist.cons _ (List.Sublist.refl _)))))),h bl' cl' bp' cp' ul tr ur⟩
end Go.Proofs.YtpdhandimdibhaaGreatDoor
end
section
namespace Go.Proofs.YtpdhandimdibhaaGreatDoor
open Go Go.Aw
theorem vS {l out:List Pt}:∀i,-1≤jd l out i∧jd l out i<i
 |0=>⟨by simp [jd],by simp [jd]⟩
 | i+1=>by
  have:=vS (l:=l) (out:=out) i
  unfold jd
  split
  ·omega
  ·omega
theorem Jd {l:List Pt}:∀n,(qT l n).1.length≤n
 |0=>by simp [qT]
 | n+1=>by
  have:=Jd (l:=l) n
  simp only [qT]
  split
  ·split
   ·simp only [];omega
   ·simp only [List.length_append,List.length_cons,List.length_nil];omega
  ·omega
theorem gN {l:List Pt} {n:Nat} (h:(qT l n).2=false):∀k,qT l (n+k)=qT l n
 |0=>rfl
 | k+1=>by
  have ih:=gN h k
  show qT l (n+k+1)=_
  simp only [qT,ih,h,Bool.false_eq_true,if_false]
theorem VP {l:List Pt} {H:AH} {R:D→AH→Prop} (hb:l.length≤100) (hl:∀p∈l,0≤p.s∧p.s≤1000000∧p.needs.length≤1000000) (h:R (.own (qY (ordered l))) H):ACall Tryz.prog 34 [.slc (qY l)] H R:=by
 refine b34 fun hf=>?_
 have hbig:=qt
 simp+contextual only [x34,↓Vo,↓XP,↓XU,qn,XW1,qa,qb,qc,qd,qe,qf,reduceCtorEq]
 refine XW.loopK hm (fun F H'=>∃(n:Nat) (out:List Pt),n≤l.length∧qT l n=(out,true)∧Fr 82 [(0,.slc (qY l)),(3,.own (qY out)),(4,.int .i64 n)] F∧H=H') (fun F H=>match F.getD 4 .any with| .int _ n'=>l.length - n'.toNat|_=>0) ⟨0,[],by omega,rfl,⟨rfl,rfl,rfl,rfl,trivial⟩,rfl⟩ ?_
 rintro _ _ ⟨n,out,hn,ho,hF,rfl⟩ K hN hE hR
 obtain ⟨z,rfl⟩:∃z:Nat→D,_= .slc (qY l)::zz z 1 2 (.own (qY out):: .int .i64 n::zz z 5 77 []):=hF.lit
 try dsimp only [zz,qb] at*
 clear hF
 have hol:=Jd (l:=l) n
 rw [ho] at hol
 simp only at hol
 by_cases hlt:n<l.length
 ·have hsn:qT l (n+1)=(if jd l out l.length<0 then (out,false) else (out++ [l.getD (jd l out l.length).toNat default],true)):=by
   simp only [qT,ho,if_true]
  simp+contextual only [qm,qg,qh,↓Vo,↓XP,↓XU,qn,XW1,qa,qb,qc,qd,qe,qf,reduceCtorEq]
  refine fun _=>⟨fun _=>?_,fun hge=>absurd (by omega) hge⟩
  refine XW.loopK hm (fun F H'=>∃(i:Nat),i≤l.length∧Fr 82 [(0,.slc (qY l)),(3,.own (qY out)),(4,.int .i64 n),(5,.int .i64 (jd l out i)),(6,.int .i64 i)] F∧H=H') (fun F H=>match F.getD 6 .any with| .int _ n'=>l.length - n'.toNat|_=>0) ⟨0,by omega,⟨rfl,rfl,rfl,rfl,rfl,rfl,trivial⟩,rfl⟩ ?_
  rintro _ _ ⟨i,hi,hF,rfl⟩ K2 hN2 hE2 hR2
  obtain ⟨z2,rfl⟩:∃z2:Nat→D,_=(let z:=z2; [.slc (qY l),z 1,z 2,.own (qY out),.int .i64 n,.int .i64 (jd l out i),.int .i64 i,z 7,z 8,z 9,z 10,z 11,z 12,z 13,z 14,z 15,z 16,z 17,z 18,z 19,z 20,z 21,z 22,z 23,z 24,z 25,z 26,z 27,z 28,z 29,z 30,z 31,z 32,z 33,z 34,z 35,z 36,z 37,z 38,z 39,z 40,z 41,z 42,z 43,z 44,z 45,z 46,z 47,z 48,z 49,z 50,z 51,z 52,z 53,z 54,z 55,z 56,z 57,z 58,z 59,z 60,z 61,z 62,z 63,z 64,z 65,z 66,z 67,z 68,z 69,z 70,z 71,z 72,z 73,z 74,z 75,z 76,z 77,z 78,z 79,z 80,z 81]):=hF.lit
  clear hF
  by_cases hli:i<l.length
  ·have nx:∀F' b c,Fr 82 [(0,.slc (qY l)),(3,.own (qY out)),(4,.int .i64 n),(5,.int .i64 (jd l out (i+1))),(6,.int .i64 ((i+1:Nat):Int))] F'→K2 .normal F' ((b,c)::H):=fun F' b c hF'=>hN2 _ _ ⟨i+1,hli,hF',(kW rfl).symm⟩ (by
    rw [List.getD_eq_getElem?_getD,hF'.2.2.2.2.2.1]
    simp only [List.getD_cons_succ,List.getD_cons_zero,Option.getD_some]
    omega)
   clear hN2 hE2 hR2 hN hE hR h
   obtain ⟨r1,r2⟩:=vS (l:=l) (out:=out) i
   have hstep:jd l out (i+1)=if better l out i (jd l out i)=true then (i:Int) else jd l out i:=rfl
   rw [hstep] at nx
   have hbt:better l out i (jd l out i)=(ready out (l.getD i default)&& !known out (l.getD i default).o (l.getD i default).s&&(decide (jd l out i<0)||decide ((l.getD i default).o<(l.getD (jd l out i).toNat default).o)||(decide ((l.getD i default).o=(l.getD (jd l out i).toNat default).o)&&decide ((l.getD i default).s<(l.getD (jd l out i).toNat default).s)))):=rfl
   rw [hbt] at nx
   clear hbt hstep
   generalize jd l out i=bb at r1 r2 nx
   have q1:=wK hli
   have q2:0≤bb→(qY l).getD bb.toNat []=(l.getD bb.toNat default).d:=fun h=>wK (by omega)
   obtain ⟨e1,e2,e3⟩:=hl (l.getD i default) (by rw [js hli];exact List.getElem_mem hli)
   generalize l.getD i default=e at q1 nx e1 e2 e3
   generalize l.getD bb.toNat default=lb at q2 nx
   have hd:=@dE e
   have hdl:=@dE lb
   simp+contextual only [qm,qg,qh,q1,hd,↓Vo,↓XP,↓XU,qn,XW1,qa,qb,qc,qd,qe,qf,reduceCtorEq]
   refine fun _=>⟨fun _ b1 h1=>?_,fun hge=>absurd (by omega) hge⟩
   refine ⟨_,fun _ _=>f_ready (p:=e) e1 e2 e3 ⟨rfl,rfl⟩,?_⟩
   rcases hr:ready out e with _|_
   ·simp+contextual only [qm,qg,qh,q1,hd,qp (show i≤big by omega),↓Vo,↓XP,↓XU,qn,XW1,qa,qb,qc,qd,qe,qf,reduceCtorEq]
    refine nx _ _ _ ?_
    simp only [hr,Bool.false_and,Bool.false_eq_true,if_false]
    exact ⟨rfl,rfl,rfl,rfl,rfl,rfl,trivial⟩
   simp+contextual only [qm,qg,qh,q1,hd,↓Vo,↓XP,↓XU,qn,XW1,qa,qb,qc,qd,qe,qf,reduceCtorEq]
   refine fun _ _=>⟨_,fun _ _=>JE ⟨rfl,rfl⟩,?_⟩
   rcases hk:known out e.o e.s with _|_
   rotate_left
   ·simp+contextual only [qm,qg,qh,q1,hd,qp (show i≤big by omega),↓Vo,↓XP,↓XU,qn,XW1,qa,qb,qc,qd,qe,qf,reduceCtorEq]
    refine nx _ _ _ ?_
    simp only [hr,hk,Bool.not_true,Bool.and_false,Bool.false_and,Bool.false_eq_true,if_false]
    exact ⟨rfl,rfl,rfl,rfl,rfl,rfl,trivial⟩
   simp only [hr,hk,Bool.not_false,Bool.and_true,Bool.true_and] at nx
   by_cases hb0:bb<0
   ·simp only [hb0,decide_true,Bool.true_or,if_true] at nx
    simp+contextual only [qm,qg,qh,q1,hd,hb0,qp (show i≤big by omega),↓Vo,↓XP,↓XU,qn,XW1,qa,qb,qc,qd,qe,qf,reduceCtorEq]
    exact nx _ _ _ ⟨rfl,rfl,rfl,rfl,rfl,rfl,trivial⟩
   ·have q3:=q2 (by omega)
    simp only [hb0,decide_false,Bool.false_or] at nx
    simp+contextual only [qm,qg,qh,q1,q3,hd,hdl,hb0,qp (show i≤big by omega),↓Vo,↓XP,↓XU,qn,XW1,qa,qb,qc,qd,qe,qf,reduceCtorEq]
    refine fun _=>⟨by omega,by omega,fun _=>⟨fun c1=>?_,fun c1=>⟨by omega,by omega,fun c2 _=>⟨by omega,by omega,fun _=>⟨fun c3=>?_,fun c3=>?_⟩⟩,fun c2=>?_⟩⟩⟩
    ·rw [if_pos (by simp [c1])] at nx
     exact nx _ _ _ ⟨rfl,rfl,rfl,rfl,rfl,rfl,trivial⟩
    ·rw [if_pos (by simp [c2,c3])] at nx
     exact nx _ _ _ ⟨rfl,rfl,rfl,rfl,rfl,rfl,trivial⟩
    ·rw [if_neg (by simp [c1,c3])] at nx
     exact nx _ _ _ ⟨rfl,rfl,rfl,rfl,rfl,rfl,trivial⟩
    ·rw [if_neg (by simp [c1,c2])] at nx
     exact nx _ _ _ ⟨rfl,rfl,rfl,rfl,rfl,rfl,trivial⟩
  ·have hik:i=l.length:=by omega
   subst hik
   clear hN2
   simp+contextual only [qm,qg,qh,↓Vo,↓XP,↓XU,qn,XW1,qa,qb,qc,qd,qe,qf,reduceCtorEq]
   refine fun _=>hE2 _ _ _ ?_
   clear hE2 hR2
   obtain ⟨r1,r2⟩:=vS (l:=l) (out:=out) l.length
   rw [show n+1=n+1 from rfl] at hsn
   by_cases hb0:jd l out l.length<0
   ·rw [if_pos hb0] at hsn
    have hor:ordered l=out:=by
     unfold ordered
     have:=gN (l:=l) (n:=n+1) (by rw [hsn]) (l.length - (n+1))
     rw [show n+1+(l.length - (n+1))=l.length by omega,hsn] at this
     rw [this]
    rw [hor] at h
    clear hN hE
    generalize jd l out l.length=bb at r1 r2 hb0 ⊢
    simp+contextual only [qm,qg,qh,hb0,↓Vo,↓XP,↓XU,qn,XW1,qa,qb,qc,qd,qe,qf,reduceCtorEq]
    refine hR _ _ ?_
    simp+contextual only [qm,qg,qh,↓Vo,↓XP,↓XU,qn,XW1,qa,qb,qc,qd,qe,qf,reduceCtorEq]
    exact h
   ·rw [if_neg hb0] at hsn
    have nx:∀F',Fr 82 [(0,.slc (qY l)),(3,.own (qY (out++ [l.getD (jd l out l.length).toNat default]))),(4,.int .i64 ((n+1:Nat):Int))] F'→K .normal F' H:=fun F' hF'=>hN _ _ ⟨n+1,_,hlt,hsn,hF',(j7 rfl).symm⟩ (by
     rw [List.getD_eq_getElem?_getD,hF'.2.2.2.1]
     simp only [List.getD_cons_succ,List.getD_cons_zero,Option.getD_some]
     omega)
    clear hN hE hR h
    have q2:(qY l).getD (jd l out l.length).toNat []=(l.getD (jd l out l.length).toNat default).d:=wK (by omega)
    generalize jd l out l.length=bb at r1 r2 hb0 q2 nx ⊢
    generalize l.getD bb.toNat default=e at q2 nx
    have hd:=@dE e
    simp+contextual only [qm,qg,qh,hb0,q2,hd,qp (show n≤big by omega),↓Vo,↓XP,↓XU,qn,XW1,qa,qb,qc,qd,qe,qf,reduceCtorEq]
    refine ⟨by omega,by omega,pts_6,by omega,?_⟩
    rw [←V2,show qY [e]= [e.d] from rfl,hd] at nx
    exact nx _ ⟨rfl,rfl,rfl,rfl,trivial⟩
 ·have hik:n=l.length:=by omega
  subst hik
  clear hN
  simp+contextual only [qm,qg,qh,↓Vo,↓XP,↓XU,qn,XW1,qa,qb,qc,qd,qe,qf,reduceCtorEq]
  refine fun _=>hE _ _ _ ?_
  rw [show ordered l=out by unfold ordered;rw [ho]] at h
  simp+contextual only [qm,qg,qh,↓Vo,↓XP,↓XU,qn,XW1,qa,qb,qc,qd,qe,qf,reduceCtorEq]
  exact h
end Go.Proofs.YtpdhandimdibhaaGreatDoor
end
section
namespace Go.Proofs.YtpdhandimdibhaaGreatDoor
open Go Go.Aw
theorem Sbn.perm {H H':AH} (h:H'.Perm H):Sbn H' H:=fun hn=>⟨(h.map _).nodup_iff.2 hn,fun p hp=>h.subset hp⟩
theorem uC {l:List Int} {offices:Nat} (ho:offices≤10):∀i,GInv (qZ l offices i)∧(qZ l offices i).l.length=i
 |0=>⟨GInv.nil,rfl⟩
 | i+1=>by
  obtain ⟨h1,h2⟩:=uC (l:=l) ho i
  exact ⟨h1.next ho _,by simp [qZ,next,h2]⟩
def Rooms (b4:Nat) (x:Gs) (bl cl bp cp:Nat) (Hm H:AH):Prop:=
 (x.l= []∧x.past= []∧Hm= [])∨(x.l≠ []∧x.past≠ []∧bl≠bp∧bl≠b4∧bp≠b4∧Hm= [(bp,.room cp (j5 x.past)),(bl,.room cl (qY x.l))])
theorem pts_nil {l:List Pt}:qY l= []↔l= []:=by simp [qY]
theorem past_nil {l:List (List Bool)}:j5 l= []↔l= []:=by simp [j5]
theorem Us {args:List D} {H:AH} {R:D→AH→Prop} (h:facts args→xcode Tryz.prog Uh (args++List.replicate (28 - args.length) (.tup [])) H (JB Tryz.prog [.tmp 2] R)):ACall Tryz.prog 14 args H R:=
 yy hm Tryz.func14 rfl (by kernel_rfl) (by kernel_rfl) (by kernel_rfl) (by kernel_rfl) (by kernel_rfl) (by kernel_rfl) h
theorem VU {l:List Int} {H:AH} {R:D→AH→Prop} (h:R (.own (qY (patches l))) H):ACall Tryz.prog 14 [.slc (ints l)] H R:=by
 refine Us fun hf=>?_
 have hbig:=qt
 have a0:=qv (l:=l) (i:=0) (most:=8) (by omega)
 have a1:=qv (l:=l) (i:=1) (most:=2) (by omega)
 simp+contextual only [Uh,qg,qh,j8,ji,↓Gd,↓XP,↓XU,qn,XW1,qa,qb,qc,qd,qe,qf,reduceCtorEq]
 refine jJ (i:=1) (by omega) ?_
 obtain ⟨o,ho⟩:∃o:Nat,2+jG l 1 2=o:=⟨_,rfl⟩
 obtain ⟨n,hn⟩:∃n:Nat,2+jG l 0 8=n:=⟨_,rfl⟩
 have w1:IntKind.i64.wrap (2+qB l 1 2)=(o:Int):=by rw [qJ (by omega) (by omega)];unfold jG at ho;omega
 have w0:IntKind.i64.wrap (2+qB l 0 8)=(n:Int):=by rw [qJ (by omega) (by omega)];unfold jG at hn;omega
 have ho':o≤10∧1≤o:=by unfold jG at ho;omega
 have hn':n≤9:=by unfold jG at hn;omega
 have hpt:patches l=ordered (qZ l o n).l:=by unfold patches;rw [ho,hn]
 rw [hpt] at h
 simp+contextual only [Uh,qg,qh,j8,ji,w1,↓Gd,↓XP,↓XU,qn,XW1,qa,qb,qc,qd,qe,qf,reduceCtorEq]
 intro _ b4 h4
 refine XW.loopKR hm (fun F H'=>∃(i:Nat) (x:Gs) (bl cl bp cp:Nat) (Hm:AH),i≤n∧x=qZ l o i∧Rooms b4 x bl cl bp cp Hm H∧Fr 28 [(0,.slc (ints l)),(3,.int .i64 o),(4,.ptr b4 0),(5,.int .i64 (i:Int))] F∧((b4,AO.cells [.osl bl cl (qY x.l),.osl bp cp (j5 x.past)])::(Hm++H))=H') (fun F H=>match F.getD 5 .any with| .int _ n'=>n - n'.toNat|_=>0) ⟨0,⟨[],[]⟩,0,0,0,0,[],by omega,rfl,.inl ⟨rfl,rfl,rfl⟩,⟨rfl,rfl,rfl,rfl,rfl,trivial⟩,rfl⟩ ?_
 rintro _ _ ⟨i,x,bl,cl,bp,cp,Hm,hi,hx,hr,hF,rfl⟩ K hN hE hR
 obtain ⟨z,rfl⟩:∃z:Nat→D,_= .slc (ints l)::zz z 1 2 (.int .i64 o:: .ptr b4 0:: .int .i64 (i:Int)::zz z 6 22 []):=hF.lit
 try dsimp only [zz,qb] at*
 clear hF hR
 obtain ⟨gi,gl⟩:=uC (l:=l) (offices:=o) ho'.1 i
 rw [←hx] at gi gl
 by_cases hlt:i<n
 ·have w2:IntKind.i64.wrap (32*(i:Int))=32*(i:Int):=qJ (by omega) (by omega)
  have w3:IntKind.i64.wrap (2+32*(i:Int))=((2+32*i:Nat):Int):=by rw [qJ (by omega) (by omega)];omega
  simp+contextual only [Uh,qg,qh,j8,ji,w0,↓Gd,↓XP,↓XU,qn,XW1,qa,qb,qc,qd,qe,qf,reduceCtorEq]
  refine jJ (i:=0) (by omega) ?_
  simp+contextual only [Uh,qg,qh,j8,ji,w0,w2,w3,↓Gd,↓XP,↓XU,qn,XW1,qa,qb,qc,qd,qe,qf,reduceCtorEq]
  refine fun _=>⟨fun _=>⟨_,fun _ _=>ku ⟨rfl,rfl⟩,?_⟩,fun hge=>absurd (by omega) hge⟩
  simp+contextual only [Uh,qg,qh,j8,ji,w0,w2,w3,↓Gd,↓XP,↓XU,qn,XW1,qa,qb,qc,qd,qe,qf,reduceCtorEq]
  have hr1:qY x.l≠ []→qu ((b4,AO.cells [.osl bl cl (qY x.l),.osl bp cp (j5 x.past)])::(Hm++H)) bl=some (.room cl (qY x.l)):=fun hne=>by
   rcases hr with ⟨e,_⟩|⟨_,_,e1,e2,e3,rfl⟩
   ·exact (hne (pts_nil.2 e)).elim
   ·show qu ((b4,_)::(bp,_)::(bl,_)::H) bl=_
    rw [qg e2,qg e1,jS]
  have hr2:j5 x.past≠ []→qu ((b4,AO.cells [.osl bl cl (qY x.l),.osl bp cp (j5 x.past)])::(Hm++H)) bp=some (.room cp (j5 x.past)):=fun hne=>by
   rcases hr with ⟨_,e,_⟩|⟨_,_,e1,e2,e3,rfl⟩
   ·exact (hne (past_nil.2 e)).elim
   ·show qu ((b4,_)::(bp,_)::(bl,_)::H) bp=_
    rw [qg e3,jS]
  have hdr:jx (jx ((b4,AO.cells [.osl bl cl (qY x.l),.osl bp cp (j5 x.past)])::(Hm++H)) bl (qY x.l)) bp (j5 x.past)=(b4,AO.cells [.osl bl cl (qY x.l),.osl bp cp (j5 x.past)])::H:=by
   rcases hr with ⟨e,e',rfl⟩|⟨e0,e0',e1,e2,e3,rfl⟩
   ·rw [pts_nil.2 e,past_nil.2 e',zH,zH];rfl
   ·show jx (jx ((b4,_)::(bp,_)::(bl,_)::H) bl (qY x.l)) bp (j5 x.past)=_
    unfold jx
    rw [if_neg (fun e=>e0 (pts_nil.1 e)),if_neg (fun e=>e0' (past_nil.1 e)),jK e2,jK e1,vK,jK e3,vK]
  refine fun _=>f_next gi (by omega) ho'.2 ho'.1 hr1 hr2 (fun bl' cl' bp' cp' t1 t2 t3=>?_)
  rw [hdr] at t2 t3 ⊢
  simp only [Jz] at t2 t3
  obtain ⟨u1,t2⟩:=t2
  obtain ⟨u2,t3⟩:=t3
  have hx2:next x o (l.drop (2+32*i))=qZ l o (i+1):=by rw [hx];rfl
  rw [hx2]
  obtain ⟨gi2,gl2⟩:=uC (l:=l) (offices:=o) ho'.1 (i+1)
  have hne1:(qZ l o (i+1)).l≠ []:=fun e=>by rw [e] at gl2;simp at gl2
  have hne2:(qZ l o (i+1)).past≠ []:=fun e=>by have:=gi2.np;rw [e,gl2] at this;simp at this
  simp+contextual only [Uh,qg,qh,j8,ji,u1,u2,qp (show i≤big by omega),↓Gd,↓XP,↓XU,qn,XW1,qa,qb,qc,qd,qe,qf,reduceCtorEq]
  refine hN _ _ ((b4,AO.cells [.osl bl' cl' (qY (qZ l o (i+1)).l),.osl bp' cp' (j5 (qZ l o (i+1)).past)])::([(bp',AO.room cp' (j5 (qZ l o (i+1)).past)),(bl',AO.room cl' (qY (qZ l o (i+1)).l))]++H)) ?_ ⟨i+1,_,bl',cl',bp',cp',_,hlt,rfl,.inr ⟨hne1,hne2,t1,Ne.symm u1,Ne.symm u2,rfl⟩,⟨rfl,rfl,rfl,rfl,rfl,trivial⟩,rfl⟩ ?_
  ·exact Sbn.perm ((List.Perm.swap _ _ _).trans ((List.Perm.swap _ _ _).cons _))
  ·simp only [List.getD_cons_succ,List.getD_cons_zero]
   omega
 ·have hik:i=n:=by omega
  subst hik
  clear hN
  simp+contextual only [Uh,qg,qh,j8,ji,w0,↓Gd,↓XP,↓XU,qn,XW1,qa,qb,qc,qd,qe,qf,reduceCtorEq]
  refine jJ (i:=0) (by omega) ?_
  simp+contextual only [Uh,qg,qh,j8,ji,w0,↓Gd,↓XP,↓XU,qn,XW1,qa,qb,qc,qd,qe,qf,reduceCtorEq]
  refine fun _=>hE _ _ _ ?_
  simp+contextual only [Uh,qg,qh,j8,ji,w0,↓Gd,↓XP,↓XU,qn,XW1,qa,qb,qc,qd,qe,qf,reduceCtorEq]
  rw [zA]
  refine Gz.weak jS ?_
  simp+contextual only [Uh,qg,qh,j8,ji,D.wk,↓Gd,↓XP,↓XU,qn,XW1,qa,qb,qc,qd,qe,qf,reduceCtorEq]
  rw [←hx] at h
  refine fun _=>VP (by omega) (fun p hp=>?_) ?_
  ·have h1:=gi.sq p hp
   have h2:=gi.ne p hp
   omega
  ·simp+contextual only [Uh,qg,qh,j8,ji,↓Gd,↓XP,↓XU,qn,XW1,qa,qb,qc,qd,qe,qf,reduceCtorEq]
   exact fun _=>⟨H,Sbn.sub ((List.sublist_append_right _ _).cons _),h⟩
end Go.Proofs.YtpdhandimdibhaaGreatDoor
end
section
namespace Go.Proofs.YtpdhandimdibhaaGreatDoor
open Go Go.Aw
theorem f_some {l:List Int} {a:Int} {H:AH} {R:D→AH→Prop} (h:∀p,FV p→R (.agg p.d) H):ACall Tryz.prog 4 [.slc (ints l),.int .i64 a] H R:=by
 refine b4 fun hf=>?_
 have hbig:=qt
 obtain ⟨h1,h2,h3⟩:=Yx l
 have pl:(qY (patches l)).length=(patches l).length:=by simp [qY]
 simp+contextual only [x4,pl,↓U4,↓XP,↓XU,qn,XW1,qa,qb,qc,qd,qe,qf,reduceCtorEq]
 intro b4 h4
 refine VU ?_
 simp+contextual only [x4,pl,↓U4,↓XP,↓XU,qn,XW1,qa,qb,qc,qd,qe,qf,reduceCtorEq]
 refine fun _=>qH (by omega) ?_
 obtain ⟨r1,r2⟩:=qU (n:=a) (most:=((patches l).length:Int)) (by omega)
 obtain ⟨k,hk⟩:=Int.eq_ofNat_of_zero_le r1
 rw [hk] at r2 ⊢
 have hkl:k<(patches l).length:=by omega
 have q1:(qY (patches l)).getD k []=((patches l).getD k default).d:=by simp [qY,hkl]
 have hp:=h1 _ (jU (d:=default) hkl)
 generalize (patches l).getD k default=p at q1 hp
 have hd:=@dE p
 simp+contextual only [x4,pl,q1,hd,hkl,Int.ofNat_lt,↓U4,↓XP,↓XU,qn,XW1,qa,qb,qc,qd,qe,qf,reduceCtorEq]
 exact fun _=>h p hp
end Go.Proofs.YtpdhandimdibhaaGreatDoor
end
section
namespace Go.Aw
open Go Go.RowKit
theorem XW.loopS {P:Program} (hm:P.follows .mixedOrders=true) {x:XC} {F:List D} {H:AH} {Q:AQ} {σ:Type} (n:Nat) (fr:σ→List (Nat×D)) (hp:σ→AH) (μ:σ→Nat) (inv:σ→Prop) (s0:σ)
  (i0:inv s0) (f0:Fr n (fr s0) F) (e0:hp s0=H)
  (round:∀s (z:Nat→D),inv s→∀K:AQ,(∀s' F' H',inv s'→μ s'<μ s→Fr n (fr s') F'→back (hp s).length H'=hp s'→K .normal F' H')→(∀i F' H',Q (.exit i) F' H'→K (.exit i) F' H')→(∀F' H',Q .ret F' H'→K .ret F' H')→
   xcode P x ((List.range n).map (frm (fr s) z)) (hp s) K):XW P x F H Q:=by
 let I:Nat→List D→AH→Prop:=fun m F H=>∃s,inv s∧Fr n (fr s) F∧hp s=H∧μ s=m
 refine XW.loopK hm (fun F H=>∃m,I m F H) (fun F H=>open Classical in if h:∃m,I m F H then Classical.choose (least (fun m=>I m F H) h.choose h.choose_spec) else 0) ⟨_,s0,i0,f0,e0,rfl⟩ ?_
 intro F H hI K hN hE hR
 have hmin:=Classical.choose_spec (least (fun m=>I m F H) hI.choose hI.choose_spec)
 simp only [dif_pos hI] at hN
 generalize Classical.choose (least (fun m=>I m F H) hI.choose hI.choose_spec)=m at hmin hN
 obtain ⟨⟨s,h1,h2,h3,h4⟩,hl⟩:=hmin
 obtain ⟨z,rfl⟩:=h2.lit
 subst h3 h4
 refine round s z h1 K (fun s' F' H' g1 g2 g3 g4=>hN F' H' ⟨_,s',g1,g3,g4.symm,rfl⟩ ?_) hE hR
 have hex:∃m,I m F' (back (hp s).length H'):=⟨_,s',g1,g3,g4.symm,rfl⟩
 simp only [dif_pos hex]
 have hmin':=Classical.choose_spec (least (fun m=>I m F' (back (hp s).length H')) hex.choose hex.choose_spec)
 generalize Classical.choose (least (fun m=>I m F' (back (hp s).length H')) hex.choose hex.choose_spec)=m' at hmin'
 have:m'≤μ s':=Nat.le_of_not_lt fun hlt=>hmin'.2 _ hlt ⟨s',g1,g3,g4.symm,rfl⟩
 omega
section
variable {α:Type} {f:α→List D} {l a b:List α} {i n:Nat}
def jH (f:α→List D) (l:List α):List (List D):=l.map f
theorem js {d:α} (h:i<l.length):l.getD i d=l[i]:=by simp [h]
theorem jB:(jH f l).length=l.length:=by simp [jH]
theorem ZS [Inhabited α] (h:i<l.length):(jH f l).getD i []=f (l.getD i default):=by simp [jH,h]
theorem JX (h:∀x,(f x).length=n):∀x∈jH f l,x.length=n:=by
 intro x hx
 obtain ⟨t,_,rfl⟩:=List.mem_map.1 hx
 exact h t
theorem Ye:jH f a++jH f b=jH f (a++b):=by simp [jH]
theorem uQ:(jH f l).take i=jH f (l.take i):=by simp [jH]
theorem uU:(jH f l).drop i=jH f (l.drop i):=by simp [jH]
theorem yX [Inhabited α] (h:i<l.length):l.take (i+1)=l.take i++ [l.getD i default]:=by
 rw [List.take_add_one,js h]
 simp [h]
theorem uT [Inhabited α] (h:i<l.length):l.drop i=l.getD i default::l.drop (i+1):=by
 rw [js h]
 exact List.drop_eq_getElem_cons h
end
end Go.Aw
end
section
namespace Go.Aw
open Go Go.RowKit
theorem XW.loopSR {P:Program} (hm:P.follows .mixedOrders=true) {x:XC} {F:List D} {H:AH} {Q:AQ} {σ:Type} (n:Nat) (fr:σ→List (Nat×D)) (hp:σ→AH) (μ:σ→Nat) (inv:σ→Prop) (s0:σ)
  (i0:inv s0) (f0:Fr n (fr s0) F) (e0:hp s0=H)
  (round:∀s (z:Nat→D),inv s→∀K:AQ,(∀s' F' H',inv s'→μ s'<μ s→Fr n (fr s') F'→Sbn (hp s') H'→K .normal F' H')→(∀i F' H',Q (.exit i) F' H'→K (.exit i) F' H')→(∀F' H',Q .ret F' H'→K .ret F' H')→
   xcode P x ((List.range n).map (frm (fr s) z)) (hp s) K):XW P x F H Q:=by
 let I:Nat→List D→AH→Prop:=fun m F H=>∃s,inv s∧Fr n (fr s) F∧hp s=H∧μ s=m
 refine XW.loopKR hm (fun F H=>∃m,I m F H) (fun F H=>open Classical in if h:∃m,I m F H then Classical.choose (least (fun m=>I m F H) h.choose h.choose_spec) else 0) ⟨_,s0,i0,f0,e0,rfl⟩ ?_
 intro F H hI K hN hE hR
 have hmin:=Classical.choose_spec (least (fun m=>I m F H) hI.choose hI.choose_spec)
 simp only [dif_pos hI] at hN
 generalize Classical.choose (least (fun m=>I m F H) hI.choose hI.choose_spec)=m at hmin hN
 obtain ⟨⟨s,h1,h2,h3,h4⟩,hl⟩:=hmin
 obtain ⟨z,rfl⟩:=h2.lit
 subst h3 h4
 refine round s z h1 K (fun s' F' H' g1 g2 g3 g4=>hN F' H' _ g4 ⟨_,s',g1,g3,rfl,rfl⟩ ?_) hE hR
 have hex:∃m,I m F' (hp s'):=⟨_,s',g1,g3,rfl,rfl⟩
 simp only [dif_pos hex]
 have hmin':=Classical.choose_spec (least (fun m=>I m F' (hp s')) hex.choose hex.choose_spec)
 generalize Classical.choose (least (fun m=>I m F' (hp s')) hex.choose hex.choose_spec)=m' at hmin'
 have:m'≤μ s':=Nat.le_of_not_lt fun hlt=>hmin'.2 _ hlt ⟨s',g1,g3,rfl,rfl⟩
 omega
end Go.Aw
end
section
namespace Go.Proofs.YtpdhandimdibhaaGreatDoor
open Go Go.Aw
def KJ (n:Int):List D:= [.int .i64 n]
def Id3.lt (a b:Id3):Prop:=a.o<b.o∨a.o=b.o∧(a.s<b.s∨a.s=b.s∧a.i<b.i)
instance (a b:Id3):Decidable (Id3.lt a b):=by unfold Id3.lt;exact inferInstance
instance {a b:Id3}:NL (decide (Id3.lt a b)):=⟨trivial⟩
theorem id_ext {x y:Id3}:x=y↔x.o=y.o∧x.s=y.s∧x.i=y.i:=by
 cases x;cases y;simp
def JJ (a b:Int):Int:=if a<b then -1 else if b<a then 1 else 0
def orL:List Int→Int
 | []=>0
 |x::r=>if x=0 then orL r else x
def Zn (a b:Id3):Int:=orL [JJ a.o b.o,JJ a.s b.s,JJ a.i b.i]
theorem ordI_neg {a b:Id3}:Zn a b<0↔a.lt b:=by
 unfold Zn orL orL orL orL JJ Id3.lt
 repeat' split
 all_goals omega
theorem Km {a:Id3}:¬a.lt a:=by unfold Id3.lt;omega
theorem uy {a b c:Id3} (h:a.lt b) (h':b.lt c):a.lt c:=by unfold Id3.lt at*;omega
theorem YE {a b:Id3}:a.lt b∨a=b∨b.lt a:=by rw [id_ext];unfold Id3.lt;omega
theorem ZQ {a b:Id3} (h:a.lt b):¬b.lt a:=fun h'=>Km (uy h h')
def wB (x:Id3):List Id3→List Id3
 | []=>[x]
 |y::r=>if y.lt x then y::wB x r else if y=x then y::r else x::y::r
theorem zx {x y:Id3} {r:List Id3}:wB x (y::r)=if y.lt x then y::wB x r else if y=x then y::r else x::y::r:=rfl
theorem KS {x:Id3}:∀{l:List Id3},(wB x l).length≤l.length+1
 | []=>by simp [wB]
 | y::r=>by
  have:=KS (x:=x) (l:=r)
  unfold wB
  split
  ·simp;omega
  ·split<;>simp
theorem jP {xs:List (List D)}:(D.own xs).view= .slc xs:=rfl
theorem ids_1 {x:Id3}: [[.int .i64 x.o,.int .i64 x.s,.int .i64 x.i]]=jH Id3.d [x]:=rfl
def Inc (l:List Id3):Prop:=l.Pairwise Id3.lt
theorem WC:∀{a b:List Id3},Inc a→Inc b→(∀x,x∈a↔x∈b)→a=b
 | [],[],_,_,_=>rfl
 | [],y::b,_,_,h=>absurd ((h y).2 (.head _)) (by simp)
 |x::a,[],_,_,h=>absurd ((h x).1 (.head _)) (by simp)
 | x::a,y::b,ha,hb,h=>by
  have ha':=List.pairwise_cons.1 ha
  have hb':=List.pairwise_cons.1 hb
  have hxy:x=y:=by
   rcases List.mem_cons.1 ((h x).1 (.head _)) with h1|h1
   ·exact h1
   ·rcases List.mem_cons.1 ((h y).2 (.head _)) with h2|h2
    ·exact h2.symm
    ·exact absurd (ha'.1 y h2) (ZQ (hb'.1 x h1))
  subst hxy
  rw [WC ha'.2 hb'.2 fun z=>?_]
  have hz:=h z
  constructor
  ·intro hm
   rcases List.mem_cons.1 (hz.1 (.tail _ hm)) with h1|h1
   ·subst h1;exact absurd (ha'.1 _ hm) Km
   ·exact h1
  ·intro hm
   rcases List.mem_cons.1 (hz.2 (.tail _ hm)) with h1|h1
   ·subst h1;exact absurd (hb'.1 _ hm) Km
   ·exact h1
theorem insI_mem {x y:Id3}:∀{l:List Id3},y∈wB x l↔y=x∨y∈l
 | []=>by simp [wB]
 | z::r=>by
  rw [zx]
  split
  ·rw [List.mem_cons,insI_mem,List.mem_cons]
   constructor
   ·rintro (h|h|h)<;>simp [h]
   ·rintro (h|h|h)<;>simp [h]
  ·split
   ·rename_i h1 h2
    subst h2
    simp
   ·simp
theorem Yc {x:Id3}:∀{l:List Id3},Inc l→Inc (wB x l)
 | [],_=>by simp [wB,Inc]
 | z::r,h=>by
  have h':=List.pairwise_cons.1 h
  rw [zx]
  split
  ·rename_i h1
   refine List.pairwise_cons.2 ⟨fun y hy=>?_,Yc h'.2⟩
   rcases insI_mem.1 hy with h2|h2
   ·exact h2▸h1
   ·exact h'.1 y h2
  ·split
   ·exact h
   ·rename_i h1 h2
    have h3:x.lt z:=(YE (a:=z) (b:=x)).elim (fun h=>absurd h h1) (fun h=>h.elim (fun h=>absurd h h2) id)
    refine List.pairwise_cons.2 ⟨fun y hy=>?_,h⟩
    rcases List.mem_cons.1 hy with h4|h4
    ·exact h4▸h3
    ·exact uy h3 (h'.1 y h4)
def srt (l:List Id3):List Id3:=l.foldl (fun a x=>wB x a) []
theorem Ym {l:List Id3}:∀{a:List Id3},Inc a→Inc (l.foldl (fun a x=>wB x a) a)∧∀y,y∈l.foldl (fun a x=>wB x a) a↔y∈a∨y∈l:=by
 induction l with
 |nil=>intro a h;exact ⟨h,fun y=>by simp⟩
 | cons x r ih=>
  intro a h
  obtain ⟨h1,h2⟩:=ih (Yc (x:=x) h)
  refine ⟨h1,fun y=>?_⟩
  rw [List.foldl_cons,h2 y,insI_mem,List.mem_cons]
  constructor
  ·rintro ((h|h)|h)<;>simp [h]
  ·rintro (h|h|h)<;>simp [h]
theorem srt_inc {l:List Id3}:Inc (srt l):=(Ym (by simp [Inc])).1
theorem srt_mem {l:List Id3} {y:Id3}:y∈srt l↔y∈l:=by
 have:=(Ym (l:=l) (a:= []) (by simp [Inc])).2 y
 simpa [srt] using this
theorem srt_of {l a:List Id3} (h:Inc a) (hm:∀y,y∈a↔y∈l):a=srt l:=WC h srt_inc fun y=>by rw [hm,srt_mem]
theorem srt_len {l:List Id3}:(srt l).length≤l.length:=by
 have:∀{l a:List Id3},(l.foldl (fun a x=>wB x a) a).length≤a.length+l.length:=by
  intro l
  induction l with
  |nil=>simp
  | cons x r ih=>
   intro a
   have h1:=ih (a:=wB x a)
   have h2:=KS (x:=x) (l:=a)
   simp only [List.foldl_cons,List.length_cons]
   omega
 simpa [srt] using this (l:=l) (a:= [])
def dd:List Id3→List Id3
 | []=>[]
 |x::r=>x::go x r
 where go:Id3→List Id3→List Id3
 |_,[]=>[]
 |p,x::r=>if x=p then go p r else x::go x r
theorem zj:∀{p:Id3} {l:List Id3},(p::l).Pairwise (fun x y=>¬y.lt x)→(∀y∈dd.go p l,p.lt y)∧Inc (dd.go p l)∧∀y,y∈p::dd.go p l↔y∈p::l
 |p,[],_=>⟨by simp [dd.go],by simp [dd.go,Inc],fun y=>by simp [dd.go]⟩
 | p,x::r,h=>by
  have h1:=List.pairwise_cons.1 h
  have h2:=List.pairwise_cons.1 h1.2
  rw [dd.go]
  split
  ·rename_i e
   subst e
   obtain ⟨q1,q2,q3⟩:=zj (p:=x) (l:=r) h1.2
   refine ⟨q1,q2,fun y=>?_⟩
   rw [q3 y]
   simp
  ·rename_i e
   obtain ⟨q1,q2,q3⟩:=zj (p:=x) (l:=r) h1.2
   have hpx:p.lt x:=(YE (a:=p) (b:=x)).elim id fun h=>h.elim (fun h=>absurd h.symm e) fun h=>absurd h (h1.1 x (.head _))
   refine ⟨fun y hy=>?_,List.pairwise_cons.2 ⟨q1,q2⟩,fun y=>?_⟩
   ·rcases List.mem_cons.1 hy with h3|h3
    ·exact h3▸hpx
    ·exact uy hpx (q1 y h3)
   ·rw [List.mem_cons,q3 y]
    simp
theorem dd_srt {l m:List Id3} (hp:m.Perm l) (h:m.Pairwise (fun x y=>¬y.lt x)):dd m=srt l:=by
 refine srt_of ?_ fun y=>?_
 ·cases m with
  |nil=>simp [dd,Inc]
  | cons x r=>
   obtain ⟨q1,q2,q3⟩:=zj h
   exact List.pairwise_cons.2 ⟨q1,q2⟩
 ·rw [←hp.mem_iff]
  cases m with
  |nil=>simp [dd]
  |cons x r=>exact (zj h).2.2 y
def Un (x:Id3):Prop:=vk .i64 x.o∧vk .i64 x.s∧vk .i64 x.i
theorem V1 {p:Id3→Prop}:∀{l:List Id3},(∀x∈l,p x)→∃l':List {x:Id3 // p x},l'.map (·.1)=l
 | [],_=>⟨[],rfl⟩
 | x::r,h=>by
  obtain ⟨l',e⟩:=V1 (l:=r) fun y hy=>h y (.tail _ hy)
  exact ⟨⟨x,h x (.head _)⟩::l',by simp [e]⟩
end Go.Proofs.YtpdhandimdibhaaGreatDoor
end
section
namespace Go.Aw
open Go Go.RowKit
theorem ACall.view {P:Program} {f:FuncId} {args:List D} {H:AH} {R:D→AH→Prop} (h:ACall P f args H (fun d H'=>R d.view H')):ACall P f args H R:=
 ⟨h.1,fun K w vs h1 h2 h3 h4 h5=>(h.2 K w vs h1 h2 h3 h4 h5).mono fun e w' ⟨v,d,H',K',g1,g2,g3,g4,g5,g6⟩=>⟨v,d.view,H',K',g1,g2,g3,g4,g5,g6.rep.viewO⟩⟩
end Go.Aw
namespace Go.Proofs.YtpdhandimdibhaaGreatDoor
open Go Go.Aw
theorem imd_get {l:List Int} {i:Nat} (h:i<l.length):(jH KJ l).getD i []= [.int .i64 l[i]]:=by simp [jH,KJ,h]
theorem G3 {x y:Id3} {H:AH} {R:D→AH→Prop} (h:R (.bool (decide (x.lt y))) H):ACall Tryz.prog 39 [.agg x.d,.agg y.d] H R:=by
 refine b39 fun hf=>?_
 have hx:x.d= [.int .i64 x.o,.int .i64 x.s,.int .i64 x.i]:=rfl
 have hy:y.d= [.int .i64 y.o,.int .i64 y.s,.int .i64 y.i]:=rfl
 have hk:∀c,decide (x.lt y)=c→R (.bool c) H:=fun b hb=>hb▸h
 simp+contextual only [x39,hx,hy,↓U39,↓XP,↓XU,qn,XW1,qa,qb,qc,qd,qe,qf,reduceCtorEq]
 repeat' (first|apply And.intro|intro _)
 all_goals first
  |exact hk _ (decide_eq_true (by unfold Id3.lt;omega))
  |exact hk _ (decide_eq_false (by unfold Id3.lt;omega))
  |exact hk _ (decide_eq_decide.2 (by unfold Id3.lt;omega))
  |skip
theorem WU {a:Int} {H:AH} {R:D→AH→Prop} (h:R (.bool false) H):ACall Tryz.prog 68 [.int .i64 a] H R:=by
 refine b68 fun hf=>?_
 simp+contextual only [x68,↓u68_s0,↓XP,↓XU,qn,XW1,qa,qb,qc,qd,qe,qf,reduceCtorEq]
 exact h
theorem JP {a b:Int} {H:AH} {R:D→AH→Prop} (h:R (.int .i64 (JJ a b)) H):ACall Tryz.prog 38 [.int .i64 a,.int .i64 b] H R:=by
 refine b38 fun hf=>?_
 unfold JJ at h
 simp+contextual only [x38,↓U38,↓XP,↓XU,qn,XW1,qa,qb,qc,qd,qe,qf,reduceCtorEq]
 refine WU ?_
 simp+contextual only [↓U38,↓XP,↓XU,qn,XW1,qa,qb,qc,qd,qe,qf,reduceCtorEq]
 refine WU ?_
 simp+contextual only [↓U38,↓XP,↓XU,qn,XW1,qa,qb,qc,qd,qe,qf,reduceCtorEq]
 refine ⟨fun h1=>by simpa [h1] using h,fun h1=>⟨fun h2=>?_,fun h2=>?_⟩⟩
 ·simpa [h1,h2] using h
 ·simpa [h1,h2] using h
theorem cmp_or {l:List Int} {H:AH} {R:D→AH→Prop} (h:R (.int .i64 (orL l)) H):ACall Tryz.prog 37 [.slc (jH KJ l)] H R:=by
 refine b37 fun hf=>?_
 have hbig:=qt
 have hlen:(jH KJ l).length≤big:=hf.1
 rw [jB] at hlen
 simp+contextual only [x37,jB,↓U37,↓XP,↓XU,qn,XW1,qa,qb,qc,qd,qe,qf,reduceCtorEq]
 refine fun _=>XW.loopS Go.Proofs.YtpdhandimdibhaaGreatDoor.hm 18 (fun i:Nat=>[(0,.slc (jH KJ l)),(3,.int .i64 0),(6,.slc (jH KJ l)),(7,.int .i64 l.length),(8,.int .i64 ((i:Nat):Int))]) (fun i=>H) (fun i=>l.length - i) (fun i=>i≤l.length∧orL (l.drop i)=orL l) 0 ⟨by omega,rfl⟩ ⟨rfl,rfl,rfl,rfl,rfl,rfl,trivial⟩ rfl ?_
 rintro i z ⟨hi,hd⟩ K hN hE hR
 show xcode _ _ [.slc (jH KJ l),z 1,z 2,.int .i64 0,z 4,z 5,.slc (jH KJ l),.int .i64 l.length,.int .i64 ((i:Nat):Int),z 9,z 10,z 11,z 12,z 13,z 14,z 15,z 16,z 17] _ K
 by_cases hlt:i<l.length
 ·rw [List.drop_eq_getElem_cons hlt,orL] at hd
  have g:=imd_get hlt
  have hlt':((i:Int)<(l.length:Int))=True:=eq_true (by omega)
  by_cases h0:l[i]=0
  ·rw [if_pos h0] at hd
   simp+contextual only [x37,jB,g,hlt',h0,qp (show i≤big by omega),↓U37,↓XP,↓XU,qn,XW1,qa,qb,qc,qd,qe,qf,reduceCtorEq]
   repeat' (first|apply And.intro|intro _)
   all_goals first
    |exact hN (i+1) _ _ ⟨hlt,hd⟩ (by omega) ⟨rfl,rfl,rfl,rfl,rfl,rfl,trivial⟩ (j7 rfl)
    |omega
    |skip
  ·rw [if_neg h0] at hd
   simp+contextual only [x37,jB,g,hlt',eq_false h0,↓U37,↓XP,↓XU,qn,XW1,qa,qb,qc,qd,qe,qf,reduceCtorEq]
   repeat' (first|apply And.intro|intro _)
   all_goals first
    |exact hR _ _ (by simp+contextual only [x37,jB,↓U37,↓XP,↓XU,qn,XW1,qa,qb,qc,qd,qe,qf,reduceCtorEq];rw [←hd] at h;exact h)
    |omega
    |skip
 ·have hik:i=l.length:=by omega
  subst hik
  simp+contextual only [x37,jB,↓U37,↓XP,↓XU,qn,XW1,qa,qb,qc,qd,qe,qf,reduceCtorEq]
  refine hE _ _ _ ?_
  simp+contextual only [x37,jB,↓U37,↓XP,↓XU,qn,XW1,qa,qb,qc,qd,qe,qf,reduceCtorEq]
  rw [List.drop_length] at hd
  rw [←hd] at h
  exact h
theorem f_order {x y:Id3} {H:AH} {R:D→AH→Prop} (h:R (.int .i64 (Zn x y)) H):ACall Tryz.prog 20 [.agg x.d,.agg y.d] H R:=by
 refine b20 fun hf=>?_
 have hx:x.d= [.int .i64 x.o,.int .i64 x.s,.int .i64 x.i]:=rfl
 have hy:y.d= [.int .i64 y.o,.int .i64 y.s,.int .i64 y.i]:=rfl
 simp+contextual only [x20,hx,hy,↓Qo,↓XP,↓XU,qn,XW1,qa,qb,qc,qd,qe,qf,reduceCtorEq]
 rintro b1 h1 b2 ⟨h2,h3⟩
 intros
 refine ⟨_,fun _ _=>JP ⟨rfl,rfl⟩,?_⟩
 simp+contextual only [qg,qh,h2,↓Qo,↓XP,↓XU,qn,XW1,qa,qb,qc,qd,qe,qf,reduceCtorEq]
 intros
 refine ⟨_,fun _ _=>JP ⟨rfl,rfl⟩,?_⟩
 simp+contextual only [qg,qh,h2,↓Qo,↓XP,↓XU,qn,XW1,qa,qb,qc,qd,qe,qf,reduceCtorEq]
 intros
 refine ⟨_,fun _ _=>JP ⟨rfl,rfl⟩,?_⟩
 simp+contextual only [qg,qh,h2,↓Qo,↓XP,↓XU,qn,XW1,qa,qb,qc,qd,qe,qf,reduceCtorEq]
 intros
 refine ⟨_,fun _ _=>cmp_or (l:= [JJ x.o y.o,JJ x.s y.s,JJ x.i y.i]) ⟨rfl,rfl⟩,?_⟩
 simp+contextual only [qg,qh,h2,↓Qo,↓XP,↓XU,qn,XW1,qa,qb,qc,qd,qe,qf,reduceCtorEq]
 intros
 exact h
theorem z6 {l:List Id3} {x:Id3} {H:AH} {R:D→AH→Prop} (hl:l.length≤1073741824) (h:R (.slc (jH Id3.d (wB x l))) H):ACall Tryz.prog 22 [.slc (jH Id3.d l),.agg x.d] H R:=by
 refine ACall.view (b22 fun hf=>?_)
 have hbig:=qt
 have hk:∀q,wB x l=q→R (.slc (jH Id3.d q)) H:=fun q hq=>hq▸h
 have hx:x.d= [.int .i64 x.o,.int .i64 x.s,.int .i64 x.i]:=rfl
 simp+contextual only [x22,jB,hx,↓U22,↓XP,↓XU,qn,XW1,qa,qb,qc,qd,qe,qf,reduceCtorEq]
 intro b1 h1
 refine XW.loopS Go.Proofs.YtpdhandimdibhaaGreatDoor.hm 48 (fun i:Nat=>[(0,.slc (jH Id3.d l)),(3,.ptr b1 0),(5,.int .i64 ((i:Nat):Int))]) (fun i=>(b1,AO.cells [.int .i64 x.o,.int .i64 x.s,.int .i64 x.i])::H) (fun i=>l.length - i) (fun i=>i≤l.length∧l.take i++wB x (l.drop i)=wB x l) 0 ⟨by omega,by simp⟩ ⟨rfl,rfl,rfl,rfl,trivial⟩ rfl ?_
 rintro i z ⟨hi,hn⟩ K hN hE hR
 show xcode _ _ [.slc (jH Id3.d l),z 1,z 2,.ptr b1 0,z 4,.int .i64 ((i:Nat):Int),z 6,z 7,z 8,z 9,z 10,z 11,z 12,z 13,z 14,z 15,z 16,z 17,z 18,z 19,z 20,z 21,z 22,z 23,z 24,z 25,z 26,z 27,z 28,z 29,z 30,z 31,z 32,z 33,z 34,z 35,z 36,z 37,z 38,z 39,z 40,z 41,z 42,z 43,z 44,z 45,z 46,z 47] _ K
 have hsz:∀q:List Id3,∀y∈jH Id3.d q,y.length=3:=fun q=>JX fun _=>rfl
 have g7:((jH Id3.d l).take i).drop 0=jH Id3.d (l.take i):=by rw [List.drop_zero,uQ]
 have tk2:((jH Id3.d l).take (jH Id3.d l).length).drop i=jH Id3.d (l.drop i):=by rw [List.take_length,uU]
 by_cases hlt:i<l.length
 ·have g:=ZS (f:=Id3.d) hlt
  have hlt':((i:Int)<(l.length:Int))=True:=eq_true (by omega)
  rw [uT hlt] at hn
  have hts:=yX hlt
  have hdr:=uT hlt
  generalize l.getD i default=y at g hn hts hdr
  have hy:y.d= [.int .i64 y.o,.int .i64 y.s,.int .i64 y.i]:=rfl
  have hd:=jz (x:=y) (y:=x)
  have hlen1:(l.take i).length=i:=by simp;omega
  rw [zx] at hn
  by_cases h0:y.lt x
  ·rw [if_pos h0] at hn
   simp+contextual only [x22,jB,hx,g,hy,hlt',↓U22,↓XP,↓XU,qn,XW1,qa,qb,qc,qd,qe,qf,reduceCtorEq]
   intros
   refine ⟨_,fun _ _=>G3 (x:=y) (y:=x) ⟨rfl,rfl⟩,?_⟩
   simp+contextual only [x22,jB,hx,decide_eq_true h0,qp (show i≤big by omega),↓U22,↓XP,↓XU,qn,XW1,qa,qb,qc,qd,qe,qf,reduceCtorEq]
   refine hN (i+1) _ _ ⟨hlt,?_⟩ (by omega) ⟨rfl,rfl,rfl,rfl,trivial⟩ (j7 rfl)
   rw [hts,List.append_assoc]
   exact hn
  ·rw [if_neg h0] at hn
   simp+contextual only [x22,jB,hx,g,hy,hlt',↓U22,↓XP,↓XU,qn,XW1,qa,qb,qc,qd,qe,qf,reduceCtorEq]
   intros
   refine ⟨_,fun _ _=>G3 (x:=y) (y:=x) ⟨rfl,rfl⟩,?_⟩
   simp+contextual only [x22,jB,hx,decide_eq_false h0,↓U22,↓XP,↓XU,qn,XW1,qa,qb,qc,qd,qe,qf,reduceCtorEq]
   refine hE _ _ _ ?_
   by_cases h2:y=x
   ·rw [if_pos h2] at hn
    simp+contextual only [x22,jB,hx,g,hy,hlt',hd,eq_true h2,jP,↓U22,↓XP,↓XU,qn,XW1,qa,qb,qc,qd,qe,qf,reduceCtorEq]
    intros
    refine hk _ ?_
    rw [←hn,←hdr,List.take_append_drop]
   ·rw [if_neg h2] at hn
    simp+contextual only [x22,jB,hx,g,hy,hlt',hd,eq_false h2,ids_1 (x:=x),uQ,uU,Ye,List.take_length,jP,↓U22,↓XP,↓XU,qn,XW1,qa,qb,qc,qd,qe,qf,reduceCtorEq]
    repeat' (first|exact hsz _|apply And.intro|intro _)
    all_goals first
     |omega
     |(simp only [List.length_append,List.length_take,List.length_drop,List.length_cons,List.length_nil];omega)
     |skip
    refine hk _ ?_
    rw [List.append_assoc,List.singleton_append,hdr]
    exact hn.symm
 ·have hik:i=l.length:=by omega
  subst hik
  rw [List.take_length,List.drop_length] at hn
  simp+contextual only [x22,jB,hx,↓U22,↓XP,↓XU,qn,XW1,qa,qb,qc,qd,qe,qf,reduceCtorEq]
  intros
  refine hE _ _ _ ?_
  simp+contextual only [x22,jB,hx,ids_1 (x:=x),uQ,uU,Ye,List.take_length,List.drop_length,jP,↓U22,↓XP,↓XU,qn,XW1,qa,qb,qc,qd,qe,qf,reduceCtorEq]
  repeat' (first|exact hsz _|apply And.intro|intro _)
  all_goals first
   |omega
   |(simp only [List.length_append,List.length_take,List.length_drop,List.length_cons,List.length_nil];omega)
   |skip
  refine hk _ ?_
  exact hn.symm
end Go.Proofs.YtpdhandimdibhaaGreatDoor
end
