/- PatchSealed: for every input the call returns true. -/
import Derived.Test.YtgopigkdcmhbbaaGreatDoorS7
import Derived.KernelRfl
set_option autoImplicit true
set_option relaxedAutoImplicit true
set_option linter.unusedVariables false
set_option linter.unusedSimpArgs false
set_option maxRecDepth 100000
set_option maxHeartbeats 16000000
open List renaming getD_eq_getElem?_getD -> Ma,getD_cons_succ -> Mb,getD_cons_zero -> Mc,length_append -> Mg,append_assoc -> Mi,take_of_length_le -> Mm,length_set -> Mn,mem_cons -> Mo,append_nil -> Mq,nil_append -> Mr,cons_append -> Ms,flatten_cons -> Mt,length_replicate -> Mu
open Option renaming getD_some -> Md
open Int renaming cast_ofNat_Int -> Me,toNat_natCast -> Mf,eq_ofNat_of_zero_le -> Mp
open Bool renaming and_eq_true -> Mh
open Nat renaming le_trans -> Mj,le_refl -> Ml,reduceSub -> qa,reduceAdd -> qb,reduceMul -> qc,reduceEqDiff -> qd,reduceLeDiff -> qe,reduceBEq -> qf
section
namespace Go.Proofs.YtgopigkdcmhbbaaGreatDoor
open Go Go.Aw
variable {R:D->AH->Prop}
theorem li {x:Gs} {seen:List Bool} {p:Pt} {m:List Int} {b3 b6 b8:Nat} {c6:AO} {H:AH} {Q:AQ} {F:List D} (hx:GInv x) (hb:x.l.length<=20) (hs:seen.length=x.l.length) (hp:p.ops= []) (hv:VOk x seen p) (n38:b3≠b8) (n36:b3≠b6) (n68:b6≠b8)
  (hF:Fr 139 [(2,.slc (ints m)),(3,.ptr b3 0),(6,.ptr b6 0),(8,.ptr b8 0),(9,.slc (jK seen)),(13,.i 0)] F) (hE:∀F',Fr 139 [(2,.slc (ints m)),(3,.ptr b3 0),(6,.ptr b6 0),(8,.ptr b8 0),(9,.slc (jK seen))] F'->∀i,i=1+jL m 5 2->Q (.exit 4) F' ((b8,AO.cells (jb x seen p m i).d)::(b6,c6)::(b3,AO.cells [.own (jd x.l),.own (ja x.past)])::H)):
  ∀i,i=0->XW Tryz.prog (zb 61) F ((b8,AO.cells (jb x seen p m i).d)::(b6,c6)::(b3,AO.cells [.own (jd x.l),.own (ja x.past)])::H) Q:=by
 intro i0 hi0
 have hbig:=qn
 have a5:=qp (l:=m) (i:=5) (most:=2) (by omega)
 obtain ⟨n,hn⟩:∃n:Nat,1+jL m 5 2=n:=⟨_,rfl⟩
 have hn2:n<=2:=by unfold jL at hn;omega
 have hne:1+qy m 5 2=(n:Int):=by unfold jL at hn;omega
 have w1:IntKind.i64.wrap (1+qy m 5 2)=(n:Int):=by rw [hne];exact qj (by omega) (by omega)
 refine XW.loopK hm (fun F H'=>∃(i:Nat),i<=n∧Fr 139 [(2,.slc (ints m)),(3,.ptr b3 0),(6,.ptr b6 0),(8,.ptr b8 0),(9,.slc (jK seen)),(13,.i (i:Int))] F∧((b8,AO.cells (jb x seen p m i).d)::(b6,c6)::(b3,AO.cells [.own (jd x.l),.own (ja x.past)])::H)=H') (fun F H=>match F.getD 13 .any with| .int _ n'=>n - n'.toNat|_=>0) ⟨0,by omega,hF,by rw [hi0]⟩ ?_
 clear hF hi0
 rintro _ _ ⟨i,hi,hF,rfl⟩ K hN hE' hR
 obtain ⟨z,rfl⟩:=hF.fl rfl
 try dsimp only [fl,zz,qa,qb] at*
 clear hF hR
 by_cases hlt:i<n
 ·have nx:∀F',Fr 139 [(2,.slc (ints m)),(3,.ptr b3 0),(6,.ptr b6 0),(8,.ptr b8 0),(9,.slc (jK seen)),(13,.i ((i+1:Nat):Int))] F'->∀j,j=i+1->K .normal F' ((b8,AO.cells (jb x seen p m j).d)::(b6,c6)::(b3,AO.cells [.own (jd x.l),.own (ja x.past)])::H):=fun F' hF' j hj=>hN _ _ ⟨i+1,hlt,hF',by rw [hj];exact (qL rfl).symm⟩ (by
   rw [Ma,hF'.2.2.2.2.2.2.1]
   simp only [Mb,Mc,Md]
   omega)
  have nx2:=nx
  clear hN hE' hE nx
  obtain ⟨more,g1,g2⟩:=vn (x:=x) (seen:=seen) (p:=p) (m:=m) hp hv i
  have nx:=fun F' hF'=>nx2 F' hF' (i+1) rfl
  simp only [jb] at nx
  clear nx2
  generalize jb x seen p m i=q at g1 g2 nx ⊢
  have hqo:q.ops=more:=by rw [g1.eq];simp only [hp,Mr]
  have hql:=g1.len
  have hqk:=g1.ok
  rw [<-hqo] at hql hqk
  have hspl:=GJ hx (seen:=seen) (p:=q) hqk
  have w2:IntKind.i64.wrap (13*(i:Int))=13*(i:Int):=qj (by omega) (by omega)
  have w3:IntKind.i64.wrap (6+13*(i:Int))=((6+13*i:Nat):Int):=by rw [qj (by omega) (by omega)];omega
  have hd:q.d= [.i q.o,.i q.s,.i q.day,.slc (qF q.needs),.slc (qM q.ops),.str q.sl]:=rfl
  simp+contextual only [↓Yw,↓wc,↓XP,qA]
  refine jR (i:=5) (by omega) ?_
  simp+contextual only [qg,n38,n36,w1,hd,↓Yw,↓wc,↓XP,ql,XW1,qb]
  refine fun _=>⟨fun _=>?_,fun hge=>absurd (by omega) hge⟩
  simp+contextual only [w2,w3]
  refine ⟨_,fun _ _=>kv ⟨rfl,rfl⟩,?_⟩
  simp+contextual only [↓wc,↓XP,qA]
  refine fun _=>⟨_,fun _ _=>sB (x:=x) (p:=q) (by omega) (by omega) (fun q hq=>by have:=hx.op q hq;omega) (by omega) g2 hspl ⟨rfl,rfl⟩,?_⟩
  generalize step x seen q (List.drop (6+13*i) m)=p3 at nx ⊢
  have hd3:p3.d= [.i p3.o,.i p3.s,.i p3.day,.slc (qF p3.needs),.slc (qM p3.ops),.str p3.sl]:=rfl
  simp only [hd3] at nx
  simp+contextual only [hd3,qm (show i<=big by omega),↓Yw,↓wc,↓XP,ql,XW1,qb]
  exact nx _ ⟨rfl,rfl,rfl,rfl,rfl,rfl,rfl,trivial⟩
 ·have hik:i=n:=by omega
  subst hik
  clear hN
  simp+contextual only [↓Yw,↓wc,↓XP,qA]
  refine jR (i:=5) (by omega) ?_
  simp+contextual only [w1,↓wc,↓XP,qA]
  exact fun _=>hE' _ _ _ (hE _ ⟨rfl,rfl,rfl,rfl,rfl,rfl,trivial⟩ _ hn.symm)
theorem Jh (h:xs≠ []->b≠c):jO ((c,o)::H) b xs=(c,o)::jO H b xs:=by
 unfold jO
 split
 ·rfl
 ·rename_i hx
  rw [vY (h hx)]
theorem aw (h:xs≠ []->c≠b) (hg:qk H c=some o):qk (jO H b xs) c=some o:=by
 unfold jO
 split
 ·exact hg
 ·rename_i hx
  have hne:=h hx
  induction H with
  |nil=>cases hg
  | cons p r ih=>
   obtain ⟨e,o'⟩:=p
   unfold qI
   by_cases he:b=e
   ·rw [if_pos he]
    subst he
    rwa [qg hne] at hg
   ·rw [if_neg he]
    by_cases hc:c=e
    ·subst hc
     rw [jl] at hg ⊢
     exact hg
    ·rw [qg hc] at hg ⊢
     exact ih hg
theorem Gz.take2 {b3 b6} {k:List D->AH->Prop} (h3:qz H b3) (h6:qz H b6) (hl:xs≠ []->qk H bl=some (.room cl xs)) (hp:ys≠ []->qk H bp=some (.room cp ys)) (hne:xs≠ []->ys≠ []->bl≠bp)
  (h:∀Hr:AH,Hr=jO (jO H bl xs) bp ys->Hr.Sublist H->k F ((b6,c6)::(b3,.cells [.own xs,.own ys])::Hr)):Gz F ((b6,c6)::(b3,.cells [.osl bl cl xs,.osl bp cp ys])::H) k:=by
 have f3:∀{b o},qk H b=some o->b≠b3:=fun hg=>qD h3 hg
 have f6:∀{b o},qk H b=some o->b≠b6:=fun hg=>qD h6 hg
 refine Gz.bind (k:=fun F' H'=>F'=F∧H'=(b3,.cells [.osl bl cl xs,.osl bp cp ys])::(b6,c6)::H) (Gz.sb (fun hn=>?_) ⟨rfl,rfl⟩) ?_
 ·refine ⟨?_,fun p hp=>?_⟩
  ·simp only [List.map_cons,List.nodup_cons,Mo,not_or] at hn ⊢
   exact ⟨⟨fun e=>hn.1.1 e.symm,hn.2.1⟩,hn.1.2,hn.2.2⟩
  ·simp only [Mo] at hp ⊢
   rcases hp with h|h|h
   ·exact .inr (.inl h)
   ·exact .inl h
   ·exact .inr (.inr h)
 intro F2 H2 hh
 rw [hh.1,hh.2]
 clear hh
 refine Gz.bind (k:=fun F'' H''=>F''=F∧H''=(b3,.cells [.own xs,.osl bp cp ys])::(b6,c6)::jO H bl xs) (Gz.take (j:=0) rfl (fun hx=>by rw [qg (f6 (hl hx))];exact hl hx) ⟨rfl,by rw [Jh (fun hx=>f6 (hl hx))];rfl⟩) ?_
 intro F2 H2 hh
 rw [hh.1,hh.2]
 clear hh
 have hp2:ys≠ []->qk (jO H bl xs) bp=some (.room cp ys):=fun hy=>aw (fun hx=>(hne hx hy).symm) (hp hy)
 refine Gz.bind (k:=fun F'' H''=>F''=F∧H''=(b3,.cells [.own xs,.own ys])::(b6,c6)::jO (jO H bl xs) bp ys) (Gz.take (j:=1) rfl (fun hy=>by rw [qg (f6 (hp hy))];exact hp2 hy) ⟨rfl,by rw [Jh (fun hy=>f6 (hp hy))];rfl⟩) ?_
 intro F2 H2 hh
 rw [hh.1,hh.2]
 clear hh
 refine Gz.sb (fun hn=>?_) (h (jO (jO H bl xs) bp ys) rfl (dropR_sub.trans dropR_sub))
 refine ⟨?_,fun p hp=>?_⟩
 ·simp only [List.map_cons,List.nodup_cons,Mo,not_or] at hn ⊢
  exact ⟨⟨fun e=>hn.1.1 e.symm,hn.2.1⟩,hn.1.2,hn.2.2⟩
 ·simp only [Mo] at hp ⊢
  rcases hp with h|h|h
  ·exact .inr (.inl h)
  ·exact .inl h
  ·exact .inr (.inr h)
theorem Gz.view1 {k:List D->AH->Prop} (hg:qk H bx=some (.cells cs)) (h:k F (qE H bx (.cells (cs.map D.view1)))):Gz F H k:=by
 intro K w t hs
 refine ⟨F,_,K,h,.refl K w,hs.krel,⟨by rw [ko];exact hs.hrel.nd,fun c' o' hm'=>?_⟩,hs.len,hs.slot⟩
 rcases yD hs.hrel.nd hm' with ⟨rfl,rfl⟩|⟨hne,hm'⟩
 ·obtain ⟨hpb,c,T,hb,hcs,hrc⟩:=hs.hrel.ok c' _ (qR hg)
  refine ⟨hpb,c,T,hb,by simpa using hcs,fun j d hd=>?_⟩
  rw [List.getElem?_map,Option.map_eq_some_iff] at hd
  obtain ⟨d',e1,rfl⟩:=hd
  obtain ⟨u,f1,f2,f3⟩:=hrc j d' e1
  refine ⟨u,f1,f2,?_⟩
  cases d'<;>first|exact f3|exact OwnAt.rep f3
 ·exact hs.hrel.ok c' o' hm'
theorem GD:(List.replicate n [D.bool false]).flatten=(List.replicate n false).map D.bool:=by
 induction n with
 |zero=>rfl
 |succ n ih=>rw [List.replicate_succ,List.replicate_succ,Mt,ih];rfl
theorem UN:l.map D.bool=(jK l).flatten++ []:=by
 induction l with
 |nil=>rfl
 |cons b r ih=>simp only [List.map_cons,jK,Mt,Ms,Mr];rw [ih];simp [jK]
theorem Qh:jO H b []=H:=by simp [jO]
theorem Gz.then {k:List D->AH->Prop} (h:Gz F H fun F' H'=>Gz F' H' k):Gz F H k:=Gz.bind h fun _ _ h=>h
theorem mR:(Tryz.prog.info? 4).map (·.bytes)=some 1:=by kernel_rfl
theorem xo (h:n<=1000):match Tryz.prog.info? 4 with|some i=>(i.bytes:Int)*n<=140737488355328∧n<=140737488355328|none=>False:=by
 have h4:=mR
 cases hq:Tryz.prog.info? 4 with
 |none=>rw [hq] at h4;cases h4
 | some i=>
  rw [hq] at h4
  simp only [Option.map_some,Option.some.injEq] at h4
  simp only [h4]
  omega
theorem nZ (hx:GInv x) (hb:x.l.length<=20) (hof:1<=offices) (hof':offices<=10)
  (hr1:jd x.l≠ []->qk H bl=some (.room cl (jd x.l))) (hr2:ja x.past≠ []->qk H bp=some (.room cp (ja x.past)))
  (h:∀bl' cl' bp' cp',bl'≠bp'->qz (jO (jO H bl (jd x.l)) bp (ja x.past)) bl'->qz (jO (jO H bl (jd x.l)) bp (ja x.past)) bp'->R (.agg [.osl bl' cl' (jd (next x offices m).l),.osl bp' cp' (ja (next x offices m).past)]) ((bp',.room cp' (ja (next x offices m).past))::(bl',.room cl' (jd (next x offices m).l))::jO (jO H bl (jd x.l)) bp (ja x.past))):
  ACall Tryz.prog 58 [.agg [.osl bl cl (jd x.l),.osl bp cp (ja x.past)],.i offices,.slc (ints m)] H R:=by
 have hbig:=qn
 have hne:jd x.l≠ []->ja x.past≠ []->bl≠bp:=fun h1 h2 e=>by
  have e1:=hr1 h1
  rw [e,hr2 h2] at e1
  injection e1 with e1
  injection e1 with e1 e2
  cases hl:x.l with
  |nil=>rw [hl] at h1;exact h1 rfl
  | cons p r=>
   cases hq:x.past with
   |nil=>rw [hq] at h2;exact h2 rfl
   |cons p' r'=>rw [hl,hq] at e2;simp [jd,ja,Pt.d] at e2
 refine r58 fun hf=>?_
 simp+contextual only [x58,↓Yw,↓wc,↓YV,↓XP,ql,XW1,qa,qb]
 rintro b3 h3 b6 ⟨n36,h6⟩
 rw [Vh]
 refine Gz.take2 h3 h6 hr1 hr2 hne fun Hr hHe hHr=>?_
 rw [<-hHe] at h
 simp+contextual only [↓wc,↓YV,↓XP,qA]
 refine jR (i:=0) (by omega) ?_
 have a0:=qp (l:=m) (i:=0) (most:=(offices:Int)) (by omega)
 simp+contextual only [↓Yw,↓wc,↓YV,↓XP,ql,XW1,qb,qe]
 intro _ b8 hh
 obtain ⟨n68,n38,h8⟩:=hh
 rw [Vh]
 refine Gz.then (Gz.take (j:=3) rfl (fun h=>(h rfl).elim) (Gz.weak jl ?_))
 rw [Qh]
 simp+contextual only [qg,n36,n38,D.wk,jG,↓wc,↓YV,↓XP,ql,XW1]
 refine fun _=>⟨xo (by omega),fun b9 hh=>?_⟩
 obtain ⟨n89,n69,n39,h9⟩:=hh
 rw [GD]
 have hrn:=kq (x:=x) (o:=qy m 0 offices) (m:=m) offices
 have hri:=wi hx (o:=qy m 0 offices) (m:=m) offices
 refine iC (x:=x) (offices:=offices) (n:=x.l.length) ⟨n39,n38,n36,n89,n69,n68⟩ hof' (by omega) rfl hx.np hx.pk (fun p hp=>by have:=hx.sq p hp;omega) (jm h8) ⟨rfl,rfl,rfl,rfl,rfl,rfl,rfl,rfl,rfl,trivial⟩ (fun F' hF' s hs=>?_) (qr x (qy m 0 offices) m 0) rfl
 have hnx:next x offices m=⟨x.l++ [jb x s.seen {s.p with day:=s.p.day+qy m 4 4} m (1+jL m 5 2)],x.past++ [s.seen]⟩:=by rw [hs];rfl
 rw [hnx] at h
 have hp14:=YI hx hof' (m:=m)
 rw [<-hs] at hrn hri hp14
 obtain ⟨z,rfl⟩:=hF'.fl rfl
 try dsimp only [fl,zz,qa,qb] at*
 clear hF' hnx hs
 obtain ⟨g1,g2,g3,g4⟩:=hrn
 obtain ⟨i1,i2,i3,i4,i5⟩:=hri
 have hdn:s.p.dn= [.i s.p.o,.i s.p.s,.i s.p.day,.own (qF s.p.needs),.slc [],.str []]:=rfl
 have a4:=qp (l:=m) (i:=4) (most:=4) (by omega)
 have wd:IntKind.i64.wrap (s.p.day+qy m 4 4)=s.p.day+qy m 4 4:=qj (by omega) (by omega)
 simp+contextual only [qg,n89,hdn,↓Yw,↓wc,↓YV,↓XP,ql,XW1]
 refine fun _=>⟨_,fun _ _=>jR (i:=4) (by omega) ⟨rfl,rfl⟩,?_⟩
 simp+contextual only [qg,qi,n89,wd,↓wc,↓YV,↓XP,ql,XW1,qb]
 refine fun _=>⟨by omega,?_⟩
 rw [Vh]
 refine Gz.then (Gz.of_fz (Fz.freeze (s:=9) (b:=b9) (n:=x.l.length) (sz:=1) (xs:=jK s.seen) (rest:= []) rfl jl UN (by rw [vf,g4]) eT (by omega) (fun y hy d hd=>by
  obtain ⟨t,_,rfl⟩:=List.mem_map.1 hy
  rw [List.mem_singleton.1 hd]
  rfl)) ?_)
 rw [uB]
 refine Gz.view1 (bx:=b8) jl ?_
 obtain ⟨p,hpp⟩:∃p:Pt,p={s.p with day:=s.p.day+qy m 4 4}:=⟨_,rfl⟩
 have hpo:p.ops= []:=by rw [hpp];exact g2
 have hd0:p.d= [.i s.p.o,.i s.p.s,.i (s.p.day+qy m 4 4),.slc (qF s.p.needs),.slc [],.str []]:=by
  rw [hpp]
  simp only [Pt.d,g2,g3]
  rfl
 rw [<-hpp] at h hp14
 simp+contextual only [↓wc,↓YV,↓XP,qA]
 rw [<-hd0]
 refine li (x:=x) (seen:=s.seen) (p:=p) hx hb g4 hpo (VOk.base hx i1 hpo) n38 n36 n68 ⟨rfl,rfl,rfl,rfl,rfl,rfl,rfl,trivial⟩ (fun F' hF' i hi=>?_) 0 rfl
 rw [hi]
 clear hi i hd0
 obtain ⟨more,e1,-⟩:=hp14
 generalize jb x s.seen p m (1+jL m 5 2)=q at h e1 ⊢
 obtain ⟨z,rfl⟩:=hF'.fl rfl
 try dsimp only [fl,zz,qa,qb] at*
 clear hF'
 have hd:q.d= [.i q.o,.i q.s,.i q.day,.slc (qF q.needs),.slc (qM q.ops),.str q.sl]:=rfl
 simp+contextual only [qg,qi,n36,n38,hd,VE,jG,↓Yw,↓wc,↓YV,↓XP,ql,XW1,qb,qc,qe]
 have hnp:=hx.np
 refine ⟨lv,by omega,rW,by omega,?_⟩
 rw [<-hd,show [q.d]=jd [q] from rfl,ZT,show [[D.slc (jK s.seen)]]=ja [s.seen] from rfl,show ja x.past++ja [s.seen]=ja (x.past++ [s.seen]) by simp [ja]]
 rw [Vh]
 have hx1:jd (x.l++ [q])≠ []:=by simp [jd]
 have hx2:ja (x.past++ [s.seen])≠ []:=by simp [ja]
 try dsimp only at h
 generalize hX:jd (x.l++ [q])=X at h hx1 ⊢
 generalize hY:ja (x.past++ [s.seen])=Y at h hx2 ⊢
 refine Gz.then (Gz.give (bx:=b3) (j:=0) (xs:=X) hx1 (by rw [qg n38,qg n36,jl]) rfl (fun bl' cl' f1=>?_))
 simp only [iX] at f1
 obtain ⟨t8,t6,t3,tr⟩:=f1
 rw [qi n38,qi n36,vM]
 refine Gz.give (bx:=b3) (j:=1) (xs:=Y) hx2 (by rw [qg t3,qg n38,qg n36,jl]) rfl (fun bp' cp' f2=>?_)
 simp only [iX] at f2
 obtain ⟨ul,u8,u6,u3,ur⟩:=f2
 rw [qi t3,qi n38,qi n36,vM]
 simp+contextual only [qg,qi,zi,Qq,n36,n68,n38,t6,t3,u6,u3,↓wc,↓YV,↓XP,ql,XW1,qb]
 exact ⟨_,Sbn.sub (List.Sublist.cons_cons _ (List.Sublist.cons_cons _ (List.Sublist.cons _ (List.Sublist.cons _ (List.Sublist.cons _ (List.Sublist.refl _)))))),h bl' cl' bp' cp' ul tr ur⟩
theorem uV:∀i,-1<=jj l out i∧jj l out i<i
 |0=>⟨by simp [jj],by simp [jj]⟩
 | i+1=>by
  have:=uV (l:=l) (out:=out) i
  unfold jj
  split
  ·omega
  ·omega
theorem Y0:∀n,(qS l n).1.length<=n
 |0=>by simp [qS]
 | n+1=>by
  have:=Y0 (l:=l) n
  simp only [qS]
  split
  ·split
   ·simp only [];omega
   ·simp only [Mg,List.length_cons,List.length_nil];omega
  ·omega
theorem JU (h:(qS l n).2=false):∀k,qS l (n+k)=qS l n
 |0=>rfl
 | k+1=>by
  have ih:=JU h k
  show qS l (n+k+1)=_
  simp only [qS,ih,h,Bool.false_eq_true,if_false]
theorem Gh (hb:l.length<=100) (hl:∀p∈l,0<=p.s∧p.s<=1000000∧p.needs.length<=1000000) (h:R (.own (jd (ordered l))) H):ACall Tryz.prog 60 [.slc (jd l)] H R:=by
 refine b60 fun hf=>?_
 have hbig:=qn
 simp+contextual only [↓aM,↓aM,↓XP,qA,qa]
 refine XW.loopK hm (fun F H'=>∃(n:Nat) (out:List Pt),n<=l.length∧qS l n=(out,true)∧Fr 82 [(0,.slc (jd l)),(3,.own (jd out)),(4,.i n)] F∧H=H') (fun F H=>match F.getD 4 .any with| .int _ n'=>l.length - n'.toNat|_=>0) ⟨0,[],by omega,rfl,⟨rfl,rfl,rfl,rfl,trivial⟩,rfl⟩ ?_
 rintro _ _ ⟨n,out,hn,ho,hF,rfl⟩ K hN hE hR
 obtain ⟨z,rfl⟩:=hF.fl rfl
 try dsimp only [fl,zz,qa,qb] at*
 clear hF
 have hol:=Y0 (l:=l) n
 rw [ho] at hol
 simp only at hol
 by_cases hlt:n<l.length
 ·have hsn:qS l (n+1)=(if jj l out l.length<0 then (out,false) else (out++ [l.getD (jj l out l.length).toNat default],true)):=by
   simp only [qS,ho,if_true]
  simp+contextual only [jG,↓aM,↓XP,ql]
  refine fun _=>⟨fun _=>?_,fun hge=>absurd (by omega) hge⟩
  refine XW.loopK hm (fun F H'=>∃(i:Nat),i<=l.length∧Fr 82 [(0,.slc (jd l)),(3,.own (jd out)),(4,.i n),(5,.i (jj l out i)),(6,.i i)] F∧H=H') (fun F H=>match F.getD 6 .any with| .int _ n'=>l.length - n'.toNat|_=>0) ⟨0,by omega,⟨rfl,rfl,rfl,rfl,rfl,rfl,trivial⟩,rfl⟩ ?_
  rintro _ _ ⟨i,hi,hF,rfl⟩ K2 hN2 hE2 hR2
  obtain ⟨z2,rfl⟩:∃z2:Nat->D,_=(let z:=z2; [.slc (jd l),z 1,z 2,.own (jd out),.i n,.i (jj l out i),.i i,z 7,z 8,z 9,z 10,z 11,z 12,z 13,z 14,z 15,z 16,z 17,z 18,z 19,z 20,z 21,z 22,z 23,z 24,z 25,z 26,z 27,z 28,z 29,z 30,z 31,z 32,z 33,z 34,z 35,z 36,z 37,z 38,z 39,z 40,z 41,z 42,z 43,z 44,z 45,z 46,z 47,z 48,z 49,z 50,z 51,z 52,z 53,z 54,z 55,z 56,z 57,z 58,z 59,z 60,z 61,z 62,z 63,z 64,z 65,z 66,z 67,z 68,z 69,z 70,z 71,z 72,z 73,z 74,z 75,z 76,z 77,z 78,z 79,z 80,z 81]):=hF.lit
  clear hF
  by_cases hli:i<l.length
  ·have nx:∀F' b c,Fr 82 [(0,.slc (jd l)),(3,.own (jd out)),(4,.i n),(5,.i (jj l out (i+1))),(6,.i ((i+1:Nat):Int))] F'->K2 .normal F' ((b,c)::H):=fun F' b c hF'=>hN2 _ _ ⟨i+1,hli,hF',(yX rfl).symm⟩ (by
    rw [Ma,hF'.2.2.2.2.2.1]
    simp only [Mb,Mc,Md]
    omega)
   clear hN2 hE2 hR2 hN hE hR h
   obtain ⟨r1,r2⟩:=uV (l:=l) (out:=out) i
   have hstep:jj l out (i+1)=if better l out i (jj l out i)=true then (i:Int) else jj l out i:=rfl
   rw [hstep] at nx
   have hbt:better l out i (jj l out i)=(ready out (l.getD i default)&& !known out (l.getD i default).o (l.getD i default).s&&(decide (jj l out i<0)||decide ((l.getD i default).o<(l.getD (jj l out i).toNat default).o)||(decide ((l.getD i default).o=(l.getD (jj l out i).toNat default).o)&&decide ((l.getD i default).s<(l.getD (jj l out i).toNat default).s)))):=rfl
   rw [hbt] at nx
   clear hbt hstep
   generalize jj l out i=bb at r1 r2 nx
   have q1:=vO hli
   have q2:0<=bb->(jd l).getD bb.toNat []=(l.getD bb.toNat default).d:=fun h=>vO (by omega)
   obtain ⟨e1,e2,e3⟩:=hl (l.getD i default) (by rw [jJ hli];exact List.getElem_mem hli)
   generalize l.getD i default=e at q1 nx e1 e2 e3
   generalize l.getD bb.toNat default=lb at q2 nx
   have hd:e.d= [.i e.o,.i e.s,.i e.day,.slc (qF e.needs),.slc (qM e.ops),.str e.sl]:=rfl
   have hdl:lb.d= [.i lb.o,.i lb.s,.i lb.day,.slc (qF lb.needs),.slc (qM lb.ops),.str lb.sl]:=rfl
   simp+contextual only [jG,q1,hd,↓aM,↓XP,ql,qb]
   refine fun _=>⟨fun _ b1 h1=>?_,fun hge=>absurd (by omega) hge⟩
   refine ⟨_,fun _ _=>eU (p:=e) e1 e2 e3 ⟨rfl,rfl⟩,?_⟩
   rcases hr:ready out e with _|_
   ·simp+contextual only [qm (show i<=big by omega),↓aM,↓XP,qA,XW1]
    refine nx _ _ _ ?_
    simp only [hr,Bool.false_and,Bool.false_eq_true,if_false]
    exact ⟨rfl,rfl,rfl,rfl,rfl,rfl,trivial⟩
   simp+contextual only [↓XP,ql,XW1]
   refine fun _ _=>⟨_,fun _ _=>YR ⟨rfl,rfl⟩,?_⟩
   rcases hk:known out e.o e.s with _|_
   rotate_left
   ·simp+contextual only [qm (show i<=big by omega),↓aM,↓XP,qA,XW1]
    refine nx _ _ _ ?_
    simp only [hr,hk,Bool.not_true,Bool.and_false,Bool.false_and,Bool.false_eq_true,if_false]
    exact ⟨rfl,rfl,rfl,rfl,rfl,rfl,trivial⟩
   simp only [hr,hk,Bool.not_false,Bool.and_true,Bool.true_and] at nx
   by_cases hb0:bb<0
   ·simp only [hb0,decide_true,Bool.true_or,if_true] at nx
    simp+contextual only [hb0,qm (show i<=big by omega),↓aM,↓XP,qA,XW1]
    exact nx _ _ _ ⟨rfl,rfl,rfl,rfl,rfl,rfl,trivial⟩
   ·have q3:=q2 (by omega)
    simp only [hb0,decide_false,Bool.false_or] at nx
    simp+contextual only [jG,q3,hdl,hb0,qm (show i<=big by omega),↓aM,↓XP,ql,XW1,qb,qe]
    refine fun _=>⟨by omega,by omega,fun _=>⟨fun c1=>?_,fun c1=>⟨by omega,by omega,fun c2 _=>⟨by omega,by omega,fun _=>⟨fun c3=>?_,fun c3=>?_⟩⟩,fun c2=>?_⟩⟩⟩
    ·rw [if_pos (by simp [c1])] at nx
     exact nx _ _ _ ⟨rfl,rfl,rfl,rfl,rfl,rfl,trivial⟩
    ·rw [if_pos (by simp [c2,c3])] at nx
     exact nx _ _ _ ⟨rfl,rfl,rfl,rfl,rfl,rfl,trivial⟩
    ·rw [if_neg (by simp [c1,c3])] at nx
     exact nx _ _ _ ⟨rfl,rfl,rfl,rfl,rfl,rfl,trivial⟩
    ·rw [if_neg (by simp [c1,c2])] at nx
     exact nx _ _ _ ⟨rfl,rfl,rfl,rfl,rfl,rfl,trivial⟩
  ·have hik:i=l.length:=by omega
   subst hik
   clear hN2
   simp+contextual only [jG,↓aM,↓XP,ql]
   refine fun _=>hE2 _ _ _ ?_
   clear hE2 hR2
   obtain ⟨r1,r2⟩:=uV (l:=l) (out:=out) l.length
   rw [show n+1=n+1 from rfl] at hsn
   by_cases hb0:jj l out l.length<0
   ·rw [if_pos hb0] at hsn
    have hor:ordered l=out:=by
     unfold ordered
     have:=JU (l:=l) (n:=n+1) (by rw [hsn]) (l.length - (n+1))
     rw [show n+1+(l.length - (n+1))=l.length by omega,hsn] at this
     rw [this]
    rw [hor] at h
    clear hN hE
    generalize jj l out l.length=bb at r1 r2 hb0 ⊢
    simp+contextual only [hb0,↓aM,↓XP,qA,XW1,qf]
    refine hR _ _ ?_
    simp+contextual only [↓XP,qA]
    exact h
   ·rw [if_neg hb0] at hsn
    have nx:∀F',Fr 82 [(0,.slc (jd l)),(3,.own (jd (out++ [l.getD (jj l out l.length).toNat default]))),(4,.i ((n+1:Nat):Int))] F'->K .normal F' H:=fun F' hF'=>hN _ _ ⟨n+1,_,hlt,hsn,hF',(qL rfl).symm⟩ (by
     rw [Ma,hF'.2.2.2.1]
     simp only [Mb,Mc,Md]
     omega)
    clear hN hE hR h
    have q2:(jd l).getD (jj l out l.length).toNat []=(l.getD (jj l out l.length).toNat default).d:=vO (by omega)
    generalize jj l out l.length=bb at r1 r2 hb0 q2 nx ⊢
    generalize l.getD bb.toNat default=e at q2 nx
    have hd:e.d= [.i e.o,.i e.s,.i e.day,.slc (qF e.needs),.slc (qM e.ops),.str e.sl]:=rfl
    simp+contextual only [jG,hb0,q2,hd,qm (show n<=big by omega),↓aM,↓XP,ql,XW1,qb,qc,qe,qf]
    refine ⟨by omega,by omega,lv,by omega,?_⟩
    rw [<-ZT,show jd [e]= [e.d] from rfl,hd] at nx
    exact nx _ ⟨rfl,rfl,rfl,rfl,trivial⟩
 ·have hik:n=l.length:=by omega
  subst hik
  clear hN
  simp+contextual only [jG,↓aM,↓XP,ql]
  refine fun _=>hE _ _ _ ?_
  rw [show ordered l=out by unfold ordered;rw [ho]] at h
  simp+contextual only [↓XP,qA,XW1]
  exact h
theorem Sbn.perm (h:H'.Perm H):Sbn H' H:=fun hn=>⟨(h.map _).nodup_iff.2 hn,fun p hp=>h.subset hp⟩
theorem oI (ho:offices<=10):∀i,GInv (j7 l offices i)∧(j7 l offices i).l.length=i
 |0=>⟨GInv.nil,rfl⟩
 | i+1=>by
  obtain ⟨h1,h2⟩:=oI (l:=l) ho i
  exact ⟨h1.next ho _,by simp [j7,next,h2]⟩
def Rooms (b4:Nat) (x:Gs) (bl cl bp cp:Nat) (Hm H:AH):Prop:=
 (x.l= []∧x.past= []∧Hm= [])∨(x.l≠ []∧x.past≠ []∧bl≠bp∧bl≠b4∧bp≠b4∧Hm= [(bp,.room cp (ja x.past)),(bl,.room cl (jd x.l))])
theorem pts_nil:jd l= []↔l= []:=by simp [jd]
theorem past_nil:ja l= []↔l= []:=by simp [ja]
theorem cG (h:facts args->xcode Tryz.prog x25 (args++List.replicate (28 - args.length) (.tup [])) H (VQ Tryz.prog [.tmp 2] R)):ACall Tryz.prog 25 args H R:=
 yM hm Tryz.func25 rfl (by kernel_rfl) (by kernel_rfl) (by kernel_rfl) (by kernel_rfl) (by kernel_rfl) (by kernel_rfl) h
theorem ab (h:R (.own (jd (patches l))) H):ACall Tryz.prog 25 [.slc (ints l)] H R:=by
 refine cG fun hf=>?_
 have hbig:=qn
 have a0:=qp (l:=l) (i:=0) (most:=8) (by omega)
 have a1:=qp (l:=l) (i:=1) (most:=2) (by omega)
 simp+contextual only [x25,↓nR,↓Kp,↓XP,qA,qa]
 refine jR (i:=1) (by omega) ?_
 obtain ⟨o,ho⟩:∃o:Nat,2+jL l 1 2=o:=⟨_,rfl⟩
 obtain ⟨n,hn⟩:∃n:Nat,2+jL l 0 8=n:=⟨_,rfl⟩
 have w1:IntKind.i64.wrap (2+qy l 1 2)=(o:Int):=by rw [qj (by omega) (by omega)];unfold jL at ho;omega
 have w0:IntKind.i64.wrap (2+qy l 0 8)=(n:Int):=by rw [qj (by omega) (by omega)];unfold jL at hn;omega
 have ho':o<=10∧1<=o:=by unfold jL at ho;omega
 have hn':n<=9:=by unfold jL at hn;omega
 have hpt:patches l=ordered (j7 l o n).l:=by unfold patches;rw [ho,hn]
 rw [hpt] at h
 simp+contextual only [w1,↓nR,↓Kp,↓XP,ql,qb]
 intro _ b4 h4
 refine XW.loopKR hm (fun F H'=>∃(i:Nat) (x:Gs) (bl cl bp cp:Nat) (Hm:AH),i<=n∧x=j7 l o i∧Rooms b4 x bl cl bp cp Hm H∧Fr 28 [(0,.slc (ints l)),(3,.i o),(4,.ptr b4 0),(5,.i (i:Int))] F∧((b4,AO.cells [.osl bl cl (jd x.l),.osl bp cp (ja x.past)])::(Hm++H))=H') (fun F H=>match F.getD 5 .any with| .int _ n'=>n - n'.toNat|_=>0) ⟨0,⟨[],[]⟩,0,0,0,0,[],by omega,rfl,.inl ⟨rfl,rfl,rfl⟩,⟨rfl,rfl,rfl,rfl,rfl,trivial⟩,rfl⟩ ?_
 rintro _ _ ⟨i,x,bl,cl,bp,cp,Hm,hi,hx,hr,hF,rfl⟩ K hN hE hR
 obtain ⟨z,rfl⟩:=hF.fl rfl
 try dsimp only [fl,zz,qa,qb] at*
 clear hF hR
 obtain ⟨gi,gl⟩:=oI (l:=l) (offices:=o) ho'.1 i
 rw [<-hx] at gi gl
 by_cases hlt:i<n
 ·have w2:IntKind.i64.wrap (32*(i:Int))=32*(i:Int):=qj (by omega) (by omega)
  have w3:IntKind.i64.wrap (2+32*(i:Int))=((2+32*i:Nat):Int):=by rw [qj (by omega) (by omega)];omega
  simp+contextual only [↓nR,↓Kp,↓XP,qA]
  refine jR (i:=0) (by omega) ?_
  simp+contextual only [w0,w2,w3,↓nR,↓Kp,↓XP,ql,qb]
  refine fun _=>⟨fun _=>⟨_,fun _ _=>kv ⟨rfl,rfl⟩,?_⟩,fun hge=>absurd (by omega) hge⟩
  simp+contextual only [↓Kp,↓XP,qA]
  have hr1:jd x.l≠ []->qk ((b4,AO.cells [.osl bl cl (jd x.l),.osl bp cp (ja x.past)])::(Hm++H)) bl=some (.room cl (jd x.l)):=fun hne=>by
   rcases hr with ⟨e,_⟩|⟨_,_,e1,e2,e3,rfl⟩
   ·exact (hne (pts_nil.2 e)).elim
   ·show qk ((b4,_)::(bp,_)::(bl,_)::H) bl=_
    rw [qg e2,qg e1,jl]
  have hr2:ja x.past≠ []->qk ((b4,AO.cells [.osl bl cl (jd x.l),.osl bp cp (ja x.past)])::(Hm++H)) bp=some (.room cp (ja x.past)):=fun hne=>by
   rcases hr with ⟨_,e,_⟩|⟨_,_,e1,e2,e3,rfl⟩
   ·exact (hne (past_nil.2 e)).elim
   ·show qk ((b4,_)::(bp,_)::(bl,_)::H) bp=_
    rw [qg e3,jl]
  have hdr:jO (jO ((b4,AO.cells [.osl bl cl (jd x.l),.osl bp cp (ja x.past)])::(Hm++H)) bl (jd x.l)) bp (ja x.past)=(b4,AO.cells [.osl bl cl (jd x.l),.osl bp cp (ja x.past)])::H:=by
   rcases hr with ⟨e,e',rfl⟩|⟨e0,e0',e1,e2,e3,rfl⟩
   ·rw [pts_nil.2 e,past_nil.2 e',Qh,Qh];rfl
   ·show jO (jO ((b4,_)::(bp,_)::(bl,_)::H) bl (jd x.l)) bp (ja x.past)=_
    unfold jO
    rw [if_neg (fun e=>e0 (pts_nil.1 e)),if_neg (fun e=>e0' (past_nil.1 e)),vY e2,vY e1,uB,vY e3,uB]
  refine fun _=>nZ gi (by omega) ho'.2 ho'.1 hr1 hr2 (fun bl' cl' bp' cp' t1 t2 t3=>?_)
  rw [hdr] at t2 t3 ⊢
  simp only [iX] at t2 t3
  obtain ⟨u1,t2⟩:=t2
  obtain ⟨u2,t3⟩:=t3
  have hx2:next x o (l.drop (2+32*i))=j7 l o (i+1):=by rw [hx];rfl
  rw [hx2]
  obtain ⟨gi2,gl2⟩:=oI (l:=l) (offices:=o) ho'.1 (i+1)
  have hne1:(j7 l o (i+1)).l≠ []:=fun e=>by rw [e] at gl2;simp at gl2
  have hne2:(j7 l o (i+1)).past≠ []:=fun e=>by have:=gi2.np;rw [e,gl2] at this;simp at this
  simp+contextual only [qg,qi,u1,u2,qm (show i<=big by omega),↓nR,↓Kp,↓XP,ql,XW1,qb]
  refine hN _ _ ((b4,AO.cells [.osl bl' cl' (jd (j7 l o (i+1)).l),.osl bp' cp' (ja (j7 l o (i+1)).past)])::([(bp',AO.room cp' (ja (j7 l o (i+1)).past)),(bl',AO.room cl' (jd (j7 l o (i+1)).l))]++H)) ?_ ⟨i+1,_,bl',cl',bp',cp',_,hlt,rfl,.inr ⟨hne1,hne2,t1,Ne.symm u1,Ne.symm u2,rfl⟩,⟨rfl,rfl,rfl,rfl,rfl,trivial⟩,rfl⟩ ?_
  ·exact Sbn.perm ((List.Perm.swap _ _ _).trans ((List.Perm.swap _ _ _).cons _))
  ·simp only [Mb,Mc]
   omega
 ·have hik:i=n:=by omega
  subst hik
  clear hN
  simp+contextual only [↓nR,↓Kp,↓XP,qA]
  refine jR (i:=0) (by omega) ?_
  simp+contextual only [w0,↓Kp,↓XP,qA]
  refine fun _=>hE _ _ _ ?_
  simp+contextual only [↓nR,↓Kp,↓XP,qA,XW1]
  rw [Vh]
  refine Gz.weak jl ?_
  simp+contextual only [D.wk,↓Kp,↓XP,ql]
  rw [<-hx] at h
  refine fun _=>Gh (by omega) (fun p hp=>?_) ?_
  ·have h1:=gi.sq p hp
   have h2:=gi.ne p hp
   omega
  ·simp+contextual only [zi,Qq,↓Kp,↓XP,qA]
   exact fun _=>⟨H,Sbn.sub ((List.sublist_append_right _ _).cons _),h⟩
theorem nS (h:∀p,FV p->R (.agg p.d) H):ACall Tryz.prog 7 [.slc (ints l),.i a] H R:=by
 refine b7 fun hf=>?_
 have hbig:=qn
 obtain ⟨h1,h2,h3⟩:=Uv l
 have pl:(jd (patches l)).length=(patches l).length:=by simp [jd]
 simp+contextual only [↓U7,↓U7,↓XP,ql,qa,qb]
 intro b4 h4
 refine ab ?_
 simp+contextual only [pl,↓U7,↓XP,ql,XW1]
 refine fun _=>gj (by omega) ?_
 obtain ⟨r1,r2⟩:=gJ (n:=a) (most:=((patches l).length:Int)) (by omega)
 obtain ⟨k,hk⟩:=Mp r1
 rw [hk] at r2 ⊢
 have hkl:k<(patches l).length:=by omega
 have q1:(jd (patches l)).getD k []=((patches l).getD k default).d:=by simp [jd,hkl]
 have hp:=h1 _ (yc (d:=default) hkl)
 generalize (patches l).getD k default=p at q1 hp
 have hd:p.d= [.i p.o,.i p.s,.i p.day,.slc (qF p.needs),.slc (qM p.ops),.str p.sl]:=rfl
 simp+contextual only [pl,q1,hd,hkl,Int.ofNat_lt,↓XP,ql,XW1,qb]
 exact fun _=>h p hp
theorem nm {l:List (List UInt8)} {i:Nat} (h:∀x∈l,x.length<=5):(l.getD i []).length<=60:=Mj (wE h) (by omega)
end Go.Proofs.YtgopigkdcmhbbaaGreatDoor
end
noncomputable section
namespace Go.Proofs.YtgopigkdcmhbbaaGreatDoor
open Go.Xs
open Go Go.Aw
def y3:=yy Tryz.f3
def B0:XC:=(.seq (.regT [] [([m 15 101,m 16 102,j 31 101 102 103,l 9 103 104,m 17 105,l 26 13 106,k3 13 104 105 106 9 3 26 107,m 107 100,E 100 0 108,E 100 1 109],a (.alloc 26) 24,false),([],w 26 24 108,false)] [] [n 109 25]) (y3 48))
def tW:XC:=(.seq (.regT [] [([m 15 90,m 16 91,j 31 90 91 92,l 9 92 93,m 17 94,a (.build 40 #[(0,(t 93)),(1,(t 94))]) 95,l 26 13 96,k2 12 95 96 40 26 97,m 97 89,E 89 0 98,E 89 1 99],a (.alloc 26) 22,false),([],w 26 22 98,false)] [] [n 99 23]) B0)
def xV:XC:=(.seq (y3 42) (C 88 tW .skip))
def xZ:XC:=(.seq (.seq (y3 35) (C 82 (R [a (.assign (.const (.bool false))) 12] .ret) .skip)) xV)
def xn:XC:=(.seq (y3 32) xZ)
def xx:XC:=(.seq (y3 30) xn)
def xu:XC:=(.seq (.seq (y3 25) (C 55 (.reg [A 2 17]) .skip)) xx)
def xf:XC:=(.seq (.block 1 (.seq (y3 22) xu)) (y3 56))
def mW:XC:=(.seq (R [m 16 42,q .lss 3 42 5 43] (C 43 .skip (.exit 0))) xf)
def nK:XC:=(.seq (R [A 0 16] (.block 0 (.loop mW))) (R [b (k 15 #[] #[]) 119,n 119 12] .ret))
def ng:XC:=(.seq (y3 7) nK)
def pW:XC:=(R [m 3 33,b (.buildSlice 22 5 #[(0,(i 0)),(1,(i 1)),(2,(i 5)),(3,(t 33)),(4,(i (-1)))]) 34,n 34 14] ng)
def rP:XC:=(.seq (y3 3) pW)
def x3:XC:=(R [a (.assign (.const (.bool false))) 12] rP)
theorem b3:Bt 3 120 x3 [(.tmp 12)]:=bt Tryz.func3 rfl
end Go.Proofs.YtgopigkdcmhbbaaGreatDoor
end
section
namespace Go.Proofs.YtgopigkdcmhbbaaGreatDoor
open Go Go.Aw
variable {R:D->AH->Prop}
theorem Vv:∀{cs:List D},(∀d∈cs,∃k n,d= .int k n)->Aw.fits (List.replicate cs.length CT.i) cs
 | [],_=>trivial
 | x::r,h=>by
  obtain ⟨k,n,rfl⟩:=h x (.head _)
  exact Vv (cs:=r) fun d hd=>h d (.tail _ hd)
theorem Yl:∀{cs:List D},(∀d∈cs,∃k n,d= .int k n)->sameK cs cs
 | [],_=>trivial
 | x::r,h=>by
  obtain ⟨k,n,rfl⟩:=h x (.head _)
  exact ⟨rfl,Yl (cs:=r) fun d hd=>h d (.tail _ hd)⟩
theorem ZL:∀{cs:List D},(∀d∈cs,∃k n,d= .int k n)->eqCells cs cs=true
 | [],_=>rfl
 | x::r,h=>by
  obtain ⟨k,n,rfl⟩:=h x (.head _)
  have h2:eqCells r r=true:=ZL (cs:=r) fun d hd=>h d (.tail _ hd)
  simp [eqCells,cellEq,h2]
def vz (rest:List UInt8) (k:Nat):List UInt8:=(rest.drop (16*k)).take 16
theorem Wh (h:16*(k+1)<=rest.length):(vz rest k).length=16:=by
 unfold vz
 rw [List.length_take,List.length_drop]
 omega
def aY (i:Int) (d rest:List UInt8) (s c:Nat):List UInt8:=wU i c (vz rest c) (zB d s c) (3 - zB d s c)
def Vz (rest:List UInt8) (i:Nat) (v:List UInt8):Nat->List UInt8
 |0=>v
 |l+1=>if i / 2 ^ l % 2=1 then ky 2 [vz rest (68+l),Vz rest i v l] else ky 2 [Vz rest i v l,vz rest (68+l)]
theorem Zr (h:v.length=16):∀l,(Vz rest i v l).length=16
 |0=>h
 | l+1=>by
  rw [Vz]
  split<;>exact kR _ _
def Gg (pub:List UInt8) (i:Nat) (m rest:List UInt8) (ht:Nat):List UInt8:=
 Vz rest i (ky 1 [ky 9 [jD (aY i (vW pub i m) rest (Kz (vW pub i m) 64)) 68]]) ht
def WF (pub:List UInt8) (ht:Int) (m sig:List UInt8):Int×Int:=
 if Vg ht=false then (0,1)
 else if (qG sig).2.2≠0 then (0,(qG sig).2.2)
 else if (qG sig).1<0∨((2 ^ ht.toNat:Nat):Int)<=(qG sig).1∨(sig.drop (qG sig).2.1).length≠(68+ht.toNat)*16 then (0,2)
 else if Gg pub (qG sig).1.toNat m (sig.drop (qG sig).2.1) ht.toNat=pub then ((qG sig).1,0) else (0,10)
theorem lw:∀{a b:List UInt8},eqCells (jr a) (jr b)=decide (a=b)
 | [],[]=>rfl
 | [],_::_=>rfl
 |_::_,[]=>rfl
 | x::a,y::b=>by
  have h:=lw (a:=a) (b:=b)
  simp only [jr,List.map_cons,bD,eqCells,cellEq] at h ⊢
  rw [h]
  by_cases e:x=y
  ·subst e;by_cases e2:a=b<;>simp [e2]
  ·have:¬((x.toNat:Int)=(y.toNat:Int)):=fun c=>e (UInt8.toNat_inj.1 (Int.ofNat_inj.1 c))
   simp [e,this]
theorem Zn (h:l.length=16):Aw.fits [CT.i,CT.i,CT.i,CT.i,CT.i,CT.i,CT.i,CT.i,CT.i,CT.i,CT.i,CT.i,CT.i,CT.i,CT.i,CT.i] (jr l):=by
 have go:∀l:List UInt8,Aw.fits (List.replicate l.length CT.i) (jr l):=fun l=>by
  induction l with
  |nil=>trivial
  |cons x r ih=>exact ih
 have:=go l
 rw [h] at this
 exact this
theorem Zq:∀{a b:List UInt8},sameK (jr a) (jr b)
 | [],[]=>trivial
 | [],_::_=>trivial
 |_::_,[]=>trivial
 |x::a,y::b=>⟨rfl,Zq (a:=a) (b:=b)⟩
theorem ZN (hx:x.view1= .slc (rest.map qh)) (hb:qk H b=some (.cells [x])) (hk:16*(k+1)<=rest.length) (hl:rest.length<=200000) (h:R (.agg (jr (vz rest k))) H):
  ACall Tryz.prog 50 [.int .i64 (k:Int),.ptr b 0] H R:=by
 refine b50 fun hf=>?_
 have hbig:=qn
 have hw1:IntKind.i64.wrap ((k:Int)*16)=((16*k:Nat):Int):=by rw [qj (by omega) (by omega)];omega
 have hw2:IntKind.i64.wrap ((k:Int)+1)=((k+1:Nat):Int):=by rw [qj (by omega) (by omega)];omega
 have hw3:IntKind.i64.wrap (((k+1:Nat):Int)*16)=((16*(k+1):Nat):Int):=by rw [qj (by omega) (by omega)];omega
 have c0:((0:Int)<=((16*k:Nat):Int))=True:=qC
 have c1:(((16*k:Nat):Int)<=((16*(k+1):Nat):Int))=True:=qC
 have c2:(((16*(k+1):Nat):Int)<=(rest.length:Int))=True:=qC
 have hck:=Wh hk
 have heq:List.drop (16*k) (List.take (16*(k+1)) (rest.map qh))=(vz rest k).map qh:=by
  rw [List.drop_take,show 16*(k+1) - 16*k=16 by omega,vz,List.map_take,List.map_drop]
 generalize vz rest k=w at hck heq h
 have hwm:(w.map qh).take 16=w.map qh:=Mm (by simp [hck])
 simp+contextual only [↓U50,↓U50.1,↓XP,ql,qa,qb]
 intro b3 h3
 have hb3:=qD h3 hb
 simp+contextual only [qx,qg hb3,hb,hx,hw1,hw2,hw3,c0,c1,c2,heq,hwm,ZC,hck,qZ hck,jp,Mf,↓XP,ql,XW1,qb,↓XH]
 exact fun _=>⟨Zo _,Zo _,h⟩
theorem UF (x:D):x.view1.view1=x.view1:=by cases x<;>rfl
theorem VT (h:qk H b=some (.cells [x])) (hx:x.view1=d) (hs:Aw.Sub H H1):∃x',x'.view1=d∧qk H1 b=some (.cells [x']):=by
 obtain ⟨o',g1,g2⟩:=hs _ _ h
 rcases g2 with rfl|g2
 ·exact ⟨x,hx,g1⟩
 ·cases o' with
  | cells cs=>
   simp only [Ul,AO.cells.injEq] at g2
   match cs,g2 with
   | [y],g2=>
    simp only [List.map_cons,List.map_nil,List.cons.injEq,and_true] at g2
    exact ⟨y,by rw [<-hx,g2,UF],g1⟩
   | [],g2=>simp at g2
   |_::_::_,g2=>simp at g2
  |_=>simp [Ul] at g2
structure VrfH (H:AH) (i:Int) (rest d:List UInt8) (s bi br bf bd:Nat):Prop where
 i:qk H bi=some (.cells [.int .i64 i])
 r:∃x:D,x.view1= .slc (rest.map qh)∧qk H br=some (.cells [x])
 f:qk H bf=some (.cells [.fn 50 [.ptr br 0]])
 d:∃x:D,x.view1= .slc (oN (zB d s))∧qk H bd=some (.cells [x])
theorem VrfH.sub {H H1:AH} {i:Int} {rest d:List UInt8} {s bi br bf bd:Nat} (h:VrfH H i rest d s bi br bf bd) (hs:Aw.Sub H H1):VrfH H1 i rest d s bi br bf bd:=by
 obtain ⟨x,hx,gx⟩:=h.r
 obtain ⟨y,hy,gy⟩:=h.d
 exact ⟨dP h.i hs,VT gx hx hs,Kb (fun x hx=>by cases x<;>simp_all [D.view1]) h.f hs,VT gy hy hs⟩
theorem VrfH.push {H:AH} {i:Int} {rest d:List UInt8} {s bi br bf bd b:Nat} {o:AO} (h:VrfH H i rest d s bi br bf bd) (hb:qz H b):VrfH ((b,o)::H) i rest d s bi br bf bd:=by
 obtain ⟨x,hx,gx⟩:=h.r
 obtain ⟨y,hy,gy⟩:=h.d
 exact ⟨(qg (qD hb h.i)).trans h.i,⟨x,hx,(qg (qD hb gx)).trans gx⟩,(qg (qD hb h.f)).trans h.f,⟨y,hy,(qg (qD hb gy)).trans gy⟩⟩
theorem tc (hg:Kst H) (hv:VrfH H i rest d s bi br bf bd) (hn:n<68) (hl:16*68<=rest.length) (hl2:rest.length<=200000) (h:R (.agg (jr (aY i d rest s n))) H):
  ACall Tryz.prog 54 [.int .i64 (n:Int),.ptr bi 0,.ptr bd 0,.ptr bf 0] H R:=by
 refine b54 fun hf=>?_
 have hbig:=qn
 simp+contextual only [↓U54,↓U54.1,↓XP,ql,qa,qb]
 intro b5 h5
 have hv5:=hv.push (o:= .cells (barr 16 [])) h5
 obtain ⟨y,hy,gy⟩:=hv.d
 have e1:=qD h5 hv.i
 have e2:=qD h5 hv.f
 have e3:=qD h5 gy
 have g:=Uc (f:=zB d s) (i:=n) hn
 have c0:((0:Int)<=(n:Int))=True:=qC
 have c1:((n:Int)<68)=True:=qC
 have c2:(n<68)=True:=eq_true hn
 have hd3:=Zc d s n
 simp+contextual only [oz,Me,qg e1,qg e2,qg e3,hv.i,hv.f,gy,hy,g,c0,c1,Mf,↓XP,ql,XW1]
 have hg5:Kst ((b5,.cells (barr 16 []))::H):=hg.push h5
 refine fun _ _ _=>⟨_,fun H1 hs=>by
  obtain ⟨x,hx,gx⟩:=(hv5.sub hs).r
  exact ZN hx gx (by omega) hl2 ⟨rfl,rfl⟩,?_⟩
 have hck:=Wh (rest:=rest) (k:=n) (by omega)
 rw [show aY i d rest s n=wU i n (vz rest n) (zB d s n) (3 - zB d s n) from rfl] at h
 generalize vz rest n=u at hck h ⊢
 simp+contextual only [↓XP,qA,XW1]
 refine ⟨_,fun H1 hs=>dD (n:=3 - zB d s n) (by omega) (hg5.sub hs) hck (by omega) (by omega) ⟨rfl,rfl⟩,?_⟩
 have hal:=u9 (i:=i) (c:=n) (f:=zB d s n) hck (3 - zB d s n)
 generalize wU i n u (zB d s n) (3 - zB d s n)=a at hal h ⊢
 simp+contextual only [qx,hal,qZ hal,jp,↓XP,ql,XW1,qb]
 exact h
theorem Cy:∀v:Fin 64,bits .and .i64 ((v.val:Nat):Int) 1=((v.val % 2:Nat):Int):=by decide
theorem iO {i l t:Nat} (hh:t<=6) (hl:l<t) (hi:i<2 ^ t) (hp:2 ^ t<=64):bits .and .i64 ((i:Int).fdiv (2 ^ min l IntKind.i64.bits)) 1=((i / 2 ^ l % 2:Nat):Int):=by
 have h1:min l IntKind.i64.bits=l:=Nat.min_eq_left (show l<=64 by omega)
 have h2:(i:Int).fdiv (2 ^ l)=((i / 2 ^ l:Nat):Int):=by
  rw [show ((2:Int) ^ l)=((2 ^ l:Nat):Int) by simp,Int.fdiv_eq_ediv_of_nonneg _ (Int.natCast_nonneg _)]
  exact (Int.natCast_ediv _ _).symm
 rw [h1,h2]
 exact Cy ⟨i / 2 ^ l,Nat.lt_of_le_of_lt (Nat.div_le_self _ _) (by omega)⟩
theorem zZ:∀{n:Nat},(∀k,k<n->f k=g k)->jD f n=jD g n
 |0,_=>rfl
 |n+1,h=>by rw [jD,jD,zZ (fun k hk=>h k (by omega)),h n (by omega)]
theorem dS {pub m sig:List UInt8} {ht:Int} {H:AH} (hg:Kst H) (hp:pub.length=16) (hm:m.length<=100000) (hs:sig.length<=100000)
  (h:R (.tup [.int .i64 (WF pub ht m sig).1,.int .i64 (WF pub ht m sig).2]) H):ACall Tryz.prog 24 [.agg (jr pub),.int .i64 ht,.str m,.str sig] H R:=by
 refine b24 fun hf=>?_
 have hbig:=qn
 simp+contextual only [↓eX,↓eX,↓XP,qA,qa,qb]
 intro b4 h4
 refine Js ?_
 unfold WF at h
 rcases Classical.em (Vg ht=true) with hk|hk
 ·rw [if_neg (by rw [hk];decide)] at h
  obtain ⟨hk1,hk2⟩:0<=ht∧ht<=6:=by
   unfold Vg at hk
   simp only [Mh,decide_eq_true_eq] at hk
   exact hk
  have l3:((1048576:Int)<(m.length:Int))=False:=qY
  simp+contextual only [hk,l3,↓eX,↓XP,ql,XW1,↓XH]
  refine fun _ _=>zj (b:=sig) ?_
  have hle:=zL (b:=sig)
  obtain ⟨i0,n0,e0,hdec⟩:∃i0 n0 e0,qG sig=(i0,n0,e0):=⟨_,_,_,rfl⟩
  rw [hdec] at h hle ⊢
  dsimp only at h hle ⊢
  rcases Classical.em (e0=0) with he|he
  ·rw [he] at h ⊢
   clear he hdec
   rw [if_neg (fun c=>c rfl)] at h
   have n1:((0:Int)<=(n0:Int))=True:=qC
   have n2:((n0:Int)<=(sig.length:Int))=True:=qC
   obtain ⟨t,rfl⟩:=Mp hk1
   rw [Mf] at h
   obtain ⟨hp1,hp2,hp3⟩:=QX (ht:=t) (by omega)
   have hrl:(sig.drop n0).length<=sig.length:=by rw [List.length_drop];omega
   have hw1:IntKind.i64.wrap (68+(t:Int))=68+(t:Int):=qj (by omega) (by omega)
   have hw2:IntKind.i64.wrap ((68+(t:Int))*16)=(68+(t:Int))*16:=qj (by omega) (by omega)
   have htk:List.take sig.length sig=sig:=List.take_length
   simp+contextual only [n1,n2,hw1,hw2,hp1,htk,Mf,↓eX,↓XP,ql,XW1]
   generalize sig.drop n0=rest at h hrl ⊢
   intro hii _ _ KF h10 _ aR h13
   obtain ⟨n104,f10⟩:=h10
   obtain ⟨n1310,n134,f13⟩:=h13
   refine ⟨fun c=>?_,fun c1=>⟨fun c=>?_,fun c2=>⟨fun c=>?_,fun c3=>?_⟩⟩⟩
   ·rw [if_pos (.inl c)] at h;exact h
   ·rw [if_pos (.inr (.inl c))] at h;exact h
   ·rw [if_pos (.inr (.inr (by omega)))] at h;exact h
   have hrl2:rest.length=(68+t)*16:=by omega
   rw [if_neg (by omega)] at h
   clear c3 hrl
   obtain ⟨i,rfl⟩:=Mp (show 0<=i0 by omega)
   rw [Mf] at h
   rw [show Gg pub i m rest t=Vz rest i (ky 1 [ky 9 [jD (aY i (vW pub i m) rest (Kz (vW pub i m) 64)) 68]]) t from rfl] at h
   have hi2:i<2 ^ t:=by omega
   intro Gl h14
   obtain ⟨n1413,n1410,n144,f14⟩:=h14
   have hg3:Kst ((Gl,.cells [.fn 50 [.ptr aR 0]])::(aR,.cells [.slc (rest.map qh)])::(KF,.cells [.int .i64 (i:Int)])::(b4,.cells (jr pub))::H):=
    (((hg.push h4).push ⟨Ne.symm n104,f10⟩).push ⟨Ne.symm n1310,Ne.symm n134,f13⟩).push ⟨Ne.symm n1413,Ne.symm n1410,Ne.symm n144,f14⟩
   simp+contextual only [qx,qg,n104,n1310,n134,n1410,n144,hp,qZ hp,jp,↓XP,ql,XW1]
   refine fun _=>me hg3 hp hm ?_
   have nd:=oB pub i m
   generalize vW pub i m=d at nd h
   simp+contextual only [↓XP,qA,XW1]
   refine Ua nd ?_
   generalize Kz d 64=s at h
   simp+contextual only [oz,↓eX,↓XP,ql,XW1]
   intro _ iB h15
   obtain ⟨n1514,n1513,n1510,n154,f15⟩:=h15
   have hg4:=hg3.push (b:=iB) (o:= .cells [.slc (oN (zB d s))]) ⟨Ne.symm n1514,Ne.symm n1513,Ne.symm n1510,Ne.symm n154,f15⟩
   have hv4:VrfH ((iB,.cells [.slc (oN (zB d s))])::(Gl,.cells [.fn 50 [.ptr aR 0]])::(aR,.cells [.slc (rest.map qh)])::(KF,.cells [.int .i64 (i:Int)])::(b4,.cells (jr pub))::H) i rest d s KF aR Gl iB:=
    ⟨by rw [qg n1510,qg n1410,qg n1310,jl],⟨_,rfl,by rw [qg n1513,qg n1413,jl]⟩,by rw [qg n1514,jl],⟨_,rfl,jl⟩⟩
   have hcl:∀c,c<68+t->(vz rest c).length=16:=fun c hc=>Wh (by omega)
   have hvl:∀c,(if c<68 then aY i d rest s c else pub).length=16:=fun c=>by
    split
    ·exact u9 (hcl c (by omega)) _
    ·exact hp
   rw [show jD (aY i d rest s) 68=jD (fun c=>if c<68 then aY i d rest s c else pub) 68 from zZ fun k hk=>(if_pos hk).symm] at h
   refine ce (val:=fun c=>if c<68 then aY i d rest s c else pub) hg4 hvl (fun n hn2 H1 hs1 R1 hr1=>tc (hg4.sub hs1) (hv4.sub hs1) hn2 (by omega) (by omega) (by rw [if_pos hn2] at hr1;exact hr1)) ?_
   generalize hv0:ky 1 [ky 9 [jD (fun c=>if c<68 then aY i d rest s c else pub) 68]]=v0 at h ⊢
   have h10:v0.length=16:=by rw [<-hv0];exact kR _ _
   clear hv0 hvl
   simp+contextual only [qx,h10,↓XP,ql,XW1,qb]
   intro fM h16
   obtain ⟨n1615,n1614,n1613,n1610,n164,f16⟩:=h16
   refine XW.loopS hmm 90 (fun l:Nat=>[(1,.int .i64 (t:Int)),(4,.ptr b4 0),(10,.ptr KF 0),(14,.ptr Gl 0),(16,.ptr fM 0),(64,.int .i64 (t:Int)),(65,.int .i64 (l:Int))]) (fun l=>(fM,.cells (jr (Vz rest i v0 l)))::(iB,.cells [.slc (oN (zB d s))])::(Gl,.cells [.fn 50 [.ptr aR 0]])::(aR,.cells [.slc (rest.map qh)])::(KF,.cells [.int .i64 (i:Int)])::(b4,.cells (jr pub))::H) (fun l=>t - l) (fun l=>l<=t) 0 (Nat.zero_le _) ⟨rfl,rfl,rfl,rfl,rfl,rfl,rfl,rfl,trivial⟩ rfl ?_
   intro l z hl K hN hE hR
   dsimp only [fl,zz,qa,qb]
   have hul:=Zr (rest:=rest) (i:=i) h10 l
   have hst:Vz rest i v0 (l+1)=if i / 2 ^ l % 2=1 then ky 2 [vz rest (68+l),Vz rest i v0 l] else ky 2 [Vz rest i v0 l,vz rest (68+l)]:=rfl
   have h3:l=t->R (.tup [.int .i64 (if Vz rest i v0 l=pub then ((i:Int),(0:Int)) else (0,10)).1,.int .i64 (if Vz rest i v0 l=pub then ((i:Int),(0:Int)) else (0,10)).2]) H:=fun e=>by rw [e];exact h
   generalize Vz rest i v0 l=u at hul hst h3 ⊢
   have hg5:=hg4.push (b:=fM) (o:= .cells (jr u)) ⟨Ne.symm n1615,Ne.symm n1614,Ne.symm n1613,Ne.symm n1610,Ne.symm n164,f16⟩
   have hv5:=hv4.push (b:=fM) (o:= .cells (jr u)) ⟨Ne.symm n1615,Ne.symm n1614,Ne.symm n1613,Ne.symm n1610,Ne.symm n164,f16⟩
   have hud:(jr u).drop 16= []:=List.drop_of_length_le (by rw [qx,hul];exact Ml _)
   rcases Classical.em (l<t) with hlt|hlt
   ·have hlt':((l:Int)<(t:Int))=True:=qC
    have hl0:((0:Int)<=(l:Int))=True:=qC
    have hbit:=iO (i:=i) (by omega) hlt hi2 hp2
    have hw3:IntKind.i64.wrap (68+(l:Int))=((68+l:Nat):Int):=by rw [qj (by omega) (by omega)];omega
    have hc:=hcl (68+l) (by omega)
    have hn2:=Zr (rest:=rest) (i:=i) h10 (l+1)
    rcases Nat.mod_two_eq_zero_or_one (i / 2 ^ l) with hy|hy
    case' inl=>
     have hy2:(((i / 2 ^ l % 2:Nat):Int)=1)=False:=qY
     rw [if_neg (by omega)] at hst
    case' inr=>
     have hy2:(((i / 2 ^ l % 2:Nat):Int)=1)=True:=qC
     rw [if_pos hy] at hst
    all_goals simp+contextual only [qx,qg,n1310,n1410,qg,n1514,n1510,qg,n1614,n1610,hlt',hl0,hbit,hy2,hw3,hul,qZ hul,jp,Mf,↓eX,↓XP,ql,XW1]
    all_goals refine fun _=>⟨_,fun H1 hs1=>by
     obtain ⟨x,hx,gx⟩:=(hv5.sub hs1).r
     exact ZN hx gx (by omega) (by omega) ⟨rfl,rfl⟩,?_⟩
    all_goals generalize vz rest (68+l)=o at hc hst ⊢
    all_goals simp+contextual only [qx,hul,qZ hul,jp,↓XP,ql,XW1]
    all_goals first
     |refine ⟨_,fun H1 hs1=>Uw (a:=o) (b:=u) (hg5.sub hs1) hc hul ⟨rfl,rfl⟩,?_⟩
     |refine ⟨_,fun H1 hs1=>Uw (a:=u) (b:=o) (hg5.sub hs1) hul hc ⟨rfl,rfl⟩,?_⟩
    all_goals rw [<-hst]
    all_goals generalize hnv:Vz rest i v0 (l+1)=nv at hn2 ⊢
    all_goals simp+contextual only [qx,hn2,hul,hud,↓XP,ql,XW1]
    all_goals rw [qm (by omega)]
    all_goals subst hnv
    all_goals exact hN (l+1) _ _ (by omega) (by omega) ⟨rfl,rfl,rfl,rfl,rfl,rfl,rfl,rfl,trivial⟩ (qL rfl)
   ·have hlt2:l=t:=by omega
    have hlt':((l:Int)<(t:Int))=False:=qY
    have h:=h3 hlt2
    simp+contextual only [hlt',↓eX,↓XP,qA]
    apply hE
    clear hE hN hR h3 hst
    have hfu:=Zn hul
    have hfp:=Zn hp
    have hsk:=Zq (a:=u) (b:=pub)
    have heq:=lw (a:=u) (b:=pub)
    simp+contextual only [qx,qg,n104,n1310,n134,n1410,n144,qg,n1510,n154,qg,n1610,n164,hul,hp,qZ hul,qZ hp,jp,hfu,hfp,hsk,heq,↓eX,↓XP,ql,XW1]
    rcases Classical.em (u=pub) with e|e
    ·rw [if_pos e] at h
     exact ⟨fun c=>absurd e c,fun _ _=>h⟩
    ·rw [if_neg e] at h
     exact ⟨fun _=>h,fun c=>absurd c e⟩
  ·rw [if_pos he] at h
   simp+contextual only [eq_false he,↓eX,↓XP,ql,XW1]
   intros
   exact h
 ·have hk':Vg ht=false:=by simpa using hk
  rw [if_pos hk'] at h
  simp+contextual only [hk',↓XP,qA,XW1,↓XH]
  exact h
end Go.Proofs.YtgopigkdcmhbbaaGreatDoor
end
noncomputable section
namespace Go.Proofs.YtgopigkdcmhbbaaGreatDoor
open Go.Xs
open Go Go.Aw
def aL:=yy Tryz.f18
def V18:=PLift.up (aI (aI (@unf (aL 5) (R [u,u] (T (F [v,u]))) rfl) (aI (@unf (aL 22) (X (R [u,u,u,z 40,z 40,z 40,z 40,z 40,u] (T (F [u]))) (F [u])) rfl) (@unf (aL 20) (X (G [u,u,u,u,u,u,u,u,u,u,u,u,u,u,u,u,u,u,v,v,u,u]) (aL 22)) rfl))) (aI (@unf (aL 12) (X (R [u,u,u,u,u] (T (F [u]))) (aL 20)) rfl) (aI (@unf (aL 2) (X (R [u,v,u] (aL 5)) (aL 12)) rfl) (@unf (aL 0) (R [u,u] (aL 2)) rfl))))
theorem sK:type_of% V18.down:=V18.down
theorem b18:Bt 18 47 (aL 0) [(.tmp 4)]:=bt Tryz.func18 rfl
end Go.Proofs.YtgopigkdcmhbbaaGreatDoor
end
section
namespace Go.Proofs.YtgopigkdcmhbbaaGreatDoor
open Go Go.Aw
abbrev QR:=List UInt8×Int
def cg (x:QR):List D:=jr x.1++ [.int .i64 x.2]
def kj (l:List QR):List (List D):=l.map cg
theorem gk:(kj l).length=l.length:=by simp [kj]
theorem bP (h:i<l.length):(kj l).getD i []=cg (l.getD i ([],0)):=by simp [kj,List.getD,h]
theorem am (h:w.length=16) (x:D):List.drop 16 (jr w++ [x])= [x]:=by
 rw [List.drop_append_of_le_length (by rw [qx,h];exact Ml _),List.drop_of_length_le (by rw [qx,h];exact Ml _),Mr]
noncomputable def tM (l:List QR) (p:Pt):Int:=
 if jk p≠0 then jk p
 else if (l.length:Int)<=p.o then 6
 else if (WF (l.getD p.o.toNat ([],0)).1 (l.getD p.o.toNat ([],0)).2 (jF (bare p)) p.sl).2≠0∨(WF (l.getD p.o.toNat ([],0)).1 (l.getD p.o.toNat ([],0)).2 (jF (bare p)) p.sl).1≠p.s - 1 then 10 else 0
theorem pX {R:D->AH->Prop} (hg:Kst H) (hl:∀x∈l,x.1.length=16) (hp:Fit p) (hs:p.sl.length<=100000) (h:R (.int .i64 (tM l p)) H):ACall Tryz.prog 18 [.slc (kj l),.agg p.d] H R:=by
 refine b18 fun hf=>?_
 have hbig:=qn
 have hd:=@dE p
 simp+contextual only [↓sK,hd,↓sK,↓XP,ql,qa,qb]
 intro b3 h3
 simp only [<-hd]
 refine uw hp ?_
 unfold tM at h
 rcases Classical.em (jk p=0) with hv|hv
 ·obtain ⟨hh,hml⟩:=uJ hv
  obtain ⟨ho0,ho7,hs1,hs16,_⟩:=hh
  rw [if_neg (fun c=>c hv)] at h
  rw [hv]
  rcases Classical.em ((l.length:Int)<=p.o) with ho|ho
  ·rw [if_pos ho] at h
   simp+contextual only [gk,hd,eq_true ho,↓sK,↓XP,ql]
   exact fun _ _ _=>h
  ·rw [if_neg ho] at h
   obtain ⟨k,hk⟩:=Mp ho0
   have hkl:k<l.length:=by omega
   have hkt:p.o.toNat=k:=by omega
   rw [hkt] at h
   have g:=bP hkl
   have ha:=hl _ (show l.getD k ([],0)∈l by simp [List.getD,hkl])
   obtain ⟨a,ht⟩:∃a:QR,l.getD k ([],0)=a:=⟨_,rfl⟩
   rw [ht] at h g ha
   obtain ⟨a,e⟩:=a
   dsimp only [cg] at h g ha
   have c0:((0:Int)<=p.o)=True:=qC
   have c1:(p.o<(l.length:Int))=True:=qC
   have c2:((l.length:Int)<=p.o)=False:=qY
   have hw:IntKind.i64.wrap (p.s - 1)=p.s - 1:=qj (by omega) (by omega)
   simp+contextual only [gk,hd,hkt,c0,c1,c2,g,yu ha,uU ha,am ha,↓sK,↓XP,ql,XW1,qb,qe]
   refine fun _ _ _ _=>⟨_,fun H1 hs=>cI hp ⟨rfl,rfl⟩,?_⟩
   generalize jF (bare p)=msg at hml h ⊢
   have hg3:=hg.push (o:= .cells [D.int IntKind.i64 p.o,D.int IntKind.i64 p.s,D.int IntKind.i64 p.day,D.slc (qF p.needs),D.slc (qM p.ops),D.str p.sl]) h3
   simp+contextual only [↓XP,ql]
   refine fun _ _=>⟨_,fun H1 hs1=>dS (hg3.sub hs1) ha (by omega) hs ⟨rfl,rfl⟩,?_⟩
   obtain ⟨r1,r2,hr⟩:∃r1 r2,WF a e msg p.sl=(r1,r2):=⟨_,_,rfl⟩
   rw [hr] at h ⊢
   dsimp only at h ⊢
   simp+contextual only [hw,↓sK,↓XP,ql,XW1]
   refine fun _ _=>⟨fun c _=>⟨fun c2=>?_,fun c2=>?_⟩,fun c=>?_⟩
   ·rw [if_pos (.inr c2)] at h;exact h
   ·rw [if_neg (fun d=>d.elim (fun d=>d c) (fun d=>d c2))] at h;exact h
   ·rw [if_pos (.inl c)] at h;exact h
 ·rw [if_pos hv] at h
  generalize jk p=e at hv h ⊢
  simp+contextual only [hd,hv,↓sK,↓XP,qA]
  exact fun _=>h
theorem Jc (h:∀x∈l,x.1.length=16):∀y∈kj l,y.length=17:=fun y hy=>by
 obtain ⟨x,hx,rfl⟩:=List.mem_map.1 hy
 exact yu (h x hx) _
theorem eh {seed m:List UInt8} {ht i:Nat} (hi:wS .i64 (i:Int)):(gT seed ht i m).length<=9+16*68+16*ht:=by
 have h1:=yh hi
 unfold gT
 simp only [Mg,yj (YZ seed (i:Int) _ _),yj (Qk seed i)]
 omega
theorem Vi {i c:Int} {v:List UInt8} {f:Int} (n:Nat):∀k,wU i c (wU i c v f n) (f+n) k=wU i c v f (n+k)
 |0=>rfl
 | k+1=>by
  rw [wU,Vi n k,<-Nat.add_assoc,wU]
  rw [show f+(n:Int)+(k:Int)=f+((n+k:Nat):Int) by omega]
theorem UK {f:Nat->List UInt8} (hf:∀n,(f n).length=16) {r:List UInt8} {k:Nat}:∀{n:Nat},k<n->vz (jD f n++r) k=f k
 | n+1,h=>by
  rw [jD,Mi]
  rcases Classical.em (k<n) with h1|h1
  ·exact UK hf h1
  ·have e:k=n:=by omega
   subst e
   unfold vz
   rw [List.drop_append_of_le_length (by rw [yj hf];omega),List.drop_of_length_le (by rw [yj hf];omega),Mr,List.take_append_of_le_length (by rw [hf];omega),Mm (by rw [hf];omega)]
theorem cP {f:Nat->List UInt8} (hf:∀n,(f n).length=16) {r:List UInt8} {k n:Nat}:vz (jD f n++r) (n+k)=vz r k:=by
 unfold vz
 rw [show 16*(n+k)=(jD f n).length+16*k by rw [yj hf];omega,List.drop_length_add_append]
theorem G4 {seed rest:List UInt8} {i:Nat}:∀{l:Nat},(∀k,k<l->vz rest (68+k)=yf seed i k)->Vz rest i (jB seed 0 i) l=jB seed l (i / 2 ^ l)
 |0,_=>by rw [Vz];simp
 | l+1,h=>by
  rw [Vz,G4 (l:=l) fun k hk=>h k (by omega),h l (by omega)]
  have e:i / 2 ^ (l+1)=i / 2 ^ l / 2:=by rw [Nat.pow_succ,Nat.div_div_eq_div_mul]
  rw [e,jB]
  unfold yf
  by_cases c:i / 2 ^ l % 2=1
  ·rw [if_pos c,eW c]
   generalize i / 2 ^ l=y at c
   rw [show y - 1=2*(y / 2) by omega]
   congr 3
   congr 1
   omega
  ·rw [if_neg c,dT (by omega)]
   generalize i / 2 ^ l=y at c
   rw [show y+1=2*(y / 2)+1 by omega]
   congr 2
   congr 1
   omega
theorem ZV {seed m:List UInt8} {ht i:Nat} (hh:ht<=6) (hi:i<2 ^ ht):WF (jB seed ht 0) (ht:Int) m (gT seed ht i m)=((i:Int),0):=by
 have hp:2 ^ ht<=64:=Mj (Nat.pow_le_pow_right (by omega) hh) (by decide)
 have hr:wS .i64 (i:Int):=by rw [kX];omega
 unfold WF
 have hk:Vg (ht:Int)=true:=by
  unfold Vg
  rw [decide_eq_true (by omega),decide_eq_true (by omega)]
  rfl
 rw [hk,if_neg (by decide)]
 have hs:gT seed ht i m=qv i++(jD (KH seed i (vW (jB seed ht 0) i m) (Kz (vW (jB seed ht 0) i m) 64)) 68++jD (yf seed i) ht):=by
  unfold gT
  rw [Mi]
 rw [hs,J8 hr]
 dsimp only
 rw [List.drop_left,if_neg (fun c=>c rfl),Mf,Mf]
 generalize hd:vW (jB seed ht 0) i m=d
 generalize hds:Kz d 64=s
 have hvl:=YZ seed (i:Int) d s
 have hpl:=Qk seed i
 obtain ⟨t,ht68⟩:∃t:Nat,t=68:=⟨_,rfl⟩
 have hcl:∀k,k<68->vz (jD (KH seed i d s) 68++jD (yf seed i) ht) k=KH seed i d s k:=fun k hk=>UK hvl hk
 have hcp:∀k,k<ht->vz (jD (KH seed i d s) 68++jD (yf seed i) ht) (68+k)=yf seed i k:=fun k hk=>by
  rw [cP hvl,<-UK (r:= []) hpl hk,Mq]
 have hln:(jD (KH seed i d s) 68++jD (yf seed i) ht).length=(68+ht)*16:=by
  rw [Mg,yj hvl,yj hpl]
  omega
 generalize jD (KH seed i d s) 68++jD (yf seed i) ht=rest at hcl hcp hln ⊢
 rw [if_neg (by omega)]
 have hroot:Gg (jB seed ht 0) i m rest ht=jB seed ht 0:=by
  unfold Gg
  rw [hd,hds]
  have hlf:jD (aY i d rest s) 68=VL seed i 68:=by
   rw [VG]
   apply zZ
   intro k hk
   show aY i d rest s k=wU i k (yQ seed i k) 0 3
   unfold aY
   rw [hcl k hk]
   unfold KH
   have h3:=Zc d s k
   have e:=@Vi i k (yQ seed i k) 0 (zB d s k) (3 - zB d s k)
   rw [Int.zero_add] at e
   rw [e,show zB d s k+(3 - zB d s k)=3 by omega]
  rw [hlf,show ky 1 [ky 9 [VL seed i 68]]=jB seed 0 i from rfl,G4 hcp,Nat.div_eq_of_lt hi]
 rw [hroot,if_pos rfl]
theorem aj {seed:List UInt8} {i:Int} {p:Pt}:bare (wg seed i p)=bare p:=rfl
theorem ZF {p:Pt} (h:p.sl= []):bare p=p:=by
 cases p
 subst h
 rfl
theorem Zf {seed:List UInt8} {i:Int} {p:Pt}:jk (wg seed i p)=jk p:=rfl
theorem fh {b:List UInt8} (h:b.length<=1000000):(qB b).length<=9+b.length:=by
 have:=yh (show wS .i64 (b.length:Int) by rw [kX];omega)
 unfold qB
 rw [Mg]
 omega
theorem GW {seed:List UInt8} {p:Pt} (hv:jk p=0):(wg seed 2 p).sl.length<=1129∧(jF (wg seed 2 p)).length<=8000:=by
 obtain ⟨hh,hl⟩:=uJ hv
 have hs:p.s<=16:=hh.2.2.2.1
 have hs1:1<=p.s:=hh.2.2.1
 have h1:=@eh seed (jF (bare p)) 2 (p.s - 1).toNat (by rw [kX];omega)
 have e:(wg seed 2 p).sl=gT seed 2 (p.s - 1).toNat (jF (bare p)):=rfl
 rw [<-e] at h1
 have h2:=fh (b:=(wg seed 2 p).sl) (by omega)
 refine ⟨by omega,?_⟩
 have e2:jF (wg seed 2 p)=qN [p.o,p.s,p.day]++qN (jz p.needs)++qv p.ops.length++p.ops.flatMap jV++qB (wg seed 2 p).sl:=rfl
 have e3:jF (bare p)=qN [p.o,p.s,p.day]++qN (jz p.needs)++qv p.ops.length++p.ops.flatMap jV++qB []:=rfl
 rw [e3,Mg] at hl
 rw [e2,Mg]
 omega
theorem hM {seed:List UInt8} {p:Pt} {l:List QR} (hv:jk p=0) (hs:p.s<=4) (ho:p.o<l.length) (hg:l.getD p.o.toNat ([],0)=(jB seed 2 0,2)):tM l (wg seed 2 p)=0:=by
 obtain ⟨hh,_⟩:=uJ hv
 have hs1:1<=p.s:=hh.2.2.1
 unfold tM
 have e:(wg seed 2 p).sl=gT seed 2 (p.s - 1).toNat (jF (bare p)):=rfl
 have e2:(wg seed 2 p).o=p.o:=rfl
 have e3:(wg seed 2 p).s=p.s:=rfl
 rw [Zf,if_neg (fun c=>c hv),e2,if_neg (by omega),hg,aj,e,e3]
 dsimp only
 have:=@ZV seed (jF (bare p)) 2 (p.s - 1).toNat (by omega) (by omega)
 rw [show ((2:Nat):Int)=2 from rfl] at this
 rw [this]
 rw [if_neg]
 dsimp only
 omega
theorem Zt {α:Type} {sz:Nat} {v rest:List α}:∀{xs:List (List α)} {i:Nat},(∀x∈xs,x.length=sz)->i<xs.length->v.length=sz->
  (xs.flatten++rest).take (i*sz)++(v++(xs.flatten++rest).drop (i*sz+sz))=(xs.set i v).flatten++rest
 | x::r,0,h,_,hv=>by
  have hx:=h x (.head _)
  simp only [Nat.zero_mul,Nat.zero_add,List.take_zero,Mr,Mt,List.set_cons_zero,Mi]
  rw [<-hx,List.drop_left]
 | x::r,i+1,h,hi,hv=>by
  have hx:=h x (.head _)
  have ih:=Zt (rest:=rest) (xs:=r) (i:=i) (fun y hy=>h y (.tail _ hy)) (by simpa using hi) hv
  simp only [Mt,List.set_cons_succ,Mi]
  rw [show (i+1)*sz=x.length+i*sz by rw [Nat.add_mul,hx];omega,List.take_length_add_append,Nat.add_assoc,List.drop_length_add_append,Mi,ih]
def vG (key m:List UInt8) (o h:Int) (n:Nat):List QR:=(List.range n).map fun (i:Nat)=>(vW key (i:Int) m,h)
theorem WP (key m:List UInt8) (o h:Int) (n:Nat):(vG key m o h n).length=n:=by simp [vG]
theorem Ya (key m:List UInt8) (o h:Int) (n:Nat):kj (vG key m o h n)++ [jr (vW key (n:Int) m)++ [.int .i64 h]]=kj (vG key m o h (n+1)):=by simp [vG,kj,cg,List.range_succ]
theorem hU:∀x∈vG key m o h n,x.1.length=16:=fun x hx=>by
 obtain ⟨k,_,rfl⟩:=List.mem_map.1 hx
 exact oB _ _ _
theorem dB:(kj l).set i (jr x.1++ [.int .i64 x.2])=kj (l.set i x):=by
 unfold kj
 rw [List.map_set]
 rfl
theorem mu {l:List QR} {i:Nat} {y:QR} (h:∀x∈l,x.1.length=16) (hy:y.1.length=16):∀x∈l.set i y,x.1.length=16:=fun x hx=>by
 rcases List.mem_or_eq_of_mem_set hx with e|e
 ·exact h x e
 ·rw [e];exact hy
theorem lr {l:List QR} {i:Nat} {x:QR} (h:i<l.length):(l.set i x).getD i ([],0)=x:=by simp [List.getD,h]
theorem Jk:∀y∈kj l,∀d∈y,plain d=true:=fun y hy d hd=>by
 obtain ⟨x,_,rfl⟩:=List.mem_map.1 hy
 unfold cg at hd
 rcases List.mem_append.1 hd with e|e
 ·obtain ⟨u,_,rfl⟩:=List.mem_map.1 e
  rfl
 ·rw [List.mem_singleton.1 e]
  rfl
end Go.Proofs.YtgopigkdcmhbbaaGreatDoor
end
noncomputable section
namespace Go.Proofs.YtgopigkdcmhbbaaGreatDoor
open Go.Xs
open Go Go.Aw
def y4:=yy Tryz.f4
def Af:XC:=(R [f 26 9 1 30,l 3 30 31,b (.call ⟨(.builtin .min),#[t 31,i 5],#[3,3]⟩) 32,f 26 9 1 33,w 3 33 32] (y4 12))
def ny:XC:=(.seq (.seq (y4 6) (C 23 (y4 8) .skip)) Af)
def nB:XC:=(.seq (y4 3) ny)
def x4:XC:=(R [a (.assign (.const (.bool false))) 8] nB)
theorem b4:Bt 4 102 x4 [(.tmp 8)]:=bt Tryz.func4 rfl
def y5:=yy Tryz.f5
def x5_s1:XC:=(.seq (.block 1 (.reg [N 21 121,f 35 11 0 122,l 33 122 123,m 22 124,a (.call ⟨(.value (.func 23)),#[t 123,t 124,(.const (.string ⟨#[111,116,104,101,114]⟩))],#[33,3,9]⟩) 125,m 2 126,a (k 16 #[t 126,i 9] #[3,3]) 127,q .sub 3 127 2 128,a (.build 35 #[(0,(t 125)),(1,(t 128))]) 129,a (.buildSlice 49 1 #[(0,(t 129))]) 130,b (.call ⟨(.builtin .append),#[t 121,t 130],#[49,49,0]⟩) 131,n 131 21])) (y5 56))
def x5_L2:XC:=(.seq (.seq (y5 49) (C 118 .skip (.exit 0))) x5_s1)
def x5_s4:XC:=(.seq (.gh (y5 60)) (y5 61))
def x5_s5:XC:=(.seq (y5 58) x5_s4)
def x5_s6:XC:=(R [Z 21] (.seq (R [A 0 22] (.block 0 (.loop x5_L2))) x5_s5))
def x5_s7:XC:=(.seq (.seq (y5 34) (C 114 (R [a (.assign (.const (.bool false))) 6] .ret) .skip)) x5_s6)
def x5_s8:XC:=(.seq (y5 31) x5_s7)
def x5_s9:XC:=(.seq (y5 29) x5_s8)
def x5_s10:XC:=(R [L 26 7 57,a (.alloc 26) 16,w 26 16 57] (R [f 26 16 5 58,s (.store 9 (t 58) (.const (.string ⟨#[]⟩)))] x5_s9))
def x5_s11:XC:=(.seq (y5 23) x5_s10)
def x5_s12:XC:=(.seq (y5 19) (R [L 26 9 53,a (.alloc 26) 15,w 26 15 53] x5_s11))
def x5_s13:XC:=(.seq (y5 17) x5_s12)
def x5_s14:XC:=(.seq (y5 15) x5_s13)
def x5_s15:XC:=(.seq (y5 13) x5_s14)
def x5_s16:XC:=(.seq (R [f 26 7 1 28,l 3 28 29,q .gtr 3 29 4 30] (C 30 (R [b (k 15 #[] #[]) 31,n 31 6] .ret) .skip)) x5_s15)
def x5_s17:XC:=(.seq (y5 3) x5_s16)
def x5:XC:=(R [a (.assign (.const (.bool false))) 6] x5_s17)
def V5r:=PLift.up (aI (aI (aI (@unf (y5 49) (r [u,u,u,u]) rfl) (aI (@unf (y5 60) (r [u,u,u,u,u,u,u,v,v,u,u]) rfl) (@unf (y5 58) (r [u,u,u,v,u,u]) rfl))) (aI (@unf (y5 34) (r [u,u,u,z 71,z 71,u,u,z 75,z 75,u,u,z 79,z 79,u,u,z 83,z 83,u,u,z 87,z 87,z 87,u,u,z 92,z 92,z 92,z 92,u,u,z 98,z 98,z 98,z 98,u,u,z 104,z 104,z 104,z 104,u,u,z 110,z 110,z 110,u]) rfl) (aI (@unf (y5 31) (r [u,u,u,v,v,u,u]) rfl) (@unf (y5 29) (r [u,u,u,v,v,u,u]) rfl)))) (aI (aI (@unf (y5 23) (r [u,v,u,u]) rfl) (aI (@unf (y5 19) (r [u,u,u,v,v,u,u,u]) rfl) (@unf (y5 17) (r [u,u,u,u,v,v,u,u,u]) rfl))) (aI (@unf (y5 15) (r [u,u,u,u,u,v,v,u,u,u]) rfl) (aI (@unf (y5 13) (r [u,u,v,u]) rfl) (@unf (y5 3) (r [u,u,v,u,u]) rfl)))))
theorem Kd:type_of% V5r.down:=V5r.down
def V5:=PLift.up (aI (aI (aI (aI (@unf (y5 56) (r [u,v,u]) rfl) (@unf _ _ x5_s1.eq_1)) (aI (@unf _ _ x5_L2.eq_1) (@unf (y5 61) (F [u,u,u,u,u,u,y 151,y 151,u,u,y 155,y 155,y 155,y 155,u,u,y 161,v,u]) rfl))) (aI (aI (@unf _ _ x5_s4.eq_1) (@unf _ _ x5_s5.eq_1)) (aI (@unf _ _ x5_s6.eq_1) (aI (@unf _ _ x5_s7.eq_1) (@unf _ _ x5_s8.eq_1))))) (aI (aI (aI (@unf _ _ x5_s9.eq_1) (@unf _ _ x5_s10.eq_1)) (aI (@unf _ _ x5_s11.eq_1) (@unf _ _ x5_s12.eq_1))) (aI (aI (@unf _ _ x5_s13.eq_1) (@unf _ _ x5_s14.eq_1)) (aI (@unf _ _ x5_s15.eq_1) (aI (@unf _ _ x5_s16.eq_1) (@unf _ _ x5_s17.eq_1))))))
theorem U5:type_of% V5.down:=V5.down
theorem b5:Bt 5 164 x5 [(.tmp 6)]:=bt Tryz.func5 rfl
end Go.Proofs.YtgopigkdcmhbbaaGreatDoor
end
section
namespace Go.Proofs.YtgopigkdcmhbbaaGreatDoor
open Go Go.Aw
theorem tC {seed:List UInt8} {p:Pt} (hl:seed.length=32) (hv:jk p=0) (hs:p.s<=4):Gy seed 2 p=(wg seed 2 p,0):=by
 unfold Gy
 rw [if_neg (fun c=>c hv),if_neg (fun c=>c ⟨decide_eq_true ⟨hl,by decide,by decide⟩,by decide⟩),if_neg (by rw [show ((2 ^ Int.toNat 2:Nat):Int)=4 from rfl];omega)]
theorem cQ {p:Pt} (hv:jk p=0) (hs:p.sl.length<=1200):gC p=0:=by
 unfold gC
 rw [if_neg (fun c=>c hv),if_neg (by omega)]
theorem B3 {sd:List UInt8} {p:Pt} (hsd:sd.length=32) (hv:jk p=0) (hsl:p.sl= []) (hs:p.s<=4) (hf:Fit p):∃(q:Pt) (root:List UInt8),Gy sd 2 p=(q,0)∧jB sd 2 0=root∧root.length=16∧q.d= [.int .i64 p.o,.int .i64 p.s,.int .i64 p.day,.slc (qF p.needs),.slc (qM p.ops),.str q.sl]∧Fit q∧jk q=0∧q.sl.length<=1129∧(jF q).length<=8000∧
  (∀l:List QR,p.o<l.length->l.getD p.o.toNat ([],0)=(root,2)->tM l q=0)∧WF root 2 (jF p) q.sl=(p.s - 1,0):=by
 obtain ⟨h1,h2⟩:=GW (seed:=sd) hv
 obtain ⟨hok,_⟩:=uJ hv
 have hs1:1<=p.s:=hok.2.2.1
 have:=@ZV sd (jF p) 2 (p.s - 1).toNat (by omega) (by omega)
 refine ⟨wg sd 2 p,_,tC hsd hv hs,rfl,yp _ _ _,rfl,⟨hf.ops,hf.needs,hf.ids,hf.name,hf.text,by omega⟩,hv,h1,h2,fun l ho hg=>hM hv hs ho hg,?_⟩
 have e:(wg sd 2 p).sl=gT sd 2 (p.s - 1).toNat (jF p):=by
  show gT sd 2 (p.s - 1).toNat (jF (bare p))=_
  rw [ZF hsl]
 rw [e,show (2:Int)=((2:Nat):Int) from rfl,this,Int.toNat_of_nonneg (by omega)]
def HD (key m:List UInt8) (h:Int) (n b cap:Nat):D:=if n=0 then .own [] else .hgs b n cap
def HE (key m:List UInt8) (h:Int) (n b:Nat) (rest:List D):AH:=if n=0 then [] else [(b,.cells ((kj (vG key m 0 h n)).flatten++rest))]
theorem HC (key m:List UInt8) (h:Int) (b cap:Nat):HD key m h 0 b cap= .own []:=if_pos rfl
theorem HB (key m:List UInt8) (h:Int) (b:Nat) (rest:List D):HE key m h 0 b rest= []:=if_pos rfl
theorem cX (key m:List UInt8) (h:Int) (n b cap:Nat):HD key m h (n+1) b cap= .hgs b (n+1) cap:=if_neg (Nat.succ_ne_zero n)
theorem eH (key m:List UInt8) (h:Int) (n b:Nat) (rest:List D):HE key m h (n+1) b rest= [(b,.cells ((kj (vG key m 0 h (n+1))).flatten++rest))]:=if_neg (Nat.succ_ne_zero n)
theorem xX {o:Int} {n:Nat} (h:((n+1:Nat):Int)<=o):n+1+1<=o.toNat+1∧o.toNat+1 - (n+1+1)<o.toNat+1 - (n+1):=by omega
theorem HA {n m nc:Nat} (h:(n+1)*17+17+m=nc*17):(n+1+1)*17+m=nc*17:=by rw [Nat.add_mul (n+1) 1,Nat.one_mul];exact h
theorem D6 {o:Int} {n:Nat} (h0:0<=o) (hn:n+1<=o.toNat+1) (h:¬((n+1:Nat):Int)<=o):n=o.toNat∧o<((n+1:Nat):Int):=by omega
theorem xt {o:Int} {n:Nat} (h7:o<=7) (h:((n+1:Nat):Int)<=o):(n+1+1)*24<=140737488355328∧n+1<=140737488355328:=by
 have h1:n<=6:=by omega
 exact ⟨Mj (Nat.mul_le_mul_right 24 (show n+1+1<=8 by omega)) (by decide),by omega⟩
theorem Ah {s:Int} (h1:1<=s) (h2:s<=16): -9223372036854775808<=s - 1∧s - 1<=9223372036854775807:=by omega
theorem Dc {s:Int} (h:¬s<=4):4<s:=by omega
structure LsSt where
 n:Nat
 b:Nat
 cap:Nat
 rest:List D
def otS:List UInt8:= [111,116,104,101,114]
theorem Fz.pubs {F:List D} {H:AH} {s b n cap:Nat} {l:List QR} {rest:List D} (hl:∀x∈l,x.1.length=16) (hF:F.getD s .any= .hgs b n cap) (hg:qk H b=some (.cells ((kj l).flatten++rest))) (hn:l.length=n):Fz F H (F.set s (.slc (kj l))) (qI H b):=by
 have h1:=Fz.hgs (H:=H) hF
 have hlt:s<F.length:=by
  rcases Nat.lt_or_ge s F.length with h|h
  ·exact h
  ·rw [List.getD,List.getElem?_eq_none h] at hF
   cases hF
 have h2:=Fz.freeze (F:=F.set s (.hsl b n)) (H:=H) (s:=s) (b:=b) (n:=n) (sz:=17) (xs:=kj l) (rest:=rest) (by simp [List.getD,hlt]) hg rfl (by rw [gk];exact hn) (Jc hl) (by omega) Jk
 have h3:=h1.trans h2
 rwa [List.set_set] at h3
theorem AF {l:List Int} {a ot:Int} {H:AH} {R:D->AH->Prop} (hg:Kst H) (hg0:Kst0 H) (h:R (.bool true) H):
  ACall Tryz.prog 5 [.slc (ints l),.int .i64 a,.int .i64 ot] H R:=by
 refine b5 fun hf=>?_
 have hbig:=qn
 simp+contextual only [x5,↓U5,↓Kd,↓XP,qA,qa,qb]
 refine nS fun p hp=>?_
 have hv:=hp.v
 have hsl:=hp.sl
 have hfit:=hp.fit
 obtain ⟨hok,_⟩:=uJ hv
 obtain ⟨ho0,ho7,hs1,hs16,_⟩:=hok
 clear hp
 have hd:p.d= [.int .i64 p.o,.int .i64 p.s,.int .i64 p.day,.slc (qF p.needs),.slc (qM p.ops),.str []]:=by rw [<-hsl];rfl
 simp+contextual only [hd,↓U5,↓Kd,↓XP,ql,XW1,qb]
 intro b7 h7
 have g1:=hg.push (o:= .cells p.d) h7
 have g2:=hg0.push (o:= .cells p.d) h7
 by_cases hs4:p.s<=4
 ·have l1:((4:Int)<p.s)=False:=qY
  simp+contextual only [l1,qA,XW1]
  refine fun _ _=>mh ho0 (by omega) ?_
  have hsd:=Y7 p.o 32
  generalize Qz p.o 32=sd at hsd ⊢
  obtain ⟨q,root,e1,e2,nr,hdq,hfq,hvq,hl1,hl2,hvf,hvr⟩:=B3 hsd hv hsl hs4 hfit
  have hok2:Qe sd 2=true:=decide_eq_true ⟨hsd,by decide,by decide⟩
  simp+contextual only [↓U5,↓Kd,↓XP,ql,qb,qe]
  rw [<-hd]
  refine fun _=>sv (p:=p) g1 hfit ?_
  rw [e1]
  simp+contextual only [hd,hdq,↓U5,↓Kd,↓XP,ql,XW1,qb,qe]
  intro _ b9 h9
  obtain ⟨n9,f9⟩:=h9
  have g3:=g1.push (o:= .cells q.d) ⟨Ne.symm n9,f9⟩
  have g4:=g2.push (o:= .cells q.d) ⟨Ne.symm n9,f9⟩
  rw [<-hd,<-hdq]
  refine Yv g3 ?_
  rw [UZ hok2 (by decide),show Int.toNat 2=2 from rfl,e2]
  simp+contextual only [hd,hdq,yu nr,↓U5,↓Kd,↓XP,ql,XW1,qb]
  intro _ BJ h11
  obtain ⟨n11,n11',f11⟩:=h11
  have g5:=g3.push (o:= .cells (jr root++ [.int .i64 2])) ⟨Ne.symm n11,Ne.symm n11',f11⟩
  have g6:=g4.push (o:= .cells (jr root++ [.int .i64 2])) ⟨Ne.symm n11,Ne.symm n11',f11⟩
  rw [<-hd,<-hdq]
  refine Q7 g5 ?_
  rw [ci hok2,show Int.toNat 2=2 from rfl,e2]
  simp+contextual only [qg,n9,qg,n11,n11',hd,hdq,qx,nr,↓U5,↓Kd,↓XP,ql,XW1,qb]
  intro _ aR h13 iB h15 _ fM h16
  obtain ⟨k1,k2,k3,f13⟩:=h13
  obtain ⟨k4,k5,k6,k7,f15⟩:=h15
  obtain ⟨k8,k9,ka,kb,kc,f16⟩:=h16
  have g7:=((g5.push (o:= .cells (jr root)) ⟨Ne.symm k1,Ne.symm k2,Ne.symm k3,f13⟩).push (o:= .cells p.d) ⟨Ne.symm k4,Ne.symm k5,Ne.symm k6,Ne.symm k7,f15⟩).push (o:= .cells p.d) ⟨Ne.symm k8,Ne.symm k9,Ne.symm ka,Ne.symm kb,Ne.symm kc,f16⟩
  have g8:=((g6.push (o:= .cells (jr root)) ⟨Ne.symm k1,Ne.symm k2,Ne.symm k3,f13⟩).push (o:= .cells p.d) ⟨Ne.symm k4,Ne.symm k5,Ne.symm k6,Ne.symm k7,f15⟩).push (o:= .cells p.d) ⟨Ne.symm k8,Ne.symm k9,Ne.symm ka,Ne.symm kb,Ne.symm kc,f16⟩
  rw [<-hd,<-hdq]
  refine zf hfit ?_
  rw [cQ hv (by rw [hsl];decide),if_pos rfl]
  simp+contextual only [qg,qg,n11,qg,k2,k6,kb,hd,hdq,↓U5,↓Kd,↓XP,ql,XW1,qb]
  rw [<-hd,<-hdq]
  refine fun hen _=>zf hfq ?_
  rw [cQ hvq (by omega),if_pos rfl]
  generalize jF q=eq at hl2
  simp+contextual only [qg,qg,n11,qg,k2,k6,kb,hd,hdq,↓U5,↓Kd,↓XP,ql,XW1,qb]
  rw [<-hd,<-hdq]
  refine fun _ _=>uw hfq ?_
  rw [hvq]
  have hci:∀d∈jr root++ [D.int .i64 2],∃k n,d= .int k n:=fun d hd=>by
   rcases List.mem_append.1 hd with e|e
   ·obtain ⟨u,_,rfl⟩:=List.mem_map.1 e
    exact ⟨_,_,rfl⟩
   ·rw [List.mem_singleton.1 e]
    exact ⟨_,_,rfl⟩
  have hft:Aw.fits [CT.i,CT.i,CT.i,CT.i,CT.i,CT.i,CT.i,CT.i,CT.i,CT.i,CT.i,CT.i,CT.i,CT.i,CT.i,CT.i,CT.i] (jr root++ [D.int .i64 2]):=by
   have:=Vv hci
   rw [yu nr] at this
   exact this
  have hsk:=Yl hci
  have heq:=ZL hci
  have l2:((1200:Int)<(q.sl.length:Int))=False:=qY
  have l3:((8000:Int)<(eq.length:Int))=False:=qY
  simp+contextual only [qg,n9,qg,n11',qg,k3,k7,k8,kc,hd,hdq,↓Kd,↓XP,ql,XW1,qb]
  rw [<-hd,<-hdq]
  refine fun _=>bY (p:=p) ?_
  simp+contextual only [qg,qg,n11,qg,k1,k2,k4,k5,k6,k9,ka,kb,hd,hdq,qx,nr,qZ nr,jp,yu nr,US nr,uU nr,Jd nr,Wi,hft,hsk,heq,l2,l3,↓U5,↓Kd,↓XP,ql,XW1,qb,qe,↓XH]
  obtain ⟨hh,hhe⟩:∃hh,IntKind.i64.wrap (around ot 9 - 2)=hh:=⟨_,rfl⟩
  intro _ _
  rw [<-hd,<-hdq]
  have hot:otS.length=5:=rfl
  refine XW.loopSR hmm 164 (fun z:LsSt=>[(2,.int .i64 ot),(7,.ptr b7 0),(9,.ptr b9 0),(11,.ptr BJ 0),(13,.ptr aR 0),(17,.slc ((jF p).map qh)),(21,HD root otS hh z.n z.b z.cap),(22,.int .i64 (z.n:Int))]) (fun s=>HE root otS hh s.n s.b s.rest++((fM,AO.cells p.d)::(iB,AO.cells p.d)::(aR,AO.cells (jr root))::(BJ,AO.cells (jr root++ [D.int .i64 2]))::(b9,AO.cells q.d)::(b7,AO.cells p.d)::H)) (fun s=>p.o.toNat+1 - s.n)
   (fun s=>s.n<=p.o.toNat+1∧(s.n≠0->(¬fM=s.b∧¬iB=s.b∧¬aR=s.b∧¬BJ=s.b∧¬b9=s.b∧¬b7=s.b∧qz H s.b)∧s.n*17+s.rest.length=s.cap*17)) ⟨0,0,0,[]⟩ ⟨by dsimp only;omega,fun e=>absurd rfl e⟩ ⟨rfl,rfl,rfl,rfl,rfl,rfl,rfl,rfl,rfl,trivial⟩ rfl ?_
  rintro ⟨n,b,cap,rest⟩ z ⟨hn,hfr⟩ K hN hE hR
  dsimp only at hn hfr
  by_cases hn0:n=0
  ·subst hn0
   simp only [HC,HB,Mr]
   dsimp only [fl,zz,qa,qb]
   have l4:((0:Int)<=p.o)=True:=qC
   simp+contextual only [Me,qg,n9,qg,n11',qg,k1,k3,k5,k7,ka,kc,hd,hdq,uU nr,jp,l4,↓U5,↓Kd,↓XP,ql,XW1]
   rw [<-hd,<-hdq]
   refine fun _=>⟨by rw [yu nr];decide,ck (m:=otS) g8 nr (by rw [hot];decide) ?_⟩
   have nd:=oB root 0 otS
   have hst:=Ya root otS 0 hh 0
   rw [Int.natCast_zero] at hst
   generalize vW root 0 otS=w at nd hst
   simp+contextual only [hd,hdq,↓Kd,↓XP,qA,XW1]
   rw [<-hd,<-hdq]
   refine gj (by decide) ?_
   simp+contextual only [hd,hdq,hhe,qx,nd,yu nd,uU nd,Jd nd,↓U5,↓Kd,↓XP,ql,XW1,qb,qc,qe,reduceCtorEq]
   intro _ nb nc m hb hcap
   rw [<-hd,<-hdq,show IntKind.i64.wrap (0+1)=((0+1:Nat):Int) from rfl]
   refine hN ⟨1,nb,nc,List.replicate m .any⟩ _ _ ⟨by dsimp only;omega,fun _=>⟨hb,by dsimp only;rw [Mu];omega⟩⟩ (by dsimp only;omega) (by rw [cX];exact ⟨rfl,rfl,rfl,rfl,rfl,rfl,rfl,rfl,rfl,trivial⟩) (Sbn.sub ?_)
   dsimp only
   rw [eH,<-hst]
   exact List.Sublist.refl _
  ·obtain ⟨n,rfl⟩:∃k,n=k+1:=⟨n - 1,by omega⟩
   simp only [cX,eH,Ms,Mr]
   obtain ⟨⟨j1,j2,j3,j4,j5,j6,jf⟩,hcap⟩:=hfr hn0
   dsimp only [fl,zz,qa,qb]
   have h16:=@hU root otS 0 hh (n+1)
   have hln:(kj (vG root otS 0 hh (n+1))).length=n+1:=by rw [gk,WP]
   by_cases hlt:((n+1:Nat):Int)<=p.o
   ·have l4:(((n+1:Nat):Int)<=p.o)=True:=eq_true hlt
    have g9:=g8.push (o:= .cells ((kj (vG root otS 0 hh (n+1))).flatten++rest)) ⟨Ne.symm j1,Ne.symm j2,Ne.symm j3,Ne.symm j4,Ne.symm j5,Ne.symm j6,jf⟩
    simp+contextual only [qg,n9,qg,n11',qg,k1,k3,k5,k7,ka,kc,qg,j4,j6,hd,hdq,uU nr,jp,l4,↓U5,↓Kd,↓XP,ql,XW1]
    rw [<-hd,<-hdq]
    refine fun _=>⟨by rw [yu nr];decide,ck (m:=otS) g9 nr (by rw [hot];decide) ?_⟩
    have nd:=oB root ((n+1:Nat):Int) otS
    have hst:=Ya root otS 0 hh (n+1)
    have hfl:(kj (vG root otS 0 hh (n+1))).flatten.length=(n+1)*17:=by rw [Go.Aw.flat_len (Jc h16),hln]
    have hpl:∀d∈(kj (vG root otS 0 hh (n+1))).flatten,plain d=true:=fun d hd=>by
     obtain ⟨y,hy,h⟩:=List.mem_flatten.1 hd
     exact Jk y hy d h
    generalize vW root ((n+1:Nat):Int) otS=w at nd hst
    simp+contextual only [hd,hdq,↓Kd,↓XP,qA,XW1]
    rw [<-hd,<-hdq]
    refine gj (by decide) ?_
    have htk:((kj (vG root otS 0 hh (n+1))).flatten++rest).take ((n+1)*17)=(kj (vG root otS 0 hh (n+1))).flatten:=by rw [<-hfl,List.take_left]
    have hal:(kj (vG root otS 0 hh (n+1))).flatten.all plain=true:=List.all_eq_true.2 hpl
    have hcl:((kj (vG root otS 0 hh (n+1))).flatten++rest).length=cap*17:=by rw [Mg,hfl];exact hcap
    simp+contextual only [hd,hdq,hhe,qx,nd,yu nd,uU nd,Jd nd,htk,hal,hcl,↓U5,↓Kd,↓XP,ql,XW1,qb,qc,qe]
    refine fun _=>⟨(xt ho7 hlt).1,fun nb nc m hb hcap2=>?_⟩
    rw [<-hd,<-hdq,qm (by rw [hbig];exact (xt ho7 hlt).2)]
    refine hN ⟨n+1+1,nb,nc,List.replicate m .any⟩ _ _ ⟨(xX hlt).1,fun _=>⟨hb,by dsimp only;rw [Mu];exact HA hcap2⟩⟩ (xX hlt).2 (by rw [cX];exact ⟨rfl,rfl,rfl,rfl,rfl,rfl,rfl,rfl,rfl,trivial⟩) (Sbn.sub ?_)
    dsimp only
    rw [eH,<-hst,List.flatten_append,Mi]
    exact List.Sublist.refl _
   ·have l4:(((n+1:Nat):Int)<=p.o)=False:=eq_false hlt
    obtain ⟨hno,hno2⟩:=D6 ho0 hn hlt
    simp+contextual only [l4,hd,hdq,qg,n9,qg,n11',qg,k3,k7,kc,qg,j6,↓U5,↓Kd,↓XP,ql,XW1]
    intro _
    refine hE _ _ _ ?_
    clear hE hN hR
    have l5:(0<=p.o)=True:=eq_true ho0
    have l6:(p.o<((n+1:Nat):Int))=True:=eq_true hno2
    simp+contextual only [qg,n9,qg,n11',qg,k1,k3,k5,k7,ka,kc,qg,j4,j6,l5,l6,yu nr,US nr,Wi,↓U5,↓Kd,↓XP,ql,XW1]
    intro _
    have hfl:(kj (vG root otS 0 hh (n+1))).flatten.length=(n+1)*17:=by rw [Go.Aw.flat_len (Jc h16),hln]
    have hps:∀i,(kj (vG root otS 0 hh (n+1))).set i (jr root++ [.int .i64 2])=kj ((vG root otS 0 hh (n+1)).set i (root,2)):=fun i=>dB (x:=(root,2))
    have hll:=WP root otS 0 hh (n+1)
    rw [<-hno,Zt (Jc h16) (by rw [hln];exact Nat.lt_succ_self n) (yu nr _),hps]
    refine ⟨by rw [Mg,hfl,Nat.add_mul,Nat.one_mul];exact Nat.le_add_right _ _,?_⟩
    have hvL:=hvf ((vG root otS 0 hh (n+1)).set n (root,2)) (by rw [Mn,hll];exact hno2) (by rw [<-hno];exact lr (by rw [hll];exact Nat.lt_succ_self n))
    have h16':=mu (i:=n) (y:=(root,2)) h16 nr
    have hlL:((vG root otS 0 hh (n+1)).set n (root,2)).length=n+1:=by rw [Mn,hll]
    generalize (vG root otS 0 hh (n+1)).set n (root,2)=L at hvL h16' hlL ⊢
    refine Ku (Fz.pubs (s:=21) (b:=b) (l:=L) (rest:=rest) h16' rfl jl hlL) ?_
    rw [uB]
    simp+contextual only [qg,qg,n11,qg,k2,k4,k6,k9,kb,qx,nr,qZ nr,jp,↓Kd,↓XP,ql,XW1]
    have hml:=(uJ hv).2
    rw [ZF hsl] at hml
    have wps:IntKind.i64.wrap (p.s - 1)=p.s - 1:=qj (Ah hs1 hs16).1 (Ah hs1 hs16).2
    rw [<-hd,<-hdq,Jb]
    refine ⟨gU,fun _ _=>dS g7 nr (Mj hml (by decide)) (Mj hl1 (by decide)) ?_⟩
    rw [hvr]
    simp+contextual only [qg,n9,qg,n11,n11',qg,k2,k3,k6,k7,kb,kc,hd,hdq,wps,↓U5,↓Kd,↓XP,ql,XW1,qb]
    rw [<-hd,<-hdq]
    refine fun _ _ _=>pX g7 h16' hfq (Mj hl1 (by decide)) ?_
    rw [hvL]
    simp+contextual only [hd,hdq,↓Kd,↓XP,qA]
    refine fun _=>ZB ?_
    simp+contextual only [↓Kd,↓XP,qA,XW1]
    exact h
 ·have l1:((4:Int)<p.s)=True:=eq_true (Dc hs4)
  simp+contextual only [l1,qA,XW1]
  refine fun _=>ZB ?_
  simp+contextual only [↓Kd,↓XP,qA,XW1]
  exact h
end Go.Proofs.YtgopigkdcmhbbaaGreatDoor
end
section
namespace Go.Proofs.YtgopigkdcmhbbaaGreatDoor.psl
open Go Go.Aw Go.RowKit Go.ChangeShapes Go.WideShapes Go.ChangeAt
theorem eF (os:Os):laidMet Tryz.prog Rows.patchSealedRow.laid ((Q9 os).forCall (fun _ _=>0) ⟨#[],#[.slice none 0 0,.int .i64 0,.int .i64 0],[]⟩).memory:=
 laidMet_of_run' 70 (by kernel_rfl) (by kernel_rfl)
theorem contract (H:Type) (enc:TypeId×Value->H) (W:World) (base:Nat) (args:Array Value) (ds gs:List (DataW H)) (before:List MemPlace)
  (hval:∀(j:Nat) t v,Tryz.f5.params[j]?=some t->args[j]?=some v->Value.okWide Tryz.prog W .any base t v)
  (hW:DataW.Whole enc Tryz.prog Tryz.f5.params.toList Rows.patchSealedSpec.vars false W args.toList ds gs before) (hL:laidMetH Tryz.prog Rows.patchSealedRow.laid W) (hk:(DataW.weightsEach Tryz.prog (Tryz.f5.params.toList++Rows.patchSealedSpec.plain.varTypes Tryz.prog) (ds++gs)).all (·<=reachBytes)=true):
  Calls Tryz.prog 5 args W fun e W'=>∃v,e= .returned v∧Rows.patchSealedSpec.post enc Tryz.prog Tryz.f5 false true false false W args v W':=by
 have hW':=hW
 obtain ⟨p,q,hA0,hV,rfl,hfz,hnd⟩:=hW
 have hA:DataW.TrodAll enc Tryz.prog W 0 (fun _=>true) true Tryz.f5.params.toList args.toList ds p:=hA0
 rw [Tryz.params5] at hA hval hk
 obtain ⟨v0,vs0,d0,ds0,p0,q0,hargs,rfl,rfl,h0,r0⟩:=trodAll_cons hA
 obtain ⟨v1,vs1,d1,ds1,p1,q1,rfl,rfl,rfl,h1,r1⟩:=trodAll_cons r0
 obtain ⟨v2,vs2,d2,ds2,p2,q2,rfl,rfl,rfl,h2,r2⟩:=trodAll_cons r1
 obtain ⟨rfl,rfl,rfl⟩:=trodAll_nil r2
 obtain rfl:args=#[v0,v1,v2]:=by cases args;simp_all
 obtain ⟨rfl,rfl⟩:=trodVars_none hV
 simp only [Mq,Ms,Mr,DataW.weightsEach,List.all_append,Mh] at hk
 obtain ⟨k0,k1,k2,_⟩:=hk
 obtain ⟨a0,e0⟩:=rw_ints.arg1 (by kernel_rfl) (hval 0 _ v0 rfl rfl) h0 k0
 obtain ⟨a1,e1⟩:=rw_int.arg1 (by kernel_rfl) (hval 1 _ v1 rfl rfl) h1 k1
 obtain ⟨a2,e2⟩:=rw_int.arg1 (by kernel_rfl) (hval 2 _ v2 rfl rfl) h2 k2
 refine (pt (AF (l:=a0) (a:=a1) (ot:=a2) (H:=H0) (R:=fun d H=>d= .bool true) Ho An rfl) W _ (AK hL) rfl ?_).mono ?_
 ·intro j d v hd hv
  match j with
  |0=>cases hd;cases hv;exact e0
  |1=>cases hd;cases hv;exact e1
  |2=>cases hd;cases hv;exact e2
  |j+3=>cases hd
 ·rintro e W' ⟨v,d,H',K',rfl,rfl,hb,hr⟩
  have hv:v= .bool true:=by cases hr with|bool=>rfl
  subst hv
  exact ⟨_,rfl,aE kids full (by rw [Tryz.params5];decide) hW' rfl hb rfl Tryz.underlying4 rfl⟩
theorem reads (os:Os) {H:Type} (enc:TypeId×Value->H):∃places,DataW.whole enc Tryz.prog ((Q9 os).forCall (fun _ _=>0) ⟨#[],#[.slice none 0 0,.int .i64 0,.int .i64 0],[]⟩).memory Tryz.f5.params.toList Rows.patchSealedSpec.vars false #[Value.slice none 0 0,Value.int .i64 0,Value.int .i64 0].toList 8=some ([.nil,.lit (.int .i64 0),.lit (.int .i64 0)],[],places):=
 ⟨[],by kernel_rfl⟩
theorem lifted (os:Os) (started:os.Started) (H:Type) (enc:TypeId×Value->H) (F:Stop.Interp):
  ReturnsInHanded {} Tryz.checked os 5 .any ((OpenSpec.ofChange Rows.patchSealedSpec).preRow enc Tryz.prog Tryz.f5 Rows.patchSealedRow.domain false Rows.patchSealedRow.laid) (((OpenSpec.ofChange Rows.patchSealedSpec).at F).post enc Tryz.prog Tryz.f5 false true false false):=by
 obtain ⟨places,hx⟩:=reads os enc
 refine returnsInHanded_of_row (C:=Tryz.checked) (s:=OpenSpec.ofChange Rows.patchSealedSpec) own started (by kernel_rfl) Tryz.func5
  (witness_row_at (enc:=enc) (C:=Tryz.checked) false (Q9 os) #[.slice none 0 0,.int .i64 0,.int .i64 0] rfl (by kernel_rfl) (by kernel_rfl) (by kernel_rfl)
   (OpenSpec.preRow_of_cond 8 hx (by kernel_rfl) (fun k hk=>by cases hk) (by kernel_rfl) (eF os))) ?_
 intro W base args ds gs before hval hW _ _ hz hL _ _
 exact contract H enc W base args ds gs before hval hW hL hz
theorem said:Rows.PatchSealedSaid:=
 OpenClaim.holds_of_cond 5 Tryz.f5 rfl rfl rfl rfl rfl rfl rfl ⟨rfl,rfl,rfl,rfl,rfl⟩ rfl rfl rfl rfl rfl (by kernel_rfl) Tryz.func5 (by kernel_rfl)
  (of_decide_eq_true (by kernel_rfl)) (by unfold Func.isWrapper;first|(rw [if_pos (by decide+kernel)];kernel_rfl)|(rw [if_neg (by decide+kernel)];exact ⟨rfl,rfl⟩))
  (fun os started H enc _ F=>by rw [OpenClaim.pre_eq_preRow];exact lifted os started H enc F)
theorem plain (f : FuncId) (fn : Func) (hf : Tryz.pinned.checked.prog.funcNamed "wordbook/wordbooklaw17.PatchSealed" = some f) (hfn : Tryz.pinned.checked.prog.funcs[f]? = some fn) :
  false=Tryz.pinned.checked.prog.looks []∧∀(j:Nat) t,fn.params[j]?=some t->Tryz.pinned.checked.prog.wantsStandIn t=false:=by
 obtain rfl : f = 5 := Option.some.inj ((show Tryz.prog.funcNamed "wordbook/wordbooklaw17.PatchSealed" = some 5 by kernel_rfl).symm.trans hf) |>.symm
 obtain rfl:fn=Tryz.f5:=(Option.some.inj (Tryz.func5.symm.trans hfn)).symm
 refine ⟨by kernel_rfl,fun j t ht=>?_⟩
 rw [Tryz.params5] at ht
 have hm:=Array.mem_of_getElem? ht
 have hall:∀t∈ [22,3,3],Tryz.prog.wantsStandIn t=false:=by
  intro t ht
  simp only [Mo,List.not_mem_nil,or_false] at ht
  rcases ht with rfl|rfl|rfl<;>kernel_rfl
 exact hall t (by simpa using hm)
theorem card:Rows.PatchSealedCardSaid:=
 Claim7.holds_tied_plain_at .later [] _ _ _ _ said (fun _ h=>by cases h) (by kernel_rfl) (fun _ h=>by cases h) patchSealed_row_tie rfl ⟨rfl,rfl⟩ (by kernel_rfl) rfl plain (by kernel_rfl)
end Go.Proofs.YtgopigkdcmhbbaaGreatDoor.psl
end
