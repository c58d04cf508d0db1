/- A part of the proof of what the last text says: Ke2, Ke3, Ke4, XcM, XcN, Kg1, Kg2, Kg3, Kg4, Kg5, Gw3, XcH, Gm3, Gw4, Gm4, Gm5, Gv1, Gv2, Gv3, Gk1, Gk2, Gk3, Gk4, Gk5, Gm6, Gf2, Gt0, Gt1, XcG, Gt2, Gt3, Gt4, Gt5, Gt9, Kh1, Gt6, Gt8, Kh2, Hk1, Gp2, Gf4, Gn1, Gn3, Gn4. Conditions: those in each theorem. -/
import Derived.Test.YtgopigkdcmhbbaaGreatDoorS5
import Derived.KernelRfl
import Derived.Test.YtgopigkdcmhbbaaGreatDoorCards
import Derived.Test.YtgopigkdcmhbbaaGreatDoorTie
import Derived.Deep.DeepHandedRow
import Derived.Lib.LaidTab
set_option autoImplicit true
set_option relaxedAutoImplicit true
set_option linter.unusedVariables false
set_option linter.unusedSimpArgs false
set_option maxRecDepth 100000
set_option maxHeartbeats 16000000
open List renaming getD_eq_getElem?_getD -> Ma,getElem?_eq_getElem -> Mb,getD_cons_succ -> Mc,getD_cons_zero -> Md,getElem?_map -> Me,length_append -> Mi,length_cons -> Mj,length_nil -> Ml,mem_of_getElem? -> Mn,map_append -> Mo,append_assoc -> Mp,mem_cons -> Mv,getElem?_eq_none -> Mw,length_take -> My,append_nil -> Mz,nil_append -> M0,map_congr_left -> M3,not_mem_nil -> M4,flatten_cons -> M5
open Option renaming getD_some -> Mf,map_eq_some_iff -> Mm
open Int renaming cast_ofNat_Int -> Mg,toNat_natCast -> Mh,reduceToNat -> Ms,eq_ofNat_of_zero_le -> Mx
open Nat renaming le_trans -> Mq,le_refl -> Mr,zero_add -> Mt,lt_or_ge -> Mu,reduceSub -> qa,reduceAdd -> qb,reduceMul -> qc,reduceEqDiff -> qd,reduceLeDiff -> qe,reduceBEq -> qf
section
namespace Go.Proofs.YtgopigkdcmhbbaaGreatDoor
open Go Go.Aw
variable {R:D->AH->Prop}
def KC (p:Nat×Nat):List D:= [.i (p.1:Int),.i (p.2:Int)]
def YX (v:List UInt8):D:= .agg (jr v)
theorem ZX:KeyOk KC [.i,.i]:=by
 refine ⟨fun a b=>?_,fun a=>?_,fun a b=>?_⟩
 ·obtain ⟨a1,a2⟩:=a
  obtain ⟨b1,b2⟩:=b
  by_cases h1:a1=b1<;>by_cases h2:a2=b2<;>simp [KC,eqCells,cellEq,h1,h2,Int.ofNat_inj]
 ·simp [KC,fits]
 ·simp [KC,sameK]
abbrev Mem:=List ((Nat×Nat)×List UInt8)
def MemOk (seed:List UInt8) (m:Mem):Prop:=∀p∈m,p.2=jB seed p.1.1 p.1.2
theorem MemOk.look (h:MemOk seed m) (hv:QJ m k=some v):v=jB seed k.1 k.2:=h (k,v) (eG hv)
theorem MemOk.upd (h:MemOk seed m) (k:Nat×Nat):MemOk seed (YY m k (jB seed k.1 k.2)):=fun p hp=>by
 rcases fW hp with rfl|hp
 ·rfl
 ·exact h p hp
def MemJ (seed:List UInt8) (b:Nat):List D->(Nat->BK)->World->Prop:=fun _ K w=>K b= .tok 0 (.cell b 0)∧∃m:Mem,MemOk seed m∧MpAt K w b (wV KC YX m)
theorem VH (h:RepV K w (.agg cs) v) (hc:∀d∈cs,∃k n,d= .int k n):RepV K' w' (.agg cs) v:=by
 cases h with
 | agg _ vs hl hone hrep=>
  refine .agg _ vs hl hone fun j d u hd hu=>?_
  obtain ⟨k,n,rfl⟩:=hc d (Mn hd)
  obtain ⟨rfl,hin⟩:=(hrep j _ u hd hu).int_inv
  exact .int _ _ hin
theorem Jy (h:MpAt K w b (wV KC YX m)) (hb:w'.heap[b]?=w.heap[b]?):MpAt K' w' b (wV KC YX m):=by
 obtain ⟨c,h1,h2,h3⟩:=h
 refine ⟨c,hb.trans h1,h2,fun j p hp=>?_⟩
 obtain ⟨e,e1,e2,e3,e4⟩:=h3 j p hp
 obtain ⟨q,_,rfl⟩:=List.mem_map.1 (Mn hp)
 refine ⟨e,e1,e2,VH e3 fun d hd=>?_,VH e4 fun d hd=>?_⟩
 ·simp only [KC,Mv,M4,or_false] at hd
  rcases hd with rfl|rfl<;>exact ⟨_,_,rfl⟩
 ·obtain ⟨y,_,rfl⟩:=List.mem_map.1 hd
  exact ⟨_,_,rfl⟩
theorem MemJ.ok:iF b (MemJ seed b):=by
 intro pre K w K' w' h hk
 obtain ⟨h1,m,h2,h3⟩:=h
 have g:=hk b 0 0 h1
 exact ⟨g.1,m,h2,Jy h3 g.2⟩
theorem reown (hs:St K w F H t) (hg:qk H b=some o) (hlt:b<w.heap.size) (hx:x= .priv∨∃j,x= .tok 0 (.cell b j)) (hK:K b= .priv∨∃j,K b= .tok 0 (.cell b j))
  (ho:AO.at_ (gP K b x) w b o'):∃K',FK K w K' w∧St K' w F (qE H b o') t:=by
 have hne:∀{c:Nat} {y:BK},K c=y->y≠ .priv->(∀j,y≠ .tok 0 (.cell b j))->c≠b:=fun q1 q2 q3 e=>by
  rw [e] at q1
  rcases hK with h|⟨j,h⟩
  ·exact q2 (q1.symm.trans h)
  ·exact q3 j (q1.symm.trans h)
 have hk':Keep (fun o=>∃j,o= .cell b j) (fun c=>c=b) K w (gP K b x) w:=by
  refine ⟨⟨rfl,rfl,⟨rfl,Mr _⟩,Mr _,fun c _ hc=>⟨?_,rfl⟩,fun c n o hc hn=>⟨n,o,?_,Mr _,fun _ _=>rfl⟩,fun c hc=>?_⟩,fun c n o hc hE=>⟨?_,rfl⟩,fun c n hc=>?_,fun c hc hcb=>⟨?_,rfl⟩⟩
  ·rw [qV _ _ (hne hc (by simp) (by simp))];exact hc
  ·rw [qV _ _ (hne hc (by simp) (by intro j e;injection e with e _;omega))];exact hc
  ·by_cases e:c=b
   ·exact .inr (by rw [e];exact hlt)
   ·exact .inl (by rw [qV _ _ e];exact hc)
  ·rw [qV _ _ (hne hc (by simp) (fun j e=>by injection e with _ e;exact hE ⟨j,e⟩))];exact hc
  ·by_cases e:c=b
   ·subst e
    rw [jx] at hc
    rcases hx with rfl|⟨j,rfl⟩
    ·cases hc
    ·injection hc with _ hc;cases hc
   ·rwa [qV _ _ e] at hc
  ·rw [qV _ _ hcb];exact hc
 refine ⟨gP K b x,hk'.fk (fun ⟨_,e⟩=>by cases e),⟨fun c hc=>?_,⟨by rw [ko];exact hs.hrel.nd,fun c q hm=>?_⟩,hs.len,fun i d v hd hv=>(hs.slot i d v hd hv).keep hk' (fun j ⟨_,e⟩=>by cases e)⟩⟩
 ·rw [qV _ _ (by omega)];exact hs.krel c hc
 ·rcases yD hs.hrel.nd hm with ⟨rfl,rfl⟩|⟨q1,q2⟩
  ·exact ho
  ·exact AO.keep hk' q1 (fun j ⟨_,e⟩=>q1 (by injection e)) (hs.hrel.ok c q q2)
theorem Gz.memClose {k:List D->AH->Prop} (hg:qk H b=some (.mp (wV KC YX m))) (hm:MemOk seed m) (h:k F (qE H b (.lp (MemJ seed b) []))):Gz F H k:=by
 intro K w t hs
 obtain ⟨h1,h2⟩:=hs.hrel.ok b _ (qR hg)
 obtain ⟨K',g1,g2⟩:=reown hs hg (hs.krel.lt_of (by rw [h1];simp)) (x:= .tok 0 (.cell b 0)) (.inr ⟨0,rfl⟩) (.inl h1) (o':= .lp (MemJ seed b) []) ⟨⟨0,0,jx _ _ _⟩,⟨jx _ _ _,m,hm,Jy h2 rfl⟩,MemJ.ok⟩
 exact ⟨F,_,K',h,g1,g2⟩
theorem Gz.memOpen {k:List D->AH->Prop} (hg:qk H b=some (.lp (MemJ seed b) [])) (h:∀m,MemOk seed m->k F (qE H b (.mp (wV KC YX m)))):Gz F H k:=by
 intro K w t hs
 obtain ⟨_,⟨h1,m,hm,h2⟩,_⟩:=hs.hrel.ok b _ (qR hg)
 obtain ⟨K',g1,g2⟩:=reown hs hg (hs.krel.lt_of (by rw [h1];simp)) (x:= .priv) (.inl rfl) (.inr ⟨0,h1⟩) (o':= .mp (wV KC YX m)) ⟨jx _ _ _,Jy h2 rfl⟩
 exact ⟨F,_,K',h m hm,g1,g2⟩
theorem dD {i c f t:Int} {n:Nat} {v:List UInt8} {H:AH} (ht:t=f+n) (hg:Kst H) (hv:v.length=16) (hf0:0<=f) (hfn:f+n<=1000) (h:R (.agg (jr (wU i c v f n))) H):
  ACall Tryz.prog 55 [.i i,.i c,.i f,.i t,.agg (jr v)] H R:=by
 subst ht
 exact GR hg hv hf0 hfn h
theorem Kb (hd:∀x:D,d=x.view1->x=d) (h:qk H b=some (.cells [d])) (hs:Aw.Sub H H1):qk H1 b=some (.cells [d]):=by
 obtain ⟨o',g1,g2⟩:=hs _ _ h
 rcases g2 with rfl|g2
 ·exact g1
 ·cases o' with
  | cells cs=>
   simp only [Ul,AO.cells.injEq] at g2
   match cs,g2 with
   | [x],g2=>
    simp only [List.map_cons,List.map_nil,List.cons.injEq,and_true] at g2
    rw [g1,hd x g2]
   | [],g2=>simp at g2
   |_::_::_,g2=>simp at g2
  |_=>simp [Ul] at g2
theorem dP (h:qk H b=some (.cells [.i k])) (hs:Aw.Sub H H1):qk H1 b=some (.cells [.i k]):=Kb (fun x hx=>by cases x<;>simp_all [D.view1]) h hs
theorem cM (h:qk H b=some (.cells [.str k])) (hs:Aw.Sub H H1):qk H1 b=some (.cells [.str k]):=Kb (fun x hx=>by cases x<;>simp_all [D.view1]) h hs
theorem py {J:List D->(Nat->BK)->World->Prop} (h:qk H b=some (.lp J pre)) (hs:Aw.Sub H H1):qk H1 b=some (.lp J pre):=by
 obtain ⟨o',g1,g2⟩:=hs _ _ h
 rcases g2 with rfl|g2
 ·exact g1
 ·cases o' with
  |lp J' pre'=>simp only [Ul] at g2;rw [g2];exact g1
  |_=>simp [Ul] at g2
def pJ (seed:List UInt8) (k:Int) (c:Nat):List UInt8:=wU k c (yQ seed k c) 0 3
theorem iS (seed:List UInt8) (k:Int) (c:Nat):(pJ seed k c).length=16:=u9 (uM _ _ _) _
theorem fv {seed:List UInt8} {k:Int} {c bk bs:Nat} {H:AH} (hg:Kst H) (hk:qk H bk=some (.cells [.i k])) (hs:qk H bs=some (.cells [.str seed])) (hl:seed.length<=64) (h:R (.agg (jr (pJ seed k c))) H):
  ACall Tryz.prog 83 [.i (c:Int),.ptr bk 0,.ptr bs 0] H R:=by
 refine b83 fun hf=>?_
 have hbig:=qn
 simp+contextual only [↓U83,↓U83.1,↓XP,ql,qa,qb]
 intro b4 h4
 have e1:=qD h4 hk
 have e2:=qD h4 hs
 simp+contextual only [qg e1,qg e2,hk,hs,↓XP,ql,XW1]
 have hK:Kst ((b4,.cells (barr 16 []))::H):=hg.push h4
 refine fun _ _=>⟨_,fun H1 hs1=>Zp (hK.sub hs1) hl ⟨rfl,rfl⟩,?_⟩
 rw [show pJ seed k c=wU k c (yQ seed k c) 0 3 from rfl] at h
 have hsl:=uM seed k c
 generalize yQ seed k c=u at hsl h
 simp+contextual only [↓XP,qA,XW1]
 refine ⟨_,fun H1 hs1=>dD (n:=3) rfl (hK.sub hs1) hsl (by omega) (by omega) ⟨rfl,rfl⟩,?_⟩
 have hal:=u9 (i:=k) (c:=c) (f:=0) hsl 3
 generalize wU k c u 0 3=a at hal h
 simp+contextual only [qx,hal,qZ hal,jp,↓XP,ql,XW1,qb]
 exact h
theorem Zz (seed:List UInt8) (k:Int):∀n,VL seed k n=jD (pJ seed k) n
 |0=>rfl
 |n+1=>by rw [VL,jD,Zz seed k n];rfl
theorem fg (seed:List UInt8) (k:Nat):jB seed 0 k=ky 1 [ky 9 [jD (pJ seed k) 68]]:=by
 rw [jB,eB,Zz]
theorem gZ:∀{H:AH},qk H b=some o->qE H b o=H
 | (c,x)::r,h=>by
  by_cases e:b=c
  ·subst e
   rw [jl] at h
   injection h with h
   rw [vM,h]
  ·rw [qg e] at h
   rw [qi e,gZ h]
def WN (bm bs ba:Nat):D:= .fn 82 [.ptr bm 0,.ptr bs 0,.ptr ba 0]
structure NodeH (H:AH) (seed:List UInt8) (bm bM bs ba:Nat):Prop where
 m:qk H bm=some (.cells [.mp (some bM)])
 M:qk H bM=some (.lp (MemJ seed bM) [])
 s:qk H bs=some (.cells [.str seed])
 a:qk H ba=some (.cells [WN bm bs ba])
theorem ZR (h:∀bs bM bm ba,qz H bs->(bM≠bs∧qz H bM)->(bm≠bM∧bm≠bs∧qz H bm)->(ba≠bm∧ba≠bM∧ba≠bs∧qz H ba)->
   R (WN bm bs ba) ((ba,.cells [WN bm bs ba])::(bm,.cells [.mp (some bM)])::(bM,.lp (MemJ seed bM) [])::(bs,.cells [.str seed])::H)):ACall Tryz.prog 41 [.str seed] H R:=by
 refine r41 fun hf=>?_
 have hbig:=qn
 simp+contextual only [x41,↓U41,↓J5,ql,XW1,qa]
 intro bs h1 bM h2 bm h3
 refine Gz.memClose (seed:=seed) (b:=bM) (m:= []) ?_ (fun p hp=>by cases hp) ?_
 ·simp [qk,h3.1,wV]
 obtain ⟨n21,f2⟩:=h2
 obtain ⟨n32,n31,f3⟩:=h3
 simp+contextual only [zi,Qq,qi,vM,n32,↓U41,↓XP,ql,XW1]
 intro ba h4
 exact ⟨_,Sbn.sub (List.Sublist.refl _),h bs bM bm ba h1 ⟨Ne.symm n21,f2⟩ ⟨Ne.symm n32,Ne.symm n31,f3⟩ ⟨Ne.symm h4.1,Ne.symm h4.2.1,Ne.symm h4.2.2.1,h4.2.2.2⟩⟩
theorem NodeH.push (h:NodeH H seed bm bM bs ba) (hb:qz H b):NodeH ((b,o)::H) seed bm bM bs ba:=
 ⟨(qg (qD hb h.m)).trans h.m,(qg (qD hb h.M)).trans h.M,(qg (qD hb h.s)).trans h.s,(qg (qD hb h.a)).trans h.a⟩
theorem NodeH.sub (h:NodeH H seed bm bM bs ba) (hs:Aw.Sub H H1):NodeH H1 seed bm bM bs ba:=
 ⟨Kb (fun x hx=>by cases x<;>simp_all [D.view1]) h.m hs,py h.M hs,cM h.s hs,Kb (fun x hx=>by cases x<;>simp_all [D.view1,WN]) h.a hs⟩
theorem NodeH.ne (h:NodeH H seed bm bM bs ba):bM≠bm∧bM≠bs∧bM≠ba:=by
 refine ⟨fun e=>?_,fun e=>?_,fun e=>?_⟩<;>subst e
 ·have:=h.M.symm.trans h.m;simp at this
 ·have:=h.M.symm.trans h.s;simp at this
 ·have:=h.M.symm.trans h.a;simp at this
theorem Kc (hl:seed.length<=64):∀(l k:Nat) {H:AH} {R:D->AH->Prop} {bm bM bs ba:Nat},Kst H->NodeH H seed bm bM bs ba->(k+1)*2 ^ l<=100000->l<=16->R (.agg (jr (jB seed l k))) H->
  ACall Tryz.prog 82 [.i (l:Int),.i (k:Int),.ptr bm 0,.ptr bs 0,.ptr ba 0] H R:=by
 intro l
 induction l using Nat.strongRecOn with
 |_ l ih=>
 intro k H R bm bM bs ba hg hn hk hl16 h
 obtain ⟨q1,q2,q3⟩:=hn.ne
 refine b82 fun hf=>?_
 have hbig:=qn
 simp+contextual only [x82,↓xa,↓JC,↓XP,ql,XW1,qa,qb]
 intro b6 h6 b7 h7
 obtain ⟨n76,f7⟩:=h7
 have m6:bM≠b6:=qD h6 hn.M
 have m7:bM≠b7:=qD f7 hn.M
 have a6:bm≠b6:=qD h6 hn.m
 have a7:bm≠b7:=qD f7 hn.m
 have nb:=yp seed l k
 refine Gz.memOpen (seed:=seed) (b:=bM) (by rw [qg m7,qg m6];exact hn.M) fun m hm=>?_
 rw [qi m7,qi m6]
 have hM1:qk (qE H bM (.mp (wV KC YX m))) bM=some (.mp (wV KC YX m)):=Yq (by rw [hn.M];rfl)
 have hm1:qk (qE H bM (.mp (wV KC YX m))) bm=some (.cells [.mp (some bM)]):=(ZW (Ne.symm q1)).trans hn.m
 have hky:ya true [.i,.i] (wV KC YX m) (.agg [.i (l:Int),.i (k:Int)]):=Y2 (k:=(l,k)) ZX
 have hlk:kY (wV KC YX m) [.i (l:Int),.i (k:Int)]=(QJ m (l,k)).map YX:=GZ (k:=(l,k)) ZX
 have h1b:∀x:List UInt8,(jr x).map D.wk1=jr x:=fun x=>by simp [jr,bD,D.wk1,Function.comp_def]
 rcases hlp:QJ m (l,k) with _|v
 ·rw [hlp] at hlk
  simp+contextual only [qg a7,qg a6,qg m7,qg m6,qg n76,jl,hM1,hm1,hky,hlk,oH,D.wkT,Option.map_none,↓xa,↓JC,↓J5,ql,XW1,qb,qe]
  intro _ b8 h8
  obtain ⟨n87,n86,f8⟩:=h8
  have m8:bM≠b8:=qD f8 hn.M
  refine Gz.memClose (seed:=seed) (b:=bM) (m:=m) (by rw [qg m8,qg m7,qg m6];exact hM1) hm ?_
  rw [qi m8,qi m7,qi m6,gL,gZ hn.M]
  simp only [↓xa,↓JC,↓XP,ql,XW1]
  intro KF h10
  obtain ⟨n108,n107,n106,f10⟩:=h10
  have hn4:NodeH ((KF,.cells (barr 16 []))::(b8,.cells (barr 16 []))::(b7,.cells (barr 16 []))::(b6,.cells [.i (k:Int)])::H) seed bm bM bs ba:=(((hn.push h6).push ⟨Ne.symm n76,f7⟩).push ⟨Ne.symm n87,Ne.symm n86,f8⟩).push ⟨Ne.symm n108,Ne.symm n107,Ne.symm n106,f10⟩
  have hg4:Kst ((KF,.cells (barr 16 []))::(b8,.cells (barr 16 []))::(b7,.cells (barr 16 []))::(b6,.cells [.i (k:Int)])::H):=(((hg.push h6).push ⟨Ne.symm n76,f7⟩).push ⟨Ne.symm n87,Ne.symm n86,f8⟩).push ⟨Ne.symm n108,Ne.symm n107,Ne.symm n106,f10⟩
  have hk6:qk ((KF,.cells (barr 16 []))::(b8,.cells (barr 16 []))::(b7,.cells (barr 16 []))::(b6,.cells [.i (k:Int)])::H) b6=some (.cells [.i (k:Int)]):=by
   rw [qg n106,qg n86,qg n76,jl]
  have m10:bM≠KF:=qD f10 hn.M
  have a10:bm≠KF:=qD f10 hn.m
  have a8:bm≠b8:=qD f8 hn.m
  have c6:ba≠b6:=qD h6 hn.a
  have c7:ba≠b7:=qD f7 hn.a
  have c8:ba≠b8:=qD f8 hn.a
  have c10:ba≠KF:=qD f10 hn.a
  have hna:qk H ba=some (.cells [.fn 82 [.ptr bm 0,.ptr bs 0,.ptr ba 0]]):=hn.a
  rcases Nat.eq_zero_or_pos l with hl0|hl0
  case' inl=>
   refine ⟨fun _=>?_,fun c=>absurd (show (l:Int)=0 by omega) c⟩
   refine ce (val:=pJ seed k) hg4 (iS seed k) (fun n hn2 H1 hs1 R1 hr1=>fv (hg4.sub hs1) (dP hk6 hs1) (cM hn4.s hs1) hl hr1) ?_
   have hlf:ky 1 [ky 9 [jD (pJ seed k) 68]]=jB seed l k:=by rw [hl0];exact (fg seed k).symm
   rw [hlf]
  case' inr=>
   have hl0':((l:Int)=0)=False:=qY
   obtain ⟨l',hl1⟩:=Nat.exists_eq_succ_of_ne_zero (Nat.pos_iff_ne_zero.1 hl0)
   have hpw:2 ^ l=2*2 ^ l':=by rw [hl1,Nat.pow_succ];omega
   have hp0:1<=2 ^ l':=Nat.one_le_two_pow
   have hk1:(2*k+1)*2 ^ l'<=100000:=Mq (by rw [hpw,<-Nat.mul_assoc];exact Nat.mul_le_mul_right _ (by omega)) hk
   have hk2:(2*k+1+1)*2 ^ l'<=100000:=Mq (by rw [hpw,<-Nat.mul_assoc];exact Nat.mul_le_mul_right _ (by omega)) hk
   have hkk:k<=100000:=by
    have:=Nat.le_mul_of_pos_right (2*k+1) hp0
    omega
   have hw1:IntKind.i64.wrap ((l:Int) - 1)=(l':Int):=by rw [qj (by omega) (by omega)];omega
   have hw2:IntKind.i64.wrap (2*(k:Int))=((2*k:Nat):Int):=by rw [qj (by omega) (by omega)];omega
   have hw3:IntKind.i64.wrap (((2*k:Nat):Int)+1)=((2*k+1:Nat):Int):=qm (by omega)
   simp+contextual only [hl0',qg c10,qg c8,qg c7,qg c6,hna,qg n106,qg n86,qg n76,jl,hw1,hw2,↓JC,↓XP,ql,XW1]
   refine fun _=>⟨_,fun H1 hs1=>ih l' (by omega) (2*k) (hg4.sub hs1) (hn4.sub hs1) hk1 (by omega) ⟨rfl,rfl⟩,?_⟩
   have n0:=yp seed l' (2*k)
   have n1:=yp seed l' (2*k+1)
   have hns:jB seed l k=ky 2 [jB seed l' (2*k),jB seed l' (2*k+1)]:=by rw [hl1];rfl
   simp+contextual only [qg c10,qg c8,qg c7,qg c6,hna,qg n106,qg n86,qg n76,jl,hw1,hw2,hw3,↓JC,↓XP,ql,XW1]
   refine fun _=>⟨_,fun H1 hs1=>ih l' (by omega) (2*k+1) (hg4.sub hs1) (hn4.sub hs1) hk2 (by omega) ⟨rfl,rfl⟩,?_⟩
   generalize jB seed l' (2*k)=a at n0 hns ⊢
   generalize jB seed l' (2*k+1)=a2 at n1 hns ⊢
   simp+contextual only [↓JC,↓XP,qA,XW1]
   refine ⟨_,fun H1 hs1=>Uw (hg4.sub hs1) n0 n1 ⟨rfl,rfl⟩,?_⟩
   rw [<-hns]
  all_goals simp+contextual only [qx,nb,↓xa,↓JC,↓XP,ql,XW1,qb]
  all_goals refine Gz.memOpen (seed:=seed) (b:=bM) (by rw [qg m10,qg m8,qg m7,qg m6];exact hn.M) fun m2 hm2=>?_
  all_goals rw [qi m10,qi m8,qi m7,qi m6]
  all_goals have hM2:qk (qE H bM (.mp (wV KC YX m2))) bM=some (.mp (wV KC YX m2)):=Yq (by rw [hn.M];rfl)
  all_goals have hm2':qk (qE H bM (.mp (wV KC YX m2))) bm=some (.cells [.mp (some bM)]):=(ZW (Ne.symm q1)).trans hn.m
  all_goals have hky2:ya true [.i,.i] (wV KC YX m2) (.agg [.i (l:Int),.i (k:Int)]):=Y2 (k:=(l,k)) ZX
  all_goals have hup2:o5 (wV KC YX m2) (.agg [.i (l:Int),.i (k:Int)]) (.agg (jr (jB seed l k)))=wV KC YX (YY m2 (l,k) (jB seed l k)):=dC (k:=(l,k)) ZX
  all_goals have hok2:=hm2.upd (l,k)
  all_goals simp+contextual only [qx,qg a10,qg a8,qg a7,qg a6,qg m10,qg m8,qg m7,qg m6,qi m10,qi m8,qi m7,qi m6,qg n106,qg n86,qg n76,jl,hM2,hm2',hky2,hup2,nb,qZ nb,jp,gL,↓JC,↓J5,ql,XW1,qb,qe]
  all_goals refine fun _=>Gz.memClose (seed:=seed) (b:=bM) (m:=YY m2 (l,k) (jB seed l k)) (by rw [qg m10,qg m8,qg m7,qg m6];exact Yq (by rw [hn.M];rfl)) hok2 ?_
  all_goals rw [qi m10,qi m8,qi m7,qi m6,gL,gZ hn.M]
  all_goals simp+contextual only [qx,qg n107,qi n107,qg n87,qi n87,nb,qZ nb,jp,↓JC,↓XP,ql,XW1,qb]
  all_goals exact h
 ·rw [hlp] at hlk
  have hv:v=jB seed l k:=hm.look hlp
  rw [<-hv] at h nb
  simp+contextual only [qx,qg a7,qg a6,qg m7,qg m6,qg n76,jl,hM1,hm1,hky,hlk,oH,D.wkT,Option.map_some,YX,h1b,↓xa,↓JC,↓J5,ql,XW1,qb,qe]
  intro _ b8 h8
  obtain ⟨n87,n86,f8⟩:=h8
  have m8:bM≠b8:=qD f8 hn.M
  refine ⟨nb,?_⟩
  refine Gz.memClose (seed:=seed) (b:=bM) (m:=m) (by rw [qg m8,qg m7,qg m6];exact hM1) hm ?_
  rw [qi m8,qi m7,qi m6,gL,gZ hn.M]
  simp+contextual only [qx,qg n87,qi n87,nb,qZ nb,jp,↓JC,↓XP,ql,XW1,qb]
  exact h
def Vg (h:Int):Bool:=decide (0<=h)&&decide (h<=6)
theorem Js (hR:R (.bool (Vg h)) H):ACall Tryz.prog 40 [.i h] H R:=by
 refine b40 fun hf=>?_
 have hbig:=qn
 by_cases h2:0<=h
 ·have e2:((0:Int)<=h)=True:=eq_true h2
  by_cases h3:h<=6
  ·have e3:(h<=6)=True:=eq_true h3
   rw [Vg,decide_eq_true h2,decide_eq_true h3] at hR
   simp+contextual only [↓U40,e2,e3,↓U40.1,↓XP,qA,qa]
   exact hR
  ·have e3:(h<=6)=False:=eq_false h3
   rw [Vg,decide_eq_true h2,decide_eq_false h3] at hR
   simp+contextual only [↓U40,e2,e3,↓U40.1,↓XP,qA,qa]
   exact hR
 ·have e2:((0:Int)<=h)=False:=eq_false h2
  rw [Vg,decide_eq_false h2] at hR
  simp+contextual only [↓U40,e2,↓U40.1,↓XP,qA,qa]
  exact hR
def ao (seed:List UInt8) (i:Int):D:=if Qe seed i=true then .tup [.agg (jr (jB seed i.toNat 0)),.i 0] else .tup [.agg (barr 16 []),.i 1]
theorem iq (seed:List UInt8) (i:Int):Qe seed i=(decide (seed.length=32)&&Vg i):=by
 simp [Qe,Vg]
theorem Q7 (hg:Kst H) (h:R (ao seed i) H):ACall Tryz.prog 20 [.str seed,.i i] H R:=by
 refine b20 fun hf=>?_
 have hbig:=qn
 by_cases h1:seed.length=32
 ·have e1:decide (((seed.length:Nat):Int)=32)=true:=decide_eq_true (by omega)
  simp only [↓mb,e1,Bool.not_true,↓mb,↓XP,ql,qa,qb]
  intro b4 h4 _
  refine Js ?_
  have hks:Qe seed i=Vg i:=by rw [iq,decide_eq_true h1,Bool.true_and]
  by_cases hk:Vg i=true
  ·have hk2:=hks.trans hk
   obtain ⟨_,hi1,hi2⟩:seed.length=32∧0<=i∧i<=6:=of_decide_eq_true hk2
   rw [ao,if_pos hk2] at h
   simp+contextual only [hk,↓mb,↓XP,qA,XW1,↓XH]
   refine ZR fun bs bM bm ba q1 q2 q3 q4=>?_
   obtain ⟨n,rfl⟩:=Mx hi1
   rw [Mh] at h
   have hn:NodeH ((ba,.cells [WN bm bs ba])::(bm,.cells [.mp (some bM)])::(bM,.lp (MemJ seed bM) [])::(bs,.cells [.str seed])::(b4,.cells (barr 16 []))::H) seed bm bM bs ba:=
    ⟨by rw [qg (Ne.symm q4.1),jl],by rw [qg (Ne.symm q4.2.1),qg (Ne.symm q3.1),jl],by rw [qg (Ne.symm q4.2.2.1),qg (Ne.symm q3.2.1),qg (Ne.symm q2.1),jl],jl⟩
   have hK:Kst ((ba,.cells [WN bm bs ba])::(bm,.cells [.mp (some bM)])::(bM,.lp (MemJ seed bM) [])::(bs,.cells [.str seed])::(b4,.cells (barr 16 []))::H):=((((hg.push h4).push q1).push q2).push q3).push q4
   have hb4:ba≠b4∧bm≠b4∧bM≠b4∧bs≠b4:=⟨q4.2.2.2.1,q3.2.2.1,q2.2.1,q1.1⟩
   simp+contextual only [WN,↓XP,qA,XW1]
   have hp2:=(QX (ht:=n) (by omega)).2.1
   refine Kc (by omega) n 0 hK hn (by omega) (by omega) ?_
   have nb:=yp seed n 0
   generalize jB seed n 0=v at nb h
   simp+contextual only [qi (Ne.symm hb4.1),qi (Ne.symm hb4.2.1),qi (Ne.symm hb4.2.2.1),qi (Ne.symm hb4.2.2.2),qg (Ne.symm hb4.1),qg (Ne.symm hb4.2.1),qg (Ne.symm hb4.2.2.1),qg (Ne.symm hb4.2.2.2),nb,qx,qZ nb,jp,↓XP,ql,XW1,qb]
   exact h
  ·have hkf:Vg i=false:=by simpa using hk
   rw [ao,if_neg (by rw [hks];exact hk)] at h
   simp+contextual only [hkf,↓mb,↓XP,ql,XW1,qb,↓XH]
   exact h
 ·have e1:(((seed.length:Nat):Int)=32)=False:=qY
  rw [ao,if_neg (fun c=>h1 (of_decide_eq_true c).1)] at h
  simp+contextual only [↓mb,e1,↓mb,↓XP,ql,XW1,qa,qb]
  exact fun _ _ _=>h
theorem ci (h:Qe seed i=true):ao seed i= .tup [.agg (jr (jB seed i.toNat 0)),.i 0]:=if_pos h
theorem p8 (h:Qe seed i=false):ao seed i= .tup [.agg (barr 16 []),.i 1]:=if_neg (by rw [h];decide)
theorem Yv (hg:Kst H) (h:R (pC seed i) H):ACall Tryz.prog 10 [.agg [.str seed,.i i]] H R:=by
 refine KF fun hf=>?_
 have hbig:=qn
 by_cases h4:(4:Int)<i
 ·have e4:((4:Int)<i)=True:=eq_true h4
  rw [Z4 (fun c=>by omega)] at h
  simp+contextual only [↓iz,e4,↓iz,↓XP,ql,XW1,qa,qb]
  exact fun _ _ _ _ _=>h
 ·have e4:((4:Int)<i)=False:=eq_false h4
  simp+contextual only [↓iz,e4,↓iz,↓XP,ql,XW1,qa]
  intro b1 h1 b2 h2 _ _
  obtain ⟨n21,f2⟩:=h2
  have hK:Kst ((b2,.cells (barr 16 []++ [.i 0]))::(b1,.cells [.str seed,.i i])::H):=(hg.push h1).push ⟨Ne.symm n21,f2⟩
  cases hk:Qe seed i with
  | true=>
   obtain ⟨hk1,hk2,hk3⟩:seed.length=32∧0<=i∧i<=6:=of_decide_eq_true hk
   rw [UZ hk (by omega)] at h
   refine Q7 (seed:=seed) (i:=i) hK ?_
   rw [ci hk]
   have n2:=yp seed i.toNat 0
   generalize jB seed i.toNat 0=w at n2 h
   simp+contextual only [↓iz,↓XP,ql,XW1,qb]
   intro _ b4 h4'
   obtain ⟨n42,n41,f4⟩:=h4'
   simp+contextual only [qg n21,qg n42,qi n42,qg n41,n2,qx,qZ n2,jp,uU n2,yu n2,Jd n2,US n2,Wi,↓XP,ql,XW1,qb,qe]
   exact fun _=>h
  | false=>
   rw [Z4 (fun c=>by rw [hk] at c;exact absurd c.1 (by decide))] at h
   refine Q7 (seed:=seed) (i:=i) hK ?_
   rw [p8 hk]
   simp+contextual only [↓iz,↓XP,ql,XW1,qb]
   exact fun _ _ _=>⟨rfl,fun _=>h,fun c=>absurd c (by decide)⟩
end Go.Proofs.YtgopigkdcmhbbaaGreatDoor
end
noncomputable section
namespace Go.Proofs.YtgopigkdcmhbbaaGreatDoor
open Go.Xs
open Go Go.Aw
def Um:=yy Tryz.f51
def x51_s8:XC:=(.seq (R [A 67 6] (.block 2 (.loop (Um 30)))) (R [b (.slice 155 (t 3) .none .none .none) 40,n 40 2] (.gh .ret)))
def x51_s9:XC:=(R [A 0 4] (.seq (R [J 0 7] (.block 0 (.loop (Um 11)))) x51_s8))
def x51:XC:=(R [B 33 0 1,Z 2] (R [a (.alloc 155) 3] x51_s9))
def V51:=PLift.up (aI (aI (aI (@unf (Um 23) (r [u,u,u,u,u,v,u]) rfl) (@unf (Um 21) (R [u,u,u,u,u,u,u,u,u,u,u,v,u,u] (Um 23)) rfl)) (aI (@unf (Um 17) (X (O (R [v,u] (Um 21))) (r [u,u])) rfl) (aI (@unf (Um 11) (R [u] (X I (Um 17))) rfl) (@unf (Um 40) (r [u,v,u]) rfl)))) (aI (aI (@unf (Um 41) (r [u,v,u]) rfl) (@unf (Um 36) (X (O (R [u,u,v,u,u] (Um 40))) (Um 41)) rfl)) (aI (@unf (Um 30) (X (R [u,u] I) (Um 36)) rfl) (aI (@unf _ _ x51_s8.eq_1) (@unf _ _ x51_s9.eq_1)))))
theorem sV:type_of% V51.down:=V51.down
theorem b51:Bt 51 41 x51 [(.tmp 2)]:=bt Tryz.func51 rfl
def Ca:=yy Tryz.f52
def V52:=PLift.up (aI (@unf (Ca 2) (X (G [u,u,u,u,u,u,u,v,u]) .ret) rfl) (@unf (Ca 0) (R [u,u] (Ca 2)) rfl))
theorem U52:type_of% V52.down:=V52.down
theorem b52:Bt 52 15 (Ca 0) [(.cell 6 33)]:=bt Tryz.func52 rfl
def C9:=yy Tryz.f23
def V23:=PLift.up (aI (@unf (C9 2) (F [u,u,u,u,u,u,u,v,u]) rfl) (@unf (C9 0) (R [u,u] (C9 2)) rfl))
theorem U23:type_of% V23.down:=V23.down
theorem b23:Bt 23 15 (C9 0) [(.cell 6 33)]:=bt Tryz.func23 rfl
def QY:=yy Tryz.f27
def x27_s11:XC:=(R [m 0 39,K1 41 39 9 40,n 40 10] (R [a (.call ⟨(.builtin .imag),#[],#[114]⟩) 11] (QY 27)))
def x27_s12:XC:=(.seq (.block 0 (.seq (QY 5) (C 17 (R [S 8,A 1 9] .ret) (QY 10)))) x27_s11)
def x27:XC:=(R [S 8,A 0 9] x27_s12)
def V27r:=PLift.up (aI (@unf (QY 5) (r [u,u,u,u,z 21,z 21,z 21,v,u]) rfl) trivial)
theorem ub:type_of% V27r.down:=V27r.down
def V27:=PLift.up (aI (aI (aI (@unf (QY 16) (R [u,u,v,u] (T (F [u,u]))) rfl) (aI (@unf (QY 10) (R [u,u,u,z 29,z 29,z 29,z 29,v,u] (V (F [u,u]) (QY 16))) rfl) (@unf (QY 44) (R [u,u,u,u,u,u,u,v,u,u] (r [u,u])) rfl))) (aI (@unf (QY 40) (X (O (R [v,u,v,u,u] (QY 44))) (r [u,u])) rfl) (aI (@unf (QY 34) (R [u] (X I (QY 40))) rfl) (@unf (QY 63) (R [u,u,u,u,u,u,v,u,u] (r [u,u])) rfl)))) (aI (aI (@unf (QY 59) (X (O (R [v,u] (QY 63))) (r [u,u])) rfl) (aI (@unf (QY 53) (R [u] (X I (QY 59))) rfl) (@unf (QY 67) (F [v,u,u]) rfl))) (aI (aI (@unf (QY 29) (X (R [u,u,u,u,u,u,u,u,u] (U (QY 34))) (X (R [u,u] (U (QY 53))) (QY 67))) rfl) (@unf (QY 27) (R [u,u,u] (QY 29)) rfl)) (aI (@unf _ _ x27_s11.eq_1) (@unf _ _ x27_s12.eq_1)))))
theorem iH:type_of% V27.down:=V27.down
theorem b27:Bt 27 83 x27 [(.tmp 8),(.tmp 9)]:=bt Tryz.func27 rfl
end Go.Proofs.YtgopigkdcmhbbaaGreatDoor
end
noncomputable section
namespace Go.Proofs.YtgopigkdcmhbbaaGreatDoor
open Go.Xs
open Go Go.Aw
def Q4:=yy Tryz.f12
def x12_s7:XC:=(.seq (.gh (.reg [L 26 3 80,w 26 4 80,A 0 5])) .ret)
def x12_s8:XC:=(.seq (.seq (Q4 48) (.block 0 (.loop (Q4 51)))) x12_s7)
def x12_s9:XC:=(.seq (Q4 45) x12_s8)
def x12_s10:XC:=(.seq (Q4 43) x12_s9)
def x12_s11:XC:=(.seq (R [m 10 47,q .neq 36 47 0 48] (Q4 35)) (R [M 9 51,f 26 3 5 52,w 9 52 51] x12_s10))
def x12_s12:XC:=(.seq (Q4 31) x12_s11)
def x12_s13:XC:=(.seq (.seq (Q4 24) (Q4 25)) x12_s12)
def x12_s14:XC:=(.seq (.seq (Q4 14) (R [m 8 23,q .neq 36 23 0 24] (Q4 17))) x12_s13)
def x12_s15:XC:=(.seq (R [l 26 3 12,K1 22 12 26 13,n 13 6] (R [m 6 14,q .neq 36 14 0 15] (Q4 7))) x12_s14)
def x12:XC:=(.seq (Q4 1) x12_s15)
def V12r:=PLift.up (aI (aI (@unf (Q4 48) (r [u,u,u,u]) rfl) (aI (@unf (Q4 45) (r [u,u,v,u,u]) rfl) (@unf (Q4 43) (r [u,u,v,u,u]) rfl))) (aI (aI (@unf (Q4 31) (G [u,u,u,u,u,u,u,u,u,u,u,v,v,u,u]) rfl) (@unf (Q4 24) (G [u,u,u,u,u,u]) rfl)) (aI (@unf (Q4 14) (r [u,u,u,v,v,u,u,u]) rfl) (@unf (Q4 1) (r [u,u,u,u]) rfl))))
theorem zn:type_of% V12r.down:=V12r.down
def V12:=PLift.up (aI (aI (aI (aI (@unf (Q4 7) (T (F [v,v,u,u])) rfl) (@unf (Q4 17) (T (F [v,v,u,u])) rfl)) (aI (@unf (Q4 25) (T (F [v,u,u])) rfl) (@unf (Q4 35) (T (F [v,v,u,u])) rfl))) (aI (aI (@unf (Q4 61) (G [u,u,u,u,u,u,u,u,u,v,u,u,u]) rfl) (@unf (Q4 57) (X (O (R [v,u] (Q4 61))) (r [u,u])) rfl)) (aI (@unf (Q4 51) (R [u] (X I (Q4 57))) rfl) (@unf _ _ x12_s7.eq_1)))) (aI (aI (aI (@unf _ _ x12_s8.eq_1) (@unf _ _ x12_s9.eq_1)) (aI (@unf _ _ x12_s10.eq_1) (@unf _ _ x12_s11.eq_1))) (aI (aI (@unf _ _ x12_s12.eq_1) (@unf _ _ x12_s13.eq_1)) (aI (@unf _ _ x12_s14.eq_1) (@unf _ _ x12_s15.eq_1)))))
theorem GP:type_of% V12.down:=V12.down
theorem b12:Bt 12 81 x12 [(.cell 4 26),(.tmp 5)]:=bt Tryz.func12 rfl
def y13:=yy Tryz.f13
theorem aR:Bt 13 53 (y13 0) [(.cell 6 26),(.tmp 7)]:=bt Tryz.func13 rfl
def x30v_s0:XC:=(R [c (.buildSlice 24 0 #[]) 5,m 0 6,b (.call ⟨(.builtin .append),#[t 5,t 6],#[24,24,0]⟩) 7,n 7 2] .ret)
def x30v_s1:XC:=(.seq (R [m 0 3,a (.binOp .eql 24 (t 3) (.const (.slice .none 0 0)) 24) 4] (C 4 (R [Z 2] .ret) .skip)) x30v_s0)
def V30v:=PLift.up (aI (@unf _ _ x30v_s0.eq_1) (@unf _ _ x30v_s1.eq_1))
theorem Fj:type_of% V30v.down:=V30v.down
def B7:XC:=(R [Z 2] x30v_s1)
theorem FP {args:List D} {H:AH} {R:D->AH->Prop} (h:facts args->xcode Tryz.prog B7 (args++List.replicate (8 - args.length) (.tup [])) H (VQ Tryz.prog [(.tmp 2)] R)):ACall Tryz.prog 30 args H R:=
 yM hm Tryz.func30 rfl (by kernel_rfl) (by kernel_rfl) (by kernel_rfl) (by kernel_rfl) (by kernel_rfl) (by kernel_rfl) h
def zu:=yy Tryz.f24
def V24:=PLift.up (aI (aI (aI (aI (@unf (zu 10) (R [u,u,v,u] (T (F [u,u]))) rfl) (@unf (zu 22) (T (F [v,u,u])) rfl)) (aI (@unf (zu 61) (G [u,u,u,u,u,v,u]) rfl) (@unf (zu 62) (G [u,u,u,u,u,v,u]) rfl))) (aI (aI (@unf (zu 58) (R [u,u,u,u,u] (V (zu 61) (zu 62))) rfl) (@unf (zu 54) (X (O (R [v,u] (zu 58))) (r [u,u])) rfl)) (aI (@unf (zu 48) (R [u] (X I (zu 54))) rfl) (@unf (zu 64) (X (R [u,u,u] (T (F [u,u]))) (F [v,u,u])) rfl)))) (aI (aI (aI (@unf (zu 41) (R [u,v,u,u] (X (R [u,u] (U (zu 48))) (zu 64))) rfl) (@unf (zu 39) (R [u,u,u,u,v,u,u] (zu 41)) rfl)) (aI (@unf (zu 37) (R [v,u,u] (zu 39)) rfl) (@unf (zu 29) (X (X (G [u,u,u,z 42,z 42,z 42,z 42,u,u,z 48,z 48,z 48,z 48,z 48,z 48,u]) (T (F [u,u]))) (zu 37)) rfl))) (aI (aI (@unf (zu 27) (R [u,u,u,v,u,u] (zu 29)) rfl) (@unf (zu 17) (R [u,u,u,u,v,v,v,u,u,u,u] (X (R [u,u] (zu 22)) (zu 27))) rfl)) (aI (@unf (zu 2) (X (O (R [u,u,v,u] (V (F [u,u]) (zu 10)))) (zu 17)) rfl) (@unf (zu 0) (R [u,u,u] (zu 2)) rfl)))))
theorem eX:type_of% V24.down:=V24.down
theorem b24:Bt 24 90 (zu 0) [(.tmp 8),(.tmp 9)]:=bt Tryz.func24 rfl
def Cb:=yy Tryz.f50
def V50:=PLift.up (aI (@unf (Cb 2) (F [u,u,u,u,u,u,u,u,v,u]) rfl) (@unf (Cb 0) (R [u] (Cb 2)) rfl))
theorem U50:type_of% V50.down:=V50.down
theorem b50:Bt 50 13 (Cb 0) [(.cell 3 33)]:=bt Tryz.func50 rfl
def C0:=yy Tryz.f54
def V54:=PLift.up (aI (@unf (C0 2) (X (G [u,u,u,u,u,u,u,u,u,v,u]) .ret) rfl) (@unf (C0 0) (R [u] (C0 2)) rfl))
theorem U54:type_of% V54.down:=V54.down
theorem b54:Bt 54 16 (C0 0) [(.cell 5 33)]:=bt Tryz.func54 rfl
end Go.Proofs.YtgopigkdcmhbbaaGreatDoor
end
section
namespace Go.Proofs.YtgopigkdcmhbbaaGreatDoor
open Go Go.Aw
variable {R:D->AH->Prop}
def bg (d:List UInt8) (i:Nat):Nat:=(d.getD (i / 4) 0).toNat / 4 ^ (3 - i % 4) % 4
def Kz (d:List UInt8):Nat->Nat
 |0=>0
 |n+1=>Kz d n+(3 - bg d n)
def zB (d:List UInt8) (s i:Nat):Nat:=if i<64 then bg d i else s / 4 ^ (67 - i) % 4
theorem ep (d:List UInt8) (i:Nat):bg d i<=3:=Nat.le_of_lt_succ (Nat.mod_lt _ (by decide))
theorem Zc (d:List UInt8) (s i:Nat):zB d s i<=3:=by
 unfold zB
 split
 ·exact ep d i
 ·exact Nat.le_of_lt_succ (Nat.mod_lt _ (by decide))
theorem cn (d:List UInt8):∀n,Kz d n<=3*n
 |0=>Mr _
 |n+1=>by rw [Kz];have:=cn d n;omega
def wI (f:Nat->Nat):List D:=(List.range 68).map fun k=>.i (f k:Int)
def oN (f:Nat->Nat):List (List D):=(List.range 68).map fun k=>[.i (f k:Int)]
theorem V9 (f:Nat->Nat):(wI f).length=68:=by simp [wI]
theorem oz (f:Nat->Nat):(oN f).length=68:=by simp [oN]
theorem fP (f:Nat->Nat):(oN f).flatten=wI f:=by
 unfold oN wI
 induction (List.range 68) with
 |nil=>rfl
 |cons x l ih=>simp only [List.map_cons,M5,ih];rfl
theorem WQ (h1:g i=n) (h2:∀k,k<68->k≠i->g k=f k):(wI f).set i (.i (n:Int))=wI g:=by
 unfold wI
 apply List.ext_getElem?
 intro j
 rw [List.getElem?_set]
 simp only [List.length_map,List.length_range,Me]
 by_cases hj:j<68
 ·rw [List.getElem?_range hj]
  by_cases e:i=j
  ·subst e;simp [hj,h1]
  ·simp [e,h2 j hj (fun q=>e q.symm)]
 ·rw [Mw (by simpa using hj)]
  split<;>simp_all
theorem arrD_get? (h:i<68):(wI f)[i]?=some (.i (f i:Int)):=by
 simp [wI,h]
theorem Uc (h:i<68):(oN f).getD i []= [.i (f i:Int)]:=by
 simp [oN,List.getD,h]
theorem Vu (h:∀k,k<68->f k=g k):wI f=wI g:=by
 unfold wI
 exact M3 fun k hk=>by rw [h k (List.mem_range.1 hk)]
theorem AX:∀y∈oN f,y.length=1:=fun y hy=>by
 obtain ⟨k,_,rfl⟩:=List.mem_map.1 hy
 rfl
def aQ (d:List UInt8) (i k:Nat):Nat:=if k<i then bg d k else 0
def bL (d:List UInt8) (s i k:Nat):Nat:=if k<64 then bg d k else if i<k then s / 4 ^ (67 - k) % 4 else 0
theorem cb (d:List UInt8):(wI (aQ d i)).set i (.i (bg d i:Int))=wI (aQ d (i+1)):=
 WQ (by simp [aQ]) fun k _ hk=>by
  unfold aQ
  by_cases h:k<i
  ·rw [if_pos h,if_pos (by omega)]
  ·rw [if_neg h,if_neg (by omega)]
theorem D4 (d:List UInt8) (s:Nat):wI (aQ d 64)=wI (bL d s 67):=Vu fun k hk=>by
 unfold aQ bL
 by_cases h:k<64
 ·rw [if_pos h,if_pos h]
 ·rw [if_neg h,if_neg h,if_neg (by omega)]
theorem dh (d:List UInt8) (s:Nat) (h:64<=i+1):(wI (bL d s (i+1))).set (i+1) (.i ((s / 4 ^ (67 - (i+1)) % 4:Nat):Int))=wI (bL d s i):=
 WQ (by unfold bL;rw [if_neg (by omega),if_pos (by omega)]) fun k _ hk=>by
  unfold bL
  by_cases h:k<64
  ·rw [if_pos h,if_pos h]
  ·rw [if_neg h,if_neg h]
   by_cases h2:i+1<k
   ·rw [if_pos h2,if_pos (by omega)]
   ·rw [if_neg h2,if_neg (by omega)]
theorem fV (d:List UInt8) (s:Nat):wI (bL d s 63)=wI (zB d s):=Vu fun k hk=>by
 unfold bL zB
 by_cases h:k<64
 ·rw [if_pos h,if_pos h]
 ·rw [if_neg h,if_neg h,if_pos (by omega)]
theorem ef (x:UInt8) {i m:Nat} (hm:m=i % 4):(x.toNat:Int).fdiv (2 ^ min (6 - 2*(m:Int)).toNat 8)=((x.toNat / 4 ^ (3 - i % 4):Nat):Int):=by
 have h:m=0∨m=1∨m=2∨m=3:=by omega
 rw [<-hm]
 clear hm
 rcases h with rfl|rfl|rfl|rfl
 all_goals simp [Int.fdiv_eq_ediv_of_nonneg]
theorem Fz.hso0 (hF:F.getD s .any= .hso b 0 n):Fz F H (F.set s (.hsl b n)) H:=by
 intro K w t hs
 have hlt:s<F.length:=by
  rcases Mu s F.length with h'|h'
  ·exact h'
  ·simp [List.getD,Mw h'] at hF
 have hFs:F[s]?=some (.hso b 0 n):=by rw [<-hF];simp [List.getD,Mb hlt]
 refine ⟨K,.refl K w,hs.krel,hs.hrel,by simpa using hs.len,fun i d v hd hv'=>?_⟩
 rcases getElem?_set_some hd with ⟨rfl,rfl,_⟩|⟨hne,hd⟩
 ·obtain ⟨cap,rfl,h0,h1,h2,h3⟩:=RepV.hso_inv (show RepV K w (.hso b 0 n) v from hs.slot s _ v hFs hv')
  exact RepV.viewO (.hsl b n cap h1 h2 h3)
 ·exact hs.slot i d v hd hv'
theorem Fz.rowA (hF:F.getD s .any= .hso b 0 68) (hg:qk H b=some (.cells (wI f))):Fz F H (F.set s (.slc (oN f))) (qI H b):=by
 have hlt:s<F.length:=by
  rcases Mu s F.length with h'|h'
  ·exact h'
  ·simp [List.getD,Mw h'] at hF
 have h:=Fz.freeze (F:=F.set s (.hsl b 68)) (H:=H) (s:=s) (b:=b) (n:=68) (sz:=1) (cs:=wI f) (xs:=oN f) (rest:= []) (by simp [List.getD,hlt]) hg (by rw [fP,Mz]) (oz f) AX (by omega) (fun x hx d hd=>by
  obtain ⟨k,_,rfl⟩:=List.mem_map.1 hx
  rw [List.mem_singleton.1 hd]
  rfl)
 rw [List.set_set] at h
 exact (Fz.hso0 hF).trans h
theorem Ua (hd:d.length=16) (h:R (.slc (oN (zB d (Kz d 64)))) H):ACall Tryz.prog 51 [.agg (jr d)] H R:=by
 refine b51 fun hf=>?_
 have hbig:=qn
 simp+contextual only [x51,↓sV,↓XP,ql,XW1,qa]
 intro b1 h1 b3 h3
 obtain ⟨n31,f3⟩:=h3
 obtain ⟨t,ht⟩:∃t:Nat,t=64:=⟨_,rfl⟩
 have hh:R (.slc (oN (zB d (Kz d t)))) H:=by rw [ht];exact h
 clear h
 refine XW.loopS hmm 41 (fun i:Nat=>[(1,.ptr b1 0),(3,.ptr b3 0),(4,.i (Kz d i:Int)),(7,.i (i:Int))]) (fun i=>(b3,.cells (wI (aQ d i)))::(b1,.cells (jr d))::H) (fun i=>t - i) (fun i=>i<=t) 0 (Nat.zero_le _) ⟨rfl,rfl,rfl,rfl,rfl,trivial⟩ rfl ?_
 intro i z hi K hN hE hR
 dsimp only [fl,zz,qa,qb]
 have hsl:=cn d i
 have hss:Kz d (i+1)=Kz d i+(3 - bg d i):=rfl
 have hh2:i=t->R (.slc (oN (zB d (Kz d i)))) H:=fun e=>by rw [e];exact hh
 by_cases hlt:i<t
 ·have hlt':((i:Int)<64)=True:=qC
  have g:=Wb (l:=d) (i:=i / 4) (by omega)
  have hq:(i:Int).tdiv 4=((i / 4:Nat):Int):=by rw [Int.tdiv_eq_ediv_of_nonneg (by omega)];omega
  have hr:(i:Int).tmod 4=((i % 4:Nat):Int):=by rw [Int.tmod_eq_emod_of_nonneg (by omega)];omega
  have hw1:IntKind.i64.wrap ((i / 4:Nat):Int)=((i / 4:Nat):Int):=qj (by omega) (by omega)
  have hw2:IntKind.i64.wrap ((i % 4:Nat):Int)=((i % 4:Nat):Int):=qj (by omega) (by omega)
  have hw3:IntKind.i64.wrap (2*((i % 4:Nat):Int))=2*((i % 4:Nat):Int):=qj (by omega) (by omega)
  have hw4:IntKind.i64.wrap (6 - 2*((i % 4:Nat):Int))=6 - 2*((i % 4:Nat):Int):=qj (by omega) (by omega)
  have hi4:((i / 4:Nat):Int)<16:=by omega
  have h04:(0:Int)<=((i / 4:Nat):Int):=by omega
  have hx:((d.getD (i / 4) 0).toNat:Int).fdiv (2 ^ min (6 - 2*((i % 4:Nat):Int)).toNat IntKind.u8.bits)=(((d.getD (i / 4) 0).toNat / 4 ^ (3 - i % 4):Nat):Int):=ef _ rfl
  have hv:(d.getD (i / 4) 0).toNat / 4 ^ (3 - i % 4)<=255:=Mq (Nat.div_le_self _ _) (Nat.le_of_lt_succ (d.getD (i / 4) 0).toNat_lt)
  have hp:bg d i=(d.getD (i / 4) 0).toNat / 4 ^ (3 - i % 4) % 4:=rfl
  have hp3:=ep d i
  have hst:=cb d (i:=i)
  have hgt:=arrD_get? (f:=aQ d (i+1)) (i:=i) (by omega)
  rw [show aQ d (i+1) i=bg d i by simp [aQ]] at hgt
  have hal:=V9 (aQ d i)
  have h68:((i:Int)<68)=True:=qC
  have h68':(i<68)=True:=qC
  have h6:(0<=6 - 2*((i % 4:Nat):Int))=True:=qC
  generalize (d.getD (i / 4) 0).toNat / 4 ^ (3 - i % 4)=v at hx hv hp
  have hw5:IntKind.i64.wrap (v:Int)=(v:Int):=qj (by omega) (by omega)
  have hm:(v:Int).tmod 4=(bg d i:Int):=by rw [Int.tmod_eq_emod_of_nonneg (by omega)];omega
  clear hp
  generalize bg d i=p at hst hgt hp3 hss hm
  have hw6:IntKind.i64.wrap (3 - (p:Int))=3 - (p:Int):=qj (by omega) (by omega)
  have hw7:IntKind.i64.wrap ((Kz d i:Int)+(3 - (p:Int)))=(Kz d (i+1):Int):=by rw [qj (by omega) (by omega)];omega
  have hw8:IntKind.i64.wrap (p:Int)=(p:Int):=qj (by omega) (by omega)
  simp+contextual only [Nat.mul_one,Mg,qg,n31,hlt',hq,hr,hw1,hw3,hw4,eq_true hi4,eq_true h04,Mh,g,bD,hx,hw5,hm,hst,hgt,hal,h68,h68',h6,hw6,hw7,↓sV,↓XP,ql,XW1]
  rw [qm (by omega)]
  exact ⟨by decide,fun _=>⟨by decide,by decide,fun _=>hN (i+1) _ _ (by omega) (by omega) ⟨rfl,rfl,rfl,rfl,rfl,trivial⟩ (qL rfl)⟩⟩
 ·have hi2:i=t:=by omega
  have hlt':((i:Int)<64)=False:=qY
  have h:=hh2 hi2
  have hd12:wI (aQ d i)=wI (bL d (Kz d i) 67):=by rw [hi2,ht];exact D4 d _
  simp+contextual only [hlt',↓sV,↓XP,qA]
  apply hE
  rw [hd12]
  have hsl2:Kz d i<=192:=by omega
  generalize Kz d i=s at hsl2 h
  clear hE hN hR hss hsl hd12 hlt' hi2 hi hh hh2 hlt
  simp+contextual only [↓sV,↓XP,qA,XW1]
  refine XW.loopS hmm 41 (fun j:Nat=>[(1,.ptr b1 0),(3,.ptr b3 0),(4,.i ((s / 4 ^ j:Nat):Int)),(6,.i ((67:Int) - (j:Int)))]) (fun j=>(b3,.cells (wI (bL d s (67 - j))))::(b1,.cells (jr d))::H) (fun j=>4 - j) (fun j=>j<=4) 0 (Nat.zero_le _) ?_ rfl ?_
  ·rw [show s / 4 ^ 0=s by simp,show (67:Int) - ((0:Nat):Int)=67 by omega]
   exact ⟨rfl,rfl,rfl,rfl,rfl,trivial⟩
  intro j z hj K hN hE hR
  dsimp only [fl,zz,qa,qb]
  by_cases hlt:j<4
  ·have hlt':((64:Int)<=67 - (j:Int))=True:=qC
   have hst:=dh d s (i:=66 - j) (by omega)
   rw [show 66 - j+1=67 - j by omega,show 67 - (67 - j)=j by omega,show 66 - j=67 - (j+1) by omega] at hst
   have hal:=V9 (bL d s (67 - j))
   have htn:(67 - (j:Int)).toNat=67 - j:=by omega
   have hv:s / 4 ^ j<=192:=Mq (Nat.div_le_self _ _) hsl2
   have hvs:s / 4 ^ (j+1)=s / 4 ^ j / 4:=by rw [Nat.pow_succ,Nat.div_div_eq_div_mul]
   generalize s / 4 ^ j=v at hst hv hvs
   have hm:(v:Int).tmod 4=((v % 4:Nat):Int):=by rw [Int.tmod_eq_emod_of_nonneg (by omega)];omega
   have hq:(v:Int).tdiv 4=((s / 4 ^ (j+1):Nat):Int):=by rw [Int.tdiv_eq_ediv_of_nonneg (by omega),hvs];omega
   have hq2:IntKind.i64.wrap ((s / 4 ^ (j+1):Nat):Int)=((s / 4 ^ (j+1):Nat):Int):=qj (by omega) (by omega)
   have hw:IntKind.i64.wrap (67 - (j:Int) - 1)=67 - ((j+1:Nat):Int):=by rw [qj (by omega) (by omega)];omega
   simp+contextual only [Nat.mul_one,Mg,hlt',htn,hm,hq,hq2,hw,hst,hal,↓sV,↓XP,ql,XW1]
   exact ⟨by decide,by omega,by omega,by omega,by decide,hN (j+1) _ _ (by omega) (by omega) ⟨rfl,rfl,rfl,rfl,rfl,trivial⟩ (qL rfl)⟩
  ·have hlt':((64:Int)<=67 - (j:Int))=False:=qY
   simp+contextual only [hlt',↓sV,↓XP,qA]
   have hj4:j=4:=by omega
   apply hE
   rw [hj4,show 67 - 4=63 from rfl,fV]
   simp+contextual only [Nat.mul_one,Nat.sub_zero,Mg,↓J5,ql,XW1,qe,↓XH]
   refine Ku (Fz.rowA (s:=2) (b:=b3) (f:=zB d s) rfl jl) ?_
   simp+contextual only [uB,↓XP,qA]
   exact h
def vW (pub:List UInt8) (i:Int) (m:List UInt8):List UInt8:=ky 3 [pub,qv i,m]
theorem oB (pub:List UInt8) (i:Int) (m:List UInt8):(vW pub i m).length=16:=kR _ _
theorem cC (hi:wS .i64 i) (hp:pub.length=16) (hm:m.length<=100000):∀x∈ [pub,qv i,m],x.length<=100000000:=fun x hx=>by
 simp only [Mv,M4,or_false] at hx
 have:=yh hi
 rcases hx with rfl|rfl|rfl<;>omega
theorem me (hg:Kst H) (hp:pub.length=16) (hm:m.length<=100000) (h:R (.agg (jr (vW pub i m))) H):ACall Tryz.prog 52 [.agg (jr pub),.i i,.str m] H R:=by
 refine b52 fun hf=>?_
 have hbig:=qn
 simp+contextual only [↓U52,Nat.mul_one,Nat.sub_zero,qx,↓U52.1,↓J5,ql,XW1,qa,qb,qe,↓XH]
 intro b3 h3 b6 h6
 obtain ⟨n63,f6⟩:=h6
 simp+contextual only [qx,hp,qZ hp,zQ,qA]
 refine ⟨od _,fun _=>⟨_,fun H1 hs=>zN fun _=>⟨rfl,rfl⟩,?_⟩⟩
 simp+contextual only [Nat.mul_one,unb,↓XP,ql,XW1,qe]
 have hi:wS .i64 i:=hf.2.1
 have hK:Kst ((b6,.cells (barr 16 []))::(b3,.cells (jr pub))::H):=(hg.push h3).push ⟨Ne.symm n63,f6⟩
 refine fun _=>⟨isb _,⟨_,fun H1 hs=>WZ (c:=3) (l:= [pub,qv i,m]) (hK.sub hs) (by decide) (by simp) (cC hi hp hm) ⟨rfl,rfl⟩,?_⟩⟩
 rw [show vW pub i m=ky 3 [pub,qv i,m] from rfl] at h
 have hl:=kR 3 [pub,qv i,m]
 generalize ky 3 [pub,qv i,m]=s at hl h
 simp+contextual only [qx,hl,qZ hl,jp,↓XP,ql,XW1,qb]
 exact h
theorem ck (hg:Kst0 H) (hp:pub.length=16) (hm:m.length<=100000) (h:R (.agg (jr (vW pub i m))) H):ACall Tryz.prog 23 [.agg (jr pub),.i i,.str m] H R:=by
 refine b23 fun hf=>?_
 have hbig:=qn
 simp+contextual only [↓U23,qx,↓U23.1,↓XP,ql,XW1,qa,qb]
 intro b3 h3 b6 h6
 obtain ⟨n63,f6⟩:=h6
 simp+contextual only [hp,qZ hp,jp,qA]
 have hi:wS .i64 i:=hf.2.1
 have hK:Kst0 ((b6,.cells (barr 16 []))::(b3,.cells (jr pub))::H):=(hg.push h3).push ⟨Ne.symm n63,f6⟩
 refine nh hp ?_
 simp+contextual only [hp,↓XP,qA]
 refine fun _=>bS fun _=>?_
 simp+contextual only [Nat.mul_one,unb,↓XP,ql,XW1,qe]
 refine fun _=>⟨isb _,xB (c:=3) (l:= [pub,qv i,m]) hK (by decide) (by simp) (cC hi hp hm) ?_⟩
 rw [show vW pub i m=ky 3 [pub,qv i,m] from rfl] at h
 have hl:=kR 3 [pub,qv i,m]
 generalize ky 3 [pub,qv i,m]=s at hl h
 simp+contextual only [qx,hl,qZ hl,jp,↓XP,ql,XW1,qb]
 exact h
theorem iZ (hv:v≠ []) (K:Nat->BK) (w:World) (x:Value) (hh:HRel K w (qI H b)) (hr:RepV K w (.slc (v.map qh)) x):
  Src Tryz.prog w K 1 (v.map qh) x∧∃ad c,x= .slice (some ad) v.length c∧∀j y,v[j]?=some y->w.cell? (ad.add j)=some (.int .u8 y.toNat):=by
 refine ⟨uQ hr (Zo v) (by omega),?_⟩
 generalize hl:v.map qh=xs at hr
 have hlen:xs.length=v.length:=by rw [<-hl];simp
 cases hr with
 |slcnil a=>exact (hv (by simpa using hl)).elim
 | slc _ b' off cap sz f hb hc hm hs hvis hcell hone hrep=>
  refine ⟨⟨b',off,none⟩,cap,by rw [hlen],fun j y hj=>?_⟩
  have hx:xs[j]?=some [D.int .u8 (y.toNat:Int)]:=by rw [<-hl,Me,hj];rfl
  have hsz:sz=1:=(hs j _ hx).symm
  have h1:=hcell j _ hx 0 _ rfl
  have h2:=hrep j _ hx 0 _ rfl
  obtain ⟨h3,_⟩:=h2.int_inv
  rw [h3] at h1
  rw [hsz,Nat.mul_one,Nat.add_zero] at h1
  by_cases hj0:j=0
  ·subst hj0;simpa [Addr.add] using h1
  ·simpa [Addr.add,hj0] using h1
def KH (seed:List UInt8) (i:Int) (d:List UInt8) (s c:Nat):List UInt8:=wU i c (yQ seed i c) 0 (zB d s c)
theorem YZ (seed:List UInt8) (i:Int) (d:List UInt8) (s c:Nat):(KH seed i d s c).length=16:=u9 (uM _ _ _) _
def KK (i l:Nat):Nat:=(i / 2 ^ l) ^^^ 1
def yf (seed:List UInt8) (i l:Nat):List UInt8:=jB seed l (KK i l)
theorem Qk (seed:List UInt8) (i l:Nat):(yf seed i l).length=16:=yp _ _ _
def gT (seed:List UInt8) (ht i:Nat) (m:List UInt8):List UInt8:=
 let d:=vW (jB seed ht 0) i m
 qv i++jD (KH seed i d (Kz d 64)) 68++jD (yf seed i) ht
theorem mX (hl:l<ht) (hi:i<2 ^ ht):KK i l<2 ^ (ht - l):=by
 have h1:i / 2 ^ l<2 ^ (ht - l):=by
  rw [Nat.div_lt_iff_lt_mul (Nat.two_pow_pos l),<-Nat.pow_add,show ht - l+l=ht by omega]
  exact hi
 have h2:1<2 ^ (ht - l):=Nat.one_lt_two_pow (by omega)
 exact Nat.xor_lt_two_pow h1 h2
theorem Hd:∀v:Fin 64,bits .xor .i64 ((v.val:Nat):Int) 1=((v.val ^^^ 1:Nat):Int):=by decide
theorem iJ {i l ht:Nat} (hh:ht<=6) (hl:l<ht) (hi:i<2 ^ ht) (hp:2 ^ ht<=64):bits .xor .i64 ((i:Int).fdiv (2 ^ min l IntKind.i64.bits)) 1=(KK i l:Int):=by
 have h1:min l IntKind.i64.bits=l:=Nat.min_eq_left (show l<=64 by omega)
 have h2:(i:Int).fdiv (2 ^ l)=((i / 2 ^ l:Nat):Int):=by
  rw [show ((2:Int) ^ l)=((2 ^ l:Nat):Int) by simp,Int.fdiv_eq_ediv_of_nonneg _ (Int.natCast_nonneg _)]
  exact (Int.natCast_ediv _ _).symm
 rw [h1,h2]
 exact Hd ⟨i / 2 ^ l,Nat.lt_of_le_of_lt (Nat.div_le_self _ _) (by omega)⟩
theorem fN {seed m:List UInt8} {ht i:Nat} {H:AH} (hg:Kst H) (hs:seed.length=32) (hh:ht<=6) (hi:i<2 ^ ht) (hm:m.length<=100000)
  (h:R (.tup [.str (gT seed ht i m),.i 0]) H):ACall Tryz.prog 27 [.str seed,.i (ht:Int),.i (i:Int),.str m] H R:=by
 refine b27 fun hf=>?_
 have hbig:=qn
 obtain ⟨hp1,hp2,hp3⟩:=QX hh
 have e1:decide (((seed.length:Nat):Int)=32)=true:=decide_eq_true (by omega)
 simp only [x27,e1,Bool.not_true,↓iH,↓ub,↓XP,ql,qa,qb]
 refine fun _=>Js ?_
 have hk:Vg (ht:Int)=true:=by
  unfold Vg
  rw [decide_eq_true (by omega),decide_eq_true (by omega)]
  rfl
 have l1:((i:Int)<0)=False:=qY
 have l2:(((2 ^ ht:Nat):Int)<=(i:Int))=False:=qY
 have l3:((1048576:Int)<(m.length:Int))=False:=qY
 have l4:((0:Int)<=(ht:Int))=True:=qC
 simp+contextual only [hk,hp1,l1,l2,l3,l4,Mh,↓iH,↓ub,↓XP,ql,XW1,↓XH]
 intros
 refine ZR fun bs bM bm ba q1 q2 q3 q4=>?_
 have hn0:NodeH ((ba,.cells [WN bm bs ba])::(bm,.cells [.mp (some bM)])::(bM,.lp (MemJ seed bM) [])::(bs,.cells [.str seed])::H) seed bm bM bs ba:=
  ⟨by rw [qg (Ne.symm q4.1),jl],by rw [qg (Ne.symm q4.2.1),qg (Ne.symm q3.1),jl],by rw [qg (Ne.symm q4.2.2.1),qg (Ne.symm q3.2.1),qg (Ne.symm q2.1),jl],jl⟩
 have hK0:Kst ((ba,.cells [WN bm bs ba])::(bm,.cells [.mp (some bM)])::(bM,.lp (MemJ seed bM) [])::(bs,.cells [.str seed])::H):=(((hg.push q1).push q2).push q3).push q4
 simp+contextual only [WN,WN,↓iH,↓ub,↓XP,qA,XW1,↓XI]
 simp only [WN] at hn0 hK0
 obtain ⟨H0,hH0⟩:∃H0,H0=(ba,AO.cells [.fn 82 [.ptr bm 0,.ptr bs 0,.ptr ba 0]])::(bm,.cells [.mp (some bM)])::(bM,.lp (MemJ seed bM) [])::(bs,.cells [.str seed])::H:=⟨_,rfl⟩
 rw [<-hH0] at hn0 hK0 ⊢
 refine QC (fun b=>BldJ b []) (fun b K w h1 h2=>⟨h1,_,_,h2,.inl rfl,.inl ⟨rfl,none,rfl⟩,.inl ⟨rfl,rfl⟩⟩) (fun b=>BldJ.ok) (by intro w;exact Tryz.zeroValue114 w) ?_
 intro b hb
 simp+contextual only [qA]
 refine zN fun hii=>?_
 have hei:=yh hii
 have hep:qv (i:Int)≠ []:=by simp [qv]
 simp+contextual only [↓ub,↓XP,qA]
 intro _
 refine gr (l:= []) (m:=qv i) jl hep (by simp;omega) (fun K w x hh hr=>iZ hep K w x hh hr) ?_
 rw [M0,vM]
 simp+contextual only [↓iH,↓ub,↓XP,qA,XW1]
 have hK1:Kst ((b,.lp (BldJ b (qv i)) [])::H0):=hK0.push hb
 have hn1:NodeH ((b,.lp (BldJ b (qv i)) [])::H0) seed bm bM bs ba:=hn0.push hb
 refine Kc (by omega) ht 0 hK1 hn1 (by omega) (by omega) ?_
 rw [show gT seed ht i m=qv i++jD (KH seed i (vW (jB seed ht 0) i m) (Kz (vW (jB seed ht 0) i m) 64)) 68++jD (yf seed i) ht from rfl] at h
 have nr:=yp seed ht 0
 generalize jB seed ht 0=root at nr h
 simp+contextual only [↓ub,↓XP,qA,XW1]
 refine me hK1 nr hm ?_
 have nd:=oB root i m
 generalize vW root i m=d at nd h
 simp+contextual only [↓ub,↓XP,qA,XW1]
 refine Ua nd ?_
 generalize Kz d 64=s at h
 simp+contextual only [oz,Mg,↓ub,↓XP,ql,XW1]
 intro _
 clear hK1 hn1 e1 l1 l2 l3 l4 hp1
 obtain ⟨t,ht68⟩:∃t:Nat,t=68:=⟨_,rfl⟩
 have h2:R (.tup [.str (qv i++jD (KH seed i d s) t++jD (yf seed i) ht),.i 0]) H:=by rw [ht68];exact h
 clear h
 have hvl:=YZ seed i d s
 refine XW.loopS hmm 83 (fun n:Nat=>[(0,.str seed),(1,.i (ht:Int)),(2,.i (i:Int)),(3,.str m),(10,WN bm bs ba),(11,.ptr b 0),(50,.slc (oN (zB d s))),(51,.i 68),(52,.i (n:Int))]) (fun n=>(b,.lp (BldJ b (qv i++jD (KH seed i d s) n)) [])::H0) (fun n=>t - n) (fun n=>n<=t) 0 (Nat.zero_le _) ⟨rfl,rfl,rfl,rfl,rfl,rfl,rfl,rfl,rfl,rfl,trivial⟩ (by rw [jD,Mz]) ?_
 intro n z hn K hN hE hR
 dsimp only [fl,zz,qa,qb]
 have hst:qv i++jD (KH seed i d s) (n+1)=(qv i++jD (KH seed i d s) n)++KH seed i d s n:=by rw [jD,Mp]
 have hwl:(qv (i:Int)++jD (KH seed i d s) n).length<=9+16*n:=by rw [Mi,yj hvl];omega
 have h3:n=t->R (.tup [.str (qv i++jD (KH seed i d s) n++jD (yf seed i) ht),.i 0]) H:=fun e=>by rw [e];exact h2
 have hwn:qv (i:Int)++jD (KH seed i d s) n≠ []:=by simp [hep]
 generalize qv (i:Int)++jD (KH seed i d s) n=w at hst hwl h3 hwn
 have hK1:Kst ((b,.lp (BldJ b w) [])::H0):=hK0.push hb
 have hn1:NodeH ((b,.lp (BldJ b w) [])::H0) seed bm bM bs ba:=hn0.push hb
 by_cases hlt:n<t
 ·have hlt':((n:Int)<68)=True:=qC
  have hlt2:(n<68)=True:=qC
  have hn00:((0:Int)<=(n:Int))=True:=qC
  have g:=Uc (f:=zB d s) (i:=n) (by omega)
  have hd3:=Zc d s n
  simp+contextual only [WN,oz,Mg,hlt',hn00,g,Mh,↓iH,↓ub,↓XP,ql]
  refine fun _=>Zp hK1 (by omega) ?_
  have ns:=uM seed i n
  have hv1:KH seed i d s n=wU i n (yQ seed i n) 0 (zB d s n):=rfl
  generalize yQ seed i n=u at ns hv1
  simp+contextual only [↓ub,↓XP,qA,XW1]
  refine dD (n:=zB d s n) (by omega) hK1 ns (by omega) (by omega) ?_
  rw [<-hv1]
  have hv2:=hvl n
  generalize KH seed i d s n=v at hv2 hst
  simp+contextual only [qx,Nat.mul_one,Nat.sub_zero,↓ub,↓J5,ql,XW1,qb,qe,↓XH]
  intro Gl h14
  obtain ⟨n14,f14⟩:=h14
  have hge:qk (qI ((Gl,.cells (jr v))::(b,.lp (BldJ b w) [])::H0) b) Gl=some (.cells (jr v)):=by simp [qI,qk,n14]
  refine ⟨hv2,gr (l:=w) (m:=v) (by simp [qk,n14]) (by intro e;rw [e] at hv2;simp at hv2) (by omega) (Wz hge hv2) ?_⟩
  rw [qi n14,vM,<-hst]
  simp+contextual only [↓ub,↓XP,qA,XW1]
  rw [qm (by omega)]
  exact hN (n+1) _ _ (by omega) (by omega) ⟨rfl,rfl,rfl,rfl,rfl,rfl,rfl,rfl,rfl,rfl,trivial⟩ (yX rfl)
 ·have hi2:n=t:=by omega
  have hlt':((n:Int)<68)=False:=qY
  have h:=h3 hi2
  simp+contextual only [WN,hlt',↓iH,↓ub,↓XP,qA]
  apply hE
  clear hE hN hR hK1 hn1 hlt' h3 h2 hst hvl
  have hwl2:w.length<=1200:=by omega
  clear hwl hi2 hn hlt ht68
  have hvl:=Qk seed i
  simp+contextual only [↓ub,↓XP,qA,XW1]
  refine XW.loopS hmm 83 (fun l:Nat=>[(0,.str seed),(1,.i (ht:Int)),(2,.i (i:Int)),(3,.str m),(10,WN bm bs ba),(11,.ptr b 0),(68,.i (ht:Int)),(69,.i (l:Int))]) (fun l=>(b,.lp (BldJ b (w++jD (yf seed i) l)) [])::H0) (fun l=>ht - l) (fun l=>l<=ht) 0 (Nat.zero_le _) ⟨rfl,rfl,rfl,rfl,rfl,rfl,rfl,rfl,rfl,trivial⟩ (by rw [jD,Mz]) ?_
  intro l z hl K hN hE hR
  dsimp only [fl,zz,qa,qb]
  have hst:w++jD (yf seed i) (l+1)=(w++jD (yf seed i) l)++yf seed i l:=by rw [jD,Mp]
  have hwl:(w++jD (yf seed i) l).length<=1200+16*l:=by rw [Mi,yj hvl];omega
  have h3:l=ht->R (.tup [.str (w++jD (yf seed i) l),.i 0]) H:=fun e=>by rw [e];exact h
  have hwn2:w++jD (yf seed i) l≠ []:=by simp [hwn]
  generalize w++jD (yf seed i) l=x at hst hwl h3 hwn2
  have hK1:Kst ((b,.lp (BldJ b x) [])::H0):=hK0.push hb
  have hn1:NodeH ((b,.lp (BldJ b x) [])::H0) seed bm bM bs ba:=hn0.push hb
  by_cases hlt:l<ht
  ·have hlt':((l:Int)<(ht:Int))=True:=qC
   have hl0:((0:Int)<=(l:Int))=True:=qC
   simp+contextual only [WN,hlt',hl0,Mh,↓iH,↓ub,↓XP,qA]
   rw [iJ hh hlt hi hp2]
   have hsb:=mX hlt hi
   have hpl:2 ^ l<=2 ^ 6:=Nat.pow_le_pow_right (by omega) (by omega)
   have hp3:2 ^ (ht - l)<=2 ^ 6:=Nat.pow_le_pow_right (by omega) (by omega)
   refine Kc (by omega) l (KK i l) hK1 hn1 (Mq (Nat.mul_le_mul (show KK i l+1<=2 ^ 6 by omega) hpl) (by decide)) (by omega) ?_
   rw [show jB seed l (KK i l)=yf seed i l from rfl]
   have hv2:=hvl l
   generalize yf seed i l=v at hv2 hst
   simp+contextual only [qx,Nat.mul_one,Nat.sub_zero,↓ub,↓J5,ql,XW1,qb,qe,↓XH]
   intro Gl h14
   obtain ⟨n14,f14⟩:=h14
   have hge:qk (qI ((Gl,.cells (jr v))::(b,.lp (BldJ b x) [])::H0) b) Gl=some (.cells (jr v)):=by simp [qI,qk,n14]
   refine ⟨hv2,gr (l:=x) (m:=v) (by simp [qk,n14]) (by intro e;rw [e] at hv2;simp at hv2) (by omega) (Wz hge hv2) ?_⟩
   rw [qi n14,vM,<-hst]
   simp+contextual only [↓ub,↓XP,qA,XW1]
   rw [qm (by omega)]
   exact hN (l+1) _ _ (by omega) (by omega) ⟨rfl,rfl,rfl,rfl,rfl,rfl,rfl,rfl,rfl,trivial⟩ (yX rfl)
  ·have hi2:l=ht:=by omega
   have hlt':((l:Int)<(ht:Int))=False:=qY
   have h:=h3 hi2
   simp+contextual only [WN,hlt',↓iH,↓ub,↓XP,qA]
   apply hE
   simp+contextual only [↓iH,↓ub,↓XP,qA,XW1]
   refine YH (l:=x) jl hwn2 (by omega) ?_
   rw [uB]
   simp+contextual only [↓ub,↓XP,qA]
   intro _
   have hb0:back H.length H0=H:=by rw [hH0];exact Zh rfl
   rw [hb0]
   exact h
theorem dT (h:i / 2 ^ l % 2=0):KK i l=i / 2 ^ l+1:=by
 unfold KK
 generalize i / 2 ^ l=v at h
 obtain ⟨k,rfl⟩:∃k,v=2*k:=⟨v / 2,by omega⟩
 apply Nat.eq_of_testBit_eq
 intro j
 rw [Nat.testBit_xor]
 cases j with
 |zero=>simp
 | succ j=>
  rw [Nat.testBit_succ,Nat.testBit_succ,Nat.testBit_succ,show (2*k+1) / 2=k by omega,show 2*k / 2=k by omega,show 1 / 2=0 from rfl]
  simp
theorem eW (h:i / 2 ^ l % 2=1):KK i l=i / 2 ^ l - 1:=by
 unfold KK
 generalize i / 2 ^ l=v at h
 obtain ⟨k,rfl⟩:∃k,v=2*k+1:=⟨v / 2,by omega⟩
 apply Nat.eq_of_testBit_eq
 intro j
 rw [Nat.testBit_xor]
 cases j with
 |zero=>simp
 | succ j=>
  rw [Nat.testBit_succ,Nat.testBit_succ,Nat.testBit_succ,show (2*k+1) / 2=k by omega,show (2*k+1 - 1) / 2=k by omega,show 1 / 2=0 from rfl]
  simp
def z5 (x:Id3):List Int:= [x.o,x.s,x.i]
def wT (o:OpP):List Int:= [o.k]++z5 o.on++z5 o.to++ [o.n,o.a,o.b]
def jV (o:OpP):List UInt8:=qN (wT o)++qN (o.ids.flatMap z5)++yE [o.name,o.text]
def jz (l:List Rf):List Int:=l.flatMap fun r=>[r.o,r.s]
def jF (p:Pt):List UInt8:=qN [p.o,p.s,p.day]++qN (jz p.needs)++qv p.ops.length++p.ops.flatMap jV++qB p.sl
structure Fit (p:Pt):Prop where
 ops:p.ops.length<=1000
 needs:p.needs.length<=3000000
 ids:∀o∈p.ops,o.ids.length<=3000000
 name:∀o∈p.ops,o.name.length<=3000000
 text:∀o∈p.ops,o.text.length<=3000000
 sl:p.sl.length<=3000000
theorem K5:ints a++ints b=ints (a++b):=by simp [ints]
theorem JK {α:Type} {l:List α} {f:α->List Int} {i:Nat} {d:α} (h:i<l.length):(l.take (i+1)).flatMap f=(l.take i).flatMap f++f (l.getD i d):=by
 rw [List.take_add_one,List.flatMap_append]
 simp [h]
theorem wl:(jz l).length=2*l.length:=by
 induction l with
 |nil=>rfl
 |cons x r ih=>simp only [jz,List.flatMap_cons,Mi,Mj,Ml] at ih ⊢;omega
theorem vB {l:List Id3}:(l.flatMap z5).length=3*l.length:=by
 induction l with
 |nil=>rfl
 |cons x r ih=>simp only [List.flatMap_cons,Mi,z5,Mj,Ml] at ih ⊢;omega
end Go.Proofs.YtgopigkdcmhbbaaGreatDoor
end
noncomputable section
namespace Go.Proofs.YtgopigkdcmhbbaaGreatDoor
open Go.Xs
open Go Go.Aw
def lX:=yy Tryz.f86
def V86:=PLift.up (aI (aI (@unf (lX 14) (r [u,u,u]) rfl) (@unf (lX 10) (X (O (R [u,v,u,u] (lX 14))) (r [u,u])) rfl)) (aI (@unf (lX 4) (R [u] (X I (lX 10))) rfl) (@unf (lX 0) (R [u,u,u] (U (lX 4))) rfl)))
theorem Cx:type_of% V86.down:=V86.down
theorem b86:Bt 86 16 (lX 0) []:=bt Tryz.func86 rfl
end Go.Proofs.YtgopigkdcmhbbaaGreatDoor
end
section
namespace Go.Proofs.YtgopigkdcmhbbaaGreatDoor
open Go Go.Aw
variable {R:D->AH->Prop}
theorem tG (hl:xs.length<=30000000) (hbH:qk H b=none) (h:R (.tup []) ((b,.cells [.own (ints (xs++z5 x))])::H)):ACall Tryz.prog 85 [.ptr b 0,.agg x.d] ((b,.cells [.own (ints xs)])::H) R:=by
 refine b85 fun hf=>?_
 have hbig:=qn
 have hd:x.d= [.i x.o,.i x.s,.i x.i]:=rfl
 simp+contextual only [Dp,hd,↓bW,↓XP,ql,XW1,qa,qb]
 intro b1 hb
 have hb0:=Ne.symm hb.1
 have hn:=jm (H:=H) hb.2
 simp+contextual only [hb.1,vY hb.1,qg hb.1,qi,not_false_eq_true,jq,↓XP,ql,XW1,qb,qc,qe]
 refine ⟨.inl hbH,fun _ _ _=>⟨og,by omega,?_⟩⟩
 rw [<-K5] at h
 exact h
theorem AI (hl:xs.length<=30000000) (hcb:b≠c) (hbH:qk H b=none) (h:R (.tup []) ((c,o)::(b,.cells [.own (ints (xs++z5 x))])::H)):ACall Tryz.prog 85 [.ptr b 0,.agg x.d] ((c,o)::(b,.cells [.own (ints xs)])::H) R:=by
 refine b85 fun hf=>?_
 have hbig:=qn
 have hd:x.d= [.i x.o,.i x.s,.i x.i]:=rfl
 simp+contextual only [Dp,hd,hcb,qg hcb,qi,not_false_eq_true,↓bW,↓XP,ql,XW1,qa,qb]
 intro b1 hb
 have hb0:=Ne.symm hb.2.1
 have hn:=jm (H:=H) hb.2.2
 simp+contextual only [vY hb.2.1,vY hcb,qg hcb,qg hb.2.1,qi hb.2.1,qi hcb,jq,↓XP,ql,XW1,qb,qc,qe]
 refine ⟨.inl hbH,fun _ _ _=>⟨og,by omega,?_⟩⟩
 rw [<-K5] at h
 exact h
theorem rC (hfi:fi=85) (hi:ids.length<=3000000) (hl:xs.length<=10000000) (hbH:qk H b=none) (h:R (.tup []) ((b,.cells [.own (ints (xs++ids.flatMap z5))])::H)):ACall Tryz.prog 86 [.slc (je ids),.fn fi [.tup [],.ptr b 0]] ((b,.cells [.own (ints xs)])::H) R:=by
 refine b86 fun hf=>?_
 have hbig:=qn
 simp+contextual only [↓Cx,qP,↓XP,ql,qa,qb]
 refine fun _=>XW.loopK hmm (fun F H'=>∃(i:Nat),i<=ids.length∧Fr 16 [(1,.fn fi [.tup [],.ptr b 0]),(6,.slc (je ids)),(7,.i ids.length),(8,.i i)] F∧((b,AO.cells [.own (ints (xs++(ids.take i).flatMap z5))])::H)=H') (fun F H=>match F.getD 8 .any with| .int _ n'=>ids.length - n'.toNat|_=>0) ⟨0,by omega,⟨rfl,rfl,rfl,rfl,rfl,trivial⟩,by simp⟩ ?_
 rintro _ _ ⟨i,hi',hF,rfl⟩ K hN hE' hR
 obtain ⟨z,rfl⟩:=hF.fl rfl
 try dsimp only [fl,zz,qa,qb] at*
 clear hF hR
 by_cases hlt:i<ids.length
 ·have nx:∀F' H',back ((b,AO.cells [.own (ints (xs++(ids.take i).flatMap z5))])::H).length H'=((b,AO.cells [.own (ints ((xs++(ids.take i).flatMap z5)++z5 (ids.getD i default)))])::H)->Fr 16 [(1,.fn fi [.tup [],.ptr b 0]),(6,.slc (je ids)),(7,.i ids.length),(8,.i ((i+1:Nat):Int))] F'->K .normal F' H':=fun F' H' hH hF'=>hN _ _ ⟨i+1,hlt,hF',by rw [JK (d:=default) hlt,<-Mp];exact hH.symm⟩ (by
   rw [Ma,hF'.2.2.2.2.1]
   simp only [Mc,Md,Mf]
   omega)
  clear hN hE'
  have q1:=wC hlt
  have hl2:(xs++(ids.take i).flatMap z5).length<=20000000:=by rw [Mi,vB,My];omega
  generalize xs++(ids.take i).flatMap z5=ac at nx hl2 ⊢
  generalize ids.getD i default=e at q1 nx
  have he:e.d= [.i e.o,.i e.s,.i e.i]:=rfl
  simp+contextual only [qP,hlt,Int.ofNat_lt,q1,he,↓Cx,↓XP,ql,XW1,qb]
  intro b5 hb
  rw [hfi]
  refine AI (x:=e) (by omega) hb.1 hbH ?_
  rw [<-hfi]
  simp+contextual only [qm (show i<=big by omega),↓XP,qA,XW1]
  exact nx _ _ (yX rfl) ⟨rfl,rfl,rfl,rfl,rfl,trivial⟩
 ·have hik:i=ids.length:=by omega
  subst hik
  clear hN
  simp+contextual only [↓Cx,↓XP,qA]
  rw [List.take_length]
  refine hE' _ _ _ ?_
  simp+contextual only [↓XP,qA,XW1]
  exact h
theorem db (h:∀x∈l,x.length<=3000000):(yE l).length<=(9+3000000)*l.length+(qv l.length).length:=by
 have:=Qp h (by omega)
 rw [yE,Mi]
 omega
theorem fC {p:Pt} {acc:D} {b1:Nat} {H:AH} {Q:AQ} {F:List D} (hp:p.needs.length<=3000000) (hF:Fr 99 [(1,.ptr b1 0),(3,acc),(4,.own []),(20,.slc (qF p.needs)),(21,.i p.needs.length),(22,.i 0)] F) (hE:∀F',Fr 99 [(1,.ptr b1 0),(3,acc),(4,.own (ints (jz p.needs)))] F'->Q (.exit 0) F' ((b1,AO.cells p.d)::H)):XW Tryz.prog (zR 11) F ((b1,AO.cells p.d)::H) Q:=by
 have hbig:=qn
 refine XW.loopK hmm (fun F H'=>∃(i:Nat),i<=p.needs.length∧Fr 99 [(1,.ptr b1 0),(3,acc),(4,.own (ints (jz (p.needs.take i)))),(20,.slc (qF p.needs)),(21,.i p.needs.length),(22,.i i)] F∧((b1,AO.cells p.d)::H)=H') (fun F H=>match F.getD 22 .any with| .int _ n'=>p.needs.length - n'.toNat|_=>0) ⟨0,by omega,hF,rfl⟩ ?_
 rintro _ _ ⟨i,hi,hF,rfl⟩ K hN hE' hR
 obtain ⟨z,rfl⟩:=hF.fl rfl
 try dsimp only [fl,zz,qa,qb] at*
 clear hF hR
 by_cases hlt:i<p.needs.length
 ·have nx:∀F' H',back ((b1,AO.cells p.d)::H).length H'=((b1,AO.cells p.d)::H)->Fr 99 [(1,.ptr b1 0),(3,acc),(4,.own (ints (jz (p.needs.take i)++ [(p.needs.getD i default).o,(p.needs.getD i default).s]))),(20,.slc (qF p.needs)),(21,.i p.needs.length),(22,.i ((i+1:Nat):Int))] F'->K .normal F' H':=fun F' H' hH hF'=>hN _ _ ⟨i+1,hlt,by rw [show jz (p.needs.take (i+1))=jz (p.needs.take i)++ [(p.needs.getD i default).o,(p.needs.getD i default).s] from JK (d:=default) hlt];exact hF',hH.symm⟩ (by
   rw [Ma,hF'.2.2.2.2.2.2.1]
   simp only [Mc,Md,Mf]
   omega)
  clear hN hE hE'
  have q1:=ow hlt
  have hl:(jz (p.needs.take i)).length<=6000000:=by rw [wl,My];omega
  generalize jz (p.needs.take i)=ac at nx hl ⊢
  generalize p.needs.getD i default=e at q1 nx
  have he:e.d= [.i e.o,.i e.s]:=rfl
  simp+contextual only [jY,jq,hlt,Int.ofNat_lt,q1,he,qm (show i<=big by omega),↓Z0,↓vV,↓XP,ql,XW1,qb,qc,qe]
  refine fun b6 _ _ _=>⟨og,by omega,?_⟩
  rw [<-K5] at nx
  exact nx _ _ (yX rfl) ⟨rfl,rfl,rfl,rfl,rfl,rfl,rfl,trivial⟩
 ·have hik:i=p.needs.length:=by omega
  subst hik
  clear hN
  simp+contextual only [↓Z0,↓vV,↓XP,qA]
  rw [List.take_length]
  exact hE' _ _ _ (hE _ ⟨rfl,rfl,rfl,rfl,trivial⟩)
theorem F6 {b8} (o1:o.ids.length<=3000000) (o2:o.name.length<=3000000) (o3:o.text.length<=3000000) (hln:ac.length<=1000000000000) (hF:Fr 99 [(1,p1),(3,.own (ac.map qh)),(8,.ptr b8 0),(45,c45),(46,c46),(47,.i q)] F)
  (hE:(jV o).length<=100000000->∀F' H',(∃pre,H'=pre++((b8,AO.cells o.d)::H))->Fr 99 [(1,p1),(3,.own ((ac++jV o).map qh)),(45,c45),(46,c46),(47,.i q)] F'->Q .normal F' H'):xcode Tryz.prog x42_s9 F ((b8,AO.cells o.d)::H) Q:=by
 have hbig:=qn
 obtain ⟨z,rfl⟩:=hF.fl rfl
 try dsimp only [fl,zz,qa,qb] at*
 have hod:o.d= [.i o.k,.i o.on.o,.i o.on.s,.i o.on.i,.i o.to.o,.i o.to.s,.i o.to.i,.slc (je o.ids),.i o.n,.str o.name,.str o.text,.i o.a,.i o.b]:=rfl
 simp+contextual only [hod,↓Z0,↓vV,↓XP,ql,XW1,qb,qc,qe,reduceCtorEq]
 refine fun _=>⟨by decide,fun br cap hr b9 hb9=>?_⟩
 rw [Vh]
 refine Gz.take (j:=0) rfl (fun _=>jl) ?_
 have e1:jO ((br,.room cap [[D.i o.k]])::(b8,AO.cells o.d)::H) br [[D.i o.k]]=((b8,AO.cells o.d)::H):=by simp [jO,qI]
 rw [hod] at e1
 simp+contextual only [e1,↓vV,↓XP,ql]
 clear e1 hF
 obtain ⟨_,h89,h9⟩:=hb9
 obtain ⟨_,h8r⟩:=hr
 have hn9:qk ((b8,AO.cells o.d)::H) b9=none:=jm ⟨Ne.symm h89,h9⟩
 rw [hod] at hn9
 simp+contextual only [qg h89,↓vV,↓XP,qA,qb,qe]
 refine tG (x:=o.on) (xs:= [o.k]) (by simp) hn9 ?_
 simp+contextual only [qg h89,↓Z0,↓vV,↓XP,ql,XW1,qb,qe]
 refine tG (x:=o.to) (xs:= [o.k]++z5 o.on) (by simp [z5]) hn9 ?_
 simp+contextual only [jq,qg h89,↓Z0,↓vV,↓XP,ql,XW1,qb,qc,qe]
 refine fun _ _ _=>⟨og,by simp [z5],?_⟩
 rw [show ints (o.k::(z5 o.on++z5 o.to))++ [[D.i o.n],[D.i o.a],[D.i o.b]]=ints (wT o) from rfl]
 have l10:(wT o).length=10:=rfl
 have l3:=vB (l:=o.ids)
 refine gu (by omega) fun k1=>?_
 simp+contextual only [qP,qg h89,↓Z0,↓vV,↓XP,ql,XW1]
 refine fun _=>⟨ji,ji,by omega,fun KF hb10=>?_⟩
 obtain ⟨h910,h810,h10⟩:=hb10
 have hn10:qk ((b9,AO.cells [.slc (ints (o.k::(z5 o.on++z5 o.to)))])::(b8,AO.cells o.d)::H) KF=none:=jm ⟨Ne.symm h910,Ne.symm h810,h10⟩
 rw [hod] at hn10
 refine fun _=>rC (ids:=o.ids) (xs:= []) rfl o1 (by simp) hn10 ?_
 rw [M0]
 simp+contextual only [jq,↓Z0,↓vV,↓XP,ql,XW1]
 refine fun _=>gu (l:=o.ids.flatMap z5) (by omega) fun k2=>?_
 simp+contextual only [qg h89,qg h810,<-Mo,Mi,↓Z0,↓vV,↓XP,ql,XW1,qc,qe]
 refine fun _=>⟨ji,ji,by omega,?_⟩
 have hb3:∀x∈ [o.name,o.text],x.length<=3000000:=by
  intro x hx
  simp only [Mv,M4,or_false] at hx
  rcases hx with rfl|rfl
  ·exact o2
  ·exact o3
 have k3:=db hb3
 have k4:=vE (n:= [o.name,o.text].length) (by simp)
 refine fun _ _=>Z7 (l:= [o.name,o.text]) (by simp) hb3 ?_
 simp+contextual only [<-Mo,Mi,↓vV,↓XP,ql]
 have e2:([o.name,o.text]:List (List UInt8)).length=2:=rfl
 rw [e2] at k3 k4
 refine fun _=>⟨ji,ji,by omega,hE ?_ _ _ ⟨[(KF,_),(b9,_)],rfl⟩ ?_⟩
 ·simp only [jV,Mi]
  omega
 ·rw [show ac++jV o=ac++qN (wT o)++qN (o.ids.flatMap z5)++yE [o.name,o.text] by simp only [jV,Mp]]
  exact ⟨rfl,rfl,rfl,rfl,rfl,rfl,trivial⟩
theorem bN:back H.length (A++H)=H:=by simp [back]
theorem Ay (hp:Fit p) (hpre:pre.length<=100000000) (hF:Fr 99 [(1,.ptr b1 0),(3,.own (pre.map qh)),(45,.slc (qM p.ops)),(46,.i p.ops.length),(47,.i 0)] F) (hE:(pre++p.ops.flatMap jV).length<=1000000000000->∀F',Fr 99 [(1,.ptr b1 0),(3,.own ((pre++p.ops.flatMap jV).map qh))] F'->Q (.exit 2) F' ((b1,AO.cells p.d)::H)):XW Tryz.prog x42_L11 F ((b1,AO.cells p.d)::H) Q:=by
 have hbig:=qn
 have hpo:=hp.ops
 refine XW.loopK hmm (fun F H'=>∃(i:Nat),i<=p.ops.length∧(pre++(p.ops.take i).flatMap jV).length<=100000000+100000000*i∧Fr 99 [(1,.ptr b1 0),(3,.own ((pre++(p.ops.take i).flatMap jV).map qh)),(45,.slc (qM p.ops)),(46,.i p.ops.length),(47,.i (i:Int))] F∧((b1,AO.cells p.d)::H)=H') (fun F H=>match F.getD 47 .any with| .int _ n'=>p.ops.length - n'.toNat|_=>0) ⟨0,by omega,by simpa using hpre,by simpa using hF,rfl⟩ ?_
 clear hF
 rintro _ _ ⟨i,hi,hln,hF,rfl⟩ K hN hE' hR
 obtain ⟨z,rfl⟩:=hF.fl rfl
 try dsimp only [fl,zz,qa,qb] at*
 clear hF hR
 by_cases hlt:i<p.ops.length
 ·have nx:(jV (p.ops.getD i default)).length<=100000000->∀F' H',back ((b1,AO.cells p.d)::H).length H'=((b1,AO.cells p.d)::H)->Fr 99 [(1,.ptr b1 0),(3,.own ((pre++(p.ops.take i).flatMap jV++jV (p.ops.getD i default)).map qh)),(45,.slc (qM p.ops)),(46,.i p.ops.length),(47,.i ((i+1:Nat):Int))] F'->K .normal F' H':=fun hl F' H' hH hF'=>hN _ _ ⟨i+1,hlt,by
    rw [oT (d:=default) hlt,<-Mp,Mi]
    omega,by rw [oT (d:=default) hlt,<-Mp];exact hF',hH.symm⟩ (by
   rw [Ma,hF'.2.2.2.2.2.1]
   simp only [Mc,Md,Mf]
   omega)
  clear hN hE hE'
  have q1:=wA hlt
  have hm:p.ops.getD i default∈p.ops:=by rw [jJ hlt];exact List.getElem_mem hlt
  have o1:=hp.ids _ hm
  have o2:=hp.name _ hm
  have o3:=hp.text _ hm
  generalize pre++(p.ops.take i).flatMap jV=ac at nx hln ⊢
  generalize p.ops.getD i default=o at q1 nx o1 o2 o3
  have hod:o.d= [.i o.k,.i o.on.o,.i o.on.s,.i o.on.i,.i o.to.o,.i o.to.s,.i o.to.i,.slc (je o.ids),.i o.n,.str o.name,.str o.text,.i o.a,.i o.b]:=rfl
  simp+contextual only [x42_L11,ld,j9,hlt,Int.ofNat_lt,q1,hod,↓vV,↓XP,ql,XW1,qb]
  refine fun b8 hb=>F6 (o:=o) (ac:=ac) (q:=i) (b8:=b8) (p1:= .ptr b1 0) o1 o2 o3 (by omega) ⟨rfl,rfl,rfl,rfl,rfl,rfl,rfl,trivial⟩ fun hl F' H' hpre' hF'=>?_
  obtain ⟨pr,rfl⟩:=hpre'
  obtain ⟨z,rfl⟩:=hF'.fl rfl
  try dsimp only [fl,zz,qa,qb] at*
  clear hF'
  simp+contextual only [qm (show i<=big by omega),↓vV,↓XP,qA]
  refine nx hl _ _ ?_ ⟨rfl,rfl,rfl,rfl,rfl,rfl,trivial⟩
  rw [show pr++(b8,AO.cells o.d)::(b1,AO.cells p.d)::H=(pr++ [(b8,AO.cells o.d)])++(b1,AO.cells p.d)::H by simp]
  exact bN
 ·have hik:i=p.ops.length:=by omega
  subst hik
  clear hN
  simp+contextual only [↓Z0,↓vV,↓XP,qA]
  rw [List.take_length] at hln ⊢
  exact hE' _ _ _ (hE (by omega) _ ⟨rfl,rfl,rfl,trivial⟩)
theorem lz (hp:Fit p) (h:(jF p).length<=2000000000000->R (.own ((jF p).map qh)) H):ACall Tryz.prog 42 [.agg p.d] H R:=by
 refine b42 fun hf=>?_
 have hbig:=qn
 have hpo:=hp.ops
 have hpn:=hp.needs
 have hps:=hp.sl
 have hd:p.d= [.i p.o,.i p.s,.i p.day,.slc (qF p.needs),.slc (qM p.ops),.str p.sl]:=rfl
 simp+contextual only [x42,hd,↓Z0,↓vV,↓XP,ql,XW1,qa,qc,qe]
 refine fun b1 h1 _ _ _=>gu (l:= [p.o,p.s,p.day]) (by simp) fun k1=>?_
 have e3:([p.o,p.s,p.day]:List Int).length=3:=rfl
 rw [e3] at k1
 simp+contextual only [jY,↓Z0,↓vV,↓XP,ql,XW1]
 simp only [<-hd]
 obtain ⟨pre,hpre⟩:∃pre,qN [p.o,p.s,p.day]=pre:=⟨_,rfl⟩
 have henc:jF p=pre++qN (jz p.needs)++qv p.ops.length++p.ops.flatMap jV++qB p.sl:=by rw [<-hpre];rfl
 rw [henc] at h
 rw [hpre] at k1 ⊢
 refine fun _ _=>fC (p:=p) (acc:= .own (pre.map qh)) hpn ⟨rfl,rfl,rfl,rfl,rfl,rfl,rfl,trivial⟩ (fun F' hF'=>?_)
 obtain ⟨z,rfl⟩:=hF'.fl rfl
 try dsimp only [fl,zz,qa,qb] at*
 clear hF'
 have l2:=wl (l:=p.needs)
 simp+contextual only [hd,↓Z0,↓vV,↓XP,qA,XW1]
 refine gu (l:=jz p.needs) (by omega) fun k2=>?_
 simp+contextual only [j9,<-Mo,↓Z0,↓vV,↓XP,ql,XW1]
 have k3:=vE (n:=p.ops.length) (by omega)
 refine fun _=>⟨ji,ji,by omega,?_⟩
 refine fun _=>zN fun _=>?_
 simp+contextual only [j9,<-Mo,Mi,↓Z0,↓vV,↓XP,ql,XW1]
 simp only [<-hd]
 refine fun _=>⟨ji,ji,by omega,?_⟩
 obtain ⟨pre2,hp2⟩:∃pre2,pre++qN (jz p.needs)++qv p.ops.length=pre2:=⟨_,rfl⟩
 have hl2:pre2.length<=100000000:=by rw [<-hp2];simp only [Mi];omega
 rw [hp2] at h ⊢
 refine fun _=>Ay (p:=p) (pre:=pre2) hp hl2 ⟨rfl,rfl,rfl,rfl,rfl,rfl,trivial⟩ (fun k5 F' hF'=>?_)
 obtain ⟨z,rfl⟩:=hF'.fl rfl
 try dsimp only [fl,zz,qa,qb] at*
 clear hF'
 simp only [Mi] at k5
 simp+contextual only [hd,↓Z0,↓vV,↓XP,ql,XW1]
 have k6:=vE (n:=p.sl.length) (by omega)
 refine fun _=>JP (s:=p.sl) (by omega) ?_
 have k7:(qB p.sl).length<=9+3000000:=by simp only [qB,Mi];omega
 simp+contextual only [<-Mo,Mi,↓vV,↓XP,ql]
 exact fun _=>⟨ji,ji,by omega,h (by simp only [Mi];omega)⟩
theorem gU {l:List UInt8}:∀x∈l.map qh,wn x:=by
 intro x hx
 obtain ⟨t,_,rfl⟩:=List.mem_map.1 hx
 have:=t.toNat_lt
 exact ⟨by omega,by omega⟩
theorem Jb {l:List UInt8}:(l.map qh).map unbyte=l:=by
 rw [List.map_map]
 refine (M3 fun x _=>?_).trans (List.map_id l)
 simp [qh,unbyte]
theorem lF (hp:Fit p) (h:R (.str (jF {p with sl:= []})) H):ACall Tryz.prog 28 [.agg p.d] H R:=by
 refine b28 fun hf=>?_
 have hbig:=qn
 have hd:p.d= [.i p.o,.i p.s,.i p.day,.slc (qF p.needs),.slc (qM p.ops),.str p.sl]:=rfl
 simp+contextual only [↓U28,hd,↓U28.1,↓XP,ql,qa,qb]
 refine fun b1 h1=>lz (p:={p with sl:= []}) ⟨hp.ops,hp.needs,hp.ids,hp.name,hp.text,by simp⟩ fun k=>?_
 simp+contextual only [↓XP,ql,XW1]
 refine fun _=>⟨gU,?_⟩
 rw [Jb]
 exact h
def jM (x:Id3):Prop:=0<=x.o∧x.o<=7∧1<=x.s∧x.s<=16∧0<=x.i∧x.i<=15
instance (x:Id3):Decidable (jM x):=by unfold jM;exact inferInstance
def wh (a b:Int):Prop:=1<=a∧a<=b∧b<=1022679
instance (a b:Int):Decidable (wh a b):=by unfold wh;exact inferInstance
def uses (k:Int):List UInt8:=
 if k=1 then [65,88] else if k=2∨k=8∨k=10∨k=9 then [79,78] else if k=3 then [65,88,83] else if k=4 then [79,84,78,88]
 else if k=5∨k=7 then [79,88] else if k=6 then [79,65] else if k=11 then [79,83] else if k=12 then [79,65,88] else if k=13∨k=15 then [79,84,78]
 else if k=14 then [79,65,78] else if k=16 then [79,73,78] else if k=17 then [79,84] else if k=18 then [79,84,73] else []
def wW (k:Int):Int:=if k=16 then -1 else 0
def yG (o:OpP):Int:=if o.k=9∨o.k=14∨o.k=15 then 1 else if o.k=13 then 1023 else if o.k=16 then o.ids.length - 1 else 1048576
def uj (o:OpP):Prop:=wW o.k<=o.n∧o.n<=yG o
instance (o:OpP):Decidable (uj o):=by unfold uj;exact inferInstance
def Ys (o:OpP):Prop:=(∀x∈o.ids,jM x∧(o.k=16->x≠o.on))∧o.ids.Nodup∧(o.k=18->o.ids.length=1)∧(o.k≠18->2<=o.ids.length∧o.ids.length<=4)
instance (o:OpP):Decidable (Ys o):=by unfold Ys;exact inferInstance
theorem JO {l:List Id3} {i:Nat} (h:i<l.length):(l.take (i+1)).Nodup↔(l.take i).Nodup∧l.getD i default ∉ l.take i:=by
 rw [List.take_add_one,show l[i]?.toList= [l.getD i default] by simp [h],List.nodup_append]
 constructor
 ·rintro ⟨h1,_,h3⟩
  exact ⟨h1,fun hm=>h3 _ hm _ (List.mem_singleton.2 rfl) rfl⟩
 ·rintro ⟨h1,h2⟩
  exact ⟨h1,by simp,fun a ha b hb e=>h2 (by rw [List.mem_singleton] at hb;rw [<-hb,<-e];exact ha)⟩
def KB (o:OpP):Prop:=uses o.k≠ []∧(79∈uses o.k->jM o.on)∧(79 ∉ uses o.k->o.on=oc)∧(84∈uses o.k->jM o.to)∧(84 ∉ uses o.k->o.to=oc)
def Ky (o:OpP):Prop:=(78∈uses o.k->uj o)∧(78 ∉ uses o.k->o.n=0)∧(73∈uses o.k->Ys o)∧(73 ∉ uses o.k->o.ids= [])
def Kx (o:OpP):Prop:=(65∈uses o.k->1<=o.name.length∧o.name.length<=16)∧(65 ∉ uses o.k->o.name= [])∧(88∈uses o.k->o.text.length<=1024)∧(88 ∉ uses o.k->o.text= [])
def KA (o:OpP):Prop:=(83∈uses o.k->wh o.a o.b)∧(83 ∉ uses o.k->o.a=0∧o.b=0)
def Qx (o:OpP):Prop:=o.k=17->o.on≠o.to
instance (o:OpP):Decidable (KB o):=by unfold KB;exact inferInstance
instance (o:OpP):Decidable (Ky o):=by unfold Ky;exact inferInstance
instance (o:OpP):Decidable (Kx o):=by unfold Kx;exact inferInstance
instance (o:OpP):Decidable (KA o):=by unfold KA;exact inferInstance
instance (o:OpP):Decidable (Qx o):=by unfold Qx;exact inferInstance
def zk (o:OpP):Prop:=KB o∧Ky o∧Kx o∧KA o∧Qx o
instance (o:OpP):Decidable (zk o):=by unfold zk;exact inferInstance
theorem Qj {x y:Id3}:(decide (x.o=y.o)&&(decide (x.s=y.s)&&decide (x.i=y.i)))=decide (x=y):=by
 cases x;cases y;simp
theorem Gc {x:Id3}:(decide (x.o=0)&&(decide (x.s=0)&&decide (x.i=0)))=decide (x=oc):=Qj (y:=oc)
end Go.Proofs.YtgopigkdcmhbbaaGreatDoor
end
section
namespace Go.Proofs.YtgopigkdcmhbbaaGreatDoor
open Go Go.Aw
def yO (p:Pt):Prop:=0<=p.o∧p.o<=7∧1<=p.s∧p.s<=16∧1<=p.day∧p.day<=1048576
instance (p:Pt):Decidable (yO p):=by unfold yO;exact inferInstance
def uA (p:Pt) (i:Nat):Prop:=0<=(p.needs.getD i default).o∧(p.needs.getD i default).o<=7∧(p.needs.getD i default).o≠p.o∧1<=(p.needs.getD i default).s∧(p.needs.getD i default).s<=16∧(0<i->(p.needs.getD (i - 1) default).o<(p.needs.getD i default).o)
def uH (p:Pt):Prop:=∀i,i<p.needs.length->uA p i
def Qt (p:Pt):Prop:=∀o∈p.ops,zk o
def bare (p:Pt):Pt:={p with sl:= []}
open Classical in
noncomputable def jk (p:Pt):Int:=
 if ¬yO p then 5 else if 8<p.needs.length∨16<p.ops.length then 4 else if p.ops= [] then 1 else if ¬uH p then 1 else if ¬Qt p then 1
 else if 6800<(jF (bare p)).length then 4 else 0
end Go.Proofs.YtgopigkdcmhbbaaGreatDoor
end
section
namespace Go.Proofs.YtgopigkdcmhbbaaGreatDoor
open Go Go.Aw
variable {R:D->AH->Prop}
theorem yS (h:R (.bool (decide (low<=n∧n<=high))) H):ACall Tryz.prog 44 [.i n,.i low,.i high] H R:=by
 refine b44 fun hf=>?_
 have hk:∀c,decide (low<=n∧n<=high)=c->R (.bool c) H:=fun b hb=>hb▸h
 simp+contextual only [↓U44,↓U44.1,↓XP,qA,qa,qb]
 repeat' (first|apply And.intro|intro _)
 all_goals first
  |exact hk _ (decide_eq_true (by omega))
  |exact hk _ (decide_eq_false (by omega))
  |exact hk _ (decide_eq_decide.2 (by omega))
  |skip
def wz (o s:Int):Prop:=0<=o∧o<=7∧1<=s∧s<=16
instance (o s:Int):Decidable (wz o s):=by unfold wz;exact inferInstance
theorem zS (h:R (.bool (decide (wz o s))) H):ACall Tryz.prog 43 [.i o,.i s] H R:=by
 refine b43 fun hf=>?_
 have hk:∀c,decide (wz o s)=c->R (.bool c) H:=fun b hb=>hb▸h
 simp+contextual only [↓U43,↓U43.1,↓XP,qA,qa,qb]
 refine yS ?_
 by_cases h1:0<=o∧o<=7
 ·simp+contextual only [eq_true h1,↓XP,qA,XW1]
  refine yS ?_
  simp+contextual only [↓XP,qA,XW1]
  exact hk _ (decide_eq_decide.2 (by unfold wz;omega))
 ·simp+contextual only [eq_false h1,↓XP,qA,XW1]
  exact hk _ (decide_eq_false (by unfold wz;omega))
theorem G7 (h:R (.bool (decide (jM x))) H):ACall Tryz.prog 90 [.agg x.d] H R:=by
 refine b90 fun hf=>?_
 have hd:x.d= [.i x.o,.i x.s,.i x.i]:=rfl
 have hk:∀b,decide (jM x)=b->R (.bool b) H:=fun b hb=>hb▸h
 simp+contextual only [↓U90,hd,↓U90.1,↓XP,ql,qa]
 refine fun b1 h1 _ _=>zS ?_
 by_cases h1:wz x.o x.s
 ·simp+contextual only [eq_true h1,↓XP,ql,XW1]
  refine fun _=>yS ?_
  simp+contextual only [↓XP,qA,XW1]
  exact hk _ (decide_eq_decide.2 (by unfold wz at h1;unfold jM;omega))
 ·simp+contextual only [eq_false h1,↓XP,qA,XW1]
  exact hk _ (decide_eq_false (by unfold wz at h1;unfold jM;omega))
theorem ij (h:R (.bool (decide (wh a b))) H):ACall Tryz.prog 91 [.agg [.i a,.i b]] H R:=by
 refine b91 fun hf=>?_
 have hk:∀c,decide (wh a b)=c->R (.bool c) H:=fun b hb=>hb▸h
 simp+contextual only [↓U91,↓U91.1,↓XP,ql,XW1,qa]
 intro b1 h1
 repeat' (first|apply And.intro|intro _)
 all_goals first
  |exact hk _ (decide_eq_true (by unfold wh;omega))
  |exact hk _ (decide_eq_false (by unfold wh;omega))
  |exact hk _ (decide_eq_decide.2 (by unfold wh;omega))
  |skip
theorem ib (h:∀k:Int,(0<=k↔x∈l)->R (.i k) H):ACall Tryz.prog 120 [.slc (je l),.agg x.d] H R:=by
 refine Dr fun hf=>?_
 have hbig:=qn
 have hlen:(je l).length<=big:=hf.1
 rw [qP] at hlen
 have hxd:x.d= [.i x.o,.i x.s,.i x.i]:=rfl
 simp+contextual only [↓bX,qP,hxd,↓bX,↓XP,ql,qa,qb]
 intro b1 h1
 simp only [<-hxd]
 refine fun _=>XW.loopK hmm (fun F H'=>∃(i:Nat),i<=l.length∧x ∉ l.take i∧Fr 19 [(0,.slc (je l)),(3,.ptr b1 0),(7,.i l.length),(8,.i i)] F∧((b1,AO.cells x.d)::H)=H') (fun F H=>match F.getD 8 .any with| .int _ n'=>l.length - n'.toNat|_=>0) ⟨0,by omega,by simp,⟨rfl,rfl,rfl,rfl,rfl,trivial⟩,rfl⟩ ?_
 rintro _ _ ⟨i,hi,hn,hF,rfl⟩ K hN hE hR
 obtain ⟨z,rfl⟩:=hF.fl rfl
 try dsimp only [fl,zz,qa,qb] at*
 clear hF
 by_cases hlt:i<l.length
 ·have nx:x ∉ l.take (i+1)->∀F',Fr 19 [(0,.slc (je l)),(3,.ptr b1 0),(7,.i l.length),(8,.i ((i+1:Nat):Int))] F'->K .normal F' ((b1,AO.cells x.d)::H):=fun hn F' hF'=>hN _ _ ⟨i+1,hlt,hn,hF',(qL rfl).symm⟩ (by
   rw [Ma,hF'.2.2.2.2.1]
   simp only [Mc,Md,Mf]
   omega)
  clear hN hE
  have q1:=wC hlt
  have hm:l.getD i default∈l:=by rw [jJ hlt];exact List.getElem_mem hlt
  have hnt:x≠l.getD i default->x ∉ l.take (i+1):=fun hne hm=>by
   rw [List.take_add_one] at hm
   rcases List.mem_append.1 hm with hm|hm
   ·exact hn hm
   ·simp [hlt] at hm
    exact hne (by simp [hlt,hm])
  generalize l.getD i default=y at q1 hm hnt
  have hyd:y.d= [.i y.o,.i y.s,.i y.i]:=rfl
  have hdy:(decide (x.o=y.o)&&(decide (x.s=y.s)&&decide (x.i=y.i)))=decide (x=y):=by
   cases x;cases y;simp
  have hlt':((i:Int)<(l.length:Int))=True:=qC
  by_cases hxy:x=y
  ·simp+contextual only [qP,q1,hxd,hyd,hdy,eq_true hxy,hlt',↓bX,↓XP,ql,qb]
   refine hR _ _ ?_
   simp+contextual only [↓XP,qA]
   exact h _ ⟨fun _=>hxy▸hm,fun _=>by omega⟩
  ·simp+contextual only [qP,q1,hxd,hyd,hdy,eq_false hxy,hlt',qm (show i<=big by omega),↓bX,↓XP,ql,qb]
   simp only [<-hxd]
   exact nx (hnt hxy) _ ⟨rfl,rfl,rfl,rfl,rfl,trivial⟩
 ·have hik:i=l.length:=by omega
  subst hik
  clear hN
  rw [List.take_length] at hn
  simp+contextual only [↓bX,↓XP,qA]
  refine hE _ _ _ ?_
  simp+contextual only [↓XP,qA,XW1]
  exact h _ ⟨fun h=>by omega,fun h=>(hn h).elim⟩
theorem UC (h:R (.bool (decide (x∈l))) H):ACall Tryz.prog 92 [.slc (je l),.agg x.d] H R:=by
 refine b92 fun hf=>?_
 have hxd:x.d= [.i x.o,.i x.s,.i x.i]:=rfl
 have hk:∀b,decide (x∈l)=b->R (.bool b) H:=fun b hb=>hb▸h
 simp+contextual only [↓U92,hxd,↓U92.1,↓XP,ql,qa,qb]
 simp only [<-hxd]
 refine fun b1 h1=>ib fun k hkk=>?_
 simp+contextual only [hxd,↓XP,qA]
 exact fun _=>hk _ (decide_eq_decide.2 hkk.symm)
structure Shp where
 on:Bool
 to:Bool
 name:Bool
 text:Bool
 span:Bool
 low:Int
 high:Int
 a:Int
 b:Int
def Shp.d (s:Shp):List D:= [.bool s.on,.bool s.to,.bool s.name,.bool s.text,.bool s.span,.i s.low,.i s.high,.i s.a,.i s.b]
def uF:Shp:=⟨false,false,false,false,false,0,0,0,0⟩
def shp (k n:Int):Shp:=
 if k=1 then {uF with name:=true,text:=true} else if k=3 then {uF with name:=true,text:=true,span:=true}
 else if k=4 then {uF with on:=true,to:=true,text:=true,high:=1048576} else if k=2∨k=8∨k=10 then {uF with on:=true,high:=1048576}
 else if k=5∨k=7 then {uF with on:=true,text:=true} else if k=6 then {uF with on:=true,name:=true} else if k=9 then {uF with on:=true,high:=1}
 else if k=11 then {uF with on:=true,span:=true} else if k=12 then {uF with on:=true,name:=true,text:=true} else if k=13 then {uF with on:=true,to:=true,high:=1023}
 else if k=14 then {uF with on:=true,name:=true,high:=1} else if k=15 then {uF with on:=true,to:=true,high:=1}
 else if k=16 then {uF with on:=true,low:= -1,high:=n - 1,a:=2,b:=4} else if k=17 then {uF with on:=true,to:=true}
 else if k=18 then {uF with on:=true,to:=true,a:=1,b:=1} else uF
theorem au {o:OpP} {H:AH} (h:R (.tup [.agg (shp o.k o.ids.length).d,.bool (decide (1<=o.k∧o.k<=18))]) H):ACall Tryz.prog 89 [.agg o.d] H R:=by
 refine b89 fun hf=>?_
 have hbig:=qn
 have hod:o.d= [.i o.k,.i o.on.o,.i o.on.s,.i o.on.i,.i o.to.o,.i o.to.s,.i o.to.i,.slc (je o.ids),.i o.n,.str o.name,.str o.text,.i o.a,.i o.b]:=rfl
 have hk:∀on to name text span low high a b c,shp o.k o.ids.length=⟨on,to,name,text,span,low,high,a,b⟩->decide (1<=o.k∧o.k<=18)=c->R (.tup [.agg [.bool on,.bool to,.bool name,.bool text,.bool span,.i low,.i high,.i a,.i b],.bool c]) H:=fun on to name text span low high a b c hs hc=>by
  rw [hs,hc] at h;exact h
 have w1:o.ids.length<=big->IntKind.i64.wrap ((o.ids.length:Int) - 1)=(o.ids.length:Int) - 1:=fun h=>qj (by omega) (by omega)
 clear h
 simp+contextual only [x89,qP,hod,↓U89,↓DL,↓XP,ql,XW1,qa,qb,qe]
 clear hf hbig hod
 intro b1 h1 b2 h2 b3 h3
 have hno:∀x y,qk ((b2,x)::(b1,y)::H) b3=none:=fun x y=>jm (H:=(b2,x)::(b1,y)::H) ⟨Ne.symm h3.1,Ne.symm h3.2.1,h3.2.2⟩
 repeat' (first|apply And.intro|intro _)
 all_goals first
  |exact hno _ _
  |omega
  |exact hk _ _ _ _ _ _ _ _ _ _ (by simp [shp,uF, *]) (decide_eq_true (by omega))
  |exact hk _ _ _ _ _ _ _ _ _ _ (by simp [shp,uF, *]) (decide_eq_false (by omega))
  |skip
def I1 (s:Shp) (o:OpP):Prop:=(s.low<=o.n∧o.n<=s.high)∧(s.a<=o.ids.length∧o.ids.length<=s.b)∧o.text.length<=1024
def I2 (s:Shp) (o:OpP):Prop:=(s.name=true↔1<=o.name.length∧o.name.length<=16)∧(s.name=false->o.name= [])∧(s.text=false->o.text= [])
def I3 (s:Shp) (o:OpP):Prop:=(s.on=true↔o.on≠oc)∧(s.to=true↔o.to≠oc)∧(s.span=true↔¬(o.a=0∧o.b=0))
def I4 (s:Shp) (o:OpP):Prop:=(s.on=true->jM o.on)∧(s.to=true->jM o.to)∧(s.span=true->wh o.a o.b)
def I5 (o:OpP):Prop:=(∀x∈o.ids,jM x∧(o.k=16->x≠o.on))∧o.ids.Nodup
def VI (o:OpP):Prop:=(1<=o.k∧o.k<=18)∧I1 (shp o.k o.ids.length) o∧I2 (shp o.k o.ids.length) o∧I3 (shp o.k o.ids.length) o∧I4 (shp o.k o.ids.length) o∧I5 o∧Qx o
theorem Dm {b3} (n13:b1≠b3) (hF:Fr 165 [(1,.ptr b1 0),(3,.ptr b3 0),(4,.bool true)] F) (kF:¬I1 (Shp.mk on to name text span low high a b) o->R (.bool false) H) (go:I1 (Shp.mk on to name text span low high a b) o->∀F',Fr 165 [(1,.ptr b1 0),(3,.ptr b3 0)] F'->xcode Tryz.prog (zl 12) F' ((b3,AO.cells [.bool on,.bool to,.bool name,.bool text,.bool span,.i low,.i high,.i a,.i b])::(b1,AO.cells o.d)::H) (oe Tryz.prog [.tmp 2] H.length R)):xcode Tryz.prog (zl 4) F ((b3,AO.cells [.bool on,.bool to,.bool name,.bool text,.bool span,.i low,.i high,.i a,.i b])::(b1,AO.cells o.d)::H) (oe Tryz.prog [.tmp 2] H.length R):=by
 have hbig:=qn
 have hod:o.d= [.i o.k,.i o.on.o,.i o.on.s,.i o.on.i,.i o.to.o,.i o.to.s,.i o.to.i,.slc (je o.ids),.i o.n,.str o.name,.str o.text,.i o.a,.i o.b]:=rfl
 obtain ⟨z,rfl⟩:=hF.fl rfl
 try dsimp only [fl,zz,qa,qb] at*
 clear hF
 all_goals simp+contextual only [↓U45.2.2.1,hod,qg,n13,↓XP,ql,XW1]
 all_goals repeat' (first|(refine yS ?_;simp+contextual only [qP,qg,n13,Ms,↓XP,ql,XW1,qb,qc])|intro _|with_reducible apply And.intro)
 all_goals (try simp only [<-hod])
 all_goals first
  |omega
  |exact kF (fun hh=>by simp only [I1] at hh;omega)
  |exact go ⟨by omega,by omega,by omega⟩ _ ⟨rfl,rfl,rfl,trivial⟩
  |skip
theorem FY {b3} (n13:b1≠b3) (hF:Fr 165 [(1,.ptr b1 0),(3,.ptr b3 0)] F) (kF:¬I2 (Shp.mk on to name text span low high a b) o->R (.bool false) H) (go:I2 (Shp.mk on to name text span low high a b) o->∀F',Fr 165 [(1,.ptr b1 0),(3,.ptr b3 0)] F'->xcode Tryz.prog (zl 20) F' ((b3,AO.cells [.bool on,.bool to,.bool name,.bool text,.bool span,.i low,.i high,.i a,.i b])::(b1,AO.cells o.d)::H) (oe Tryz.prog [.tmp 2] H.length R)):xcode Tryz.prog (zl 12) F ((b3,AO.cells [.bool on,.bool to,.bool name,.bool text,.bool span,.i low,.i high,.i a,.i b])::(b1,AO.cells o.d)::H) (oe Tryz.prog [.tmp 2] H.length R):=by
 have hbig:=qn
 have hod:o.d= [.i o.k,.i o.on.o,.i o.on.s,.i o.on.i,.i o.to.o,.i o.to.s,.i o.to.i,.slc (je o.ids),.i o.n,.str o.name,.str o.text,.i o.a,.i o.b]:=rfl
 obtain ⟨z,rfl⟩:=hF.fl rfl
 try dsimp only [fl,zz,qa,qb] at*
 clear hF
 all_goals cases name
 all_goals cases text
 all_goals simp+contextual only [↓U45.2.1.2.2,hod,qg,n13,↓XP,ql,XW1]
 all_goals repeat' (first|(refine ⟨_,fun _ _=>yS ⟨rfl,rfl⟩,?_⟩;simp+contextual only [qg,n13,Bool.true_beq,Bool.false_beq,Bool.not_not,↓XP,ql,XW1])|(refine yS ?_;simp+contextual only [↓U45.2.1.2.2,hod,qP,qg,qi,n13,Qj,Gc,Ms,Bool.true_beq,Bool.false_beq,Bool.not_not,↓XP,↓XU,ql,XW1,qa,qb,qc,qd,qe,qf,reduceCtorEq])|intro _|with_reducible apply And.intro)
 all_goals (try simp only [<-hod])
 all_goals first
  |omega
  |exact kF (fun hh=>by simp [I2] at hh;simp_all<;>omega)
  |exact go (by simp [I2];simp_all<;>omega) _ ⟨rfl,rfl,rfl,trivial⟩
  |(have g:=go (by simp [I2];simp_all<;>omega);clear go kF;simp only [*] at g;exact g _ ⟨rfl,rfl,rfl,trivial⟩)
  |skip
theorem Ec {b3} (n13:b1≠b3) (hF:Fr 165 [(1,.ptr b1 0),(3,.ptr b3 0)] F) (kF:¬I3 (Shp.mk on to name text span low high a b) o->R (.bool false) H) (go:I3 (Shp.mk on to name text span low high a b) o->∀F',Fr 165 [(1,.ptr b1 0),(3,.ptr b3 0)] F'->xcode Tryz.prog (zl 28) F' ((b3,AO.cells [.bool on,.bool to,.bool name,.bool text,.bool span,.i low,.i high,.i a,.i b])::(b1,AO.cells o.d)::H) (oe Tryz.prog [.tmp 2] H.length R)):xcode Tryz.prog (zl 20) F ((b3,AO.cells [.bool on,.bool to,.bool name,.bool text,.bool span,.i low,.i high,.i a,.i b])::(b1,AO.cells o.d)::H) (oe Tryz.prog [.tmp 2] H.length R):=by
 have hbig:=qn
 have hod:o.d= [.i o.k,.i o.on.o,.i o.on.s,.i o.on.i,.i o.to.o,.i o.to.s,.i o.to.i,.slc (je o.ids),.i o.n,.str o.name,.str o.text,.i o.a,.i o.b]:=rfl
 obtain ⟨z,rfl⟩:=hF.fl rfl
 try dsimp only [fl,zz,qa,qb] at*
 clear hF
 all_goals cases on
 all_goals cases to
 all_goals cases span
 all_goals simp+contextual only [↓U45.2.1.2.1,hod,qg,n13,Gc,Bool.true_beq,Bool.false_beq,Bool.not_not,↓XP,ql,XW1,qb,qe]
 all_goals repeat' (first|intro _|with_reducible apply And.intro)
 all_goals (try simp only [<-hod])
 all_goals first
  |exact kF (fun hh=>by simp [I3] at hh;simp_all)
  |exact go (by simp [I3];simp_all) _ ⟨rfl,rfl,rfl,trivial⟩
  |(have g:=go (by simp [I3];simp_all);clear go kF;simp only [*] at g;exact g _ ⟨rfl,rfl,rfl,trivial⟩)
  |skip
theorem DM {b3} (n13:b1≠b3) (hF:Fr 165 [(1,.ptr b1 0),(3,.ptr b3 0)] F) (kF:¬I4 (Shp.mk on to name text span low high a b) o->R (.bool false) H) (go:I4 (Shp.mk on to name text span low high a b) o->∀F',Fr 165 [(1,.ptr b1 0),(3,.ptr b3 0)] F'->xcode Tryz.prog (zl 36) F' ((b3,AO.cells [.bool on,.bool to,.bool name,.bool text,.bool span,.i low,.i high,.i a,.i b])::(b1,AO.cells o.d)::H) (oe Tryz.prog [.tmp 2] H.length R)):xcode Tryz.prog (zl 28) F ((b3,AO.cells [.bool on,.bool to,.bool name,.bool text,.bool span,.i low,.i high,.i a,.i b])::(b1,AO.cells o.d)::H) (oe Tryz.prog [.tmp 2] H.length R):=by
 have hbig:=qn
 have hod:o.d= [.i o.k,.i o.on.o,.i o.on.s,.i o.on.i,.i o.to.o,.i o.to.s,.i o.to.i,.slc (je o.ids),.i o.n,.str o.name,.str o.text,.i o.a,.i o.b]:=rfl
 obtain ⟨z,rfl⟩:=hF.fl rfl
 try dsimp only [fl,zz,qa,qb] at*
 clear hF
 all_goals cases on
 all_goals cases to
 all_goals cases span
 all_goals simp+contextual only [↓U45.2.1.1,hod,qg,n13,↓XP,ql,XW1,qb,qe]
 all_goals repeat' (first|(refine G7 ?_;simp+contextual only [qg,n13,↓XP,ql,XW1,qb,qe])|(refine ij ?_;simp+contextual only [↓XP,qA,XW1])|intro _|with_reducible apply And.intro)
 all_goals (try simp only [<-hod])
 all_goals first
  |exact kF (fun hh=>by simp [I4] at hh;simp_all)
  |exact go (by simp [I4];simp_all) _ ⟨rfl,rfl,rfl,trivial⟩
  |exact go (by simp [I4]) _ ⟨rfl,rfl,rfl,trivial⟩
  |skip
end Go.Proofs.YtgopigkdcmhbbaaGreatDoor
end
section
namespace Go.Proofs.YtgopigkdcmhbbaaGreatDoor
open Go Go.Aw
variable {R:D->AH->Prop}
theorem ca:(je l).take i=je (l.take i):=by simp [je,List.map_take]
theorem Ex {b3} (n13:b1≠b3) (hF:Fr 165 [(1,.ptr b1 0),(3,.ptr b3 0)] F) (kF:¬I5 o->R (.bool false) H) (go:I5 o->∀F',Fr 165 [(1,.ptr b1 0),(3,.ptr b3 0)] F'->xcode Tryz.prog (zl 59) F' ((b3,AO.cells [.bool on,.bool to,.bool name,.bool text,.bool span,.i low,.i high,.i a,.i b])::(b1,AO.cells o.d)::H) (oe Tryz.prog [.tmp 2] H.length R)):xcode Tryz.prog (zl 36) F ((b3,AO.cells [.bool on,.bool to,.bool name,.bool text,.bool span,.i low,.i high,.i a,.i b])::(b1,AO.cells o.d)::H) (oe Tryz.prog [.tmp 2] H.length R):=by
 have hbig:=qn
 have hod:o.d= [.i o.k,.i o.on.o,.i o.on.s,.i o.on.i,.i o.to.o,.i o.to.s,.i o.to.i,.slc (je o.ids),.i o.n,.str o.name,.str o.text,.i o.a,.i o.b]:=rfl
 obtain ⟨z,rfl⟩:=hF.fl rfl
 try dsimp only [fl,zz,qa,qb] at*
 clear hF
 simp+contextual only [↓U45.1.2.2.2,↓U45.1.2.1,↓U45.1.1.2,↓U45.1.1.1,hod,qP,qg,n13,↓XP,ql,XW1]
 simp only [<-hod]
 intro hlen
 refine XW.loopK hmm (fun F H'=>∃(i:Nat),i<=o.ids.length∧(∀x∈o.ids.take i,jM x∧(o.k=16->x≠o.on))∧(o.ids.take i).Nodup∧Fr 165 [(1,.ptr b1 0),(3,.ptr b3 0),(125,.slc (je o.ids)),(126,.i o.ids.length),(127,.i i)] F∧((b3,AO.cells [.bool on,.bool to,.bool name,.bool text,.bool span,.i low,.i high,.i a,.i b])::(b1,AO.cells o.d)::H)=H') (fun F H=>match F.getD 127 .any with| .int _ n'=>o.ids.length - n'.toNat|_=>0) ⟨0,by omega,by simp,by simp,⟨rfl,rfl,rfl,rfl,rfl,rfl,trivial⟩,rfl⟩ ?_
 rintro _ _ ⟨i,hi,hv,hn,hF,rfl⟩ K hN hE hR
 obtain ⟨z,rfl⟩:=hF.fl rfl
 try dsimp only [fl,zz,qa,qb] at*
 clear hF
 by_cases hlt:i<o.ids.length
 ·have nx:(jM (o.ids.getD i default)∧(o.k=16->o.ids.getD i default≠o.on))->o.ids.getD i default ∉ o.ids.take i->∀F' H',back (((b3,AO.cells [.bool on,.bool to,.bool name,.bool text,.bool span,.i low,.i high,.i a,.i b])::(b1,AO.cells o.d)::H):AH).length H'=((b3,AO.cells [.bool on,.bool to,.bool name,.bool text,.bool span,.i low,.i high,.i a,.i b])::(b1,AO.cells o.d)::H)->Fr 165 [(1,.ptr b1 0),(3,.ptr b3 0),(125,.slc (je o.ids)),(126,.i o.ids.length),(127,.i ((i+1:Nat):Int))] F'->K .normal F' H':=fun h1 h2 F' H' hH hF'=>hN _ _ ⟨i+1,hlt,fun x hx=>by
    rw [List.take_add_one] at hx
    rcases List.mem_append.1 hx with hx|hx
    ·exact hv x hx
    ·simp [hlt] at hx
     have:x=o.ids.getD i default:=by simp [hlt,hx]
     rw [this];exact h1,(JO hlt).2 ⟨hn,h2⟩,hF',hH.symm⟩ (by
   rw [Ma,hF'.2.2.2.2.2.1]
   simp only [Mc,Md,Mf]
   omega)
  clear hN hE
  have q1:=wC hlt
  have hm:o.ids.getD i default∈o.ids:=by rw [jJ hlt];exact List.getElem_mem hlt
  generalize hxe:o.ids.getD i default=x at q1 nx hm
  have hxd:x.d= [.i x.o,.i x.s,.i x.i]:=rfl
  have hlt':((i:Int)<(o.ids.length:Int))=True:=qC
  simp+contextual only [↓U45.1.2.2.2,↓U45.1.2.1,↓U45.1.1.2,↓U45.1.1.1,hod,qP,q1,hxd,hlt',↓XP,ql,XW1,qb]
  intro b6 h6
  obtain ⟨n36,n16,h6⟩:=h6
  have hgx:x∈o.ids.take i->¬I5 o:=fun hxm h5=>((JO hlt).1 (h5.2.sublist (List.take_sublist (i+1) o.ids))).2 (hxe▸hxm)
  refine ⟨_,fun _ _=>G7 (x:=x) ⟨rfl,rfl⟩,?_⟩
  by_cases hok:jM x
  ·simp+contextual only [qP,qg,n13,ca,n16,eq_true hok,show (0<=(i:Int))=True from qC,show ((i:Int)<=(o.ids.length:Int))=True from qC,↓XP,ql,XW1,qb]
   refine fun _=>⟨fun y hy=>by obtain ⟨y',_,rfl⟩:=List.mem_map.1 hy;rfl,⟨_,fun _ _=>UC (l:=o.ids.take i) (x:=x) ⟨rfl,rfl⟩,?_⟩⟩
   by_cases hmem:x∈o.ids.take i
   ·simp+contextual only [eq_true hmem,↓XP,qA,XW1]
    refine hR _ _ ?_
    simp+contextual only [↓XP,qA]
    exact kF (hgx hmem)
   ·have bk:∀y:AO,back (((b3,AO.cells [.bool on,.bool to,.bool name,.bool text,.bool span,.i low,.i high,.i a,.i b])::(b1,AO.cells o.d)::H):AH).length ((b6,y)::((b3,AO.cells [.bool on,.bool to,.bool name,.bool text,.bool span,.i low,.i high,.i a,.i b])::(b1,AO.cells o.d)::H))=((b3,AO.cells [.bool on,.bool to,.bool name,.bool text,.bool span,.i low,.i high,.i a,.i b])::(b1,AO.cells o.d)::H):=fun y=>yX rfl
    by_cases hk16:o.k=16
    ·by_cases hxo:x=o.on
     ·simp+contextual only [qg,n13,Qj,n16,eq_false hmem,eq_true hk16,eq_true hxo,↓XP,ql,XW1,qb,qe]
      refine fun _=>hR _ _ ?_
      simp+contextual only [↓XP,qA]
      exact kF (fun h5=>(h5.1 x hm).2 hk16 hxo)
     ·simp+contextual only [qg,n13,Qj,n16,eq_false hmem,eq_true hk16,eq_false hxo,qm (show i<=big by omega),↓XP,ql,XW1,qb,qe]
      simp only [<-hod]
      exact fun _=>nx ⟨hok,fun _=>hxo⟩ hmem _ _ (bk _) ⟨rfl,rfl,rfl,rfl,rfl,rfl,trivial⟩
    ·simp+contextual only [qg,n13,n16,eq_false hmem,eq_false hk16,qm (show i<=big by omega),↓XP,ql,XW1]
     simp only [<-hod]
     exact fun _=>nx ⟨hok,fun h=>(hk16 h).elim⟩ hmem _ _ (bk _) ⟨rfl,rfl,rfl,rfl,rfl,rfl,trivial⟩
  ·simp+contextual only [eq_false hok,↓XP,qA,XW1]
   refine hR _ _ ?_
   simp+contextual only [↓XP,qA]
   exact kF (fun h5=>hok (h5.1 x hm).1)
 ·have hik:i=o.ids.length:=by omega
  subst hik
  clear hN
  rw [List.take_length] at hn hv
  simp+contextual only [↓U45.1.2.2.2,↓U45.1.2.1,↓U45.1.1.2,↓U45.1.1.1,hod,↓XP,qA]
  refine hE _ _ _ ?_
  simp+contextual only [↓XP,qA,XW1]
  simp only [<-hod]
  exact go ⟨hv,hn⟩ _ ⟨rfl,rfl,rfl,trivial⟩
theorem D5 {b3} (n13:b1≠b3) (hF:Fr 165 [(1,.ptr b1 0),(3,.ptr b3 0)] F) (h:R (.bool (decide (Qx o))) H):xcode Tryz.prog (zl 59) F ((b3,AO.cells [.bool on,.bool to,.bool name,.bool text,.bool span,.i low,.i high,.i a,.i b])::(b1,AO.cells o.d)::H) (oe Tryz.prog [.tmp 2] H.length R):=by
 have hod:o.d= [.i o.k,.i o.on.o,.i o.on.s,.i o.on.i,.i o.to.o,.i o.to.s,.i o.to.i,.slc (je o.ids),.i o.n,.str o.name,.str o.text,.i o.a,.i o.b]:=rfl
 have hk:∀c,decide (Qx o)=c->R (.bool c) H:=fun b hb=>hb▸h
 obtain ⟨z,rfl⟩:=hF.fl rfl
 try dsimp only [fl,zz,qa,qb] at*
 clear hF
 by_cases h17:o.k=17
 ·by_cases he:o.on=o.to
  ·simp+contextual only [↓U45.1.2.2.1,hod,qg,n13,Qj,eq_true h17,eq_true he,↓XP,ql,XW1,qb,qe]
   exact fun _=>hk _ (decide_eq_false fun hh=>hh h17 he)
  ·simp+contextual only [↓U45.1.2.2.1,hod,qg,n13,Qj,eq_true h17,eq_false he,↓XP,ql,XW1,qb,qe]
   exact fun _=>hk _ (decide_eq_true fun _=>he)
 ·simp+contextual only [↓U45.1.2.2.1,hod,qg,n13,eq_false h17,↓XP,ql,XW1]
  exact fun _=>hk _ (decide_eq_true fun hh=>(h17 hh).elim)
open Classical in
theorem bI (h:R (.bool (decide (VI o))) H):ACall Tryz.prog 45 [.agg o.d] H R:=by
 refine b45 fun hf=>?_
 have hbig:=qn
 have hod:o.d= [.i o.k,.i o.on.o,.i o.on.s,.i o.on.i,.i o.to.o,.i o.to.s,.i o.to.i,.slc (je o.ids),.i o.n,.str o.name,.str o.text,.i o.a,.i o.b]:=rfl
 have kF:¬VI o->R (.bool false) H:=fun hv=>by rwa [decide_eq_false hv] at h
 have kk:VI o->R (.bool true) H:=fun hv=>by rwa [decide_eq_true hv] at h
 clear h
 simp+contextual only [↓U45.2.2.2.2,↓U45.2.2.2.1,hod,↓XP,ql,qa,qb]
 simp only [<-hod]
 refine fun b1 h1=>au ?_
 unfold VI at kF kk
 generalize shp o.k o.ids.length=s at kF kk
 obtain ⟨on,to,name,text,span,low,high,a,b⟩:=s
 have hsd:Shp.d ⟨on,to,name,text,span,low,high,a,b⟩= [.bool on,.bool to,.bool name,.bool text,.bool span,.i low,.i high,.i a,.i b]:=rfl
 by_cases hkk:1<=o.k∧o.k<=18
 ·simp+contextual only [hod,hsd,eq_true hkk,↓XP,ql,XW1,qb]
  simp only [<-hod]
  intro b3 h3
  refine Dm h3.1 ⟨rfl,rfl,rfl,rfl,trivial⟩ (fun c=>kF fun hh=>c hh.2.1) fun i1 F1 hF1=>FY h3.1 hF1 (fun c=>kF fun hh=>c hh.2.2.1) fun i2 F2 hF2=>Ec h3.1 hF2 (fun c=>kF fun hh=>c hh.2.2.2.1) fun i3 F3 hF3=>DM h3.1 hF3 (fun c=>kF fun hh=>c hh.2.2.2.2.1) fun i4 F4 hF4=>Ex h3.1 hF4 (fun c=>kF fun hh=>c hh.2.2.2.2.2.1) fun i5 F5 hF5=>D5 h3.1 hF5 ?_
  by_cases h6:Qx o
  ·rw [decide_eq_true h6]
   exact kk ⟨hkk,i1,i2,i3,i4,i5,h6⟩
  ·rw [decide_eq_false h6]
   exact kF fun hh=>h6 hh.2.2.2.2.2.2
 ·simp+contextual only [hod,↓U45.2.2.1,hsd,eq_false hkk,↓XP,ql,XW1,qb]
  exact fun _ _=>kF fun hh=>hkk hh.1
end Go.Proofs.YtgopigkdcmhbbaaGreatDoor
end
section
namespace Go.Proofs.YtgopigkdcmhbbaaGreatDoor
open Go Go.Aw
theorem lT (h:jM x):x≠oc:=fun e=>by
  subst e
  have:=h.2.2.1
  simp [oc] at this
theorem Bd (h:wh a b):¬(a=0∧b=0):=fun e=>by
  have:=h.1
  omega
theorem ml:VI o↔zk o:=by
  rcases (show o.k=1∨o.k=2∨o.k=3∨o.k=4∨o.k=5∨o.k=6∨o.k=7∨o.k=8∨o.k=9∨o.k=10∨o.k=11∨o.k=12∨o.k=13∨o.k=14∨o.k=15∨o.k=16∨o.k=17∨o.k=18∨¬(1<=o.k∧o.k<=18) by omega) with h|h|h|h|h|h|h|h|h|h|h|h|h|h|h|h|h|h|h
  all_goals
    obtain ⟨k,on,to,ids,n,name,text,a,b⟩:=o
    dsimp only at h
    first|subst h|skip
  all_goals
    have q1:=@lT on
    have q2:=@lT to
    have q3:=@Bd a b
  all_goals first
    | (have e1:¬VI ⟨k,on,to,ids,n,name,text,a,b⟩:=fun hh=>h hh.1
       have e2:¬zk ⟨k,on,to,ids,n,name,text,a,b⟩:=fun hh=>hh.1.1 (by
         show uses k= []
         unfold uses
         repeat rw [if_neg (by omega)])
       exact ⟨fun hh=>(e1 hh).elim,fun hh=>(e2 hh).elim⟩)
    |skip
  all_goals simp [VI,zk,I1,I2,I3,I4,I5,KB,Ky,Kx,KA,Qx,shp,uF,uses,uj,wW,yG,Ys]
  all_goals refine ⟨fun hh=>?_,fun hh=>?_⟩
  all_goals simp_all
  all_goals omega
open Classical in
theorem iL {R:D->AH->Prop} (h:R (.bool (decide (zk o))) H):ACall Tryz.prog 45 [.agg o.d] H R:=by
  refine bI ?_
  have:decide (VI o)=decide (zk o):=decide_eq_decide.2 ml
  rw [this]
  exact h
end Go.Proofs.YtgopigkdcmhbbaaGreatDoor
end
section
namespace Go.Proofs.YtgopigkdcmhbbaaGreatDoor
open Go Go.Aw
open Classical in
theorem uw {R:D->AH->Prop} (hp:Fit p) (h:R (.i (jk p)) H):ACall Tryz.prog 22 [.agg p.d] H R:=by
 refine b22 fun hf=>?_
 have hbig:=qn
 have hd:p.d= [.i p.o,.i p.s,.i p.day,.slc (qF p.needs),.slc (qM p.ops),.str p.sl]:=rfl
 have hk:∀b,jk p=b->R (.i b) H:=fun b hb=>hb▸h
 clear h
 simp+contextual only [↓iy,hd,↓iy,↓XP,ql,qa]
 refine fun b1 h1 _ _=>zS ?_
 by_cases hh:¬yO p
 ·have h5:=hk 5 (by unfold jk;rw [if_pos hh])
  unfold yO at hh
  by_cases hn:wz p.o p.s
  ·simp+contextual only [decide_eq_true hn,↓XP,ql,XW1]
   unfold wz at hn
   refine fun _=>yS ?_
   simp+contextual only [decide_eq_false (show ¬(1<=p.day∧p.day<=1048576) by omega),↓XP,qA,XW1]
   exact h5
  ·simp+contextual only [decide_eq_false hn,↓XP,qA,XW1]
   exact h5
 have hh:yO p:=Classical.not_not.1 hh
 have hn:wz p.o p.s:=⟨hh.1,hh.2.1,hh.2.2.1,hh.2.2.2.1⟩
 simp+contextual only [decide_eq_true hn,↓XP,ql,XW1]
 refine fun _=>yS ?_
 simp+contextual only [jY,j9,decide_eq_true (show 1<=p.day∧p.day<=1048576 from hh.2.2.2.2),↓iy,↓XP,ql,XW1]
 have k4:8<p.needs.length∨16<p.ops.length->R (.i 4) H:=fun hl=>hk 4 (by unfold jk;rw [if_neg (fun h=>h hh),if_pos hl])
 refine fun _=>⟨fun c=>k4 (by omega),fun c1 _=>⟨fun c=>k4 (by omega),fun c2=>⟨fun c=>hk 1 (by unfold jk;rw [if_neg (fun h=>h hh),if_neg (by omega),if_pos (List.eq_nil_of_length_eq_zero (by omega))]),fun c3=>?_⟩⟩⟩
 have hl:¬(8<p.needs.length∨16<p.ops.length):=by omega
 have hne:p.ops≠ []:=fun e=>c3 (by rw [e];rfl)
 have hk2:∀b,(if ¬uH p then (1:Int) else if ¬Qt p then 1 else if 6800<(jF (bare p)).length then 4 else 0)=b->R (.i b) H:=fun b hb=>hk b (by
  unfold jk
  rw [if_neg (fun h=>h hh),if_neg hl,if_neg hne]
  exact hb)
 clear hk k4
 simp only [<-hd]
 refine XW.loopK hmm (fun F H'=>∃(i:Nat),i<=p.needs.length∧(∀j,j<i->uA p j)∧Fr 86 [(1,.ptr b1 0),(34,.slc (qF p.needs)),(35,.i p.needs.length),(36,.i i)] F∧((b1,AO.cells p.d)::H)=H') (fun F H=>match F.getD 36 .any with| .int _ n'=>p.needs.length - n'.toNat|_=>0) ⟨0,by omega,by omega,⟨rfl,rfl,rfl,rfl,rfl,trivial⟩,rfl⟩ ?_
 rintro _ _ ⟨i,hi,hv,hF,rfl⟩ K hN hE hR
 obtain ⟨z,rfl⟩:=hF.fl rfl
 try dsimp only [fl,zz,qa,qb] at*
 clear hF
 by_cases hlt:i<p.needs.length
 ·have nx:uA p i->∀F' H',back ((b1,AO.cells p.d)::H).length H'=((b1,AO.cells p.d)::H)->Fr 86 [(1,.ptr b1 0),(34,.slc (qF p.needs)),(35,.i p.needs.length),(36,.i ((i+1:Nat):Int))] F'->K .normal F' H':=fun h1 F' H' hH hF'=>hN _ _ ⟨i+1,hlt,fun j hj=>by
    by_cases e:j=i
    ·rw [e];exact h1
    ·exact hv j (by omega),hF',hH.symm⟩ (by
   rw [Ma,hF'.2.2.2.2.1]
   simp only [Mc,Md,Mf]
   omega)
  have hno:¬uA p i->R (.i 1) H:=fun h1=>hk2 1 (by rw [if_pos (fun h=>h1 (h i hlt))])
  clear hN hE
  have q1:=ow hlt
  have q0:0<i->(qF p.needs).getD (i - 1) []=(p.needs.getD (i - 1) default).d:=fun h=>ow (by omega)
  unfold uA at nx hno
  generalize p.needs.getD i default=r at q1 nx hno
  generalize p.needs.getD (i - 1) default=t at q0 nx hno
  have hr:r.d= [.i r.o,.i r.s]:=rfl
  have ht:t.d= [.i t.o,.i t.s]:=rfl
  have w1:0<i->IntKind.i64.wrap ((i:Int) - 1)=((i - 1:Nat):Int):=fun h=>by rw [qj (by omega) (by omega)];omega
  simp+contextual only [hd,jY,hlt,Int.ofNat_lt,q1,hr,↓iy,↓XP,ql,XW1,qb]
  rintro b4 ⟨n14,h4⟩ _ _
  refine ⟨_,fun _ _=>zS ⟨rfl,rfl⟩,?_⟩
  by_cases k1:wz r.o r.s
  ·have k1':=k1
   unfold wz at k1'
   by_cases k2:r.o=p.o
   ·have k1p:wz p.o r.s:=k2▸k1
    simp+contextual only [qg n14,k2,decide_eq_true k1p,↓XP,ql,XW1]
    intros
    refine hR _ _ ?_
    simp+contextual only [↓XP,qA]
    exact hno (by omega)
   by_cases hi0:0<i
   ·have q0':=q0 hi0
    have w1':=w1 hi0
    by_cases c6:r.o<=t.o
    ·simp+contextual only [jY,decide_eq_true k1,qg n14,eq_false k2,q0',ht,w1',(qC:((0:Int)<(i:Int))=True),(eq_true c6),↓XP,ql,XW1,qb,qe]
     intros
     refine ⟨by omega,fun _=>hR _ _ ?_⟩
     simp+contextual only [↓XP,qA]
     exact hno (by omega)
    ·simp+contextual only [jY,decide_eq_true k1,qg n14,eq_false k2,q0',ht,w1',(qC:((0:Int)<(i:Int))=True),(eq_false c6),qm (show i<=big by omega),↓XP,ql,XW1,qb,qe]
     intros
     exact ⟨by omega,fun _=>nx (by omega) _ _ (yX rfl) ⟨rfl,rfl,rfl,rfl,rfl,trivial⟩⟩
   ·simp+contextual only [decide_eq_true k1,qg n14,eq_false k2,(qY:((0:Int)<(i:Int))=False),qm (show i<=big by omega),↓XP,ql,XW1]
    intros
    exact nx (by omega) _ _ (yX rfl) ⟨rfl,rfl,rfl,rfl,rfl,trivial⟩
  ·simp+contextual only [decide_eq_false k1,↓XP,qA,XW1]
   refine hR _ _ ?_
   simp+contextual only [↓XP,qA]
   unfold wz at k1
   exact hno (by omega)
 ·have hik:i=p.needs.length:=by omega
  subst hik
  clear hN
  have hon:uH p:=hv
  have hk3:∀b,(if ¬Qt p then (1:Int) else if 6800<(jF (bare p)).length then 4 else 0)=b->R (.i b) H:=fun b hb=>hk2 b (by rw [if_neg (fun h=>h hon)];exact hb)
  clear hk2 hv
  simp+contextual only [hd,↓iy,↓XP,qA]
  refine hE _ _ _ ?_
  clear hE hR
  simp+contextual only [j9,↓iy,↓XP,ql,XW1]
  simp only [<-hd]
  refine fun _=>XW.loopK hmm (fun F H'=>∃(i:Nat),i<=p.ops.length∧(∀o∈p.ops.take i,zk o)∧Fr 86 [(1,.ptr b1 0),(72,.slc (qM p.ops)),(73,.i p.ops.length),(74,.i i)] F∧((b1,AO.cells p.d)::H)=H') (fun F H=>match F.getD 74 .any with| .int _ n'=>p.ops.length - n'.toNat|_=>0) ⟨0,by omega,by simp,⟨rfl,rfl,rfl,rfl,rfl,trivial⟩,rfl⟩ ?_
  rintro _ _ ⟨i,hi,hv,hF,rfl⟩ K hN hE hR
  obtain ⟨z,rfl⟩:=hF.fl rfl
  try dsimp only [fl,zz,qa,qb] at*
  clear hF
  by_cases hlt:i<p.ops.length
  ·have nx:zk (p.ops.getD i default)->∀F' H',back ((b1,AO.cells p.d)::H).length H'=((b1,AO.cells p.d)::H)->Fr 86 [(1,.ptr b1 0),(72,.slc (qM p.ops)),(73,.i p.ops.length),(74,.i ((i+1:Nat):Int))] F'->K .normal F' H':=fun h1 F' H' hH hF'=>hN _ _ ⟨i+1,hlt,fun o ho=>by
     rw [List.take_add_one] at ho
     rcases List.mem_append.1 ho with ho|ho
     ·exact hv o ho
     ·simp [hlt] at ho
      have:o=p.ops.getD i default:=by simp [hlt,ho]
      rw [this];exact h1,hF',hH.symm⟩ (by
    rw [Ma,hF'.2.2.2.2.1]
    simp only [Mc,Md,Mf]
    omega)
   have hm:p.ops.getD i default∈p.ops:=by rw [jJ hlt];exact List.getElem_mem hlt
   have hno:¬zk (p.ops.getD i default)->R (.i 1) H:=fun h1=>hk3 1 (by rw [if_pos (fun h=>h1 (h _ hm))])
   clear hN hE hk3
   have q1:=wA hlt
   generalize p.ops.getD i default=o at q1 nx hno
   have hod:o.d= [.i o.k,.i o.on.o,.i o.on.s,.i o.on.i,.i o.to.o,.i o.to.s,.i o.to.i,.slc (je o.ids),.i o.n,.str o.name,.str o.text,.i o.a,.i o.b]:=rfl
   simp+contextual only [hd,j9,hlt,Int.ofNat_lt,q1,hod,↓iy,↓XP,ql,XW1,qb]
   refine fun b6 hb6=>iL (o:=o) ?_
   by_cases ho:zk o
   ·simp+contextual only [ho,qm (show i<=big by omega),↓XP,qA,XW1]
    simp only [<-hd]
    exact nx ho _ _ (yX rfl) ⟨rfl,rfl,rfl,rfl,rfl,trivial⟩
   ·simp+contextual only [ho,↓XP,qA,XW1]
    refine hR _ _ ?_
    simp+contextual only [↓XP,qA]
    exact hno ho
  ·have hik:i=p.ops.length:=by omega
   subst hik
   clear hN
   rw [List.take_length] at hv
   have hoo:Qt p:=hv
   simp+contextual only [hd,↓iy,↓XP,qA]
   refine hE _ _ _ ?_
   clear hE hR
   simp+contextual only [↓iy,↓XP,ql,XW1,qb]
   refine lF hp ?_
   simp+contextual only [↓XP,ql,XW1]
   refine fun _=>⟨fun c=>hk3 4 ?_,fun c=>hk3 0 ?_⟩
   ·exact (if_neg (fun h=>h hoo)).trans (if_pos (Int.ofNat_lt.1 c))
   ·exact (if_neg (fun h=>h hoo)).trans (if_neg (fun h=>c (Int.ofNat_lt.2 h)))
noncomputable def gC (p:Pt):Int:=if jk p≠0 then jk p else if 1200<p.sl.length then 4 else 0
theorem zf {R:D->AH->Prop} (hp:Fit p) (h:R (.tup [if gC p=0 then .own ((jF p).map qh) else .own [],.i (gC p)]) H):ACall Tryz.prog 21 [.agg p.d] H R:=by
 refine b21 fun hf=>?_
 have hbig:=qn
 have hd:p.d= [.i p.o,.i p.s,.i p.day,.slc (qF p.needs),.slc (qM p.ops),.str p.sl]:=rfl
 simp+contextual only [↓Cq,hd,↓Cq,↓XP,ql,qa,qb]
 refine fun b1 h1=>uw hp ?_
 by_cases c1:jk p=0
 ·have e0:gC p=if 1200<p.sl.length then 4 else 0:=by unfold gC;rw [if_neg (fun h=>h c1)]
  simp+contextual only [c1,↓Cq,↓XP,ql,XW1,qb]
  by_cases c2:1200<p.sl.length
  ·rw [if_pos c2] at e0
   simp+contextual only [(qC:((1200:Int)<(p.sl.length:Int))=True),qA,XW1]
   rw [e0,if_neg (by decide)] at h
   exact fun _ _=>h
  ·rw [if_neg c2] at e0
   simp+contextual only [(qY:((1200:Int)<(p.sl.length:Int))=False),qA,XW1]
   refine fun _ _=>lz hp fun _=>?_
   simp+contextual only [↓XP,qA]
   rw [e0,if_pos rfl] at h
   exact fun _=>h
 ·have e0:gC p=jk p:=by unfold gC;rw [if_pos c1]
  simp+contextual only [eq_false c1,↓Cq,↓XP,qA]
  rw [e0,if_neg c1] at h
  exact fun _=>h
end Go.Proofs.YtgopigkdcmhbbaaGreatDoor
end
section
namespace Go.Proofs.YtgopigkdcmhbbaaGreatDoor
open Go Go.Aw
theorem kI {R:D->AH->Prop} (hl:p.ops.length<=1000) (h:R (.agg (qU p o).d) H):ACall Tryz.prog 126 [.agg p.d,.agg o.d] H R:=by
 refine Dt fun hf=>?_
 have hbig:=qn
 simp+contextual only [↓tL,Pt.d,OpP.d,↓tL,↓XP,ql,XW1,qa,qb,qc,qe]
 intro b1 h1 b2 h2 b3 h3
 have e:qM p.ops++ [[.i o.k,.i o.on.o,.i o.on.s,.i o.on.i,.i o.to.o,.i o.to.s,.i o.to.i,.slc (je o.ids),.i o.n,.str o.name,.str o.text,.i o.a,.i o.b]]=qM (p.ops++ [o]):=by simp [qM,OpP.d]
 refine fun _=>⟨vX,by rw [j9];omega,vX,by rw [j9];omega,by omega,?_⟩
 rw [e]
 exact h
theorem vC:(qU p o).ops.length=p.ops.length+1:=by simp [qU]
theorem vk {R:D->AH->Prop} (hl:p.ops.length<=900) (h:R (.agg (meaning p on m).d) H):ACall Tryz.prog 128 [.agg p.d,.agg on.d,.slc (ints m)] H R:=by
 refine CJ fun hf=>?_
 have hbig:=qn
 have hd:p.d= [.i p.o,.i p.s,.i p.day,.slc (qF p.needs),.slc (qM p.ops),.str p.sl]:=rfl
 have ho:on.d= [.i on.o,.i on.s,.i on.i]:=rfl
 simp+contextual only [↓d8,hd,ho,j9,↓d8,↓XP,ql,XW1,qa,qb,qe]
 rintro b1 h1 b2 ⟨n12,h2⟩ b3 ⟨n23,n13,h3⟩ _ _ _ b4 ⟨n34,n24,n14,h4⟩
 simp+contextual only [qg,n12,n13,n23,n14,n24,↓XP,ql,XW1,qb]
 refine ⟨_,fun _ _=>jR (i:=2) (by omega) ⟨rfl,rfl⟩,?_⟩
 simp+contextual only [↓XP,ql,qb,qe]
 refine fun _=>⟨_,fun _ _=>kI (p:=p) (o:={jQ with k:=2,on:=on,n:=qy m 2 5}) (by omega) ⟨rfl,rfl⟩,?_⟩
 obtain ⟨p1,hp1⟩:∃q,q=qU p {jQ with k:=2,on:=on,n:=qy m 2 5}:=⟨_,rfl⟩
 have l1:p1.ops.length=p.ops.length+1:=by rw [hp1,vC]
 rw [<-hp1]
 have hd1:p1.d= [.i p1.o,.i p1.s,.i p1.day,.slc (qF p1.needs),.slc (qM p1.ops),.str p1.sl]:=rfl
 simp+contextual only [hd1,qg,qi,n12,n13,n14,↓d8,↓XP,ql,XW1,qb]
 intros
 refine ⟨_,fun _ _=>kv (n:=3) ⟨rfl,rfl⟩,?_⟩
 simp+contextual only [↓XP,qA]
 refine fun _=>⟨_,fun _ _=>uG ⟨rfl,rfl⟩,?_⟩
 simp+contextual only [↓XP,ql,qb,qe]
 refine fun _=>⟨_,fun _ _=>kI (p:=p1) (o:={jQ with k:=7,on:=jA p,text:=gloss (m.drop 3)}) (by omega) ⟨rfl,rfl⟩,?_⟩
 obtain ⟨p2,hp2⟩:∃q,q=qU p1 {jQ with k:=7,on:=jA p,text:=gloss (m.drop 3)}:=⟨_,rfl⟩
 have l2:p2.ops.length=p1.ops.length+1:=by rw [hp2,vC]
 rw [<-hp2]
 have hd2:p2.d= [.i p2.o,.i p2.s,.i p2.day,.slc (qF p2.needs),.slc (qM p2.ops),.str p2.sl]:=rfl
 simp+contextual only [hd2,qg,qi,n12,n13,n14,↓d8,↓XP,ql,XW1,qb]
 intros
 refine jR (i:=1) (by omega) ?_
 have hm:meaning p on m=if qy m 1 9=5 then p2 else qU p2 {jQ with k:=9,on:=jA p,n:=1}:=by
  unfold meaning
  simp only
  rw [<-hp1,<-hp2]
 rw [hm] at h
 simp+contextual only [qg,qi,n12,n13,n14,n34,↓d8,↓XP,ql,XW1,qb,qe]
 refine fun _=>⟨fun h5=>kI (p:=p2) (o:={jQ with k:=9,on:=jA p,n:=1}) (by omega) ?_,fun h5=>?_⟩
 ·rw [if_neg h5] at h
  obtain ⟨p3,hp3⟩:∃q,q=qU p2 {jQ with k:=9,on:=jA p,n:=1}:=⟨_,rfl⟩
  rw [<-hp3] at h ⊢
  have hd3:p3.d= [.i p3.o,.i p3.s,.i p3.day,.slc (qF p3.needs),.slc (qM p3.ops),.str p3.sl]:=rfl
  simp+contextual only [hd3,qg,qi,n12,n13,n14,n34,↓XP,ql,XW1,qb]
  intros
  exact h
 ·rw [if_pos h5] at h
  exact h
end Go.Proofs.YtgopigkdcmhbbaaGreatDoor
end
section
namespace Go.Aw
open Go Go.RowKit
theorem Fz.hgsC (hd:qk H b'=some (.cells ds)) (hj:ds[j]?=some (.hgs b n cap)):Fz F H F (qE H b' (.cells (ds.set j (.hsl b n)))):=by
 intro K w t hs
 refine ⟨K,.refl K w,hs.krel,⟨by rw [ko];exact hs.hrel.nd,fun c' o' hm=>?_⟩,hs.len,hs.slot⟩
 rcases yD hs.hrel.nd hm with ⟨rfl,rfl⟩|⟨hne',hm⟩
 ·obtain ⟨g1,c',T',g2,g3,g4⟩:=hs.hrel.ok c' _ (qR hd)
  refine ⟨g1,c',T',g2,by simpa using g3,fun q d' hd'=>?_⟩
  rcases getElem?_set_some hd' with ⟨rfl,rfl,_⟩|⟨hnq,hd'⟩
  ·obtain ⟨u,e1,e2,e3⟩:=g4 j _ hj
   obtain ⟨rfl,h1,h2,h3⟩:=RepV.hgs_inv e3
   exact ⟨_,e1,e2,.hsl b n cap h1 h2 h3⟩
  ·exact g4 q d' hd'
 ·exact hs.hrel.ok c' o' hm
end Go.Aw
end
section
namespace Go.Proofs.YtgopigkdcmhbbaaGreatDoor
open Go Go.Aw
theorem VM {xs:List (List D)} {sz k:Nat} (hs:∀x∈xs,x.length=sz) (hk:k<xs.length) (rest:List D):
  xs.flatten++rest=(xs.take k).flatten++(xs.getD k []++((xs.drop (k+1)).flatten++rest))∧(xs.take k).flatten.length=k*sz∧(xs.getD k []).length=sz:=by
 have e:xs=xs.take k++(xs.getD k []::xs.drop (k+1)):=by
  have h1:xs.getD k []=xs[k]:=by simp [hk]
  rw [h1,List.getElem_cons_drop,List.take_append_drop]
 refine ⟨?_,?_,?_⟩
 ·conv=>lhs;rw [e]
  simp only [List.flatten_append,M5,Mp]
 ·rw [flat_len (sz:=sz) (fun x hx=>hs x (List.mem_of_mem_take hx)),My,Nat.min_eq_left (by omega)]
 ·have h1:xs.getD k []=xs[k]:=by simp [hk]
  rw [h1]
  exact hs _ (List.getElem_mem hk)
theorem fQ {xs:List (List D)} {k:Nat} (hk:k<xs.length) (y rest:List D):(xs.take k).flatten++(y++((xs.drop (k+1)).flatten++rest))=(xs.set k y).flatten++rest:=by
 rw [List.set_eq_take_append_cons_drop,if_pos hk]
 simp only [List.flatten_append,M5,Mp]
theorem rk {xs:List (List D)} {sz k j:Nat} {v:D} {rest:List D} (hs:∀x∈xs,x.length=sz) (hk:k<xs.length) (hj:j<sz):
  (xs.flatten++rest).set (k*sz+j) v=(xs.set k ((xs.getD k []).set j v)).flatten++rest:=by
 obtain ⟨h1,h2,h3⟩:=VM hs hk rest
 rw [h1,<-fQ hk,List.set_append_right _ _ (by omega),h2,Nat.add_sub_cancel_left,List.set_append_left _ _ (by omega)]
theorem nF {xs:List (List D)} {sz k j:Nat} {rest:List D} (hs:∀x∈xs,x.length=sz) (hk:k<xs.length) (hj:j<sz):
  (xs.flatten++rest)[k*sz+j]?=(xs.getD k [])[j]?:=by
 obtain ⟨h1,h2,h3⟩:=VM hs hk rest
 rw [h1,List.getElem?_append_right (by omega),h2,Nat.add_sub_cancel_left,List.getElem?_append_left (by omega)]
theorem iD:(qM l).set k o.d=qM (l.set k o):=by simp only [qM,List.map_set]
end Go.Proofs.YtgopigkdcmhbbaaGreatDoor
end
noncomputable section
namespace Go.Proofs.YtgopigkdcmhbbaaGreatDoor
open Go.Xs
open Go Go.Aw
def y6:=yy Tryz.f6
def Ar:XC:=(.seq (.block 2 (.gh (.regV [f 26 4 4 88,c (.load 24 (t 88)) 89,f 26 4 4 90,l 24 90 91,m 11 92,j 24 91 92 93,l 71 93 94,a (.buildSlice 24 1 #[(0,(t 94))]) 95] [b (.call ⟨(.builtin .append),#[t 89,t 95],#[24,24,0,0]⟩) 96,f 26 4 4 97,w 24 97 96]))) (y6 54))
def BD:XC:=(.seq (R [m 13 84,q .lss 3 84 14 85] (C 85 .skip (.exit 1))) Ar)
def tQ:XC:=(.seq (.block 4 (.gh (.regV [f 26 4 4 238,c (.load 24 (t 238)) 239,a (.build 66 #[(1,(i 1))]) 240,m 3 241,a (k 16 #[t 241,i 125] #[3,3]) 242,a (.binOp .add 3 (i 900) (t 242) 3) 243,a (.makeSlice 55 (t 243) (t 243)) 244,a (.convert 55 9 (t 244)) 245,a (.build 71 #[(0,(i 7)),(1,(t 240)),(6,(t 245))]) 246,a (.buildSlice 24 1 #[(0,(t 246))]) 247] [b (.call ⟨(.builtin .append),#[t 239,t 247],#[24,24,0,0]⟩) 248,f 26 4 4 249,w 24 249 248]))) (y6 111))
def A9:XC:=(.seq (R [m 14 234,q .lss 3 234 7 235] (C 235 .skip (.exit 3))) tQ)
def rS:XC:=(C 215 (y6 94) (R [Q .eql 3 35 16 233,n 233 232] (C 232 (R [A 0 14] (.block 3 (.loop A9))) (y6 112))))
def nf:XC:=(R [Q .eql 3 35 14 199,n 199 198] (C 198 (y6 90) (R [Q .eql 3 35 15 216,n 216 215] rS)))
def pQ:XC:=(C 172 (y6 82) (R [Q .eql 3 35 13 187,n 187 186] (C 186 (y6 86) nf)))
def p9:XC:=(R [Q .eql 3 35 11 163,n 163 162] (C 162 (y6 78) (R [Q .eql 3 35 12 173,n 173 172] pQ)))
def nt:XC:=(C 136 (y6 70) (R [Q .eql 3 35 10 150,n 150 149] (C 149 (y6 74) p9)))
def r7:XC:=(R [Q .eql 3 35 8 122,n 122 121] (C 121 (y6 66) (R [Q .eql 3 35 9 137,n 137 136] nt)))
def mD:XC:=(C 98 (y6 58) (R [Q .eql 3 35 7 107,n 107 106] (C 106 (y6 62) r7)))
def mO:XC:=(C 82 (R [A 0 13] (.block 1 (.loop BD))) (R [Q .eql 3 35 6 99,n 99 98] mD))
def nM:XC:=(.gh (.regV [f 26 4 3 63,c (.load 23 (t 63)) 64,m 3 65,a (k 16 #[t 65,i 10] #[3,3]) 66,q .sub 3 66 1 67,m 3 68,q .quo 3 68 10 69,a (k 16 #[t 69,i 19] #[3,3]) 70,q .sub 3 70 1 71,a (.build 64 #[(0,(t 67)),(1,(t 71))]) 72,a (.buildSlice 23 1 #[(0,(t 72))]) 73] [b (.call ⟨(.builtin .append),#[t 64,t 73],#[23,23,0,0]⟩) 74,f 26 4 3 75,w 23 75 74]))
def pV:XC:=(R [Q .eql 3 35 4 77,n 77 76] (C 76 (y6 37) (R [Q .eql 3 35 5 83,n 83 82] mO)))
def so:XC:=(C 52 (y6 29) (R [Q .eql 3 35 3 62,n 62 61] (C 61 nM pV)))
def rG:XC:=(C 48 (.reg [M 12 50,f 26 4 1 51,w 3 51 50]) (R [Q .eql 3 35 2 53,n 53 52] so))
def rn:XC:=(C 44 (.reg [M 12 46,f 26 4 0 47,w 3 47 46]) (R [Q .eql 3 35 1 49,n 49 48] rG))
def pG:XC:=(.seq (R [m 2 34,a (k 16 #[t 34,i 20] #[3,3]) 35] (.block 0 (R [Q .eql 3 35 0 45,n 45 44] rn))) (R [L 26 4 277,w 26 8 277] .ret))
def pH:XC:=(.seq (y6 13) pG)
def rq:XC:=(.seq (y6 11) pH)
def nA:XC:=(.seq (y6 9) rq)
def sC:XC:=(.seq (y6 5) (R [Z 10] nA))
def x6:XC:=(R [B 26 0 4,a (.alloc 26) 8] (R [Z 9] sC))
def V6r:=PLift.up (aI (aI (@unf (y6 13) (r [u,u,v,u]) rfl) (@unf (y6 11) (r [u,u,u,u,v,u]) rfl)) (aI (@unf (y6 9) (r [x,u,u,v,u,u]) rfl) (@unf (y6 5) (r [x,u,u,v,u,u]) rfl)))
theorem YV:type_of% V6r.down:=V6r.down
theorem b6:Bt 6 278 x6 [(.cell 8 26)]:=bt Tryz.func6 rfl
end Go.Proofs.YtgopigkdcmhbbaaGreatDoor
end
section
namespace Go.Proofs.YtgopigkdcmhbbaaGreatDoor
open Go Go.Aw
theorem GM {l:List OpP} {k:Nat} (h:k<l.length):l.getD k default∈l:=by
 simp [h]
theorem cI {R:D->AH->Prop} (hp:Fit p) (h:R (.str (jF (bare p))) H):ACall Tryz.prog 28 [.agg p.d] H R:=lF hp h
def wg (seed:List UInt8) (i:Int) (p:Pt):Pt:={p with sl:=gT seed i.toNat (p.s - 1).toNat (jF (bare p))}
noncomputable def Gy (seed:List UInt8) (i:Int) (p:Pt):Pt×Int:=
 if jk p≠0 then (pt0,jk p)
 else if ¬(Qe seed i=true∧i<=4) then (pt0,1)
 else if ((2 ^ i.toNat:Nat):Int)<p.s then (pt0,23)
 else (wg seed i p,0)
theorem uJ (h:jk p=0):yO p∧(jF (bare p)).length<=6800:=by
 unfold jk at h
 by_cases h1:yO p
 ·refine ⟨h1,?_⟩
  rw [if_neg (fun c=>c h1)] at h
  repeat' split at h
  all_goals first|omega|simp_all
 ·rw [if_pos h1] at h
  omega
theorem cK:∀x∈qM l,∀d∈x,plain d=true:=by
 intro x hx d hd
 obtain ⟨o,_,rfl⟩:=List.mem_map.1 hx
 simp only [OpP.d,Mv,M4,or_false] at hd
 rcases hd with rfl|rfl|rfl|rfl|rfl|rfl|rfl|rfl|rfl|rfl|rfl|rfl|rfl<;>rfl
theorem wr1 (hk:kk<l.length) (hj:j<13) (e:(l.getD kk default).d.set j v=o'.d):
  ((qM l).flatten++rest).set (kk*13+j) v=(qM (l.set kk o')).flatten++rest:=by
 rw [rk vX (by rw [j9];exact hk) hj,wA hk,e,iD]
theorem rd1 (hk:kk<l.length) (hj:j<13):((qM l).flatten++rest)[kk*13+j]?=(l.getD kk default).d[j]?:=by
 rw [nF vX (by rw [j9];exact hk) hj,wA hk]
theorem mC (hk:kk<l.length):kk*13+13<=((qM l).flatten++rest).length:=by
 rw [Mi,flat_len (sz:=13) vX,j9]
 have:(kk+1)*13<=l.length*13:=Nat.mul_le_mul_right _ hk
 omega
end Go.Proofs.YtgopigkdcmhbbaaGreatDoor
end
section
namespace Go.Aw
open Go
theorem ACall.view {R:D->AH->Prop} (h:ACall P f args H (fun d H'=>R d.view H')):ACall P f args H R:=
 ⟨h.1,fun K w vs h1 h2 h3 h4 h5=>(h.2 K w vs h1 h2 h3 h4 h5).mono fun e w' ⟨v,d,H',K',g1,g2,g3,g4,g5,g6⟩=>⟨v,d.view,H',K',g1,g2,g3,g4,g5,g6.rep.viewO⟩⟩
end Go.Aw
namespace Go.Proofs.YtgopigkdcmhbbaaGreatDoor
open Go Go.Aw
variable {R:D->AH->Prop}
theorem eD (hl:l.length<=3000000) (h:R (.slc (qF l)) H):ACall Tryz.prog 29 [.slc (qF l)] H R:=by
 refine ACall.view (b29 fun hf=>?_)
 have hbig:=qn
 simp+contextual only [↓U29,jY,↓U29,↓XP,ql,XW1,qa,qc,qe]
 exact ⟨fun e=>by rw [e] at h;exact h,Uy,by omega,h⟩
theorem eC (hl:l.length<=3000000) (h:R (.slc (je l)) H):ACall Tryz.prog 31 [.slc (je l)] H R:=by
 refine ACall.view (b31 fun hf=>?_)
 have hbig:=qn
 simp+contextual only [↓U31,qP,↓U31,↓XP,ql,XW1,qa,qc,qe]
 exact ⟨fun e=>by rw [e] at h;exact h,Zl,by omega,h⟩
theorem ax (h0:l≠ []) (hl:l.length<=100000) (h:∀b cap m,qz H b->R (.hgs b l.length cap) ((b,.cells ((qM l).flatten++List.replicate m .any))::H)):ACall Tryz.prog 30 [.slc (qM l)] H R:=by
 refine FP fun hf=>?_
 have hbig:=qn
 simp+contextual only [B7,↓Fj,zi,Qq,j9,↓XP,ql,XW1,qa,qc,qe]
 have hne:qM l≠ []:=fun e=>h0 (List.eq_nil_of_length_eq_zero (by rw [<-j9,e];rfl))
 exact ⟨fun e=>(hne e).elim,vX,by omega,fun e=>(hne e).elim,fun _ b cap m hb _=>⟨_,Sbn.sub (List.Sublist.refl _),h b cap m hb⟩⟩
theorem xe {F:List D} {H:AH} {b b9 b4 b3 n cp:Nat} {o9 o4:AO} {c0 c1 c2 c3 c5:D} {l:List OpP} {rest:List D} (h1:b3≠b) (h2:b3≠b9) (h3:b3≠b4) (hl:l.length=n):
  Fz F ((b,.cells ((qM l).flatten++rest))::(b9,o9)::(b4,o4)::(b3,.cells [c0,c1,c2,c3,.hgs b n cp,c5])::H) F ((b9,o9)::(b4,o4)::(b3,.cells [c0,c1,c2,c3,.slc (qM l),c5])::H):=by
 have h:=Fz.freezeC (F:=F) (H:=(b,.cells ((qM l).flatten++rest))::(b9,o9)::(b4,o4)::(b3,.cells [c0,c1,c2,c3,.hsl b n,c5])::H) (b':=b3) (j:=4) (b:=b) (n:=n) (sz:=13) (ds:= [c0,c1,c2,c3,.hsl b n,c5]) (cs:=(qM l).flatten++rest) (xs:=qM l) (rest:=rest) h1
  (by rw [qg h1,qg h2,qg h3,jl]) rfl jl rfl (by rw [j9,hl]) vX (by omega) cK
 rw [qi h1,qi h2,qi h3,vM,uB] at h
 have h0:=Fz.hgsC (F:=F) (H:=(b,.cells ((qM l).flatten++rest))::(b9,o9)::(b4,o4)::(b3,.cells [c0,c1,c2,c3,.hgs b n cp,c5])::H) (b':=b3) (j:=4) (b:=b) (n:=n) (cap:=cp) (ds:= [c0,c1,c2,c3,.hgs b n cp,c5])
  (by rw [qg h1,qg h2,qg h3,jl]) rfl
 rw [qi h1,qi h2,qi h3,vM] at h0
 exact h0.trans h
theorem ex {α:Type} [Inhabited α] {l:List α} {k:Nat} (h:k<l.length):l.set k (l.getD k default)=l:=by
 have e:l.getD k default=l[k]:=by simp [List.getD,h]
 rw [e]
 exact List.set_getElem_self h
theorem eE (h:jk p=0):p.ops≠ []:=fun e=>by
 unfold jk at h
 rw [if_pos e] at h
 repeat' split at h
 all_goals omega
theorem sv {seed:List UInt8} {i:Int} {p:Pt} {H:AH} (hg:Kst H) (hp:Fit p) (h:R (.tup [.agg (Gy seed i p).1.d,.i (Gy seed i p).2]) H):ACall Tryz.prog 12 [.agg [.str seed,.i i],.agg p.d] H R:=by
 refine b12 fun hf=>?_
 have hbig:=qn
 have hd:p.d= [.i p.o,.i p.s,.i p.day,.slc (qF p.needs),.slc (qM p.ops),.str p.sl]:=rfl
 simp+contextual only [x12,hd,↓GP,↓zn,↓XP,ql,XW1,qa,qb]
 intro b2 h2 b3 h3 b4 h4
 obtain ⟨n32,f3⟩:=h3
 obtain ⟨n43,n42,f4⟩:=h4
 simp+contextual only [<-hd]
 refine uw hp ?_
 have h0: [D.i 0,.i 0,.i 0,.slc [],.slc [],.str []]=pt0.d:=rfl
 unfold Gy at h
 by_cases hv:jk p=0
 ·obtain ⟨hh,hml⟩:=uJ hv
  obtain ⟨_,_,hs1,hs16,_⟩:=hh
  rw [if_neg (fun c=>c hv)] at h
  rw [hv]
  simp+contextual only [qg,n32,n42,↓GP,↓zn,↓XP,ql,XW1,qb]
  have hg2:Kst ((b4,AO.cells [D.int IntKind.i64 0,D.int IntKind.i64 0,D.int IntKind.i64 0,D.own [],D.own [],D.str []])::(b3,.cells p.d)::(b2,.cells [.str seed,.i i])::H):=((hg.push h2).push ⟨Ne.symm n32,f3⟩).push ⟨Ne.symm n43,Ne.symm n42,f4⟩
  refine fun _=>Yv hg2 ?_
  by_cases hk:Qe seed i=true∧i<=4
  ·rw [if_neg (fun c=>c hk)] at h
   obtain ⟨hk1,hk2,_⟩:seed.length=32∧0<=i∧i<=6:=of_decide_eq_true hk.1
   obtain ⟨n,rfl⟩:=Mx hk2
   rw [UZ hk.1 hk.2]
   rw [Mh] at h ⊢
   have nr:=yp seed n 0
   generalize jB seed n 0=root at nr ⊢
   have hn6:n<=6:=by have:=hk.2;omega
   obtain ⟨hp1,hp2,hp3⟩:=QX hn6
   have hn0:((0:Int)<=(n:Int))=True:=qC
   simp+contextual only [↓GP,↓zn,↓XP,ql,XW1,qb]
   intro _ b9 h9
   obtain ⟨n94,n93,n92,f9⟩:=h9
   by_cases hq:((2 ^ n:Nat):Int)<p.s
   ·rw [if_pos hq] at h
    simp+contextual only [qg,qi,n32,n43,n42,qg,qi,n94,n93,n92,hd,hp1,hn0,eq_true hq,Mh,↓GP,↓zn,↓XP,ql,XW1,qb]
    exact ⟨yu nr _,fun _ _=>h⟩
   ·rw [if_neg hq] at h
    simp+contextual only [qg,n32,n43,n42,qg,n93,n92,hd,hp1,hn0,eq_false hq,Mh,↓GP,↓zn,↓XP,ql,XW1,qb]
    obtain ⟨m,hm⟩:=Mx (show 0<=p.s - 1 by omega)
    have hw:IntKind.i64.wrap (p.s - 1)=(m:Int):=by rw [qj (by omega) (by omega)];exact hm
    have hKm:=hg2.push (b:=b9) (o:= .cells (jr root++ [D.int IntKind.i64 ↑n])) ⟨Ne.symm n94,Ne.symm n93,Ne.symm n92,f9⟩
    simp only [hd] at hKm
    refine ⟨yu nr _,fun _ _ _=>⟨_,fun H1 hs=>cI hp ⟨rfl,rfl⟩,?_⟩⟩
    have hsp:wg seed (n:Int) p={p with sl:=gT seed n m (jF (bare p))}:=by
     unfold wg
     rw [Mh,hm,Mh]
    rw [hsp] at h
    generalize jF (bare p)=msg at hml h ⊢
    simp+contextual only [hw,↓zn,↓XP,qA]
    refine fun _=>⟨_,fun H1 hs=>fN (hKm.sub hs) hk1 hn6 (by omega) (by omega) ⟨rfl,rfl⟩,?_⟩
    generalize gT seed n m msg=sg at h ⊢
    simp+contextual only [jY,qg,qi,n43,qg,qi,n93,↓GP,↓zn,↓XP,ql,XW1,qb]
    refine fun _ _ _=>eD hp.needs ?_
    simp+contextual only [j9,jY,Nat.reduceLT,qg,qi,n43,qg,qi,n93,↓GP,↓zn,↓XP,ql,XW1,qb]
    refine fun _ _=>ax (eE hv) (Mq hp.ops (by omega)) fun b cap mm hb=>?_
    obtain ⟨bn9,bn4,bn3,bn2,fb⟩:=hb
    simp+contextual only [Nat.reduceLT,qg,qi,n43,qg,qi,n93,qg,qi,Ne.symm bn3,↓GP,↓zn,↓XP,ql,XW1,qb]
    refine XW.loopS hmm 81 (fun k:Nat=>[(2,.ptr b2 0),(3,.ptr b3 0),(4,.ptr b4 0),(63,.i (p.ops.length:Int)),(64,.i (k:Int))]) (fun _=>(b,AO.cells ((qM p.ops).flatten++List.replicate mm D.any))::(b9,.cells (jr root++ [D.int IntKind.i64 ↑n]))::(b4,.cells [D.int IntKind.i64 0,D.int IntKind.i64 0,D.int IntKind.i64 0,D.own [],D.own [],D.str []])::(b3,.cells [D.int IntKind.i64 p.o,D.int IntKind.i64 p.s,D.int IntKind.i64 p.day,D.slc (qF p.needs),D.hgs b p.ops.length cap,D.str sg])::(b2,.cells [D.str seed,D.int IntKind.i64 ↑n])::H) (fun k=>p.ops.length - k) (fun k=>k<=p.ops.length) 0 (Nat.zero_le _) ⟨rfl,rfl,rfl,rfl,rfl,rfl,trivial⟩ rfl ?_
    intro k z hk K hN hE hR
    dsimp only [fl,zz,qa,qb]
    by_cases hlt:k<p.ops.length
    ·have hlt':((k:Int)<(p.ops.length:Int))=True:=qC
     have hk0:((0:Int)<=(k:Int))=True:=qC
     have hr:=rd1 (l:=p.ops) (kk:=k) (j:=7) (rest:=List.replicate mm D.any) hlt (by omega)
     have ho:=hp.ids _ (GM hlt)
     have hwr:=wr1 (l:=p.ops) (kk:=k) (j:=7) (v:= .slc (je (p.ops.getD k default).ids)) (rest:=List.replicate mm D.any) hlt (o':=p.ops.getD k default) (by omega) rfl
     rw [show p.ops.set k (p.ops.getD k default)=p.ops from ex hlt] at hwr
     rw [show (p.ops.getD k default).d[7]?=some (.slc (je (p.ops.getD k default).ids)) from rfl] at hr
     simp+contextual only [qg,n43,qg,n93,qg,Ne.symm bn3,hlt',hk0,Mh,hr,↓GP,↓zn,↓XP,ql,XW1]
     refine fun _=>⟨_,fun H1 hs=>eC ho ⟨rfl,rfl⟩,?_⟩
     simp+contextual only [hlt',hk0,Mh,hwr,↓zn,↓XP,ql]
     have hwl:=mC (l:=p.ops) (rest:=List.replicate mm D.any) hlt
     rw [qm (by omega)]
     exact fun _=>⟨by omega,hN (k+1) _ _ (by omega) (by omega) ⟨rfl,rfl,rfl,rfl,rfl,rfl,trivial⟩ (qL rfl)⟩
    ·have hkn:k=p.ops.length:=by omega
     have hlt':((k:Int)<(p.ops.length:Int))=False:=qY
     simp+contextual only [hlt',↓GP,↓zn,↓XP,qA]
     apply hE
     simp+contextual only [↓GP,↓zn,↓XP,qA,XW1]
     refine Ku (xe (b3:=b3) (Ne.symm bn3) n93 n43 rfl) ?_
     simp+contextual only [qg,qi,n43,qg,qi,n94,n93,qg,qi,↓zn,↓XP,ql,XW1,qb]
     exact h
  ·rw [if_pos hk] at h
   rw [Z4 hk]
   simp+contextual only [qg,qi,n32,n43,n42,hd,↓GP,↓zn,↓XP,ql,XW1,qb]
   exact fun _ b9 _=>⟨rfl,fun _=>h,fun c=>absurd c (by decide)⟩
 ·rw [if_pos hv] at h
  generalize jk p=e at hv h ⊢
  simp+contextual only [hd,hv,↓GP,↓zn,↓XP,ql,XW1,qb]
  exact fun _=>h
end Go.Proofs.YtgopigkdcmhbbaaGreatDoor
end
section
namespace Go.Aw
open Go Go.RowKit Go.ChangeShapes Go.WideShapes
section
variable {P:Program}
structure Rw (P:Program) (t:TypeId) (n:Nat) {T:Type} (g:T->List D):Prop where
 out:∀{H:Type} (enc:TypeId×Value->H) (W:World) (fuel:Nat) (cs:List Value) (x:DataW H×List MemPlace),
  DataW.trod enc P W 0 (fun _=>true) true fuel t cs=some x->(DataW.weights P t x.1).all (·<=reachBytes)=true->
  ∃a:T,cs.length=n∧(g a).length=n∧∀(j:Nat) (d:D) (v:Value),(g a)[j]?=some d->cs[j]?=some v->v.oneCell'=true∧RepV (fun _=>.imm) W d v
theorem Rw.int {t:TypeId} (ht:P.underlying t=some (.int k)):Rw P t 1 (fun n:Int=>[.int k n]):=by
 refine ⟨?_⟩
 intro H enc W fuel cs x h _
 obtain ⟨n,rfl,rfl,hw⟩:=DataW.trod_int ht h
 exact ⟨n,rfl,rfl,W7 rfl (.int k n hw)⟩
theorem oA {H:Type} {e:TypeId}:∀{l:List (DataW H)} {d:DataW H},d∈l->w∈DataW.weights P e d->w∈DataW.weightsAll P e l
 | x::r,d,hd,hw=>by
  simp only [DataW.weightsAll,List.mem_append]
  rcases List.mem_cons.1 hd with rfl|h
  ·exact .inl hw
  ·exact .inr (oA h hw)
theorem Rw.slice {t e:TypeId} {n:Nat} {T:Type} {g:T->List D} (ht:P.underlying t=some (.slice e)) (hc:P.cellsOf e=n) (hn:0<n) (hby:1<=P.bytesOf e) (h:Rw P e n g):
  Rw P t 1 (fun l:List T=>[.slc (l.map g)]):=by
 refine ⟨?_⟩
 intro H enc W fuel cs x hx hb
 rcases DataW.trod_slice ht hx with ⟨rfl,rfl⟩|⟨a,len,cap,elems,rest,m,rfl,rfl,rfl,hba,hlc,hcm,hel,hget,hsp,_⟩
 ·exact ⟨[],rfl,rfl,W7 rfl (.slcnil none)⟩
 ·rw [hc] at hget hsp
  have hbb:=List.all_eq_true.1 hb
  simp only [DataW.weights,ht] at hbb
  have hlen:elems.length<=reachBytes:=by
   have h1:(elems.length+rest.length)*P.bytesOf e<=reachBytes:=by
    have:=hbb _ (List.mem_cons_self ..)
    simpa using this
   have h2:elems.length+rest.length<=(elems.length+rest.length)*P.bytesOf e:=Nat.le_mul_of_pos_right _ hby
   omega
  have hel2:∀y,y∈elems->(DataW.weights P e y.1).all (·<=reachBytes)=true:=fun y hy=>by
   refine List.all_eq_true.2 fun w hw=>hbb w ?_
   exact List.mem_cons_of_mem _ (List.mem_append_left _ (oA (List.mem_map_of_mem (f:=(·.1)) hy) hw))
  obtain ⟨l,hl,hR⟩:=QG (R:=fun i (y:DataW H×List MemPlace) (c:T)=>∃cs',W.cells? 0 (a.add (i*n)) n=some cs'∧(g c).length=n∧∀(j:Nat) (d:D) (v:Value),(g c)[j]?=some d->cs'[j]?=some v->v.oneCell'=true∧RepV (fun _=>.imm) W d v) elems 0 (fun i y hy=>by
    have hi:i<len:=by rw [<-hel];exact (List.getElem?_eq_some_iff.1 hy).1
    have hg:=hget i hi
    rw [hy] at hg
    obtain ⟨cs',e1,e2⟩:=Option.bind_eq_some_iff.1 hg
    obtain ⟨c,_,g2,g4⟩:=h.out enc W m cs' y e2 (hel2 y (Mn hy))
    exact ⟨c,cs',by rw [Mt];exact e1,g2,g4⟩)
  have hRi:∀i c,l[i]?=some c->i<len∧∃cs',W.cells? 0 (a.add (i*n)) n=some cs'∧(g c).length=n∧∀(j:Nat) (d:D) (v:Value),(g c)[j]?=some d->cs'[j]?=some v->v.oneCell'=true∧RepV (fun _=>.imm) W d v:=fun i c hi=>by
   have hlt:i<elems.length:=by rw [<-hl];exact (List.getElem?_eq_some_iff.1 hi).1
   have:=hR i elems[i] c (Mb hlt) hi
   rw [Mt] at this
   exact ⟨by omega,this⟩
  refine ⟨l,rfl,rfl,W7 rfl ?_⟩
  ·by_cases hz:cap=0
   ·have h0:l= []:=List.eq_nil_of_length_eq_zero (by omega)
    have h1:len=0:=by omega
    subst hz;subst h1;subst h0
    exact .slcnil (some a)
   ·have hpl:a.spot=none∧a.block<W.heap.size:=by
     have go:∀(k:Nat) (y:Option (DataW H×List MemPlace)),k*n=0->(∃z,y=some z)->(W.cells? 0 (a.add (k*n)) n).bind (DataW.trod enc P W 0 (fun _=>true) true m e)=y->a.spot=none∧a.block<W.heap.size:=by
      rintro k _ h0 ⟨z,rfl⟩ hg
      obtain ⟨cs',e1,e2⟩:=Option.bind_eq_some_iff.1 hg
      obtain ⟨k1,k2⟩:=Y1 e1
      have:=Us (k2 0 cs'[0] (Mb (by omega)))
      simpa [Addr.add,h0] using this
     by_cases hp:0<len
     ·exact go 0 _ (Nat.zero_mul n) ⟨_,Mb (by omega)⟩ (hget 0 hp)
     ·have h0:len=0:=by omega
      obtain ⟨hr1,hr2⟩:=hsp rfl
      exact go (len+0) _ (by rw [h0];exact Nat.zero_mul n) ⟨_,Mb (by omega)⟩ (hr2 0 (by omega))
    obtain ⟨b,off,sp⟩:=a
    obtain ⟨hpl1,hpl2⟩:=hpl
    simp only at hpl1 hpl2
    subst hpl1
    have hll:(l.map g).length=len:=by simp [hl,hel]
    have key:∀(i:Nat) (x:List D),(l.map g)[i]?=some x->x.length=n∧∀(j:Nat) (d:D),x[j]?=some d->∃v,W.cell? ⟨b,off+(i*n+j),none⟩=some v∧v.oneCell'=true∧RepV (fun _=>.imm) W d v:=fun i x hi=>by
     rw [Me,Mm] at hi
     obtain ⟨c,hci,rfl⟩:=hi
     obtain ⟨_,cs',e1,e2,e3⟩:=hRi i c hci
     refine ⟨e2,fun j d hd=>?_⟩
     obtain ⟨k1,k2⟩:=Y1 e1
     have hj:j<cs'.length:=by rw [k1,<-e2];exact (List.getElem?_eq_some_iff.1 hd).1
     have h5:=k2 j cs'[j] (Mb hj)
     refine ⟨cs'[j],?_,e3 j d cs'[j] hd (Mb hj)⟩
     rw [<-h5]
     rw [Addr.add_add]
     simp only [Addr.add]
     split
     ·rename_i hz';rw [hz'];rfl
     ·rfl
    have hrep:=RepV.slc (K:=fun _=>.imm) (w:=W) (l.map g) b off cap n (fun i j=>(W.cell? ⟨b,off+(i*n+j),none⟩).getD default) (by rw [hll];have:=qn;have:reachBytes=140737488351232:=rfl;omega) (by rw [hll];exact hlc) hcm
     (fun i x hi=>(key i x hi).1) ⟨hpl2,trivial⟩
     (fun i x hi j d hd=>by obtain ⟨v,e1,e2,e3⟩:=(key i x hi).2 j d hd;rw [e1];rfl)
     (fun i x hi j d hd=>by obtain ⟨v,e1,e2,e3⟩:=(key i x hi).2 j d hd;rw [e1];exact e2)
     (fun i x hi j d hd=>by obtain ⟨v,e1,e2,e3⟩:=(key i x hi).2 j d hd;rw [e1];exact e3)
    rw [hll] at hrep
    exact hrep
theorem Rw.arg1 {t:TypeId} {T:Type} {g:T->D} (h:Rw P t 1 (fun a=>[g a])) (hr:lZ P t=false) {H:Type} {enc:TypeId×Value->H} {W:World} {r:Reach} {b0:Nat} {v:Value} {d:DataW H} {ps:List MemPlace}
  (hval:Value.okWide P W r b0 t v) (hd:DataW.Trod enc P W 0 (fun _=>true) true t v d ps) (hb:(DataW.weights P t d).all (·<=reachBytes)=true):∃a:T,RepV (fun _=>.imm) W (g a) v:=by
 obtain ⟨fuel,hf⟩:=hd
 obtain ⟨a,h1,_,h4⟩:=h.out enc W fuel _ (d,ps) hf hb
 refine ⟨a,?_⟩
 have hcl:Cell.okWide P W r b0 t v:=by
  unfold Value.okWide at hval
  unfold lZ at hr
  split at hval
  ·rename_i hq;simp [hq] at hr
  ·rename_i hq;simp [hq] at hr
  ·exact hval
 cases v with
 | agg cs=>
  unfold Cell.okWide at hcl
  split at hcl<;>simp_all [Cell.ok]
  done
 |_=>exact (h4 0 (g a) _ rfl rfl).2
end
end Go.Aw
namespace Go.Proofs.YtgopigkdcmhbbaaGreatDoor
open Go Go.Aw Go.RowKit Go.ChangeShapes Go.WideShapes
theorem rw_int:Rw Tryz.prog 3 1 (fun n:Int=>[.int .i64 n]):=Rw.int Tryz.underlying3
theorem rw_ints:Rw Tryz.prog 22 1 (fun l:List Int=>[.slc (ints l)]):=
 Rw.slice Tryz.underlying22 (by kernel_rfl) (by decide) (of_decide_eq_true (by kernel_rfl)) rw_int
theorem own:ownKnob Tryz.prog.godebug=none:=by kernel_rfl
theorem kids:Kids Tryz.prog (·<Tryz.prog.types.size):=kids_rows (by kernel_rfl) (by kernel_rfl)
theorem full:∀t e,t<Tryz.prog.types.size->Tryz.prog.underlying t=some (.slice e)->0<Tryz.prog.cellsOf e:=slices_full_of Tryz.prog (by kernel_rfl)
def Uk (d:DataW Unit):Array Value:=(match d with
 | .agg l=>l.map fun (d:DataW Unit)=>match d with
  | .lit (.int k n)=>Value.int k n
  |_=>undef
 |_=>[]).toArray
noncomputable def JS (os:Os):World:=
 { World.holding Tryz.prog os ⟨#[],#[],[]⟩ with heap:=(World.holding Tryz.prog os ⟨#[],#[],[]⟩).heap.modify 0 fun
   | .cells _ t frozen=>.cells (Uk Rows.laid_wordbook_wordbookref02_constants) t frozen
   |o=>o}
noncomputable def Q9 (os:Os):World:=
 { JS os with heap:=(JS os).heap.modify 1 fun
   | .cells _ t frozen=>.cells (Uk Rows.laid_wordbook_hash_constants) t frozen
   |o=>o}
theorem xi:(Rows.laid_wordbook_hash_constants:DataW Unit)=Lib.tabData .u32 (kW.map fun x=>(x.toNat:Int)):=by kernel_rfl
theorem tY:(Rows.laid_wordbook_wordbookref02_constants:DataW Unit)=Lib.tabData .u32 (kW.map fun x=>(x.toNat:Int)):=by kernel_rfl
theorem g_1 : Tryz.prog.globalNamed "wordbook/hash.constants" = some 1 := by kernel_rfl
theorem g_0 : Tryz.prog.globalNamed "wordbook/wordbookref02.constants" = some 0 := by kernel_rfl
theorem Eo:(Tryz.prog.globals[1]?).map (·.type)=some 203:=by kernel_rfl
theorem EO:(Tryz.prog.globals[0]?).map (·.type)=some 203:=by kernel_rfl
theorem Gq {P:Program} {W:World} {x:String×DataW Unit} {rest:List (String×DataW Unit)} (h:laidMet P (x::rest) W):∃ps,DataW.LaidVars P W rest ps:=by
 obtain ⟨ps,⟨_,_,_,_,_,q,_,_,_,_,h,_⟩,_⟩:=h
 exact ⟨q,h⟩
theorem cL {P:Program} {W:World} {name:String} {k:IntKind} {zs:List Int} {rest:List (String×DataW Unit)} {ps:List MemPlace} {g:Nat} {t e:TypeId} {n:Nat}
  (hg:P.globalNamed name=some g) (hty:(P.globals[g]?).map (·.type)=some t) (ht:P.underlying t=some (.array n e)) (he:P.underlying e=some (.int k)) (hce:P.cellsOf e=1) (hct:P.cellsOf t=n)
  (h:DataW.LaidVars P W ((name,Lib.tabData k zs)::rest) ps):Lib.TabIs P W name k zs:=by
 obtain ⟨g',t',cs,fuel,p,q,hg',ht',hvar,hd,_,_⟩:=h
 obtain rfl:=Option.some.inj (hg.symm.trans hg')
 obtain rfl:=Option.some.inj (hty.symm.trans ht')
 unfold Lib.TabIs
 rw [hvar,<-Lib.cells_of_tab ht he hce hct hd]
theorem bw {W:World} {name:String} {g:Nat} (hg:Tryz.prog.globalNamed name=some g) (h:Lib.TabIs Tryz.prog W name .u32 (kW.map fun x=>(x.toNat:Int))):AO.at_ (fun _=>.imm) W g (.cst kD):=by
 unfold Lib.TabIs at h
 have h2:=h
 simp only [World.var?,hg,Option.bind_some] at h
 split at h
 ·rename_i cs T fz hb
  injection h with h
  subst h
  refine ⟨rfl,(Array.getElem?_eq_some_iff.1 hb).1,_,T,fz,hb,by simp [kD],fun j d hd=>?_⟩
  rw [kD,Me,Mm] at hd
  obtain ⟨x,hx,rfl⟩:=hd
  exact ⟨.int .u32 (x.toNat:Int),by simp [hx],rfl,.int _ _ (of_eq_true (yt x))⟩
 ·cases h
def H0:AH:= [(1,.cst kD),(0,.cst kD)]
theorem AK {W : World} (h : laidMetH Tryz.prog [("wordbook/hash.constants", Rows.laid_wordbook_hash_constants), ("wordbook/wordbookref02.constants", Rows.laid_wordbook_wordbookref02_constants)] W) : HRel (fun _=>.imm) W H0 := by
 have h1 : laidMet Tryz.prog [("wordbook/hash.constants", Rows.laid_wordbook_hash_constants), ("wordbook/wordbookref02.constants", Rows.laid_wordbook_wordbookref02_constants)] W := h
 rw [xi,tY] at h1
 have a:=bw g_1 (Lib.tabIs_of_head g_1 Eo Tryz.underlying203 Tryz.underlying179 (by kernel_rfl) (by kernel_rfl) h1)
 obtain ⟨ps,h2⟩:=Gq h1
 have b:=bw g_0 (cL g_0 EO Tryz.underlying203 Tryz.underlying179 (by kernel_rfl) (by kernel_rfl) h2)
 refine ⟨by decide,fun c o hm=>?_⟩
 simp only [H0,Mv,M4,or_false] at hm
 rcases hm with hm|hm<;>injection hm with e1 e2<;>subst e1 e2
 ·exact a
 ·exact b
theorem Ho:Kst H0:=rfl
theorem An:Kst0 H0:=rfl
theorem pt {R:D->AH->Prop} (h:ACall P f args H R) (w:World) (vs:Array Value) (hh:HRel (fun _=>.imm) w H) (hl:vs.size=args.length)
  (hr:∀(j:Nat) (d:D) (v:Value),args[j]?=some d->vs[j]?=some v->RepV (fun _=>.imm) w d v):
  Calls P f vs w fun e w'=>∃v d H' K',e= .returned v∧R d H'∧Below w.heap.size w w'∧RepO K' w' 0 d v:=by
 refine (h.2 (fun _=>.imm) w vs (fun _ _=>rfl) (fun _ _ _ _ h=>by cases h) hh hl hr).mono fun e w' ⟨v,d,H',K',g1,g2,g3,g4,g5,g6⟩=>⟨v,d,H',K',g1,g2,?_,g6⟩
 exact ⟨g3.ext.os,g3.ext.tape,g3.ext.output.1,g3.ext.size,fun b hb=>(g3.ext.imm b hb rfl).2⟩
end Go.Proofs.YtgopigkdcmhbbaaGreatDoor
end
section
namespace Go.Proofs.YtgopigkdcmhbbaaGreatDoor
open Go Go.Aw
variable {R:D->AH->Prop}
def cls5:List (List UInt8):= [[110],[110],[110],[118],[120]]
def cls2:List (List UInt8):= [[110],[118]]
def yA (p:Pt) (sense other:Id3) (n:Int) (m:List Int):Pt:=qU p (small sense other (n.tmod 11) (m.drop 1))
def step (x:Gs) (seen:List Bool) (p:Pt) (m:List Int):Pt:=
 let entries:=visible x seen p 1
 let senses:=visible x seen p 2
 let n:=qy m 0 24
 if senses.length=0∨n<=5 then
  meaning (qU p {jQ with k:=1,name:=cls5.getD (jL m 1 5) [],text:=heads8.getD (jL m 2 8) []}) (jA p) (m.drop 3)
 else
  let entry:=entries.getD (jL m 1 entries.length) default
  let sense:=senses.getD (jL m 1 senses.length) default
  let other:=senses.getD (jL m 2 senses.length) default
  if n=6 then meaning p entry (m.drop 2)
  else if n=7 then meaning p sense (m.drop 2)
  else if n=8∨n=9 then quoted x seen p sense (m.drop 2)
  else if n=10 then divided p entry sense (m.drop 2)
  else if n=11 then (if other=sense then yA p sense other n m else qU p {jQ with k:=17,on:=sense,to:=other})
  else if n=12 then
   let l:=splits x seen p
   if l.length=0 then yA p sense other n m else
    let o:=l.getD (jL m 3 l.length) default
    qU p {jQ with k:=18,on:=sense,to:=o.on,ids:= [o.ids.getD (jL m 4 o.ids.length) default]}
  else if n=13 then
   if qy m 2 2=0 then qU p {jQ with k:=5,on:=entry,text:=heads8.getD (jL m 3 8) []}
   else qU p {jQ with k:=6,on:=entry,name:=cls2.getD (jL m 3 2) []}
  else if n=14 then
   let l:=visible x seen p 3
   if l.length=0 then yA p sense other n m else
    let from_:=600000+500*qy m 3 60
    qU p {jQ with k:=11,on:=l.getD (jL m 2 l.length) default,a:=from_,b:=from_+99}
  else yA p sense other n m
def kE (x:Gs) (office:Int):Nat->Int
 |0=>-1
 |i+1=>if (x.l.getD i default).o=office then i else kE x office i
def last (x:Gs) (office:Int):Int:=kE x office x.l.length
structure Ns where
 p:Pt
 seen:List Bool
def kQ (x:Gs) (seen:List Bool) (k:Nat):List Bool:=(List.range seen.length).map fun i=>if i=k then true else if i<k then seen.getD i false||(x.past.getD k []).getD i false else seen.getD i false
def kT (x:Gs) (o:Int) (m:List Int) (q:Nat) (s:Ns):Ns:=
 let k:=last x q
 if k<0∨((q:Int)≠o∧qy m (1+q) 4=1) then s else
  let pk:=x.l.getD k.toNat default
  let p1:={s.p with day:=max s.p.day pk.day}
  ⟨if (q:Int)=o then {p1 with s:=pk.s+1} else {p1 with needs:=p1.needs++ [⟨q,pk.s⟩]},kQ x s.seen k.toNat⟩
def qr (x:Gs) (o:Int) (m:List Int):Nat->Ns
 |0=>⟨{pt0 with o:=o,s:=1,day:=1},List.replicate x.l.length false⟩
 |q+1=>kT x o m q (qr x o m q)
def jb (x:Gs) (seen:List Bool) (p:Pt) (m:List Int):Nat->Pt
 |0=>p
 |i+1=>step x seen (jb x seen p m i) (m.drop (6+13*i))
def next (x:Gs) (offices:Nat) (m:List Int):Gs:=
 let o:=qy m 0 offices
 let s:=qr x o m offices
 let p:=jb x s.seen {s.p with day:=s.p.day+qy m 4 4} m (1+jL m 5 2)
 ⟨x.l++ [p],x.past++ [s.seen]⟩
def known (l:List Pt) (office seq:Int):Bool:=l.any fun p=>decide (p.o=office)&&decide (p.s=seq)
def ready (l:List Pt) (p:Pt):Bool:=p.needs.all (fun r=>known l r.o r.s)&&(decide (p.s=1)||known l p.o (p.s - 1))
def better (l:List Pt) (out:List Pt) (i:Nat) (best:Int):Bool:=
 let p:=l.getD i default
 ready out p&& !known out p.o p.s&&(decide (best<0)||decide (p.o<(l.getD best.toNat default).o)||(decide (p.o=(l.getD best.toNat default).o)&&decide (p.s<(l.getD best.toNat default).s)))
def jj (l:List Pt) (out:List Pt):Nat->Int
 |0=>-1
 |i+1=>if better l out i (jj l out i)=true then i else jj l out i
def qS (l:List Pt):Nat->List Pt×Bool
 |0=>([],true)
 | n+1=>
  let s:=qS l n
  if s.2=true then (if jj l s.1 l.length<0 then (s.1,false) else (s.1++ [l.getD (jj l s.1 l.length).toNat default],true)) else s
def ordered (l:List Pt):List Pt:=(qS l l.length).1
def j7 (l:List Int) (offices:Nat):Nat->Gs
 |0=>⟨[],[]⟩
 |i+1=>next (j7 l offices i) offices (l.drop (2+32*i))
def patches (l:List Int):List Pt:=ordered (j7 l (2+jL l 1 2) (2+jL l 0 8)).l
def Gs.d (x:Gs):List D:= [.slc (jd x.l),.slc (ja x.past)]
theorem uR:∀k,(upto (kx p kind ok) k).length<=k:=fun k=>by
 have:=oJ (f:=kx p kind ok) (c:=1) (fun k=>by unfold kx;split<;>simp) k
 omega
theorem Y6 {x:Gs} {seen:List Bool} {kind:Int} (ho:∀q∈x.l,q.ops.length<=1000) (i:Nat):(upto (fun i=>kw (x.l.getD i default) kind (seen.getD i false)) i).length<=1000*i:=by
 have:=oJ (f:=fun i=>kw (x.l.getD i default) kind (seen.getD i false)) (c:=1000) (fun k=>by
  have h1:=uR (p:=x.l.getD k default) (kind:=kind) (ok:=seen.getD k false) (x.l.getD k default).ops.length
  have h2:(x.l.getD k default).ops.length<=1000:=u7 (p:=fun q:Pt=>q.ops.length<=1000) ho (by decide) k
  unfold kw
  omega) i
 omega
theorem z6 {x:Gs} {seen:List Bool} {p:Pt} {kind:Int} {H:AH} (hs:x.l.length<=seen.length) (hb:x.l.length<=100) (ho:∀q∈x.l,q.ops.length<=1000) (hp:p.ops.length<=1000) (h:R (.own (je (visible x seen p kind))) H):ACall Tryz.prog 125 [.agg x.d,.slc (jK seen),.agg p.d,.i kind] H R:=by
 refine Es fun hf=>?_
 have hbig:=qn
 have hx:x.d= [.slc (jd x.l),.slc (ja x.past)]:=rfl
 have hd:p.d= [.i p.o,.i p.s,.i p.day,.slc (qF p.needs),.slc (qM p.ops),.str p.sl]:=rfl
 simp+contextual only [↓Ko,hx,hd,↓Ko,↓XP,ql,XW1,qa,qb]
 rintro b1 h1 b2 ⟨n12,h2⟩
 simp only [<-hx,<-hd]
 refine XW.loopK hm (fun F H'=>∃(i:Nat),i<=x.l.length∧Fr 91 [(1,.slc (jK seen)),(3,.i kind),(4,.ptr b1 0),(6,.ptr b2 0),(9,.own (je (upto (fun i=>kw (x.l.getD i default) kind (seen.getD i false)) i))),(10,.i i)] F∧((b2,AO.cells p.d)::(b1,AO.cells x.d)::H)=H') (fun F H=>match F.getD 10 .any with| .int _ n'=>x.l.length - n'.toNat|_=>0) ⟨0,by omega,⟨rfl,rfl,rfl,rfl,rfl,rfl,rfl,trivial⟩,rfl⟩ ?_
 rintro _ _ ⟨i,hi,hF,rfl⟩ K hN hE hR
 obtain ⟨z,rfl⟩:=hF.fl rfl
 try dsimp only [fl,zz,qa,qb] at*
 clear hF
 have hv:=Y6 (x:=x) (seen:=seen) (kind:=kind) ho i
 by_cases hlt:i<x.l.length
 ·have nx:∀F',Fr 91 [(1,.slc (jK seen)),(3,.i kind),(4,.ptr b1 0),(6,.ptr b2 0),(9,.own (je (upto (fun i=>kw (x.l.getD i default) kind (seen.getD i false)) (i+1)))),(10,.i ((i+1:Nat):Int))] F'->K .normal F' ((b2,AO.cells p.d)::(b1,AO.cells x.d)::H):=fun F' hF'=>hN _ _ ⟨i+1,hlt,hF',(qL rfl).symm⟩ (by
   rw [Ma,hF'.2.2.2.2.2.2.1]
   simp only [Mc,Md,Mf]
   omega)
  clear hN hE hR
  have q1:=vO hlt
  have q2:=Ql (l:=seen) (i:=i) (by omega)
  have hqo:(x.l.getD i default).ops.length<=1000:=u7 (p:=fun q:Pt=>q.ops.length<=1000) ho (by decide) i
  have hun:upto (fun i=>kw (x.l.getD i default) kind (seen.getD i false)) (i+1)=upto (fun i=>kw (x.l.getD i default) kind (seen.getD i false)) i++kw (x.l.getD i default) kind (seen.getD i false):=rfl
  rw [hun] at nx
  generalize upto (fun i=>kw (x.l.getD i default) kind (seen.getD i false)) i=ac at nx hv
  generalize x.l.getD i default=q at q1 hqo nx
  generalize seen.getD i false=ok at q2 nx
  have hq:q.d= [.i q.o,.i q.s,.i q.day,.slc (qF q.needs),.slc (qM q.ops),.str q.sl]:=rfl
  simp+contextual only [hx,hd,jG,qg,n12,↓Ko,↓XP,ql,XW1]
  refine fun _=>⟨fun _=>?_,fun hge=>absurd (by omega) hge⟩
  simp only [<-hx,<-hd]
  refine XW.loopK hm (fun F H'=>∃(k:Nat),k<=q.ops.length∧Fr 91 [(1,.slc (jK seen)),(3,.i kind),(4,.ptr b1 0),(6,.ptr b2 0),(9,.own (je (ac++upto (kx q kind ok) k))),(10,.i i),(11,.i k)] F∧((b2,AO.cells p.d)::(b1,AO.cells x.d)::H)=H') (fun F H=>match F.getD 11 .any with| .int _ n'=>q.ops.length - n'.toNat|_=>0) ⟨0,by omega,by rw [upto,Mz];exact ⟨rfl,rfl,rfl,rfl,rfl,rfl,rfl,rfl,trivial⟩,rfl⟩ ?_
  rintro _ _ ⟨k,hk,hF,rfl⟩ K2 hN hE hR
  obtain ⟨z2,rfl⟩:∃z2:Nat->D,_=(let z:=z2; [z 0,.slc (jK seen),z 2,.i kind,.ptr b1 0,z 5,.ptr b2 0,z 7,z 8,.own (je (ac++upto (kx q kind ok) k)),.i i,.i k,z 12,z 13,z 14,z 15,z 16,z 17,z 18,z 19,z 20,z 21,z 22,z 23,z 24,z 25,z 26,z 27,z 28,z 29,z 30,z 31,z 32,z 33,z 34,z 35,z 36,z 37,z 38,z 39,z 40,z 41,z 42,z 43,z 44,z 45,z 46,z 47,z 48,z 49,z 50,z 51,z 52,z 53,z 54,z 55,z 56,z 57,z 58,z 59,z 60,z 61,z 62,z 63,z 64,z 65,z 66,z 67,z 68,z 69,z 70,z 71,z 72,z 73,z 74,z 75,z 76,z 77,z 78,z 79,z 80,z 81,z 82,z 83,z 84,z 85,z 86,z 87,z 88,z 89,z 90]):=hF.lit
  clear hF
  have hv3:=uR (p:=q) (kind:=kind) (ok:=ok) k
  by_cases hlk:k<q.ops.length
  ·have nx3:∀F',Fr 91 [(1,.slc (jK seen)),(3,.i kind),(4,.ptr b1 0),(6,.ptr b2 0),(9,.own (je (ac++upto (kx q kind ok) (k+1)))),(10,.i i),(11,.i ((k+1:Nat):Int))] F'->K2 .normal F' ((b2,AO.cells p.d)::(b1,AO.cells x.d)::H):=fun F' hF'=>hN _ _ ⟨k+1,hlk,hF',(qL rfl).symm⟩ (by
    rw [Ma,hF'.2.2.2.2.2.2.2.1]
    simp only [Mc,Md,Mf]
    omega)
   clear hN hE hR nx
   have q3:=wA hlk
   have hu3:upto (kx q kind ok) (k+1)=upto (kx q kind ok) k++kx q kind ok k:=rfl
   rw [hu3] at nx3
   have ho3:kx q kind ok k=if ok=true∧(q.ops.getD k default).k=kind then [⟨q.o,q.s,k⟩] else []:=rfl
   rw [ho3] at nx3
   generalize q.ops.getD k default=o at q3 nx3
   have hod:o.d= [.i o.k,.i o.on.o,.i o.on.s,.i o.on.i,.i o.to.o,.i o.to.s,.i o.to.i,.slc (je o.ids),.i o.n,.str o.name,.str o.text,.i o.a,.i o.b]:=rfl
   generalize upto (kx q kind ok) k=ac3 at nx3 hv3
   have hac:(je (ac++ac3)).length<=200000:=by rw [qP,Mi];omega
   rcases ok with _|_
   ·simp+contextual only [hx,hd,j9,jG,qg,n12,qm (show k<=big by omega),q1,q2,hq,vf,↓Ko,↓XP,ql,XW1,qb,qe]
    refine fun _=>⟨by omega,fun _=>⟨fun _=>⟨by omega,?_⟩,fun hge=>absurd (by omega) hge⟩⟩
    rw [if_neg (by simp),Mz] at nx3
    exact nx3 _ ⟨rfl,rfl,rfl,rfl,rfl,rfl,rfl,rfl,trivial⟩
   ·simp+contextual only [hx,hd,j9,jG,qg,n12,qm (show k<=big by omega),q1,q2,hq,q3,hod,vf,↓Ko,↓XP,ql,XW1,qb,qc,qe]
    refine fun _=>⟨by omega,fun _=>⟨fun _=>⟨by omega,by omega,fun _=>⟨fun hk'=>⟨by omega,fun _=>⟨by omega,fun _=>⟨Zl,by omega,?_⟩⟩⟩,fun hk'=>?_⟩⟩,fun hge=>absurd (by omega) hge⟩⟩
    ·rw [if_pos ⟨rfl,hk'⟩,<-Mp,<-Wo] at nx3
     exact nx3 _ ⟨rfl,rfl,rfl,rfl,rfl,rfl,rfl,rfl,trivial⟩
    ·rw [if_neg (fun hc=>hk' hc.2),Mz] at nx3
     exact nx3 _ ⟨rfl,rfl,rfl,rfl,rfl,rfl,rfl,rfl,trivial⟩
  ·have hik:k=q.ops.length:=by omega
   subst hik
   simp+contextual only [hx,hd,j9,jG,qg,n12,q1,hq,↓Ko,↓XP,ql,XW1,qb,qe]
   refine fun _=>⟨by omega,fun _=>hE _ _ _ ?_⟩
   clear hN hE hR
   simp+contextual only [qm (show i<=big by omega),↓Ko,↓XP,qA,XW1,qf]
   exact nx _ ⟨rfl,rfl,rfl,rfl,rfl,rfl,rfl,trivial⟩
 ·have hik:i=x.l.length:=by omega
  subst hik
  clear hN
  simp+contextual only [hx,hd,jG,qg,n12,↓Ko,↓XP,ql,XW1]
  refine fun _=>hE _ _ _ ?_
  clear hE hR
  have hv0:visible x seen p kind=upto (fun i=>kw (x.l.getD i default) kind (seen.getD i false)) x.l.length++kw p kind true:=rfl
  rw [hv0] at h
  generalize upto (fun i=>kw (x.l.getD i default) kind (seen.getD i false)) x.l.length=ac at h hv ⊢
  simp+contextual only [↓Ko,↓XP,qA,XW1]
  simp only [<-hx,<-hd]
  refine XW.loopK hm (fun F H'=>∃(k:Nat),k<=p.ops.length∧Fr 91 [(3,.i kind),(6,.ptr b2 0),(9,.own (je (ac++upto (kx p kind true) k))),(12,.i k)] F∧((b2,AO.cells p.d)::(b1,AO.cells x.d)::H)=H') (fun F H=>match F.getD 12 .any with| .int _ n'=>p.ops.length - n'.toNat|_=>0) ⟨0,by omega,by rw [upto,Mz];exact ⟨rfl,rfl,rfl,rfl,rfl,trivial⟩,rfl⟩ ?_
  rintro _ _ ⟨k,hk,hF,rfl⟩ K hN hE hR
  obtain ⟨z,rfl⟩:=hF.fl rfl
  try dsimp only [fl,zz,qa,qb] at*
  clear hF
  have hv3:=uR (p:=p) (kind:=kind) (ok:=true) k
  by_cases hlk:k<p.ops.length
  ·have nx3:∀F',Fr 91 [(3,.i kind),(6,.ptr b2 0),(9,.own (je (ac++upto (kx p kind true) (k+1)))),(12,.i ((k+1:Nat):Int))] F'->K .normal F' ((b2,AO.cells p.d)::(b1,AO.cells x.d)::H):=fun F' hF'=>hN _ _ ⟨k+1,hlk,hF',(qL rfl).symm⟩ (by
    rw [Ma,hF'.2.2.2.2.1]
    simp only [Mc,Md,Mf]
    omega)
   clear hN hE hR
   have q3:=wA hlk
   have hu3:upto (kx p kind true) (k+1)=upto (kx p kind true) k++kx p kind true k:=rfl
   rw [hu3] at nx3
   have ho3:kx p kind true k=if true=true∧(p.ops.getD k default).k=kind then [⟨p.o,p.s,k⟩] else []:=rfl
   rw [ho3] at nx3
   generalize p.ops.getD k default=o at q3 nx3
   have hod:o.d= [.i o.k,.i o.on.o,.i o.on.s,.i o.on.i,.i o.to.o,.i o.to.s,.i o.to.i,.slc (je o.ids),.i o.n,.str o.name,.str o.text,.i o.a,.i o.b]:=rfl
   generalize upto (kx p kind true) k=ac3 at nx3 hv3
   have hac:(je (ac++ac3)).length<=200000:=by rw [qP,Mi];omega
   simp+contextual only [hx,hd,j9,qm (show k<=big by omega),q3,hod,↓Ko,↓XP,ql,XW1,qb,qc,qe]
   refine fun _=>⟨fun _ _=>⟨fun hk' _ _=>⟨Zl,by omega,?_⟩,fun hk'=>?_⟩,fun hge=>absurd (by omega) hge⟩
   ·rw [if_pos ⟨rfl,hk'⟩,<-Mp,<-Wo] at nx3
    exact nx3 _ ⟨rfl,rfl,rfl,rfl,rfl,trivial⟩
   ·rw [if_neg (fun hc=>hk' hc.2),Mz] at nx3
    exact nx3 _ ⟨rfl,rfl,rfl,rfl,rfl,trivial⟩
  ·have hik:k=p.ops.length:=by omega
   subst hik
   simp+contextual only [hx,hd,j9,↓Ko,↓XP,ql,XW1]
   refine fun _=>hE _ _ _ ?_
   clear hN hE hR
   simp+contextual only [↓XP,qA,XW1]
   exact h
theorem nU (hb:x.l.length<=100) (h:R (.i (last x q)) H):ACall Tryz.prog 97 [.agg x.d,.i q] H R:=by
 refine b97 fun hf=>?_
 have hbig:=qn
 have hx:x.d= [.slc (jd x.l),.slc (ja x.past)]:=rfl
 have w1:IntKind.i64.wrap ((x.l.length:Int) - 1)=(x.l.length:Int) - 1:=qj (by omega) (by omega)
 simp+contextual only [↓Cg,hx,jG,w1,↓Cg,↓XP,ql,XW1,qa,qb]
 rintro b1 h1
 simp only [<-hx]
 refine fun _=>XW.loopK hm (fun F H'=>∃(j:Nat),j<=x.l.length∧last x q=kE x q j∧Fr 23 [(1,.i q),(2,.ptr b1 0),(5,.i ((j:Int) - 1))] F∧((b1,AO.cells x.d)::H)=H') (fun F H=>match F.getD 5 .any with| .int _ n'=>(n'+1).toNat|_=>0) ⟨x.l.length,by omega,rfl,⟨rfl,rfl,rfl,rfl,trivial⟩,rfl⟩ ?_
 rintro _ _ ⟨j,hj,hl,hF,rfl⟩ K hN hE hR
 obtain ⟨z,rfl⟩:=hF.fl rfl
 try dsimp only [fl,zz,qa,qb] at*
 clear hF
 rcases j with _|j
 ·clear hN hR
  have e0:((0:Nat):Int) - 1= -1:=by omega
  have e1:(0<=(-1:Int))=False:=by simp
  simp+contextual only [hx,e0,e1,↓Cg,↓XP,qA]
  refine hE _ _ _ ?_
  rw [hl] at h
  simp+contextual only [↓XP,qA,XW1]
  exact h
 ·have e0:((j+1:Nat):Int) - 1=(j:Int):=by omega
  have nx:(x.l.getD j default).o≠q->∀F',Fr 23 [(1,.i q),(2,.ptr b1 0),(5,.i ((j:Int) - 1))] F'->K .normal F' ((b1,AO.cells x.d)::H):=fun hne F' hF'=>hN _ _ ⟨j,by omega,by rw [hl];simp only [kE,if_neg hne],hF',(qL rfl).symm⟩ (by
   rw [Ma,hF'.2.2.2.1]
   simp only [Mc,Md,Mf]
   omega)
  rw [e0]
  clear hN hE
  have q1:=vO (l:=x.l) (i:=j) (by omega)
  have hl2:(x.l.getD j default).o=q->last x q=(j:Int):=fun he=>by rw [hl];simp only [kE,if_pos he]
  generalize x.l.getD j default=e at q1 nx hl2
  have hq:e.d= [.i e.o,.i e.s,.i e.day,.slc (qF e.needs),.slc (qM e.ops),.str e.sl]:=rfl
  have w2:IntKind.i64.wrap ((j:Int) - 1)=(j:Int) - 1:=qj (by omega) (by omega)
  simp+contextual only [hx,jG,q1,hq,w2,↓Cg,↓XP,ql,qb,qe]
  refine fun _=>⟨by omega,fun _=>⟨fun he=>hR _ _ ?_,fun hne=>?_⟩⟩
  ·rw [hl2 he] at h
   simp+contextual only [↓XP,qA]
   exact h
  ·simp only [<-hx]
   exact nx hne _ ⟨rfl,rfl,rfl,rfl,trivial⟩
def vQ (l:List Pt) (o s:Int) (i:Nat):Bool:=(l.take i).any fun p=>decide (p.o=o)&&decide (p.s=s)
theorem Wu (h:i<l.length):vQ l o s (i+1)=(vQ l o s i||(decide ((l.getD i default).o=o)&&decide ((l.getD i default).s=s))):=by
 unfold vQ
 rw [List.take_add_one,List.any_append]
 simp [h]
theorem YR (h:R (.bool (known l o s)) H):ACall Tryz.prog 100 [.slc (jd l),.i o,.i s] H R:=by
 refine FC fun hf=>?_
 have hbig:=qn
 have hlen:l.length<=big:=by have:=hf.1;simpa only [fact,jG] using this
 simp+contextual only [↓ic,↓ic,↓XP,qA,qa,qb]
 refine XW.loopK hm (fun F H'=>∃(i:Nat),i<=l.length∧vQ l o s i=false∧Fr 30 [(0,.slc (jd l)),(1,.i o),(2,.i s),(7,.i i)] F∧H=H') (fun F H=>match F.getD 7 .any with| .int _ n'=>l.length - n'.toNat|_=>0) ⟨0,by omega,rfl,⟨rfl,rfl,rfl,rfl,rfl,trivial⟩,rfl⟩ ?_
 rintro _ _ ⟨i,hi,hk,hF,rfl⟩ K hN hE hR
 obtain ⟨z,rfl⟩:=hF.fl rfl
 try dsimp only [fl,zz,qa,qb] at*
 clear hF
 by_cases hlt:i<l.length
 ·have hk1:=Wu (o:=o) (s:=s) hlt
  rw [hk,Bool.false_or] at hk1
  have nx:vQ l o s (i+1)=false->∀F',Fr 30 [(0,.slc (jd l)),(1,.i o),(2,.i s),(7,.i ((i+1:Nat):Int))] F'->K .normal F' H:=fun hk F' hF'=>hN _ _ ⟨i+1,hlt,hk,hF',(qL rfl).symm⟩ (by
   rw [Ma,hF'.2.2.2.2.1]
   simp only [Mc,Md,Mf]
   omega)
  have hkt:vQ l o s (i+1)=true->known l o s=true:=fun h=>by
   unfold vQ at h
   unfold known
   rw [List.any_eq_true] at h ⊢
   obtain ⟨x,h1,h2⟩:=h
   exact ⟨x,List.mem_of_mem_take h1,h2⟩
  rw [hk1] at nx hkt
  clear hN hE
  have q1:=vO hlt
  generalize l.getD i default=e at q1 nx hkt
  have hq:e.d= [.i e.o,.i e.s,.i e.day,.slc (qF e.needs),.slc (qM e.ops),.str e.sl]:=rfl
  simp+contextual only [jG,q1,hq,qm (show i<=big by omega),↓ic,↓XP,ql,qb,qe]
  refine fun _=>⟨fun _ _=>⟨fun ho _=>⟨fun hs=>hR _ _ ?_,fun hs=>?_⟩,fun ho=>?_⟩,fun hge=>absurd (by omega) hge⟩
  ·rw [hkt (by simp [ho,hs])] at h
   simp+contextual only [↓XP,qA]
   exact h
  ·exact nx (by simp [hs]) _ ⟨rfl,rfl,rfl,rfl,rfl,trivial⟩
  ·exact nx (by simp [ho]) _ ⟨rfl,rfl,rfl,rfl,rfl,trivial⟩
 ·have hik:i=l.length:=by omega
  subst hik
  clear hN
  simp+contextual only [jG,↓ic,↓XP,ql]
  refine fun _=>hE _ _ _ ?_
  rw [show known l o s=false by unfold vQ at hk;rw [List.take_length] at hk;exact hk] at h
  simp+contextual only [↓XP,qA,XW1]
  exact h
def vJ (l:List Pt) (p:Pt) (i:Nat):Bool:=(p.needs.take i).all fun r=>known l r.o r.s
theorem Wf (h:i<p.needs.length):vJ l p (i+1)=(vJ l p i&&known l (p.needs.getD i default).o (p.needs.getD i default).s):=by
 unfold vJ
 rw [List.take_add_one,List.all_append]
 simp [h]
theorem eU (hp:0<=p.s) (hp':p.s<=1000000) (hn:p.needs.length<=1000000) (h:R (.bool (ready l p)) H):ACall Tryz.prog 99 [.slc (jd l),.agg p.d] H R:=by
 refine b99 fun hf=>?_
 have hbig:=qn
 have hd:p.d= [.i p.o,.i p.s,.i p.day,.slc (qF p.needs),.slc (qM p.ops),.str p.sl]:=rfl
 have wm:IntKind.i64.wrap (p.s - 1)=p.s - 1:=qj (by omega) (by omega)
 simp+contextual only [↓xp,hd,↓XP,qA,qa,qb]
 rintro b1 h1
 simp only [<-hd]
 refine XW.loopK hm (fun F H'=>∃(i:Nat),i<=p.needs.length∧vJ l p i=true∧Fr 40 [(0,.slc (jd l)),(3,.ptr b1 0),(5,.i i)] F∧((b1,AO.cells p.d)::H)=H') (fun F H=>match F.getD 5 .any with| .int _ n'=>p.needs.length - n'.toNat|_=>0) ⟨0,by omega,rfl,⟨rfl,rfl,rfl,rfl,trivial⟩,rfl⟩ ?_
 rintro _ _ ⟨i,hi,hk,hF,rfl⟩ K hN hE hR
 obtain ⟨z,rfl⟩:=hF.fl rfl
 try dsimp only [fl,zz,qa,qb] at*
 clear hF
 by_cases hlt:i<p.needs.length
 ·have hk1:=Wf (l:=l) hlt
  rw [hk,Bool.true_and] at hk1
  have nx:vJ l p (i+1)=true->∀F',Fr 40 [(0,.slc (jd l)),(3,.ptr b1 0),(5,.i ((i+1:Nat):Int))] F'->K .normal F' ((b1,AO.cells p.d)::H):=fun hk F' hF'=>hN _ _ ⟨i+1,hlt,hk,hF',(qL rfl).symm⟩ (by
   rw [Ma,hF'.2.2.2.1]
   simp only [Mc,Md,Mf]
   omega)
  have hkt:vJ l p (i+1)=false->ready l p=false:=fun h=>by
   unfold vJ at h
   unfold ready
   rw [Bool.and_eq_false_iff]
   left
   rw [List.all_eq_false] at h ⊢
   obtain ⟨x,h1,h2⟩:=h
   exact ⟨x,List.mem_of_mem_take h1,h2⟩
  rw [hk1] at nx hkt
  clear hN hE
  have q1:=ow hlt
  generalize p.needs.getD i default=e at q1 nx hkt
  have hq:e.d= [.i e.o,.i e.s]:=rfl
  simp+contextual only [hd,jY,q1,hq,↓xp,↓XP,ql,XW1,qb,qe]
  refine fun _=>⟨fun _ _ _=>⟨_,fun _ _=>YR ⟨rfl,rfl⟩,?_⟩,fun hge=>absurd (by omega) hge⟩
  rcases hkk:known l e.o e.s with _|_
  ·rw [hkt hkk] at h
   simp+contextual only [↓XP,qA,XW1]
   refine hR _ _ ?_
   simp+contextual only [↓XP,qA]
   exact h
  ·simp+contextual only [qm (show i<=big by omega),↓xp,↓XP,qA,XW1]
   simp only [<-hd]
   exact nx hkk _ ⟨rfl,rfl,rfl,rfl,trivial⟩
 ·have hik:i=p.needs.length:=by omega
  subst hik
  clear hN
  simp+contextual only [hd,jY,↓xp,↓XP,ql,XW1]
  refine fun _=>hE _ _ _ ?_
  have hr:ready l p=(decide (p.s=1)||known l p.o (p.s - 1)):=by
   unfold vJ at hk
   rw [List.take_length] at hk
   unfold ready
   rw [hk,Bool.true_and]
  rw [hr] at h
  simp+contextual only [wm,↓xp,↓XP,ql,XW1]
  refine fun _=>⟨fun h1=>?_,fun h1 _=>YR ?_⟩
  ·simp only [h1,decide_true,Bool.true_or] at h
   exact h
  ·simp only [h1,decide_false,Bool.false_or] at h
   simp+contextual only [↓XP,qA,XW1]
   exact h
def yr (seen past:List Bool) (i:Nat):List Bool:=(List.range seen.length).map fun j=>if j<i then seen.getD j false||past.getD j false else seen.getD j false
theorem Yn {seen past:List Bool} {i:Nat}:(yr seen past i).length=seen.length:=by simp [yr]
theorem UP {seen past:List Bool}:yr seen past 0=seen:=by
 refine List.ext_getElem (by simp [yr]) fun j h1 h2=>?_
 simp [yr,h2]
theorem an {seen past:List Bool} {i:Nat} (h:i<seen.length):(yr seen past i).getD i false=seen.getD i false:=by
 simp [yr,h]
theorem Ur {seen past:List Bool} {i:Nat} (h:i<seen.length):(yr seen past i).set i (seen.getD i false||past.getD i false)=yr seen past (i+1):=by
 refine List.ext_getElem (by simp [yr]) fun j h1 h2=>?_
 rw [List.getElem_set]
 simp only [yr,List.getElem_map,List.getElem_range]
 split
 ·rename_i e;subst e;rw [if_pos (by omega)]
 ·rename_i e
  by_cases hj:j<i
  ·rw [if_pos hj,if_pos (by omega)]
  ·rw [if_neg hj,if_neg (by omega)]
theorem GQ {x:Gs} {seen:List Bool} {k:Nat} (h:k<seen.length):(yr seen (x.past.getD k []) k).set k true=kQ x seen k:=by
 refine List.ext_getElem (by simp [yr,kQ]) fun j h1 h2=>?_
 rw [List.getElem_set]
 simp only [yr,kQ,List.getElem_map,List.getElem_range]
 split
 ·rename_i e;subst e;rw [if_pos rfl]
 ·rename_i e;rw [if_neg (Ne.symm e)]
theorem gd {x:Gs} {seen:List Bool} {k:Nat}:(kQ x seen k).length=seen.length:=by simp [kQ]
theorem mA {l:List Bool} {i:Nat} (h:i<l.length):(l.map D.bool)[i]?=some (.bool (l.getD i false)):=by simp [h]
theorem YL {l:List Bool} {i:Nat} {b:Bool}:(l.map D.bool).set i (.bool b)=(l.set i b).map D.bool:=List.map_set.symm
theorem yN:∀i,-1<=kE x q i∧kE x q i<i
 |0=>⟨by simp [kE],by simp [kE]⟩
 | i+1=>by
  have:=yN (x:=x) (q:=q) i
  unfold kE
  split
  ·omega
  ·omega
def Pt.dn (p:Pt):List D:= [.i p.o,.i p.s,.i p.day,.own (qF p.needs),.slc [],.str []]
structure Nx (b3 b6 b8 b9:Nat):Prop where
 n39:b3≠b9
 n38:b3≠b8
 n36:b3≠b6
 n89:b8≠b9
 n69:b6≠b9
 n68:b6≠b8
theorem lm {x:Gs} {offices n k b3 b6 b8 b9:Nat} {o q:Int} {m:List Int} {seen:List Bool} {pc:List D} {c6:AO} {H:AH} {Q:AQ} {F:List D} (nx:Nx b3 b6 b8 b9) (hk:k<x.l.length) (hb:x.l.length<=100) (hn:n=x.l.length) (hs:seen.length=n) (hp:x.past.length=x.l.length) (hpk:(x.past.getD k []).length=k)
  (hF:Fr 139 [(1,.i offices),(2,.slc (ints m)),(3,.ptr b3 0),(6,.ptr b6 0),(7,.i o),(8,.ptr b8 0),(9,.hsl b9 n),(10,.i q),(11,.i (k:Int)),(12,.i 0)] F) (hE:∀F',Fr 139 [(1,.i offices),(2,.slc (ints m)),(3,.ptr b3 0),(6,.ptr b6 0),(7,.i o),(8,.ptr b8 0),(9,.hsl b9 n),(10,.i q),(11,.i (k:Int))] F'->Q (.exit 2) F' ((b9,.cells ((yr seen (x.past.getD k []) k).map D.bool))::(b8,AO.cells pc)::(b6,c6)::(b3,AO.cells [.own (jd x.l),.own (ja x.past)])::H)):
  XW Tryz.prog (zb 34) F ((b9,.cells (seen.map D.bool))::(b8,AO.cells pc)::(b6,c6)::(b3,AO.cells [.own (jd x.l),.own (ja x.past)])::H) Q:=by
 have hbig:=qn
 obtain ⟨n39,n38,n36,n89,n69,n68⟩:=nx
 refine XW.loopK hm (fun F H'=>∃(i:Nat),i<=k∧Fr 139 [(1,.i offices),(2,.slc (ints m)),(3,.ptr b3 0),(6,.ptr b6 0),(7,.i o),(8,.ptr b8 0),(9,.hsl b9 n),(10,.i q),(11,.i (k:Int)),(12,.i i)] F∧(b9,AO.cells ((yr seen (x.past.getD k []) i).map D.bool))::(b8,AO.cells pc)::(b6,c6)::(b3,AO.cells [.own (jd x.l),.own (ja x.past)])::H=H') (fun F H=>match F.getD 12 .any with| .int _ n'=>k - n'.toNat|_=>0) ⟨0,by omega,hF,by rw [UP]⟩ ?_
 rintro _ _ ⟨i,hi,hF,rfl⟩ K hN hE' hR
 obtain ⟨z,rfl⟩:=hF.fl rfl
 try dsimp only [fl,zz,qa,qb] at*
 clear hF
 by_cases hlt:i<k
 ·have nx:∀F',Fr 139 [(1,.i offices),(2,.slc (ints m)),(3,.ptr b3 0),(6,.ptr b6 0),(7,.i o),(8,.ptr b8 0),(9,.hsl b9 n),(10,.i q),(11,.i (k:Int)),(12,.i ((i+1:Nat):Int))] F'->K .normal F' ((b9,.cells ((yr seen (x.past.getD k []) (i+1)).map D.bool))::(b8,AO.cells pc)::(b6,c6)::(b3,AO.cells [.own (jd x.l),.own (ja x.past)])::H):=fun F' hF'=>hN _ _ ⟨i+1,hlt,hF',(qL rfl).symm⟩ (by
   rw [Ma,hF'.2.2.2.2.2.2.2.2.2.2.1]
   simp only [Mc,Md,Mf]
   omega)
  clear hN hE' hR hE
  have hl9:=Yn (seen:=seen) (past:=x.past.getD k []) (i:=i)
  rw [<-Ur (by omega)] at nx
  have q1:=mA (l:=yr seen (x.past.getD k []) i) (i:=i) (by omega)
  rw [an (by omega)] at q1
  have q2:=bn (l:=x.past) (i:=k) (by omega)
  have q3:=Ql (l:=x.past.getD k []) (i:=i) (by omega)
  have hw:(yr seen (x.past.getD k []) i).length=n:=by omega
  generalize yr seen (x.past.getD k []) i=s9 at q1 nx hl9 hw ⊢
  generalize (x.past.getD k []).getD i false=pb at q3 nx
  generalize seen.getD i false=sb at q1 nx
  rcases sb with _|_
  ·simp+contextual only [Nat.mul_one,YL,VE,vf,qg,n39,n38,n36,q1,q2,q3,qm (show i<=big by omega),↓Yw,↓wc,↓XP,ql,XW1]
   rw [Bool.false_or] at nx
   exact ⟨fun _=>⟨by omega,fun _=>⟨by omega,fun _=>⟨by omega,by omega,by omega,nx _ ⟨rfl,rfl,rfl,rfl,rfl,rfl,rfl,rfl,rfl,rfl,rfl,trivial⟩⟩⟩⟩,fun hge=>absurd (by omega) hge⟩
  ·simp+contextual only [Nat.mul_one,YL,q1,qm (show i<=big by omega),↓Yw,↓wc,↓XP,ql,XW1]
   rw [Bool.true_or] at nx
   exact ⟨fun _=>⟨by omega,by omega,by omega,nx _ ⟨rfl,rfl,rfl,rfl,rfl,rfl,rfl,rfl,rfl,rfl,rfl,trivial⟩⟩,fun hge=>absurd (by omega) hge⟩
 ·have hik:i=k:=by omega
  subst hik
  clear hN
  simp+contextual only [↓Yw,↓wc,↓XP,qA]
  exact hE' _ _ _ (hE _ ⟨rfl,rfl,rfl,rfl,rfl,rfl,rfl,rfl,rfl,rfl,trivial⟩)
theorem kq:∀q,(qr x o m q).p.needs.length<=q∧(qr x o m q).p.ops= []∧(qr x o m q).p.sl= []∧(qr x o m q).seen.length=x.l.length
 |0=>by simp [qr,pt0]
 | q+1=>by
  obtain ⟨h1,h2,h3,h4⟩:=kq (x:=x) (o:=o) (m:=m) q
  simp only [qr]
  generalize qr x o m q=s at h1 h2 h3 h4 ⊢
  unfold kT
  simp only []
  split
  ·exact ⟨by omega,h2,h3,h4⟩
  ·split
   ·exact ⟨by simp only [];omega,h2,h3,by rw [gd];exact h4⟩
   ·exact ⟨by simp only [Mi,Mj,Ml];omega,h2,h3,by rw [gd];exact h4⟩
theorem rT {x:Gs} {offices n q k b3 b6 b8 b9:Nat} {o:Int} {m:List Int} {seen:List Bool} {p:Pt} {c6:AO} {H:AH} {Q:AQ} {F:List D} (nx:Nx b3 b6 b8 b9) (hof:offices<=10) (hb:x.l.length<=100) (hn:n=x.l.length) (hs:seen.length=n) (hk:k<x.l.length) (hq:q<=10) (hne:p.needs.length<=10) (hxs:∀p∈x.l,0<=p.s∧p.s<=1000)
  (hfr:qk H b8=none)
  (hF:Fr 139 [(1,.i offices),(2,.slc (ints m)),(3,.ptr b3 0),(6,.ptr b6 0),(7,.i o),(8,.ptr b8 0),(9,.hsl b9 n),(10,.i (q:Int)),(11,.i (k:Int))] F) (hE:∀p2,p2=(let pk:=x.l.getD k default;let p1:={p with day:=max p.day pk.day};if (q:Int)=o then {p1 with s:=pk.s+1} else {p1 with needs:=p1.needs++ [⟨q,pk.s⟩]})->∀F',Fr 139 [(1,.i offices),(2,.slc (ints m)),(3,.ptr b3 0),(6,.ptr b6 0),(7,.i o),(8,.ptr b8 0),(9,.hsl b9 n),(10,.i (q:Int)),(11,.i (k:Int))] F'->Q .normal F' ((b9,AO.cells ((kQ x seen k).map D.bool))::(b8,AO.cells p2.dn)::(b6,c6)::(b3,AO.cells [.own (jd x.l),.own (ja x.past)])::H)):
  xcode Tryz.prog x58_s7 F ((b9,AO.cells ((yr seen (x.past.getD k []) k).map D.bool))::(b8,AO.cells p.dn)::(b6,c6)::(b3,AO.cells [.own (jd x.l),.own (ja x.past)])::H) Q:=by
 have hbig:=qn
 obtain ⟨n39,n38,n36,n89,n69,n68⟩:=nx
 obtain ⟨z,rfl⟩:=hF.fl rfl
 try dsimp only [fl,zz,qa,qb] at*
 clear hF
 have q1:=vO hk
 obtain ⟨e1,e2⟩:=hxs (x.l.getD k default) (by rw [jJ hk];exact List.getElem_mem hk)
 rw [<-GQ (by omega)] at hE
 have hl9:=Yn (seen:=seen) (past:=x.past.getD k []) (i:=k)
 generalize yr seen (x.past.getD k []) k=s9 at hE hl9 ⊢
 generalize x.l.getD k default=e at q1 hE e1 e2
 have hd:e.d= [.i e.o,.i e.s,.i e.day,.slc (qF e.needs),.slc (qM e.ops),.str e.sl]:=rfl
 have hdn:p.dn= [.i p.o,.i p.s,.i p.day,.own (qF p.needs),.slc [],.str []]:=rfl
 have hmx:(if e.day>p.day then e.day else p.day)=max p.day e.day:=by rw [Int.max_def];split<;>split<;>omega
 have ws:IntKind.i64.wrap (e.s+1)=e.s+1:=qj (by omega) (by omega)
 by_cases hqo:(q:Int)=o
 ·subst hqo
  simp only [if_true] at hE
  simp+contextual only [Nat.mul_one,YL,jG,qg,qi,n39,n38,n36,n89,q1,hd,hdn,hmx,ws,↓Yw,↓wc,↓XP,ql,XW1,qb,qe]
  exact ⟨by omega,by omega,fun _ _=>⟨by omega,fun _=>⟨by omega,by omega,fun _=>⟨by omega,hE _ rfl _ ⟨rfl,rfl,rfl,rfl,rfl,rfl,rfl,rfl,rfl,rfl,trivial⟩⟩⟩⟩⟩
 ·simp only [if_neg hqo] at hE
  simp+contextual only [Nat.mul_one,YL,jG,jY,qg,qi,vY,n39,n38,n36,n89,q1,hd,hdn,hmx,hqo,↓Yw,↓wc,↓XP,ql,XW1,qb,qc,qe]
  refine ⟨by omega,by omega,fun _ _=>⟨by omega,fun _=>⟨by omega,by rw [qg (Ne.symm n68),qg (Ne.symm n38)];exact .inl hfr,by omega,fun _=>⟨Uy,by omega,by omega,?_⟩⟩⟩⟩
  have hh:=fun F'=>hE _ rfl F'
  simp only [Pt.dn,<-Vc] at hh
  exact hh _ ⟨rfl,rfl,rfl,rfl,rfl,rfl,rfl,rfl,rfl,rfl,trivial⟩
theorem iC {x:Gs} {offices n b3 b6 b8 b9:Nat} {o:Int} {m:List Int} {c6:AO} {H:AH} {Q:AQ} {F:List D} (nx:Nx b3 b6 b8 b9) (hof:offices<=10) (hb:x.l.length<=100) (hn:n=x.l.length) (hp:x.past.length=x.l.length) (hpk:∀k,k<x.l.length->(x.past.getD k []).length=k) (hxs:∀p∈x.l,0<=p.s∧p.s<=1000)
  (hfr:qk H b8=none) (hF:Fr 139 [(1,.i offices),(2,.slc (ints m)),(3,.ptr b3 0),(6,.ptr b6 0),(7,.i o),(8,.ptr b8 0),(9,.hsl b9 n),(10,.i 0)] F) (hE:∀F',Fr 139 [(1,.i offices),(2,.slc (ints m)),(3,.ptr b3 0),(6,.ptr b6 0),(7,.i o),(8,.ptr b8 0),(9,.hsl b9 n)] F'->∀s,s=qr x o m offices->Q (.exit 0) F' ((b9,AO.cells (s.seen.map D.bool))::(b8,AO.cells s.p.dn)::(b6,c6)::(b3,AO.cells [.own (jd x.l),.own (ja x.past)])::H)):
  ∀s,s=qr x o m 0->XW Tryz.prog x58_L11 F ((b9,AO.cells (s.seen.map D.bool))::(b8,AO.cells s.p.dn)::(b6,c6)::(b3,AO.cells [.own (jd x.l),.own (ja x.past)])::H) Q:=by
 intro s0 hs0
 have hbig:=qn
 have nx0:=nx
 obtain ⟨n39,n38,n36,n89,n69,n68⟩:=nx
 refine XW.loopK hm (fun F H'=>∃(q:Nat) (s:Ns),q<=offices∧s=qr x o m q∧Fr 139 [(1,.i offices),(2,.slc (ints m)),(3,.ptr b3 0),(6,.ptr b6 0),(7,.i o),(8,.ptr b8 0),(9,.hsl b9 n),(10,.i (q:Int))] F∧((b9,AO.cells (s.seen.map D.bool))::(b8,AO.cells s.p.dn)::(b6,c6)::(b3,AO.cells [.own (jd x.l),.own (ja x.past)])::H)=H') (fun F H=>match F.getD 10 .any with| .int _ n'=>offices - n'.toNat|_=>0) ⟨0,s0,by omega,hs0,hF,rfl⟩ ?_
 clear hF hs0 s0
 rintro _ _ ⟨q,s,hq,hs,hF,rfl⟩ K hN hE' hR
 obtain ⟨z,rfl⟩:=hF.fl rfl
 try dsimp only [fl,zz,qa,qb] at*
 clear hF hR
 by_cases hlt:q<offices
 ·have nx:∀F' s2,s2=kT x o m q s->Fr 139 [(1,.i offices),(2,.slc (ints m)),(3,.ptr b3 0),(6,.ptr b6 0),(7,.i o),(8,.ptr b8 0),(9,.hsl b9 n),(10,.i ((q+1:Nat):Int))] F'->K .normal F' ((b9,AO.cells (s2.seen.map D.bool))::(b8,AO.cells s2.p.dn)::(b6,c6)::(b3,AO.cells [.own (jd x.l),.own (ja x.past)])::H):=fun F' s2 h2 hF'=>hN _ _ ⟨q+1,s2,hlt,by rw [h2,hs];rfl,hF',(qL rfl).symm⟩ (by
   rw [Ma,hF'.2.2.2.2.2.2.2.2.1]
   simp only [Mc,Md,Mf]
   omega)
  clear hN hE' hE
  obtain ⟨g1,g2,g3,g4⟩:=kq (x:=x) (o:=o) (m:=m) q
  rw [<-hs] at g1 g2 g3 g4
  clear hs
  obtain ⟨r1,r2⟩:=yN (x:=x) (q:=q) x.l.length
  have hx:x.d= [.slc (jd x.l),.slc (ja x.past)]:=rfl
  have wq:IntKind.i64.wrap (1+(q:Int))=((1+q:Nat):Int):=by rw [qj (by omega) (by omega)];omega
  have a0:=qp (l:=m) (i:=1+q) (most:=4) (by omega)
  have k1:∀j:Nat,((j:Int)<0)=False:=fun j=>by simp
  simp+contextual only [qg,n39,n38,n36,↓Yw,↓wc,↓XP,ql,XW1,qb]
  refine ⟨fun _=>nU (x:=x) hb ?_,fun hge=>absurd (by omega) hge⟩
  by_cases hk0:last x q<0
  ·simp+contextual only [hk0,qm (show q<=big by omega),↓Yw,↓wc,↓XP,qA,XW1]
   refine fun _=>nx _ s ?_ ⟨rfl,rfl,rfl,rfl,rfl,rfl,rfl,rfl,rfl,trivial⟩
   unfold kT
   simp only [if_pos (Or.inl hk0)]
  ·obtain ⟨k,hk⟩:∃k:Nat,last x q=k:=⟨(last x q).toNat,by omega⟩
   have hkl:k<x.l.length:=by unfold last at hk;omega
   have hgo:((q:Int)≠o->¬qy m (1+q) 4=1)->∀p2,p2=(let pk:=x.l.getD k default;let p1:={s.p with day:=max s.p.day pk.day};if (q:Int)=o then {p1 with s:=pk.s+1} else {p1 with needs:=p1.needs++ [⟨q,pk.s⟩]})->kT x o m q s=⟨p2,kQ x s.seen k⟩:=by
    rintro h1 p2 rfl
    unfold kT
    simp only [hk,Mh]
    rw [if_neg (fun h=>h.elim (by omega) (fun h=>h1 h.1 h.2))]
   have go:((q:Int)≠o->¬qy m (1+q) 4=1)->∀F',Fr 139 [(1,.i offices),(2,.slc (ints m)),(3,.ptr b3 0),(6,.ptr b6 0),(7,.i o),(8,.ptr b8 0),(9,.hsl b9 n),(10,.i (q:Int)),(11,.i (k:Int)),(12,.i 0)] F'->XW Tryz.prog (zb 34) F' ((b9,AO.cells (s.seen.map D.bool))::(b8,AO.cells s.p.dn)::(b6,c6)::(b3,AO.cells [.own (jd x.l),.own (ja x.past)])::H) (yI 2 (Ze Tryz.prog x58_s7 (yI 1 (Ze Tryz.prog (zb 53) K)))):=fun hc F' hF'=>by
    refine lm nx0 hkl hb hn (by omega) hp (hpk k hkl) hF' (fun F'' hF''=>?_)
    simp only [V2,cU,beq_self_eq_true,dl]
    refine rT nx0 hof hb hn (by omega) hkl (by omega) (by omega) hxs hfr hF'' (fun p2 hp2 F3 hF3=>?_)
    obtain ⟨z,rfl⟩:=hF3.fl rfl
    try dsimp only [fl,zz,qa,qb] at*
    simp+contextual only [qm (show q<=big by omega),↓Yw,↓wc,↓XP,qA]
    exact nx _ ⟨p2,kQ x s.seen k⟩ (hgo hc p2 hp2).symm ⟨rfl,rfl,rfl,rfl,rfl,rfl,rfl,rfl,rfl,trivial⟩
   rw [hk]
   by_cases hqo:(q:Int)=o
   ·subst hqo
    simp+contextual only [k1,↓Yw,↓wc,↓XP,qA]
    exact fun _=>go (fun h=>(h rfl).elim) _ ⟨rfl,rfl,rfl,rfl,rfl,rfl,rfl,rfl,rfl,rfl,rfl,trivial⟩
   ·simp+contextual only [k1,hqo,wq,↓Yw,↓wc,↓XP,qA]
    refine fun _=>jR (i:=1+q) (by omega) ?_
    by_cases ha:qy m (1+q) 4=1
    ·simp+contextual only [ha,qm (show q<=big by omega),↓Yw,↓wc,↓XP,qA,XW1]
     refine fun _=>nx _ s ?_ ⟨rfl,rfl,rfl,rfl,rfl,rfl,rfl,rfl,rfl,trivial⟩
     unfold kT
     simp only [if_pos (Or.inr (And.intro hqo ha))]
    ·simp+contextual only [ha,↓wc,↓XP,qA]
     exact fun _=>go (fun _=>ha) _ ⟨rfl,rfl,rfl,rfl,rfl,rfl,rfl,rfl,rfl,rfl,rfl,trivial⟩
 ·have hik:q=offices:=by omega
  subst hik
  clear hN
  simp+contextual only [↓Yw,↓wc,↓XP,qA]
  exact hE' _ _ _ (hE _ ⟨rfl,rfl,rfl,rfl,rfl,rfl,rfl,rfl,trivial⟩ s hs)
end Go.Proofs.YtgopigkdcmhbbaaGreatDoor
end
