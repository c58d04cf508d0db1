/- A part of the proof of what the last text says: Gm6, Gr0, XcD, XcF, Gr1, Gr2, Gr3, Gr4, Gr5. Conditions: those in each theorem. -/
import Derived.Test.YtpdhandimdibhaaGreatDoorN20
set_option linter.unusedVariables false
set_option linter.unusedSimpArgs false
set_option maxRecDepth 100000
set_option maxHeartbeats 16000000
open Nat renaming reduceSub → qa,reduceAdd → qb,reduceMul → qc,reduceEqDiff → qd,reduceLeDiff → qe,reduceBEq → qf
section
namespace Go.Proofs.YtpdhandimdibhaaGreatDoor
open Go Go.Aw
open Classical in
theorem oW {p:Pt} {H:AH} {R:D→AH→Prop} (hp:Fit p) (h:R (.int .i64 (kr p)) H):ACall Tryz.prog 11 [.agg p.d] H R:=by
 refine b11 fun hf=>?_
 have hbig:=qt
 have hd:=@dE p
 have hk:∀b,kr p=b→R (.int .i64 b) H:=fun b hb=>hb▸h
 clear h
 simp+contextual only [gk,hd,ql,qi,↓gz,↓XP,↓XU,qn,XW1,qa,qb,qc,qd,qe,qf,reduceCtorEq]
 refine fun b1 h1 _ _=>oh ?_
 by_cases hh:¬wz p
 ·have h5:=hk 5 (by unfold kr;rw [if_pos hh])
  unfold wz at hh
  by_cases hn:yZ p.o p.s
  ·simp+contextual only [gk,hd,ql,qi,decide_eq_true hn,↓gz,↓XP,↓XU,qn,XW1,qa,qb,qc,qd,qe,qf,reduceCtorEq]
   unfold yZ at hn
   refine fun _=>yq ?_
   simp+contextual only [gk,hd,ql,qi,decide_eq_false (show ¬(1≤p.day∧p.day≤1048576) by omega),↓gz,↓XP,↓XU,qn,XW1,qa,qb,qc,qd,qe,qf,reduceCtorEq]
   exact h5
  ·simp+contextual only [gk,hd,ql,qi,decide_eq_false hn,↓gz,↓XP,↓XU,qn,XW1,qa,qb,qc,qd,qe,qf,reduceCtorEq]
   exact h5
 have hh:wz p:=Classical.not_not.1 hh
 have hn:yZ p.o p.s:=⟨hh.1,hh.2.1,hh.2.2.1,hh.2.2.2.1⟩
 simp+contextual only [gk,hd,ql,qi,decide_eq_true hn,↓gz,↓XP,↓XU,qn,XW1,qa,qb,qc,qd,qe,qf,reduceCtorEq]
 refine fun _=>yq ?_
 simp+contextual only [gk,hd,ql,qi,decide_eq_true (show 1≤p.day∧p.day≤1048576 from hh.2.2.2.2),↓gz,↓XP,↓XU,qn,XW1,qa,qb,qc,qd,qe,qf,reduceCtorEq]
 have k4:8<p.needs.length∨16<p.ops.length→R (.int .i64 4) H:=fun hl=>hk 4 (by unfold kr;rw [if_neg (fun h=>h hh),if_pos hl])
 refine fun _=>⟨fun c=>k4 (by omega),fun c1 _=>⟨fun c=>k4 (by omega),fun c2=>⟨fun c=>hk 1 (by unfold kr;rw [if_neg (fun h=>h hh),if_neg (by omega),if_pos (List.eq_nil_of_length_eq_zero (by omega))]),fun c3=>?_⟩⟩⟩
 have hl:¬(8<p.needs.length∨16<p.ops.length):=by omega
 have hne:p.ops≠ []:=fun e=>c3 (by rw [e];rfl)
 have hk2:∀b,(if ¬vN p then (1:Int) else if ¬o5 p then 1 else if 6800<(yn (bare p)).length then 4 else 0)=b→R (.int .i64 b) H:=fun b hb=>hk b (by
  unfold kr
  rw [if_neg (fun h=>h hh),if_neg hl,if_neg hne]
  exact hb)
 clear hk k4
 simp only [←hd]
 refine XW.loopK Go.Proofs.YtpdhandimdibhaaGreatDoor.hm (fun F H'=>∃(i:Nat),i≤p.needs.length∧(∀j,j<i→vH p j)∧Fr 86 [(1,.ptr b1 0),(34,.slc (qM p.needs)),(35,.int .i64 p.needs.length),(36,.int .i64 i)] F∧((b1,AO.cells p.d)::H)=H') (fun F H=>match F.getD 36 .any with| .int _ n'=>p.needs.length - n'.toNat|_=>0) ⟨0,by omega,by omega,⟨rfl,rfl,rfl,rfl,rfl,trivial⟩,rfl⟩ ?_
 rintro _ _ ⟨i,hi,hv,hF,rfl⟩ K hN hE hR
 obtain ⟨z,rfl⟩:∃z:Nat→D,_=z 0:: .ptr b1 0::zz z 2 32 (.slc (qM p.needs):: .int .i64 p.needs.length:: .int .i64 i::zz z 37 49 []):=hF.lit
 try dsimp only [zz,qb] at*
 clear hF
 by_cases hlt:i<p.needs.length
 ·have nx:vH p i→∀F' H',back ((b1,AO.cells p.d)::H).length H'=((b1,AO.cells p.d)::H)→Fr 86 [(1,.ptr b1 0),(34,.slc (qM p.needs)),(35,.int .i64 p.needs.length),(36,.int .i64 ((i+1:Nat):Int))] F'→K .normal F' H':=fun h1 F' H' hH hF'=>hN _ _ ⟨i+1,hlt,fun j hj=>by
    by_cases e:j=i
    ·rw [e];exact h1
    ·exact hv j (by omega),hF',hH.symm⟩ (by
   rw [List.getD_eq_getElem?_getD,hF'.2.2.2.2.1]
   simp only [List.getD_cons_succ,List.getD_cons_zero,Option.getD_some]
   omega)
  have hno:¬vH p i→R (.int .i64 1) H:=fun h1=>hk2 1 (by rw [if_pos (fun h=>h1 (h i hlt))])
  clear hN hE
  have q1:=uv hlt
  have q0:0<i→(qM p.needs).getD (i - 1) []=(p.needs.getD (i - 1) default).d:=fun h=>uv (by omega)
  unfold vH at nx hno
  generalize p.needs.getD i default=r at q1 nx hno
  generalize p.needs.getD (i - 1) default=t at q0 nx hno
  have hr:r.d= [.int .i64 r.o,.int .i64 r.s]:=rfl
  have ht:t.d= [.int .i64 t.o,.int .i64 t.s]:=rfl
  have w1:0<i→IntKind.i64.wrap ((i:Int) - 1)=((i - 1:Nat):Int):=fun h=>by rw [qJ (by omega) (by omega)];omega
  simp+contextual only [gk,hd,ql,qi,hlt,Int.ofNat_lt,q1,hr,qp (show i≤big by omega),↓gz,↓XP,↓XU,qn,XW1,qa,qb,qc,qd,qe,qf,reduceCtorEq]
  rintro b4 ⟨n14,h4⟩ _ _
  refine ⟨_,fun _ _=>oh ⟨rfl,rfl⟩,?_⟩
  by_cases k1:yZ r.o r.s
  ·have k1':=k1
   unfold yZ at k1'
   by_cases k2:r.o=p.o
   ·have k1p:yZ p.o r.s:=k2▸k1
    simp+contextual only [gk,hd,ql,qi,decide_eq_true k1,n14,qg n14,decide_eq_true k2,k2,decide_eq_true k1p,↓gz,↓XP,↓XU,qn,XW1,qa,qb,qc,qd,qe,qf,reduceCtorEq]
    intros
    refine hR _ _ ?_
    simp+contextual only [gk,hd,ql,qi,↓gz,↓XP,↓XU,qn,XW1,qa,qb,qc,qd,qe,qf,reduceCtorEq]
    exact hno (by omega)
   by_cases hi0:0<i
   ·have q0':=q0 hi0
    have w1':=w1 hi0
    by_cases c6:r.o≤t.o
    ·simp+contextual only [gk,hd,ql,qi,decide_eq_true k1,n14,qg n14,decide_eq_false k2,eq_false k2,q0',ht,w1',(eq_true (by omega):((0:Int)<(i:Int))=True),(eq_true c6),↓gz,↓XP,↓XU,qn,XW1,qa,qb,qc,qd,qe,qf,reduceCtorEq]
     intros
     refine ⟨by omega,fun _=>hR _ _ ?_⟩
     simp+contextual only [gk,hd,ql,qi,↓gz,↓XP,↓XU,qn,XW1,qa,qb,qc,qd,qe,qf,reduceCtorEq]
     exact hno (by omega)
    ·simp+contextual only [gk,hd,ql,qi,decide_eq_true k1,n14,qg n14,decide_eq_false k2,eq_false k2,q0',ht,w1',(eq_true (by omega):((0:Int)<(i:Int))=True),(eq_false c6),qp (show i≤big by omega),↓gz,↓XP,↓XU,qn,XW1,qa,qb,qc,qd,qe,qf,reduceCtorEq]
     intros
     exact ⟨by omega,fun _=>nx (by omega) _ _ (kW rfl) ⟨rfl,rfl,rfl,rfl,rfl,trivial⟩⟩
   ·simp+contextual only [gk,hd,ql,qi,decide_eq_true k1,n14,qg n14,decide_eq_false k2,eq_false k2,(eq_false (by omega):((0:Int)<(i:Int))=False),qp (show i≤big by omega),↓gz,↓XP,↓XU,qn,XW1,qa,qb,qc,qd,qe,qf,reduceCtorEq]
    intros
    exact nx (by omega) _ _ (kW rfl) ⟨rfl,rfl,rfl,rfl,rfl,trivial⟩
  ·simp+contextual only [gk,hd,ql,qi,decide_eq_false k1,↓gz,↓XP,↓XU,qn,XW1,qa,qb,qc,qd,qe,qf,reduceCtorEq]
   refine hR _ _ ?_
   simp+contextual only [gk,hd,ql,qi,↓gz,↓XP,↓XU,qn,XW1,qa,qb,qc,qd,qe,qf,reduceCtorEq]
   unfold yZ at k1
   exact hno (by omega)
 ·have hik:i=p.needs.length:=by omega
  subst hik
  clear hN
  have hon:vN p:=hv
  have hk3:∀b,(if ¬o5 p then (1:Int) else if 6800<(yn (bare p)).length then 4 else 0)=b→R (.int .i64 b) H:=fun b hb=>hk2 b (by rw [if_neg (fun h=>h hon)];exact hb)
  clear hk2 hv
  simp+contextual only [gk,hd,ql,qi,↓gz,↓XP,↓XU,qn,XW1,qa,qb,qc,qd,qe,qf,reduceCtorEq]
  refine hE _ _ _ ?_
  clear hE hR
  simp+contextual only [gk,hd,ql,qi,↓gz,↓XP,↓XU,qn,XW1,qa,qb,qc,qd,qe,qf,reduceCtorEq]
  simp only [←hd]
  refine fun _=>XW.loopK Go.Proofs.YtpdhandimdibhaaGreatDoor.hm (fun F H'=>∃(i:Nat),i≤p.ops.length∧(∀o∈p.ops.take i,uK o)∧Fr 86 [(1,.ptr b1 0),(72,.slc (qE p.ops)),(73,.int .i64 p.ops.length),(74,.int .i64 i)] F∧((b1,AO.cells p.d)::H)=H') (fun F H=>match F.getD 74 .any with| .int _ n'=>p.ops.length - n'.toNat|_=>0) ⟨0,by omega,by simp,⟨rfl,rfl,rfl,rfl,rfl,trivial⟩,rfl⟩ ?_
  rintro _ _ ⟨i,hi,hv,hF,rfl⟩ K hN hE hR
  obtain ⟨z,rfl⟩:∃z:Nat→D,_=z 0:: .ptr b1 0::zz z 2 70 (.slc (qE p.ops):: .int .i64 p.ops.length:: .int .i64 i::zz z 75 11 []):=hF.lit
  try dsimp only [zz,qb] at*
  clear hF
  by_cases hlt:i<p.ops.length
  ·have nx:uK (p.ops.getD i default)→∀F' H',back ((b1,AO.cells p.d)::H).length H'=((b1,AO.cells p.d)::H)→Fr 86 [(1,.ptr b1 0),(72,.slc (qE p.ops)),(73,.int .i64 p.ops.length),(74,.int .i64 ((i+1:Nat):Int))] F'→K .normal F' H':=fun h1 F' H' hH hF'=>hN _ _ ⟨i+1,hlt,fun o ho=>by
     rw [List.take_add_one] at ho
     rcases List.mem_append.1 ho with ho|ho
     ·exact hv o ho
     ·simp [hlt] at ho
      have:o=p.ops.getD i default:=by simp [hlt,ho]
      rw [this];exact h1,hF',hH.symm⟩ (by
    rw [List.getD_eq_getElem?_getD,hF'.2.2.2.2.1]
    simp only [List.getD_cons_succ,List.getD_cons_zero,Option.getD_some]
    omega)
   have hm:p.ops.getD i default∈p.ops:=by rw [js hlt];exact List.getElem_mem hlt
   have hno:¬uK (p.ops.getD i default)→R (.int .i64 1) H:=fun h1=>hk3 1 (by rw [if_pos (fun h=>h1 (h _ hm))])
   clear hN hE hk3
   have q1:=ke hlt
   generalize p.ops.getD i default=o at q1 nx hno
   have hod:o.d= [.int .i64 o.k,.int .i64 o.on.o,.int .i64 o.on.s,.int .i64 o.on.i,.int .i64 o.to.o,.int .i64 o.to.s,.int .i64 o.to.i,.slc (qI o.ids),.int .i64 o.n,.str o.name,.str o.text,.int .i64 o.a,.int .i64 o.b]:=rfl
   simp+contextual only [gk,hd,ql,qi,hlt,Int.ofNat_lt,q1,hod,↓gz,↓XP,↓XU,qn,XW1,qa,qb,qc,qd,qe,qf,reduceCtorEq]
   refine fun b6 hb6=>f_valid (o:=o) ?_
   by_cases ho:uK o
   ·simp+contextual only [gk,hd,ql,qi,ho,qp (show i≤big by omega),↓gz,↓XP,↓XU,qn,XW1,qa,qb,qc,qd,qe,qf,reduceCtorEq]
    simp only [←hd]
    exact nx ho _ _ (kW rfl) ⟨rfl,rfl,rfl,rfl,rfl,trivial⟩
   ·simp+contextual only [gk,hd,ql,qi,ho,↓gz,↓XP,↓XU,qn,XW1,qa,qb,qc,qd,qe,qf,reduceCtorEq]
    refine hR _ _ ?_
    simp+contextual only [gk,hd,ql,qi,↓gz,↓XP,↓XU,qn,XW1,qa,qb,qc,qd,qe,qf,reduceCtorEq]
    exact hno ho
  ·have hik:i=p.ops.length:=by omega
   subst hik
   clear hN
   rw [List.take_length] at hv
   have hoo:o5 p:=hv
   simp+contextual only [gk,hd,ql,qi,↓gz,↓XP,↓XU,qn,XW1,qa,qb,qc,qd,qe,qf,reduceCtorEq]
   refine hE _ _ _ ?_
   clear hE hR
   simp+contextual only [gk,hd,ql,qi,↓gz,↓XP,↓XU,qn,XW1,qa,qb,qc,qd,qe,qf,reduceCtorEq]
   refine f_msg hp ?_
   simp+contextual only [gk,hd,ql,qi,↓gz,↓XP,↓XU,qn,XW1,qa,qb,qc,qd,qe,qf,reduceCtorEq]
   refine fun _=>⟨fun c=>hk3 4 ?_,fun c=>hk3 0 ?_⟩
   ·exact (if_neg (fun h=>h hoo)).trans (if_pos (Int.ofNat_lt.1 c))
   ·exact (if_neg (fun h=>h hoo)).trans (if_neg (fun h=>c (Int.ofNat_lt.2 h)))
noncomputable def gj (p:Pt):Int:=if kr p≠0 then kr p else if 1200<p.sl.length then 4 else 0
theorem Jp {p:Pt} {H:AH} {R:D→AH→Prop} (hp:Fit p) (h:R (.tup [if gj p=0 then .own ((yn p).map qA) else .own [],.int .i64 (gj p)]) H):ACall Tryz.prog 26 [.agg p.d] H R:=by
 refine b26 fun hf=>?_
 have hbig:=qt
 have hd:=@dE p
 simp+contextual only [x26,hd,↓U26,↓XP,↓XU,qn,XW1,qa,qb,qc,qd,qe,qf,reduceCtorEq]
 refine fun b1 h1=>oW hp ?_
 by_cases c1:kr p=0
 ·have e0:gj p=if 1200<p.sl.length then 4 else 0:=by unfold gj;rw [if_neg (fun h=>h c1)]
  simp+contextual only [x26,hd,c1,↓U26,↓XP,↓XU,qn,XW1,qa,qb,qc,qd,qe,qf,reduceCtorEq]
  by_cases c2:1200<p.sl.length
  ·rw [if_pos c2] at e0
   simp+contextual only [x26,hd,c2,(eq_true (by omega):((1200:Int)<(p.sl.length:Int))=True),↓U26,↓XP,↓XU,qn,XW1,qa,qb,qc,qd,qe,qf,reduceCtorEq]
   rw [e0,if_neg (by decide)] at h
   exact fun _ _=>h
  ·rw [if_neg c2] at e0
   simp+contextual only [x26,hd,c2,(eq_false (by omega):((1200:Int)<(p.sl.length:Int))=False),↓U26,↓XP,↓XU,qn,XW1,qa,qb,qc,qd,qe,qf,reduceCtorEq]
   refine fun _ _=>f_enc hp fun _=>?_
   simp+contextual only [x26,hd,↓U26,↓XP,↓XU,qn,XW1,qa,qb,qc,qd,qe,qf,reduceCtorEq]
   rw [e0,if_pos rfl] at h
   exact fun _=>h
 ·have e0:gj p=kr p:=by unfold gj;rw [if_pos c1]
  simp+contextual only [x26,hd,eq_false c1,↓U26,↓XP,↓XU,qn,XW1,qa,qb,qc,qd,qe,qf,reduceCtorEq]
  rw [e0,if_neg c1] at h
  exact fun _=>h
end Go.Proofs.YtpdhandimdibhaaGreatDoor
end
section
namespace Go.Proofs.YtpdhandimdibhaaGreatDoor
open Go Go.Aw
def val (L:List UInt8):Nat:=L.foldl (fun a d=>256*a+d.toNat) 0
theorem Y1 {L:List UInt8} {d:UInt8}:val (L++ [d])=256*val L+d.toNat:=by simp [val]
theorem KD:∀(m:Nat),val (digs m).reverse=m
 | m=>by
  by_cases h:m=0
  ·subst h;rw [kT];rfl
  ·rw [wh h,List.reverse_cons,Y1,KD (m / 256),UInt8.toNat_ofNat']
   omega
theorem ZB:∀(L:List UInt8) (a:Nat),L.foldl (fun a d=>256*a+d.toNat) a<256 ^ L.length*(a+1)
 | [],a=>by simp
 | d::r,a=>by
  have h1:=ZB r (256*a+d.toNat)
  have h2:=d.toNat_lt
  simp only [List.foldl_cons,List.length_cons]
  refine Nat.lt_of_lt_of_le h1 ?_
  rw [Nat.pow_succ,Nat.mul_assoc]
  exact Nat.mul_le_mul_left _ (by omega)
theorem ZH (L:List UInt8):val L<256 ^ L.length:=by
 have:=ZB L 0
 simpa [val] using this
theorem Jc:∀(m:Nat) (d:UInt8) (r:List UInt8),(digs m).reverse=d::r→d≠0
 | m,d,r,h=>by
  by_cases hm:m=0
  ·subst hm;rw [kT] at h;simp at h
  ·rw [wh hm,List.reverse_cons] at h
   by_cases h2:m / 256=0
   ·rw [h2,kT] at h
    simp only [List.reverse_nil,List.nil_append,List.cons.injEq] at h
    rw [←h.1]
    intro e
    have:=congrArg UInt8.toNat e
    rw [UInt8.toNat_ofNat'] at this
    simp at this
    omega
   ·cases hr:(digs (m / 256)).reverse with
    | nil=>
     rw [wh h2] at hr
     simp at hr
    | cons a t=>
     rw [hr] at h
     simp only [List.cons_append,List.cons.injEq] at h
     have:=Jc (m / 256) a t hr
     rw [←h.1]
     exact this
theorem WL {f:Bool} {x:UInt8}:jb f (jb f x)=x:=by
 cases f with
 |false=>rfl
 | true=>
  simp only [jb,if_true]
  apply UInt8.toNat_inj.1
  have:=x.toNat_lt
  rw [UInt8.toNat_sub_of_le _ _ (by rw [UInt8.le_iff_toNat_le,UInt8.toNat_sub_of_le _ _ (by rw [UInt8.le_iff_toNat_le];simp;omega)];simp),UInt8.toNat_sub_of_le _ _ (by rw [UInt8.le_iff_toNat_le];simp;omega)]
  simp
  omega
def je (c:UInt8):Nat:=if c.toNat<128 then 127 - c.toNat else c.toNat - 128
def turned (c:UInt8):Bool:=decide (c.toNat<128)
def body (c:UInt8) (r:List UInt8):List UInt8:=(r.take (je c)).map (jb (turned c))
def qP:List UInt8→Int×Nat×Int
 | []=>(0,0,3)
 | c::r=>
  if 8<je c then (0,0,2) else if r.length<je c then (0,0,3) else if 0<je c∧jb (turned c) (r.getD 0 0)=0 then (0,0,2)
  else if 9223372036854775808≤val (body c r) then (0,0,2)
  else (if turned c=true then -1 - (val (body c r):Int) else (val (body c r):Int),je c+1,0)
theorem Kg {m:Int} {rest:List UInt8} (hm:vk .i64 m):qP (qQ m++rest)=(m,(qQ m).length,0):=by
 have hl:=JV hm
 have hg:=Wp hm
 obtain ⟨g,hgd⟩:∃g,mag m=g:=⟨_,rfl⟩
 have hv:=KD g
 have hh:=Jc g
 rw [hgd] at hl hg
 obtain ⟨c,hc⟩:∃c,UInt8.ofNat (if m<0 then 127 - (digs g).length else 128+(digs g).length)=c:=⟨_,rfl⟩
 have hcn:c.toNat=if m<0 then 127 - (digs g).length else 128+(digs g).length:=by
  rw [←hc,UInt8.toNat_ofNat']
  split<;>omega
 have ht:je c=(digs g).length:=by
  unfold je
  rw [hcn]
  split<;>split<;>omega
 have hf:turned c=decide (m<0):=by
  unfold turned
  rw [hcn]
  apply decide_eq_decide.2
  split<;>omega
 have he:qQ m=c::(digs g).reverse.map (jb (decide (m<0))):=by rw [qQ,hgd,hc]
 have hlen:(qQ m).length=(digs g).length+1:=by rw [he];simp
 have hb:body c ((digs g).reverse.map (jb (decide (m<0)))++rest)=(digs g).reverse:=by
  unfold body
  rw [ht,hf,List.take_append_of_le_length (by simp),List.take_of_length_le (by simp),List.map_map]
  refine (List.map_congr_left fun x _=>?_).trans (List.map_id _)
  exact WL
 rw [hlen,he,List.cons_append]
 unfold qP
 dsimp only
 rw [hb,hv,ht,hf,if_neg (by omega),if_neg (by simp),if_neg ?_,if_neg (by omega)]
 ·have:m=if m<0 then -1 - (g:Int) else (g:Int):=by
   rw [←hgd]
   unfold mag
   split<;>omega
  simp only [decide_eq_true_eq]
  rw [←this]
 ·rintro ⟨h1,h2⟩
  cases hr:(digs g).reverse with
  | nil=>
   have:=congrArg List.length hr
   simp at this
   rw [this] at h1
   simp at h1
  | cons a t=>
   rw [hr] at h2
   simp only [List.map_cons,List.cons_append,List.getD_cons_zero] at h2
   rw [WL] at h2
   exact hh a t hr h2
theorem zy {b:List UInt8}:(qP b).2.1≤b.length:=by
 unfold qP
 split
 ·simp
 ·next c r=>
  split
  ·simp
  ·split
   ·simp
   ·split
    ·simp
    ·split
     ·simp
     ·simp;omega
end Go.Proofs.YtpdhandimdibhaaGreatDoor
end
section
namespace Go.Proofs.YtpdhandimdibhaaGreatDoor
open Go.Xs
open Go Go.Aw
def x4_s0:XC:=(.seq (.reg [m 5 8,m 1 9,m 5 10,e 29 10 11,a (k 15 #[(t 9),(t 11)] #[3,3]) 12,j 29 8 12 13,b (.load 26 (t 13)) 14,w 26 4 14]) .ret)
def x4_s1:XC:=(.seq (.reg [m 0 6,b (k 14 #[(t 6)] #[22]) 7,n 7 5]) x4_s0)
def V4:=PLift.up (aI (@unf _ _ x4_s0.eq_1) (@unf _ _ x4_s1.eq_1))
theorem U4:type_of% V4.down:=V4.down
def x4:XC:=(.seq (.reg [a (.alloc 26) 4]) x4_s1)
theorem b4:Bt 4 15 x4 [(.cell 4 26)]:=bt Tryz.func4 rfl (by kernel_rfl) (by kernel_rfl) (by kernel_rfl)
end Go.Proofs.YtpdhandimdibhaaGreatDoor
end
section

end
section
namespace Go.Proofs.YtpdhandimdibhaaGreatDoor
open Go Go.Aw
theorem vM {l:List UInt8} {i:Nat} (h:i<l.length):(l.map qA).getD i []= [.int .u8 ((l.getD i 0).toNat:Int)]:=by simp [h,qA]
theorem xorB {f:Bool} {c:UInt8}:bits .xor .u8 (c.toNat:Int) (zK f)=((jb f c).toNat:Int):=by
 rw [xor8 c.toNat_lt,UInt8.ofNat_toNat]
theorem Yf (c:UInt8):((jb (turned c) c).toNat:Int) - 128=(je c:Int):=by
 have:=c.toNat_lt
 unfold turned je
 by_cases h:c.toNat<128
 ·rw [decide_eq_true h,if_pos h,jb,if_pos rfl,UInt8.toNat_sub_of_le _ _ (by rw [UInt8.le_iff_toNat_le];simp;omega)]
  simp
  omega
 ·rw [decide_eq_false h,if_neg h,jb,if_neg (by simp)]
  omega
theorem shl_or {m x:Nat} (hm:256*m+x<18446744073709551616) (hx:x<256):bits .or .u64 (IntKind.u64.wrap ((m:Int)*2 ^ (min ((8:Int).toNat) IntKind.u64.bits))) (x:Int)=((256*m+x:Nat):Int):=by
 have e1:(2:Int) ^ (min ((8:Int).toNat) IntKind.u64.bits)=256:=rfl
 rw [e1,IntKind.wrap_u64,show ((m:Int)*256) % 18446744073709551616=((m*256:Nat):Int) by omega,u64_or_nat _ _ (by omega) (by omega)]
 have:=Nat.two_pow_add_eq_or_of_lt (i:=8) (b:=x) (by omega) m
 rw [show m*256=2 ^ 8*m by omega,←this]
theorem w_gl {f:Bool} {k6:D} {rs:List UInt8} {H:AH} {Q:AQ} {F:List D} (hr:rs.length≤8) (hF:Fr 71 [(5,.int .u8 (zK f)),(6,k6),(7,.int .u64 0),(46,.slc (rs.map qA)),(47,.int .i64 rs.length),(48,.int .i64 0)] F) (hE:∀F',Fr 71 [(5,.int .u8 (zK f)),(6,k6),(7,.int .u64 (val (rs.map (jb f)):Int))] F'→Q (.exit 1) F' H):XW Tryz.prog x47_L8 F H Q:=by
 have hbig:=qt
 refine XW.loopK Go.Proofs.YtpdhandimdibhaaGreatDoor.hm (fun F H'=>∃(j:Nat),j≤rs.length∧Fr 71 [(5,.int .u8 (zK f)),(6,k6),(7,.int .u64 (val ((rs.take j).map (jb f)):Int)),(46,.slc (rs.map qA)),(47,.int .i64 rs.length),(48,.int .i64 j)] F∧H=H') (fun F H=>match F.getD 48 .any with| .int _ n'=>rs.length - n'.toNat|_=>0) ⟨0,by omega,hF,rfl⟩ ?_
 rintro _ _ ⟨j,hj,hF,rfl⟩ K hN hE' hR
 obtain ⟨z,rfl⟩:∃z:Nat→D,_=zz z 0 5 (.int .u8 (zK f)::k6:: .int .u64 (val ((rs.take j).map (jb f)):Int)::zz z 8 38 (.slc (rs.map qA):: .int .i64 rs.length:: .int .i64 j::zz z 49 22 [])):=hF.lit
 try dsimp only [zz,qb] at*
 clear hF hR
 by_cases hlt:j<rs.length
 ·have nx:∀F',Fr 71 [(5,.int .u8 (zK f)),(6,k6),(7,.int .u64 ((256*val ((rs.take j).map (jb f))+(jb f (rs.getD j 0)).toNat:Nat):Int)),(46,.slc (rs.map qA)),(47,.int .i64 rs.length),(48,.int .i64 ((j+1:Nat):Int))] F'→K .normal F' H:=fun F' hF'=>hN _ _ ⟨j+1,hlt,by
    have:(rs.take (j+1)).map (jb f)=(rs.take j).map (jb f)++ [jb f (rs.getD j 0)]:=by
     rw [List.take_add_one,List.map_append]
     simp [hlt]
    rw [this,Y1]
    exact hF',(j7 rfl).symm⟩ (by
   rw [List.getD_eq_getElem?_getD,hF'.2.2.2.2.2.2.1]
   simp only [List.getD_cons_succ,List.getD_cons_zero,Option.getD_some]
   omega)
  clear hN hE hE'
  have q1:=vM hlt
  have hv:val ((rs.take j).map (jb f))<256 ^ 7:=Nat.lt_of_lt_of_le (ZH _) (Nat.pow_le_pow_right (by omega) (by simp;omega))
  generalize val ((rs.take j).map (jb f))=v at nx hv ⊢
  generalize rs.getD j 0=c at q1 nx
  have hc:=(jb f c).toNat_lt
  have xb:=xorB (f:=f) (c:=c)
  have w1:=shl_or (m:=v) (x:=(jb f c).toNat) (by omega) (by omega)
  have w2:IntKind.u64.wrap (((jb f c).toNat:Int))=((jb f c).toNat:Int):=by rw [IntKind.wrap_u64];omega
  simp+contextual only [WV,qj,hlt,Int.ofNat_lt,q1,xb,w1,w2,qp (show j≤big by omega),↓U47,↓XP,↓XU,qn,XW1,qa,qb,qc,qd,qe,qf,reduceCtorEq]
  exact fun _=>⟨by decide,nx _ ⟨rfl,rfl,rfl,rfl,rfl,rfl,rfl,trivial⟩⟩
 ·have hik:j=rs.length:=by omega
  subst hik
  clear hN
  rw [List.take_length]
  simp+contextual only [WV,qj,↓U47,↓XP,↓XU,qn,XW1,qa,qb,qc,qd,qe,qf,reduceCtorEq]
  exact hE' _ _ _ (hE _ ⟨rfl,rfl,rfl,rfl,trivial⟩)
theorem w_gi {c:UInt8} {r:List UInt8} {xs:List (List D)} {H:AH} {F:List D} {R:D→AH→Prop} (hF:Fr 71 [(0,.slc xs),(5,.int .u8 (zK (turned c))),(6,.int .i64 (je c:Int))] F) (hl:xs.length=r.length+1) (h1:∀x∈xs,x.length=1) (hL:r.length+1≤big)
  (q1:0<r.length→xs.getD 1 []= [.int .u8 ((r.getD 0 0).toNat:Int)]) (hx2:(xs.take (je c+1)).drop 1=(r.take (je c)).map qA)
  (hk:∀t,qP (c::r)=t→R (.tup [.int .i64 t.1,.int .i64 (t.2.1:Int),.int .i64 t.2.2]) H):xcode Tryz.prog x47_s14 F H (kK Tryz.prog [.tmp 2,.tmp 3,.tmp 4] H.length R):=by
 have hbig:=qt
 obtain ⟨z,rfl⟩:∃z:Nat→D,_= .slc xs::zz z 1 4 (.int .u8 (zK (turned c)):: .int .i64 (je c:Int)::zz z 7 64 []):=hF.lit
 try dsimp only [zz,qb] at*
 clear hF
 unfold qP at hk
 dsimp only at hk
 unfold body at hk
 have hc:=c.toNat_lt
 have tl:je c≤127:=by unfold je;split<;>omega
 by_cases c1:8<je c
 ·simp+contextual only [WV,qj,show ((8:Int)<(je c:Int))=True from eq_true (by omega),↓U47,↓XP,↓XU,qn,XW1,qa,qb,qc,qd,qe,qf,reduceCtorEq]
  exact hk _ (by rw [if_pos c1])
 rw [if_neg c1] at hk
 by_cases c2:r.length<je c
 ·simp+contextual only [WV,qj,show ((8:Int)<(je c:Int))=False from eq_false (by omega),hl,show (((r.length+1:Nat):Int)≤(je c:Int))=True from eq_true (by omega),↓U47,↓XP,↓XU,qn,XW1,qa,qb,qc,qd,qe,qf,reduceCtorEq]
  exact fun _=>hk _ (by rw [if_pos c2])
 rw [if_neg c2] at hk
 have wk:IntKind.i64.wrap ((je c:Int)+1)=((je c+1:Nat):Int):=by rw [qJ (by omega) (by omega)];omega
 have tl2:(r.take (je c)).length=je c:=by simp;omega
 have fin:¬(0<je c∧jb (turned c) (r.getD 0 0)=0)→∀F,Fr 71 [(5,.int .u8 (zK (turned c))),(6,.int .i64 (je c:Int)),(7,.int .u64 0),(46,.slc ((r.take (je c)).map qA)),(47,.int .i64 (je c:Int)),(48,.int .i64 0)] F→XW Tryz.prog x47_L8 F H (yI 1 (Wl Tryz.prog x47_s12 (kK Tryz.prog [.tmp 2,.tmp 3,.tmp 4] H.length R))):=by
  intro hno F hF
  rw [if_neg hno] at hk
  refine w_gl (f:=turned c) (k6:= .int .i64 (je c:Int)) (rs:=r.take (je c)) (by omega) (by rw [tl2];exact hF) fun F' hF'=>?_
  obtain ⟨z,rfl⟩:∃z:Nat→D,_=zz z 0 5 (.int .u8 (zK (turned c)):: .int .i64 (je c:Int):: .int .u64 (val ((r.take (je c)).map (jb (turned c))):Int)::zz z 8 63 []):=hF'.lit
  try dsimp only [zz,qb] at*
  clear hF' hF
  have hv:=ZH ((r.take (je c)).map (jb (turned c)))
  have hv2:val ((r.take (je c)).map (jb (turned c)))<256 ^ 8:=Nat.lt_of_lt_of_le hv (Nat.pow_le_pow_right (by omega) (by simp;omega))
  generalize val ((r.take (je c)).map (jb (turned c)))=v at hk hv2 ⊢
  have e63:((v:Int)).fdiv (2 ^ (min ((63:Int).toNat) IntKind.u64.bits))=((v / 9223372036854775808:Nat):Int):=by
   rw [show (2:Int) ^ (min ((63:Int).toNat) IntKind.u64.bits)=9223372036854775808 from rfl,Int.fdiv_eq_ediv_of_nonneg _ (by omega)]
   omega
  by_cases c5:9223372036854775808≤v
  ·have hz:((0:Int)<((v / 9223372036854775808:Nat):Int))=True:=eq_true (by omega)
   simp+contextual only [WV,qj,e63,hz,↓U47,↓XP,↓XU,qn,XW1,qa,qb,qc,qd,qe,qf,reduceCtorEq]
   exact ⟨by decide,hk _ (by rw [if_pos c5])⟩
  ·have hz:((0:Int)<((v / 9223372036854775808:Nat):Int))=False:=eq_false (by omega)
   rw [if_neg c5] at hk
   cases ht:turned c with
   | true=>
    have ux:bits .xor .u64 (if IntKind.u64.signed=true then -1 else IntKind.u64.max) (v:Int)=((18446744073709551615 - v:Nat):Int):=by
     rw [show (if IntKind.u64.signed=true then (-1:Int) else IntKind.u64.max)=((18446744073709551615:Nat):Int) from rfl,u64_xor_nat _ _ (by omega) (by omega),not64 (by omega)]
    have wv:IntKind.i64.wrap ((18446744073709551615 - v:Nat):Int)= -1 - (v:Int):=by rw [IntKind.wrap_i64];omega
    simp+contextual only [WV,qj,e63,hz,ht,show zK true=255 from rfl,show ((0:Int)<255)=True from eq_true (by omega),ux,wv,wk,↓U47,↓XP,↓XU,qn,XW1,qa,qb,qc,qd,qe,qf,reduceCtorEq]
    have hk2:=hk _ rfl
    rw [ht] at hk2
    exact ⟨by decide,hk2⟩
   | false=>
    have wv:IntKind.i64.wrap (v:Int)=(v:Int):=by rw [IntKind.wrap_i64];omega
    simp+contextual only [WV,qj,e63,hz,ht,show zK false=0 from rfl,show ((0:Int)<0)=False from eq_false (by omega),wv,wk,↓U47,↓XP,↓XU,qn,XW1,qa,qb,qc,qd,qe,qf,reduceCtorEq]
    have hk2:=hk _ rfl
    rw [ht] at hk2
    exact ⟨by decide,hk2⟩
 have k1:((1:Int)≤((je c+1:Nat):Int))=True:=eq_true (by omega)
 have k2:(((je c+1:Nat):Int)≤((r.length+1:Nat):Int))=True:=eq_true (by omega)
 by_cases c3:0<je c
 ·have q1':=q1 (by omega)
  have xb:=xorB (f:=turned c) (c:=r.getD 0 0)
  by_cases c4:jb (turned c) (r.getD 0 0)=0
  ·rw [c4,show (((UInt8.toNat 0:Nat):Int))=0 from rfl] at xb
   simp+contextual only [WV,qj,show ((8:Int)<(je c:Int))=False from eq_false (by omega),hl,show (((r.length+1:Nat):Int)≤(je c:Int))=False from eq_false (by omega),show ((0:Int)<(je c:Int))=True from eq_true (by omega),show ((1:Int)).toNat=1 from rfl,show ((0:Int)≤1)=True from eq_true (by omega),q1',xb,show (1<((r.length+1:Nat):Int))=True from eq_true (by omega),↓U47,↓XP,↓XU,qn,XW1,qa,qb,qc,qd,qe,qf,reduceCtorEq]
   exact fun _ _=>hk _ (by rw [if_pos ⟨c3,c4⟩])
  ·have xz:((((jb (turned c) (r.getD 0 0)).toNat:Nat):Int)=0)=False:=eq_false (fun h=>c4 (UInt8.toNat_inj.1 (by simpa using h)))
   simp+contextual only [WV,qj,show ((8:Int)<(je c:Int))=False from eq_false (by omega),hl,show (((r.length+1:Nat):Int)≤(je c:Int))=False from eq_false (by omega),show ((0:Int)<(je c:Int))=True from eq_true (by omega),show ((1:Int)).toNat=1 from rfl,show ((0:Int)≤1)=True from eq_true (by omega),q1',xb,xz,show (1<((r.length+1:Nat):Int))=True from eq_true (by omega),wk,h1,k1,k2,hx2,tl2,↓U47,↓XP,↓XU,qn,XW1,qa,qb,qc,qd,qe,qf,reduceCtorEq]
   exact fun _ _ _=>fin (fun h=>c4 h.2) _ ⟨rfl,rfl,rfl,rfl,rfl,rfl,rfl,trivial⟩
 ·simp+contextual only [WV,qj,show ((8:Int)<(je c:Int))=False from eq_false (by omega),hl,show (((r.length+1:Nat):Int)≤(je c:Int))=False from eq_false (by omega),show ((0:Int)<(je c:Int))=False from eq_false (by omega),show ((1:Int)).toNat=1 from rfl,show ((0:Int)≤1)=True from eq_true (by omega),wk,h1,k1,k2,hx2,tl2,↓U47,↓XP,↓XU,qn,XW1,qa,qb,qc,qd,qe,qf,reduceCtorEq]
  exact fun _ _=>fin (fun h=>c3 h.1) _ ⟨rfl,rfl,rfl,rfl,rfl,rfl,rfl,trivial⟩
theorem zp {b:List UInt8} {H:AH} {R:D→AH→Prop} (h:R (.tup [.int .i64 (qP b).1,.int .i64 ((qP b).2.1:Int),.int .i64 (qP b).2.2]) H):ACall Tryz.prog 47 [.slc (b.map qA)] H R:=by
 refine b47 fun hf=>?_
 have hbig:=qt
 rcases hb:b with _|⟨c,r⟩
 ·subst hb
  simp+contextual only [WV,x47_s17,gF,x47_s16,gD,gq,JK,qj,List.length_nil,show ((((0:Nat):Int))=0)=True from eq_true rfl,↓XP,↓XU,qn,XW1,qa,qb,qc,qd,qe,qf,reduceCtorEq]
  exact fun _=>h
 have hk:∀t,qP (c::r)=t→R (.tup [.int .i64 t.1,.int .i64 (t.2.1:Int),.int .i64 t.2.2]) H:=fun t ht=>by rw [←ht,←hb];exact h
 clear h
 have q0:=vM (l:=c::r) (i:=0) (by simp)
 have q1:0<r.length→((c::r).map qA).getD 1 []= [.int .u8 ((r.getD 0 0).toNat:Int)]:=fun h=>by rw [vM (by simp;omega)];rfl
 simp only [List.getD_cons_zero] at q0
 have hl:((c::r).map qA).length=r.length+1:=by simp
 have hx2:(((c::r).map qA).take (je c+1)).drop 1=(r.take (je c)).map qA:=by rw [←List.map_take];rfl
 have h1:∀x∈(c::r).map qA,x.length=1:=jr
 generalize ((c::r).map qA)=xs at q0 q1 hl hx2 hf h1 ⊢
 have hz:(((r.length+1:Nat):Int)=0)=False:=eq_false (by omega)
 have hz2:((0:Int)<((r.length+1:Nat):Int))=True:=eq_true (by omega)
 have h8:=Yf c
 have hc:=c.toNat_lt
 have w1:=(jb (turned c) c).toNat_lt
 have w2:IntKind.i64.wrap (((jb (turned c) c).toNat:Int) - 128)=(je c:Int):=by rw [h8];unfold je;exact qJ (by split<;>omega) (by split<;>omega)
 have w3:IntKind.i64.wrap (((jb (turned c) c).toNat:Int))=((jb (turned c) c).toNat:Int):=qJ (by omega) (by omega)
 have xb:=xorB (f:=turned c) (c:=c)
 by_cases c1:c.toNat<128
 ·have ft:zK (turned c)=255:=by rw [turned,decide_eq_true c1];rfl
  have c1':((c.toNat:Int)<128)=True:=eq_true (by omega)
  rw [ft] at xb
  simp+contextual only [WV,x47_s17,gF,x47_s16,gD,gq,JK,qj,q0,hl,hz,hz2,c1',xb,w3,w2,Int.reduceToNat,Int.reduceLE,↓XP,↓XU,qn,XW1,qa,qb,qc,qd,qe,qf,reduceCtorEq]
  refine fun hlb _=>w_gi ⟨rfl,rfl,congrArg (fun x=>some (D.int .u8 x)) ft.symm,rfl,trivial⟩ hl h1 hlb q1 hx2 hk
 ·have ft:zK (turned c)=0:=by rw [turned,decide_eq_false c1];rfl
  have c1':((c.toNat:Int)<128)=False:=eq_false (by omega)
  rw [ft] at xb
  simp+contextual only [WV,x47_s17,gF,x47_s16,gD,gq,JK,qj,q0,hl,hz,hz2,c1',xb,w3,w2,Int.reduceToNat,Int.reduceLE,↓XP,↓XU,qn,XW1,qa,qb,qc,qd,qe,qf,reduceCtorEq]
  refine fun hlb _=>w_gi ⟨rfl,rfl,congrArg (fun x=>some (D.int .u8 x)) ft.symm,rfl,trivial⟩ hl h1 hlb q1 hx2 hk
end Go.Proofs.YtpdhandimdibhaaGreatDoor
end
section
namespace Go.Proofs.YtpdhandimdibhaaGreatDoor
open Go Go.Aw
def qz (b:List UInt8):Int×Nat×Int:=
 if (qP b).2.2≠0 then qP b else if (qP b).1<0 then ((qP b).1,(qP b).2.1,2)
 else if (b.length:Int) - (qP b).2.1<(qP b).1 then ((qP b).1,(qP b).2.1,3) else qP b
theorem G4 {b:List UInt8}:(qz b).2.1=(qP b).2.1:=by
 unfold qz
 repeat' split
 all_goals rfl
theorem Qx {b:List UInt8}:(qz b).2.1≤b.length:=by rw [G4];exact zy
theorem um {b:List UInt8} (h:(qz b).2.2=0):0≤(qz b).1∧(qz b).1+(qz b).2.1≤b.length∧qz b=qP b:=by
 unfold qz at h ⊢
 by_cases c1:(qP b).2.2≠0
 ·rw [if_pos c1] at h;exact (c1 h).elim
 rw [if_neg c1] at h ⊢
 by_cases c2:(qP b).1<0
 ·rw [if_pos c2] at h;simp at h
 rw [if_neg c2] at h ⊢
 by_cases c3:(b.length:Int) - (qP b).2.1<(qP b).1
 ·rw [if_pos c3] at h;simp at h
 rw [if_neg c3]
 exact ⟨by omega,by omega,rfl⟩
theorem Jg {n:Nat} {rest:List UInt8} (hn:n≤rest.length) (hb:n≤140737488355328):qz (qQ n++rest)=((n:Int),(qQ n).length,0):=by
 have h:=Kg (m:=(n:Int)) (rest:=rest) (Wa hb)
 unfold qz
 rw [h,if_neg (by simp),if_neg (by simp),if_neg (by simp;omega)]
def qX (b:List UInt8):List UInt8×Nat×Int:=
 if (qz b).2.2=0 then ((b.drop (qz b).2.1).take (qz b).1.toNat,(qz b).2.1+(qz b).1.toNat,0) else ([],0,(qz b).2.2)
theorem Qj {b:List UInt8}:(qX b).2.1≤b.length:=by
 unfold qX
 split
 ·next h=>have:=um h;simp;omega
 ·simp
theorem Ky {b:List UInt8}:(qX b).1.length≤b.length:=by
 unfold qX
 split
 ·simp;omega
 ·simp
theorem Jj {s rest:List UInt8} (hb:s.length≤140737488355328):qX (j6 s++rest)=(s,(j6 s).length,0):=by
 have h:=Jg (n:=s.length) (rest:=s++rest) (by simp) hb
 unfold qX j6
 rw [List.append_assoc,h]
 simp
def zl {α:Type} (f:List UInt8→α×Nat×Int):Nat→List UInt8→List α×Nat×Int
 |0,_=>([],0,0)
 | n+1,b=>if (f b).2.2≠0 then ([],0,(f b).2.2) else
  if (zl f n (b.drop (f b).2.1)).2.2≠0 then ([],0,(zl f n (b.drop (f b).2.1)).2.2)
  else ((f b).1::(zl f n (b.drop (f b).2.1)).1,(f b).2.1+(zl f n (b.drop (f b).2.1)).2.1,0)
def uY {α:Type} (f:List UInt8→α×Nat×Int) (b:List UInt8):List α×Nat×Int:=
 if (qz b).2.2≠0 then ([],0,(qz b).2.2) else
 if (zl f (qz b).1.toNat (b.drop (qz b).2.1)).2.2≠0 then ([],0,(zl f (qz b).1.toNat (b.drop (qz b).2.1)).2.2)
 else ((zl f (qz b).1.toNat (b.drop (qz b).2.1)).1,(qz b).2.1+(zl f (qz b).1.toNat (b.drop (qz b).2.1)).2.1,0)
theorem Zw {α:Type} {f:List UInt8→α×Nat×Int} (hf:∀b,(f b).2.1≤b.length):∀(n:Nat) (b:List UInt8),(zl f n b).2.1≤b.length∧(zl f n b).1.length≤n
 |0,b=>by simp [zl]
 | n+1,b=>by
  have h1:=hf b
  have h2:=Zw hf n (b.drop (f b).2.1)
  rw [List.length_drop] at h2
  unfold zl
  split
  ·simp
  ·split
   ·simp
   ·simp;omega
theorem Vh {α:Type} {f:List UInt8→α×Nat×Int} (hf:∀b,(f b).2.1≤b.length) {b:List UInt8}:(uY f b).2.1≤b.length∧(uY f b).1.length≤b.length:=by
 unfold uY
 split
 ·simp
 ·next h=>
  have h0:=um (Classical.not_not.1 h)
  have h2:=Zw hf (qz b).1.toNat (b.drop (qz b).2.1)
  rw [List.length_drop] at h2
  split
  ·simp
  ·constructor
   ·dsimp only;omega
   ·dsimp only;omega
theorem V0 {α:Type} {f:List UInt8→α×Nat×Int} {enc:α→List UInt8}:∀(l:List α) (rest:List UInt8),(∀x∈l,∀r,f (enc x++r)=(x,(enc x).length,0))→zl f l.length (l.flatMap enc++rest)=(l,(l.flatMap enc).length,0)
 | [],rest,_=>rfl
 | x::l,rest,h=>by
  have h1:=h x (.head _) (l.flatMap enc++rest)
  have h2:=V0 l rest (fun y hy=>h y (.tail _ hy))
  have e:(x::l).flatMap enc++rest=enc x++(l.flatMap enc++rest):=by simp
  rw [e,List.length_cons]
  unfold zl
  rw [h1]
  dsimp only
  rw [List.drop_left,h2]
  simp
theorem WR {α:Type} {enc:α→List UInt8}:∀{l:List α},(∀x∈l,0<(enc x).length)→l.length≤(l.flatMap enc).length
 | [],_=>by simp
 | x::l,h=>by
  have h1:=h x (.head _)
  have h2:=WR (l:=l) (fun y hy=>h y (.tail _ hy))
  simp only [List.flatMap_cons,List.length_append,List.length_cons]
  omega
theorem Yn {α:Type} {f:List UInt8→α×Nat×Int} {enc:α→List UInt8} {l:List α} {rest:List UInt8} (h:∀x∈l,∀r,f (enc x++r)=(x,(enc x).length,0)) (hp:∀x∈l,0<(enc x).length) (hb:l.length≤140737488355328):
  uY f (qQ l.length++l.flatMap enc++rest)=(l,(qQ l.length++l.flatMap enc).length,0):=by
 have h1:=WR hp
 have h2:=Jg (n:=l.length) (rest:=l.flatMap enc++rest) (by rw [List.length_append];omega) hb
 have h3:=V0 l rest h
 unfold uY
 rw [List.append_assoc,h2]
 dsimp only
 rw [if_neg (by simp),List.drop_left,Int.toNat_natCast,h3]
 simp
def jn (b:List UInt8):List Int×Nat×Int:=uY qP b
def kg (b:List UInt8):List (List UInt8)×Nat×Int:=uY qX b
theorem ints_le {b:List UInt8}:(jn b).2.1≤b.length∧(jn b).1.length≤b.length:=Vh fun _=>zy
theorem strs_le {b:List UInt8}:(kg b).2.1≤b.length∧(kg b).1.length≤b.length:=Vh fun _=>Qj
theorem Va {n:Int}:0<(qQ n).length:=by simp [qQ]
theorem UN {l:List Int} {rest:List UInt8} (h:∀x∈l,vk .i64 x) (hb:l.length≤140737488355328):jn (jg l++rest)=(l,(jg l).length,0):=
 Yn (enc:=qQ) (fun x hx r=>Kg (h x hx)) (fun x _=>Va) hb
theorem Z7 {l:List (List UInt8)} {rest:List UInt8} (h:∀x∈l,x.length≤140737488355328) (hb:l.length≤140737488355328):kg (yv l++rest)=(l,(yv l).length,0):=
 Yn (enc:=j6) (fun x hx r=>Jj (h x hx)) (fun x _=>by simp only [j6,List.length_append];have:=Va (n:=(x.length:Int));omega) hb
end Go.Proofs.YtpdhandimdibhaaGreatDoor
end
section
namespace Go.Proofs.YtpdhandimdibhaaGreatDoor
open Go Go.Aw
theorem Qe {b:List UInt8} {H:AH} {R:D→AH→Prop} (h:R (.tup [.int .i64 (qz b).1,.int .i64 ((qz b).2.1:Int),.int .i64 (qz b).2.2]) H):ACall Tryz.prog 78 [.slc (b.map qA),.int .i64 1] H R:=by
 refine b78 fun hf=>?_
 have hbig:=qt
 have hle:=zy (b:=b)
 unfold qz at h
 simp+contextual only [x78,qj,↓U78,↓XP,↓XU,qn,XW1,qa,qb,qc,qd,qe,qf,reduceCtorEq]
 refine zp ?_
 generalize qP b=t at h hle ⊢
 obtain ⟨n,k,e⟩:=t
 dsimp only at h hle ⊢
 rcases Classical.em (e=0) with c1|c1
 ·subst c1
  rw [if_neg (by simp)] at h
  rcases Classical.em (n<0) with c2|c2
  ·rw [if_pos c2] at h
   simp+contextual only [x78,qj,eq_true c2,↓U78,↓XP,↓XU,qn,XW1,qa,qb,qc,qd,qe,qf,reduceCtorEq]
   exact fun _ _ _=>h
  ·rw [if_neg c2] at h
   simp+contextual only [x78,qj,eq_false c2,↓U78,↓XP,↓XU,qn,XW1,qa,qb,qc,qd,qe,qf,reduceCtorEq]
   refine fun _ _ _ hb=>⟨by decide,?_⟩
   have w1:IntKind.i64.wrap ((b.length:Int) - k)=(b.length:Int) - k:=qJ (by omega) (by omega)
   rw [w1,Int.tdiv_one,w1]
   refine ⟨fun c=>?_,fun c=>?_⟩
   ·rw [if_pos c] at h
    exact h
   ·rw [if_neg c] at h
    exact h
 ·rw [if_pos c1] at h
  simp+contextual only [x78,qj,eq_false c1,↓U78,↓XP,↓XU,qn,XW1,qa,qb,qc,qd,qe,qf,reduceCtorEq]
  exact fun _ _ _=>h
theorem Vt {b:List UInt8} {k m:Nat}:((b.map qA).take (k+m)).drop k=((b.drop k).take m).map qA:=by
 rw [←List.map_take,←List.map_drop,List.drop_take,Nat.add_sub_cancel_left]
theorem Ja {b:List UInt8} (h:fact (.slc (b.map qA))):b.length≤140737488355328:=by
 have:=h
 rw [f_slc,qj,qt] at this
 exact this
theorem zW {b:List UInt8} {H:AH} {R:D→AH→Prop} (h:R (.tup [.str (qX b).1,.int .i64 ((qX b).2.1:Int),.int .i64 (qX b).2.2]) H):ACall Tryz.prog 50 [.slc (b.map qA)] H R:=by
 refine b50 fun hf=>?_
 have hbig:=qt
 have hle:=Qx (b:=b)
 have hok:=um (b:=b)
 unfold qX at h
 simp+contextual only [x50,qj,↓U50,↓XP,↓XU,qn,XW1,qa,qb,qc,qd,qe,qf,reduceCtorEq]
 refine Qe ?_
 have hok2:(qz b).2.2=0→0≤(qz b).1∧(qz b).1+(qz b).2.1≤b.length:=fun h=>⟨(hok h).1,(hok h).2.1⟩
 clear hok
 generalize qz b=t at h hle hok2 ⊢
 obtain ⟨n,k,e⟩:=t
 dsimp only at h hle hok2 ⊢
 rcases Classical.em (e=0) with c1|c1
 ·subst c1
  rw [if_pos rfl] at h
  obtain ⟨g1,g2⟩:=hok2 rfl
  have hb:=Ja hf.1
  obtain ⟨m,rfl⟩:=Int.eq_ofNat_of_zero_le g1
  have w1:IntKind.i64.wrap ((k:Int)+(m:Int))=((k+m:Nat):Int):=by rw [qJ (by omega) (by omega)];omega
  dsimp only at h
  rw [Int.toNat_natCast] at h
  simp+contextual only [x50,qj,w1,Vt,K4,↓U50,↓XP,↓XU,qn,XW1,qa,qb,qc,qd,qe,qf,reduceCtorEq]
  refine fun _ _ _=>⟨jr,by omega,by omega,gr,fun _=>h⟩
 ·rw [if_neg c1] at h
  simp+contextual only [x50,qj,eq_false c1,↓U50,↓XP,↓XU,qn,XW1,qa,qb,qc,qd,qe,qf,reduceCtorEq]
  exact fun _ _ _=>h
end Go.Proofs.YtpdhandimdibhaaGreatDoor
end
section
namespace Go.Proofs.YtpdhandimdibhaaGreatDoor
open Go Go.Aw
def gd {α:Type} (acc:List α) (a:Nat) (r:List α×Nat×Int):List α×Nat×Int:=if r.2.2≠0 then ([],0,r.2.2) else (acc++r.1,a+r.2.1,0)
theorem WB {α:Type} {f:List UInt8→α×Nat×Int} {acc:List α} {a m:Nat} {b:List UInt8} (h:¬(f (b.drop a)).2.2=0):gd acc a (zl f (m+1) (b.drop a))=([],0,(f (b.drop a)).2.2):=by
 unfold zl
 rw [if_pos h]
 unfold gd
 rw [if_pos h]
theorem KO {α:Type} {f:List UInt8→α×Nat×Int} {acc:List α} {a m:Nat} {b:List UInt8} (h:(f (b.drop a)).2.2=0):
  gd acc a (zl f (m+1) (b.drop a))=gd (acc++ [(f (b.drop a)).1]) (a+(f (b.drop a)).2.1) (zl f m (b.drop (a+(f (b.drop a)).2.1))):=by
 rw [zl,if_neg (fun c=>c h),List.drop_drop]
 generalize zl f m (b.drop (a+(f (b.drop a)).2.1))=t
 by_cases c:t.2.2=0
 ·simp [gd,c,Nat.add_assoc]
 ·simp [gd,c]
theorem Wy {α:Type} {f:List UInt8→α×Nat×Int} {acc:List α} {a:Nat} {b:List UInt8}:gd acc a (zl f 0 b)=(acc,a,0):=by
 simp [gd,zl]
theorem Yo {α:Type} {f:List UInt8→α×Nat×Int} {b:List UInt8} (h:(qz b).2.2=0):uY f b=gd [] (qz b).2.1 (zl f (qz b).1.toNat (b.drop (qz b).2.1)):=by
 unfold uY gd
 rw [if_neg (fun c=>c h)]
 simp
theorem kJ {b:List UInt8} {a:Nat}:((b.map qA).take (b.length)).drop a=(b.drop a).map qA:=by
 rw [←List.map_take,←List.map_drop,List.take_length]
theorem QP {b:List UInt8} {H:AH} {R:D→AH→Prop} (hB:b.length≤1000000000) (h:R (.tup [.own (strs (kg b).1),.int .i64 ((kg b).2.1:Int),.int .i64 (kg b).2.2]) H):ACall Tryz.prog 77 [.slc (b.map qA)] H R:=by
 refine b77 fun hf=>?_
 have hbig:=qt
 have hle:=Qx (b:=b)
 have hok:=um (b:=b)
 have hb:=Ja hf.1
 have hfin:=Yo (f:=qX) (b:=b)
 have hk:∀t,kg b=t→R (.tup [.own (strs t.1),.int .i64 (t.2.1:Int),.int .i64 t.2.2]) H:=fun t ht=>by rw [←ht];exact h
 clear h
 unfold kg at hk
 simp+contextual only [x77,qj,↓U77,↓XP,↓XU,qn,XW1,qa,qb,qc,qd,qe,qf,reduceCtorEq]
 refine Qe ?_
 have hok2:(qz b).2.2=0→0≤(qz b).1∧(qz b).1+(qz b).2.1≤b.length:=fun h=>⟨(hok h).1,(hok h).2.1⟩
 have hbad:¬(qz b).2.2=0→uY qX b=([],0,(qz b).2.2):=fun h=>by unfold uY;rw [if_pos h]
 clear hok
 generalize qz b=t at hfin hle hok2 hbad ⊢
 obtain ⟨n,k,e⟩:=t
 dsimp only at hfin hle hok2 hbad ⊢
 rcases Classical.em (e=0) with c1|c1
 ·subst c1
  obtain ⟨g1,g2⟩:=hok2 rfl
  replace hfin:=hfin rfl
  obtain ⟨n,rfl⟩:=Int.eq_ofNat_of_zero_le g1
  rw [Int.toNat_natCast] at hfin
  simp+contextual only [x77,qj,↓U77,↓XP,↓XU,qn,XW1,qa,qb,qc,qd,qe,qf,reduceCtorEq]
  refine fun _ _ _=>XW.loopK Go.Proofs.YtpdhandimdibhaaGreatDoor.hm (fun F H'=>∃(i a:Nat) (acc:List (List UInt8)),i≤n∧a≤b.length∧acc.length=i∧uY qX b=gd acc a (zl qX (n - i) (b.drop a))∧Fr 45 [(0,.slc (b.map qA)),(6,.int .i64 (a:Int)),(8,.own (strs acc)),(21,.int .i64 (n:Int)),(22,.int .i64 (i:Int))] F∧H=H') (fun F H=>match F.getD 22 .any with| .int _ n'=>n - n'.toNat|_=>0) ⟨0,k,[],by omega,by omega,rfl,hfin,⟨rfl,rfl,rfl,rfl,rfl,rfl,trivial⟩,rfl⟩ ?_
  rintro _ _ ⟨i,a,acc,hi,ha,hac,hfi,hF,rfl⟩ K hN hE hR
  obtain ⟨z,rfl⟩:∃z:Nat→D,_= .slc (b.map qA)::zz z 1 5 (.int .i64 (a:Int)::z 7:: .own (strs acc)::zz z 9 12 (.int .i64 (n:Int):: .int .i64 (i:Int)::zz z 23 22 [])):=hF.lit
  try dsimp only [zz,qb] at*
  clear hF
  have sl:(strs acc).length=acc.length:=qK
  have wa:=kJ (b:=b) (a:=a)
  rcases Classical.em (i<n) with hlt|hlt
  ·obtain ⟨m,hm⟩:∃m,n - i=m+1:=⟨n - i - 1,by omega⟩
   rw [hm] at hfi
   have q1:=Qj (b:=b.drop a)
   rw [List.length_drop] at q1
   have nx:(qX (b.drop a)).2.2=0→∀F',Fr 45 [(0,.slc (b.map qA)),(6,.int .i64 ((a+(qX (b.drop a)).2.1:Nat):Int)),(8,.own (strs (acc++ [(qX (b.drop a)).1]))),(21,.int .i64 (n:Int)),(22,.int .i64 ((i+1:Nat):Int))] F'→K .normal F' H:=fun he F' hF'=>hN _ _ ⟨i+1,a+(qX (b.drop a)).2.1,acc++ [(qX (b.drop a)).1],by omega,by omega,by simp;omega,by rw [hfi,KO he,show n - (i+1)=m by omega],hF',(j7 rfl).symm⟩ (by
    rw [List.getD_eq_getElem?_getD,hF'.2.2.2.2.2.1]
    simp only [List.getD_cons_succ,List.getD_cons_zero,Option.getD_some]
    omega)
   have bad:¬(qX (b.drop a)).2.2=0→R (.tup [.own (strs []),.int .i64 0,.int .i64 (qX (b.drop a)).2.2]) H:=fun he=>hk ([],0,(qX (b.drop a)).2.2) (by rw [hfi,WB he])
   clear hN hE hk hfin hbad hfi
   simp+contextual only [x77,qj,hlt,Int.ofNat_lt,wa,↓U77,↓XP,↓XU,qn,XW1,qa,qb,qc,qd,qe,qf,reduceCtorEq]
   refine ⟨jr,by omega,zW ?_⟩
   generalize qX (b.drop a)=t at q1 nx bad ⊢
   obtain ⟨s,k,e⟩:=t
   dsimp only at q1 nx bad ⊢
   rcases Classical.em (e=0) with c2|c2
   ·subst c2
    have w2:IntKind.i64.wrap ((a:Int)+(k:Int))=((a+k:Nat):Int):=by rw [qJ (by omega) (by omega)];omega
    simp+contextual only [x77,qj,w2,qp (show i≤big by omega),↓U77,↓XP,↓XU,qn,XW1,qa,qb,qc,qd,qe,qf,reduceCtorEq]
    refine fun _ _ _=>⟨Kk,by omega,nx rfl _ ?_⟩
    rw [show strs (acc++ [s])=strs acc++ [[.str s]] by simp [strs]]
    exact ⟨rfl,rfl,rfl,rfl,rfl,rfl,trivial⟩
   ·simp+contextual only [x77,qj,eq_false c2,↓U77,↓XP,↓XU,qn,XW1,qa,qb,qc,qd,qe,qf,reduceCtorEq]
    refine fun _ _ _=>hR _ _ ?_
    simp+contextual only [x77,qj,↓U77,↓XP,↓XU,qn,XW1,qa,qb,qc,qd,qe,qf,reduceCtorEq]
    exact bad c2
  ·have hik:i=n:=by omega
   subst hik
   clear hN
   rw [Nat.sub_self,Wy] at hfi
   simp+contextual only [x77,qj,hlt,↓U77,↓XP,↓XU,qn,XW1,qa,qb,qc,qd,qe,qf,reduceCtorEq]
   refine hE _ _ _ ?_
   simp+contextual only [x77,qj,↓U77,↓XP,↓XU,qn,XW1,qa,qb,qc,qd,qe,qf,reduceCtorEq]
   exact hk _ hfi
 ·simp+contextual only [x77,qj,eq_false c1,↓U77,↓XP,↓XU,qn,XW1,qa,qb,qc,qd,qe,qf,reduceCtorEq]
  exact fun _ _ _=>hk _ (hbad c1)
theorem r94 {args:List D} {H:AH} {R:D→AH→Prop} (h:facts args→xcode Tryz.prog x94 (args++List.replicate (6 - args.length) (.tup [])) H (JB Tryz.prog [(.tmp 4)] R)):ACall Tryz.prog 94 args H R:=
 yy hm Tryz.func94 rfl (by kernel_rfl) (by kernel_rfl) (by kernel_rfl) (by kernel_rfl) (by kernel_rfl) (by kernel_rfl) h
theorem Gc {fi:Nat} {b:List UInt8} {a:Nat} {H:AH} {R:D→AH→Prop} (hfi:fi=103) (h:∀b2 b3,qD H b2→(b2≠b3∧qD H b3)→R (.fn fi [.ptr b2 0,.ptr b3 0]) ((b3,.cells [.int .i64 a])::(b2,.cells [.slc (b.map qA)])::H)):ACall Tryz.prog 94 [.slc (b.map qA),.int .i64 a] H R:=by
 refine r94 fun hf=>?_
 subst hfi
 simp+contextual only [x94,kN,j8,ji,↓XP,↓XU,qn,XW1,qa,qb,qc,qd,qe,qf,reduceCtorEq]
 refine fun b2 h2 b3 h3=>⟨_,Sbn.sub (List.Sublist.refl _),h b2 b3 h2 h3⟩
theorem UR {b:List UInt8} {a b2 b3:Nat} {H:AH} {R:D→AH→Prop} (ha:a≤b.length) (hne:b2≠b3) (h2:qu H b2=none) (h3:qu H b3=none)
  (h:b.length≤140737488355328→R (.tup [.int .i64 (qP (b.drop a)).1,.int .i64 ((a+(qP (b.drop a)).2.1:Nat):Int),.int .i64 (qP (b.drop a)).2.2]) ((b3,.cells [.int .i64 ((a+(qP (b.drop a)).2.1:Nat):Int)])::(b2,.cells [.slc (b.map qA)])::H)):
  ACall Tryz.prog 103 [.ptr b2 0,.ptr b3 0] ((b3,.cells [.int .i64 a])::(b2,.cells [.slc (b.map qA)])::H) R:=by
 refine b103 fun hf=>?_
 have hbig:=qt
 have q1:=zy (b:=b.drop a)
 rw [List.length_drop] at q1
 have hne':=Ne.symm hne
 simp+contextual only [x103,qj,kJ,qg hne,↓U103,↓XP,↓XU,qn,XW1,qa,qb,qc,qd,qe,qf,reduceCtorEq]
 refine fun hb _=>⟨jr,by omega,zp ?_⟩
 replace h:=h (by omega)
 generalize qP (b.drop a)=t at h q1 ⊢
 obtain ⟨x,k,e⟩:=t
 dsimp only at h q1 ⊢
 have w1:IntKind.i64.wrap ((a:Int)+(k:Int))=((a+k:Nat):Int):=by rw [qJ (by omega) (by omega)];omega
 simp+contextual only [x103,qj,kJ,qg hne,w1,↓U103,↓XP,↓XU,qn,XW1,qa,qb,qc,qd,qe,qf,reduceCtorEq]
 exact fun _ _ _ _ _=>h
theorem YV {b:List UInt8} {H:AH} {R:D→AH→Prop} (hB:b.length≤1000000000) (h:R (.tup [.own (ints (jn b).1),.int .i64 ((jn b).2.1:Int),.int .i64 (jn b).2.2]) H):ACall Tryz.prog 75 [.slc (b.map qA)] H R:=by
 refine b75 fun hf=>?_
 have hbig:=qt
 have hle:=Qx (b:=b)
 have hok:=um (b:=b)
 have hfin:=Yo (f:=qP) (b:=b)
 have hk:∀t,jn b=t→R (.tup [.own (ints t.1),.int .i64 (t.2.1:Int),.int .i64 t.2.2]) H:=fun t ht=>by rw [←ht];exact h
 clear h
 unfold jn at hk
 simp+contextual only [ZW,qj,↓U75,↓XP,↓XU,qn,XW1,qa,qb,qc,qd,qe,qf,reduceCtorEq]
 refine Qe ?_
 have hok2:(qz b).2.2=0→0≤(qz b).1∧(qz b).1+(qz b).2.1≤b.length:=fun h=>⟨(hok h).1,(hok h).2.1⟩
 have hbad:¬(qz b).2.2=0→uY qP b=([],0,(qz b).2.2):=fun h=>by unfold uY;rw [if_pos h]
 clear hok
 generalize qz b=t at hfin hle hok2 hbad ⊢
 obtain ⟨n,k,e⟩:=t
 dsimp only at hfin hle hok2 hbad ⊢
 rcases Classical.em (e=0) with c1|c1
 ·subst c1
  obtain ⟨g1,g2⟩:=hok2 rfl
  replace hfin:=hfin rfl
  obtain ⟨n,rfl⟩:=Int.eq_ofNat_of_zero_le g1
  rw [Int.toNat_natCast] at hfin
  simp+contextual only [ZW,qj,↓U75,↓XP,↓XU,qn,XW1,qa,qb,qc,qd,qe,qf,reduceCtorEq]
  obtain ⟨fi,hfi⟩:∃fi,fi=103:=⟨_,rfl⟩
  refine fun _ _ _=>Gc (fi:=fi) hfi fun b2 b3 h2 h3=>?_
  have n2:=jf h2
  have n3:=jf h3.2
  simp+contextual only [ZW,qj,↓U75,↓XP,↓XU,qn,XW1,qa,qb,qc,qd,qe,qf,reduceCtorEq]
  refine XW.loopK Go.Proofs.YtpdhandimdibhaaGreatDoor.hm (fun F H'=>∃(i a:Nat) (acc:List Int),i≤n∧a≤b.length∧acc.length=i∧uY qP b=gd acc a (zl qP (n - i) (b.drop a))∧Fr 45 [(6,.int .i64 (a:Int)),(8,.fn fi [.ptr b2 0,.ptr b3 0]),(9,.own (ints acc)),(25,.int .i64 (n:Int)),(26,.int .i64 (i:Int))] F∧H'=((b3,.cells [.int .i64 a])::(b2,.cells [.slc (b.map qA)])::H)) (fun F H=>match F.getD 26 .any with| .int _ n'=>n - n'.toNat|_=>0) ⟨0,k,[],by omega,by omega,rfl,hfin,⟨rfl,rfl,rfl,rfl,rfl,rfl,trivial⟩,rfl⟩ ?_
  rintro _ _ ⟨i,a,acc,hi,ha,hac,hfi',hF,rfl⟩ K hN hE hR
  obtain ⟨z,rfl⟩:∃z:Nat→D,_=zz z 0 6 (.int .i64 (a:Int)::z 7:: .fn fi [.ptr b2 0,.ptr b3 0]:: .own (ints acc)::zz z 10 15 (.int .i64 (n:Int):: .int .i64 (i:Int)::zz z 27 18 [])):=hF.lit
  try dsimp only [zz,qb] at*
  clear hF
  have sl:(ints acc).length=acc.length:=qr
  rcases Classical.em (i<n) with hlt|hlt
  ·obtain ⟨m,hm⟩:∃m,n - i=m+1:=⟨n - i - 1,by omega⟩
   rw [hm] at hfi'
   have q1:=zy (b:=b.drop a)
   rw [List.length_drop] at q1
   have nx:(qP (b.drop a)).2.2=0→∀F' H',back ((b3,AO.cells [.int .i64 a])::(b2,AO.cells [.slc (b.map qA)])::H).length H'=((b3,AO.cells [.int .i64 ((a+(qP (b.drop a)).2.1:Nat):Int)])::(b2,AO.cells [.slc (b.map qA)])::H)→Fr 45 [(6,.int .i64 ((a+(qP (b.drop a)).2.1:Nat):Int)),(8,.fn fi [.ptr b2 0,.ptr b3 0]),(9,.own (ints (acc++ [(qP (b.drop a)).1]))),(25,.int .i64 (n:Int)),(26,.int .i64 ((i+1:Nat):Int))] F'→K .normal F' H':=fun he F' H' hH hF'=>hN _ _ ⟨i+1,a+(qP (b.drop a)).2.1,acc++ [(qP (b.drop a)).1],by omega,by omega,by simp;omega,by rw [hfi',KO he,show n - (i+1)=m by omega],hF',hH⟩ (by
    rw [List.getD_eq_getElem?_getD,hF'.2.2.2.2.2.1]
    simp only [List.getD_cons_succ,List.getD_cons_zero,Option.getD_some]
    omega)
   have bad:¬(qP (b.drop a)).2.2=0→R (.tup [.own (ints []),.int .i64 0,.int .i64 (qP (b.drop a)).2.2]) H:=fun he=>hk ([],0,(qP (b.drop a)).2.2) (by rw [hfi',WB he])
   clear hN hE hk hfin hbad hfi'
   simp+contextual only [ZW,qj,hlt,Int.ofNat_lt,↓U75,↓XP,↓XU,qn,XW1,qa,qb,qc,qd,qe,qf,reduceCtorEq]
   rw [hfi]
   refine UR ha h3.1 n2 n3 fun _=>?_
   rw [←hfi]
   generalize qP (b.drop a)=t at q1 nx bad ⊢
   obtain ⟨s,k,e⟩:=t
   dsimp only at q1 nx bad ⊢
   rcases Classical.em (e=0) with c2|c2
   ·subst c2
    simp+contextual only [ZW,qj,qp (show i≤big by omega),↓U75,↓XP,↓XU,qn,XW1,qa,qb,qc,qd,qe,qf,reduceCtorEq]
    refine fun _ _ _=>⟨ug,by omega,nx rfl _ _ (j7 rfl) ?_⟩
    rw [show ints (acc++ [s])=ints acc++ [[.int .i64 s]] by simp [ints]]
    exact ⟨rfl,rfl,rfl,rfl,rfl,rfl,trivial⟩
   ·simp+contextual only [ZW,qj,eq_false c2,↓U75,↓XP,↓XU,qn,XW1,qa,qb,qc,qd,qe,qf,reduceCtorEq]
    refine fun _ _ _=>hR _ _ ?_
    simp+contextual only [ZW,qj,↓U75,↓XP,↓XU,qn,XW1,qa,qb,qc,qd,qe,qf,reduceCtorEq]
    exact bad c2
  ·have hik:i=n:=by omega
   subst hik
   clear hN
   rw [Nat.sub_self,Wy] at hfi'
   simp+contextual only [ZW,qj,hlt,↓U75,↓XP,↓XU,qn,XW1,qa,qb,qc,qd,qe,qf,reduceCtorEq]
   refine hE _ _ _ ?_
   simp+contextual only [ZW,qj,↓U75,↓XP,↓XU,qn,XW1,qa,qb,qc,qd,qe,qf,reduceCtorEq]
   exact hk _ hfi'
 ·simp+contextual only [ZW,qj,eq_false c1,↓U75,↓XP,↓XU,qn,XW1,qa,qb,qc,qd,qe,qf,reduceCtorEq]
  exact fun _ _ _=>hk _ (hbad c1)
end Go.Proofs.YtpdhandimdibhaaGreatDoor
end
section
namespace Go.Proofs.YtpdhandimdibhaaGreatDoor
open Go Go.Aw
def vn (b:List UInt8) (bad:Bool):AO:= .cells [.slc (b.map qA),.bool bad]
theorem JT {b:List UInt8} {bad:Bool} {br k:Nat} {e:Int} {H:AH} {R:D→AH→Prop} (hk:k≤b.length) (hg:qu H br=some (vn b bad))
  (h:R (.tup []) (qF H br (vn (b.drop k) (bad||decide (e≠0))))):ACall Tryz.prog 48 [.ptr br 0,.int .i64 k,.int .i64 e] H R:=by
 refine b48 fun hf=>?_
 have hbig:=qt
 unfold vn at hg h
 have hs2:∀o,qu (qF H br o) br=some o:=fun o=>Ji (by rw [hg];rfl)
 have hs3:∀o o',qF (qF H br o) br o'=qF H br o':=fun o o'=>QY
 cases bad with
 | true=>
  simp+contextual only [x48,qj,kJ,hg,hs2,hs3,↓YJ,↓XP,↓XU,qn,XW1,qa,qb,qc,qd,qe,qf,reduceCtorEq]
  exact fun _=>⟨jr,by omega,h⟩
 | false=>
  rcases Classical.em (e=0) with c|c
  ·subst c
   simp+contextual only [x48,qj,kJ,hg,hs2,hs3,↓YJ,↓XP,↓XU,qn,XW1,qa,qb,qc,qd,qe,qf,reduceCtorEq]
   exact fun _=>⟨jr,by omega,h⟩
  ·rw [decide_eq_true (show e≠0 from c)] at h
   simp+contextual only [x48,qj,kJ,hg,hs2,hs3,eq_false c,↓YJ,↓XP,↓XU,qn,XW1,qa,qb,qc,qd,qe,qf,reduceCtorEq]
   exact fun _=>⟨jr,by omega,h⟩
def yl (b:List UInt8) (bad:Bool) (many:Int) (by':Nat):Bool:=bad||decide ((jn b).2.2≠0)||decide ((0≤many∧((jn b).1.length:Int)≠many)∨(jn b).1.length % by'≠0)
def QS (b:List UInt8) (bad:Bool) (many:Int) (by':Nat):List Int:=if yl b bad many by'=true then List.replicate many.toNat 0 else (jn b).1
theorem oG {b:List UInt8} {bad:Bool} {br by':Nat} {many:Int} {H:AH} {R:D→AH→Prop} (hB:b.length≤1000000000) (hm:many≤1000) (h0:0<by') (hby:by'≤1000) (hg:qu H br=some (vn b bad))
  (h:∀d:D,d.view= .slc (ints (QS b bad many by'))→R d (qF H br (vn (b.drop (jn b).2.1) (yl b bad many by')))):ACall Tryz.prog 45 [.ptr br 0,.int .i64 many,.int .i64 by'] H R:=by
 refine b45 fun hf=>?_
 have hbig:=qt
 have hle:=ints_le (b:=b)
 have hg':=hg
 unfold vn at hg'
 have hs2:∀o,qu (qF H br o) br=some o:=fun o=>Ji (by rw [hg];rfl)
 have hs3:∀o o',qF (qF H br o) br o'=qF H br o':=fun o o'=>QY
 simp+contextual only [x45,qj,kJ,hs2,hs3,qr,hg',↓U45,↓XP,↓XU,qn,XW1,qa,qb,qc,qd,qe,qf,reduceCtorEq]
 refine fun _=>YV hB ?_
 simp+contextual only [x45,qj,kJ,hs2,hs3,qr,hg',↓U45,↓XP,↓XU,qn,XW1,qa,qb,qc,qd,qe,qf,reduceCtorEq]
 refine fun _ _ _=>JT hle.1 hg ?_
 generalize (jn b).2.1=k at hle h ⊢
 unfold yl QS yl at h
 generalize (jn b).2.2=e at h ⊢
 generalize (jn b).1=l at hle h ⊢
 have hb1:(bad=true∨e≠0∨(0≤many∧(l.length:Int)≠many)∨l.length % by'≠0)→R (.own (List.replicate many.toNat [.int .i64 0])) (qF H br (.cells [.slc ((b.drop k).map qA),.bool true])):=fun hc=>by
  have e1:(bad||decide (e≠0)||decide ((0≤many∧(l.length:Int)≠many)∨l.length % by'≠0))=true:=by simpa [or_assoc] using hc
  rw [e1,if_pos rfl] at h
  exact h _ (by rw [show ints (List.replicate many.toNat 0)=List.replicate many.toNat [.int .i64 0] by simp [ints]];rfl)
 have hb2:¬(bad=true∨e≠0∨(0≤many∧(l.length:Int)≠many)∨l.length % by'≠0)→R (.slc (ints l)) (qF H br (.cells [.slc ((b.drop k).map qA),.bool false])):=fun hc=>by
  have e1:(bad||decide (e≠0)||decide ((0≤many∧(l.length:Int)≠many)∨l.length % by'≠0))=false:=by
   rw [←Bool.not_eq_true]
   intro hh
   exact hc (by simpa [or_assoc] using hh)
  rw [e1,if_neg (by simp)] at h
  exact h _ rfl
 clear h
 obtain ⟨i,i1,i2⟩:∃i,Tryz.prog.info? 3=some i∧i.bytes=8:=⟨_,rfl,rfl⟩
 have m1:(if 0>many then (0:Int) else many)=(many.toNat:Int):=by split<;>omega
 have m2:(0≤(many.toNat:Int))=True:=eq_true (by omega)
 have m3:(((8:Nat):Int)*(many.toNat:Int)≤140737488355328)=True:=eq_true (by omega)
 have m4:((many.toNat:Int)≤140737488355328)=True:=eq_true (by omega)
 have m5:((by':Int)=0)=False:=eq_false (by omega)
 have m6:((l.length:Int)).tmod (by':Int)=((l.length % by':Nat):Int):=rfl
 have go:∀{p q:Prop},(p→q)→(¬p→q)→q:=fun a b=>(Classical.em _).elim a b
 refine go (p:=e=0) (fun c2=>?_) (fun c2=>?_)<;>refine go (p:=0≤many) (fun c3=>?_) (fun c3=>?_)<;>refine go (p:=(l.length:Int)=many) (fun c4=>?_) (fun c4=>?_)<;>refine go (p:=l.length % by'=0) (fun c5=>?_) (fun c5=>?_)<;>cases bad
 all_goals
  first
   |have c2':=eq_false c2
   |have c2':=eq_true c2
  first
   |have c3':=eq_false c3
   |have c3':=eq_true c3
  first
   |have c4':=eq_false c4
   |have c4':=eq_true c4
  first
   |have c5':(((l.length % by':Nat):Int)=0)=True:=eq_true (by omega)
   |have c5':(((l.length % by':Nat):Int)=0)=False:=eq_false (by omega)
  simp+contextual only [x45,qj,kJ,hs2,hs3,qr,vn,i1,i2,m1,m2,m3,m4,m5,m6,c2',c3',c4',c5',Int.toNat_natCast,↓U45,↓XP,↓XU,qn,XW1,qa,qb,qc,qd,qe,qf,reduceCtorEq]
  intros
  first
   |(exfalso;omega)
   |exact hb1 (by simp [*])
   |exact hb2 (by simp [*])
end Go.Proofs.YtpdhandimdibhaaGreatDoor
end
