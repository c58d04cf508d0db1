/- A part of the proof of what the last text says: Gk2, Gk3, Gk4, Gk5, Gm6, Gf2, Gt0, Gt1, XcG, Gt2, Gt3, Gt4, Gt5, Gt9, Kh1, Gt6, Gt8, Kh2, Hk1, Gp2, Gf4, Gn1, Gn3, Gn4, Gi1, Gq3, Gq4, Gq5, Gr0, XcD, XcF. Conditions: those in each theorem. -/
import Derived.Test.YtgopigkdcmhbbaaGreatDoorT6
import Derived.KernelRfl
import Derived.Test.YtgopigkdcmhbbaaGreatDoorCards
import Derived.Test.YtgopigkdcmhbbaaGreatDoorTie
import Derived.Deep.DeepHandedRow
import Derived.Lib.LaidTab
set_option autoImplicit true
set_option relaxedAutoImplicit true
set_option linter.unusedVariables false
set_option linter.unusedSimpArgs false
set_option maxRecDepth 100000
set_option maxHeartbeats 16000000
open List renaming getD_eq_getElem?_getD -> Na,getElem?_eq_getElem -> Nb,getD_cons_succ -> Nc,getD_cons_zero -> Nd,getElem?_map -> Nf,length_append -> Ni,length_cons -> Nj,length_nil -> Nk,mem_of_getElem? -> Nm,getElem?_append_left -> Nn,append_assoc -> No,length_set -> Nr,mem_cons -> Nu,append_nil -> Nw,nil_append -> Ny,cons_append -> Nz,not_mem_nil -> N0,flatten_cons -> N1,length_replicate -> N2
open Option renaming getD_some -> Ng,map_eq_some_iff -> Nl
open Int renaming toNat_natCast -> Nh,reduceToNat -> Nq,eq_ofNat_of_zero_le -> Nv
open Nat renaming le_trans -> Np,zero_add -> Nt,reduceSub -> qa,reduceAdd -> qb,reduceMul -> qc,reduceEqDiff -> qd,reduceLeDiff -> qe,reduceBEq -> qf
section
namespace Go.Proofs.YtgopigkdcmhbbaaGreatDoor
open Go Go.Aw
variable {R:D->AH->Prop}
theorem mN (h:∀k:Int,(0<=k↔x∈l)->R (.i k) H):ACall Tryz.prog 120 [.slc (j5 l),.agg x.d] H R:=by
 refine LT fun hf=>?_
 have hbig:=qk
 have hlen:(j5 l).length<=big:=hf.1
 rw [qJ] at hlen
 have hxd:x.d= [.i x.o,.i x.s,.i x.i]:=rfl
 simp+contextual only [↓eX,qJ,hxd,↓eX,↓XP,qh,qa,qb]
 intro b1 h1
 simp only [<-hxd]
 refine fun _=>XW.loopK hmm (fun F H'=>∃(i:Nat),i<=l.length∧x ∉ l.take i∧Fr 19 [(0,.slc (j5 l)),(3,.ptr b1 0),(7,.i l.length),(8,.i i)] F∧((b1,AO.cells x.d)::H)=H') (fun F H=>match F.getD 8 .any with| .int _ n'=>l.length - n'.toNat|_=>0) ⟨0,by omega,by simp,⟨rfl,rfl,rfl,rfl,rfl,trivial⟩,rfl⟩ ?_
 rintro _ _ ⟨i,hi,hn,hF,rfl⟩ K hN hE hR
 obtain ⟨z,rfl⟩:=hF.fl rfl
 try dsimp only [fl,zz,qa,qb] at*
 clear hF
 by_cases hlt:i<l.length
 ·have nx:x ∉ l.take (i+1)->∀F',Fr 19 [(0,.slc (j5 l)),(3,.ptr b1 0),(7,.i l.length),(8,.i ((i+1:Nat):Int))] F'->K .normal F' ((b1,AO.cells x.d)::H):=fun hn F' hF'=>hN _ _ ⟨i+1,hlt,hn,hF',(qz rfl).symm⟩ (by
   rw [Na,hF'.2.2.2.2.1]
   simp only [Nc,Nd,Ng]
   omega)
  clear hN hE
  have q1:=yp hlt
  have hm:l.getD i default∈l:=by rw [jB hlt];exact List.getElem_mem hlt
  have hnt:x≠l.getD i default->x ∉ l.take (i+1):=fun hne hm=>by
   rw [List.take_add_one] at hm
   rcases List.mem_append.1 hm with hm|hm
   ·exact hn hm
   ·simp [hlt] at hm
    exact hne (by simp [hlt,hm])
  generalize l.getD i default=y at q1 hm hnt
  have hyd:y.d= [.i y.o,.i y.s,.i y.i]:=rfl
  have hdy:(decide (x.o=y.o)&&(decide (x.s=y.s)&&decide (x.i=y.i)))=decide (x=y):=by
   cases x;cases y;simp
  have hlt':((i:Int)<(l.length:Int))=True:=qo
  by_cases hxy:x=y
  ·simp+contextual only [qJ,q1,hxd,hyd,hdy,eq_true hxy,hlt',↓eX,↓XP,qh,qb]
   refine hR _ _ ?_
   simp+contextual only [↓XP,qp]
   exact h _ ⟨fun _=>hxy▸hm,fun _=>by omega⟩
  ·simp+contextual only [qJ,q1,hxd,hyd,hdy,eq_false hxy,hlt',qj (show i<=big by omega),↓eX,↓XP,qh,qb]
   simp only [<-hxd]
   exact nx (hnt hxy) _ ⟨rfl,rfl,rfl,rfl,rfl,trivial⟩
 ·have hik:i=l.length:=by omega
  subst hik
  clear hN
  rw [List.take_length] at hn
  simp+contextual only [↓eX,↓XP,qp]
  refine hE _ _ _ ?_
  simp+contextual only [↓XP,qp,XW1]
  exact h _ ⟨fun h=>by omega,fun h=>(hn h).elim⟩
theorem Gy (h:R (.bool (decide (x∈l))) H):ACall Tryz.prog 92 [.slc (j5 l),.agg x.d] H R:=by
 refine b92 fun hf=>?_
 have hxd:x.d= [.i x.o,.i x.s,.i x.i]:=rfl
 have hk:∀b,decide (x∈l)=b->R (.bool b) H:=fun b hb=>hb▸h
 simp+contextual only [↓U92,hxd,↓U92.1,↓XP,qh,qa,qb]
 simp only [<-hxd]
 refine fun b1 h1=>mN fun k hkk=>?_
 simp+contextual only [hxd,↓XP,qp]
 exact fun _=>hk _ (decide_eq_decide.2 hkk.symm)
structure Shp where
 on:Bool
 to:Bool
 name:Bool
 text:Bool
 span:Bool
 low:Int
 high:Int
 a:Int
 b:Int
def Shp.d (s:Shp):List D:= [.bool s.on,.bool s.to,.bool s.name,.bool s.text,.bool s.span,.i s.low,.i s.high,.i s.a,.i s.b]
def oc:Shp:=⟨false,false,false,false,false,0,0,0,0⟩
def shp (k n:Int):Shp:=
 if k=1 then {oc with name:=true,text:=true} else if k=3 then {oc with name:=true,text:=true,span:=true}
 else if k=4 then {oc with on:=true,to:=true,text:=true,high:=1048576} else if k=2∨k=8∨k=10 then {oc with on:=true,high:=1048576}
 else if k=5∨k=7 then {oc with on:=true,text:=true} else if k=6 then {oc with on:=true,name:=true} else if k=9 then {oc with on:=true,high:=1}
 else if k=11 then {oc with on:=true,span:=true} else if k=12 then {oc with on:=true,name:=true,text:=true} else if k=13 then {oc with on:=true,to:=true,high:=1023}
 else if k=14 then {oc with on:=true,name:=true,high:=1} else if k=15 then {oc with on:=true,to:=true,high:=1}
 else if k=16 then {oc with on:=true,low:= -1,high:=n - 1,a:=2,b:=4} else if k=17 then {oc with on:=true,to:=true}
 else if k=18 then {oc with on:=true,to:=true,a:=1,b:=1} else oc
theorem bP {o:OpP} {H:AH} (h:R (.tup [.agg (shp o.k o.ids.length).d,.bool (decide (1<=o.k∧o.k<=18))]) H):ACall Tryz.prog 89 [.agg o.d] H R:=by
 refine b89 fun hf=>?_
 have hbig:=qk
 have hod:o.d= [.i o.k,.i o.on.o,.i o.on.s,.i o.on.i,.i o.to.o,.i o.to.s,.i o.to.i,.slc (j5 o.ids),.i o.n,.str o.name,.str o.text,.i o.a,.i o.b]:=rfl
 have hk:∀on to name text span low high a b c,shp o.k o.ids.length=⟨on,to,name,text,span,low,high,a,b⟩->decide (1<=o.k∧o.k<=18)=c->R (.tup [.agg [.bool on,.bool to,.bool name,.bool text,.bool span,.i low,.i high,.i a,.i b],.bool c]) H:=fun on to name text span low high a b c hs hc=>by
  rw [hs,hc] at h;exact h
 have w1:o.ids.length<=big->IntKind.i64.wrap ((o.ids.length:Int) - 1)=(o.ids.length:Int) - 1:=fun h=>qi (by omega) (by omega)
 clear h
 simp+contextual only [x89,qJ,hod,↓U89,↓He,↓XP,qh,XW1,qa,qb,qe]
 clear hf hbig hod
 intro b1 h1 b2 h2 b3 h3
 have hno:∀x y,qn ((b2,x)::(b1,y)::H) b3=none:=fun x y=>js (H:=(b2,x)::(b1,y)::H) ⟨Ne.symm h3.1,Ne.symm h3.2.1,h3.2.2⟩
 repeat' (first|apply And.intro|intro _)
 all_goals first
  |exact hno _ _
  |omega
  |exact hk _ _ _ _ _ _ _ _ _ _ (by simp [shp,oc, *]) (decide_eq_true (by omega))
  |exact hk _ _ _ _ _ _ _ _ _ _ (by simp [shp,oc, *]) (decide_eq_false (by omega))
  |skip
def I1 (s:Shp) (o:OpP):Prop:=(s.low<=o.n∧o.n<=s.high)∧(s.a<=o.ids.length∧o.ids.length<=s.b)∧o.text.length<=1024
def I2 (s:Shp) (o:OpP):Prop:=(s.name=true↔1<=o.name.length∧o.name.length<=16)∧(s.name=false->o.name= [])∧(s.text=false->o.text= [])
def I3 (s:Shp) (o:OpP):Prop:=(s.on=true↔o.on≠Ja)∧(s.to=true↔o.to≠Ja)∧(s.span=true↔¬(o.a=0∧o.b=0))
def I4 (s:Shp) (o:OpP):Prop:=(s.on=true->yI o.on)∧(s.to=true->yI o.to)∧(s.span=true->yi o.a o.b)
def I5 (o:OpP):Prop:=(∀x∈o.ids,yI x∧(o.k=16->x≠o.on))∧o.ids.Nodup
def VI (o:OpP):Prop:=(1<=o.k∧o.k<=18)∧I1 (shp o.k o.ids.length) o∧I2 (shp o.k o.ids.length) o∧I3 (shp o.k o.ids.length) o∧I4 (shp o.k o.ids.length) o∧I5 o∧Wb o
theorem Ho {b3} (n13:b1≠b3) (hF:Fr 165 [(1,.ptr b1 0),(3,.ptr b3 0),(4,.bool true)] F) (kF:¬I1 (Shp.mk on to name text span low high a b) o->R (.bool false) H) (go:I1 (Shp.mk on to name text span low high a b) o->∀F',Fr 165 [(1,.ptr b1 0),(3,.ptr b3 0)] F'->xcode Tryz.prog (g9 12) F' ((b3,AO.cells [.bool on,.bool to,.bool name,.bool text,.bool span,.i low,.i high,.i a,.i b])::(b1,AO.cells o.d)::H) (jX Tryz.prog [.tmp 2] H.length R)):xcode Tryz.prog (g9 4) F ((b3,AO.cells [.bool on,.bool to,.bool name,.bool text,.bool span,.i low,.i high,.i a,.i b])::(b1,AO.cells o.d)::H) (jX Tryz.prog [.tmp 2] H.length R):=by
 have hbig:=qk
 have hod:o.d= [.i o.k,.i o.on.o,.i o.on.s,.i o.on.i,.i o.to.o,.i o.to.s,.i o.to.i,.slc (j5 o.ids),.i o.n,.str o.name,.str o.text,.i o.a,.i o.b]:=rfl
 obtain ⟨z,rfl⟩:=hF.fl rfl
 try dsimp only [fl,zz,qa,qb] at*
 clear hF
 all_goals simp+contextual only [↓U45.2.2.1,hod,qg,n13,↓XP,qh,XW1]
 all_goals repeat' (first|(refine wn ?_;simp+contextual only [qJ,qg,n13,Nq,↓XP,qh,XW1,qb,qc])|intro _|with_reducible apply And.intro)
 all_goals (try simp only [<-hod])
 all_goals first
  |omega
  |exact kF (fun hh=>by simp only [I1] at hh;omega)
  |exact go ⟨by omega,by omega,by omega⟩ _ ⟨rfl,rfl,rfl,trivial⟩
  |skip
theorem Ik {b3} (n13:b1≠b3) (hF:Fr 165 [(1,.ptr b1 0),(3,.ptr b3 0)] F) (kF:¬I2 (Shp.mk on to name text span low high a b) o->R (.bool false) H) (go:I2 (Shp.mk on to name text span low high a b) o->∀F',Fr 165 [(1,.ptr b1 0),(3,.ptr b3 0)] F'->xcode Tryz.prog (g9 20) F' ((b3,AO.cells [.bool on,.bool to,.bool name,.bool text,.bool span,.i low,.i high,.i a,.i b])::(b1,AO.cells o.d)::H) (jX Tryz.prog [.tmp 2] H.length R)):xcode Tryz.prog (g9 12) F ((b3,AO.cells [.bool on,.bool to,.bool name,.bool text,.bool span,.i low,.i high,.i a,.i b])::(b1,AO.cells o.d)::H) (jX Tryz.prog [.tmp 2] H.length R):=by
 have hbig:=qk
 have hod:o.d= [.i o.k,.i o.on.o,.i o.on.s,.i o.on.i,.i o.to.o,.i o.to.s,.i o.to.i,.slc (j5 o.ids),.i o.n,.str o.name,.str o.text,.i o.a,.i o.b]:=rfl
 obtain ⟨z,rfl⟩:=hF.fl rfl
 try dsimp only [fl,zz,qa,qb] at*
 clear hF
 all_goals cases name
 all_goals cases text
 all_goals simp+contextual only [↓U45.2.1.2.2,hod,qg,n13,↓XP,qh,XW1]
 all_goals repeat' (first|(refine ⟨_,fun _ _=>wn ⟨rfl,rfl⟩,?_⟩;simp+contextual only [qg,n13,Bool.true_beq,Bool.false_beq,Bool.not_not,↓XP,qh,XW1])|(refine wn ?_;simp+contextual only [↓U45.2.1.2.2,hod,qJ,qg,qm,n13,gI,vZ,Nq,Bool.true_beq,Bool.false_beq,Bool.not_not,↓XP,↓XU,qh,XW1,qa,qb,qc,qd,qe,qf,reduceCtorEq])|intro _|with_reducible apply And.intro)
 all_goals (try simp only [<-hod])
 all_goals first
  |omega
  |exact kF (fun hh=>by simp [I2] at hh;simp_all<;>omega)
  |exact go (by simp [I2];simp_all<;>omega) _ ⟨rfl,rfl,rfl,trivial⟩
  |(have g:=go (by simp [I2];simp_all<;>omega);clear go kF;simp only [*] at g;exact g _ ⟨rfl,rfl,rfl,trivial⟩)
  |skip
theorem I0 {b3} (n13:b1≠b3) (hF:Fr 165 [(1,.ptr b1 0),(3,.ptr b3 0)] F) (kF:¬I3 (Shp.mk on to name text span low high a b) o->R (.bool false) H) (go:I3 (Shp.mk on to name text span low high a b) o->∀F',Fr 165 [(1,.ptr b1 0),(3,.ptr b3 0)] F'->xcode Tryz.prog (g9 28) F' ((b3,AO.cells [.bool on,.bool to,.bool name,.bool text,.bool span,.i low,.i high,.i a,.i b])::(b1,AO.cells o.d)::H) (jX Tryz.prog [.tmp 2] H.length R)):xcode Tryz.prog (g9 20) F ((b3,AO.cells [.bool on,.bool to,.bool name,.bool text,.bool span,.i low,.i high,.i a,.i b])::(b1,AO.cells o.d)::H) (jX Tryz.prog [.tmp 2] H.length R):=by
 have hbig:=qk
 have hod:o.d= [.i o.k,.i o.on.o,.i o.on.s,.i o.on.i,.i o.to.o,.i o.to.s,.i o.to.i,.slc (j5 o.ids),.i o.n,.str o.name,.str o.text,.i o.a,.i o.b]:=rfl
 obtain ⟨z,rfl⟩:=hF.fl rfl
 try dsimp only [fl,zz,qa,qb] at*
 clear hF
 all_goals cases on
 all_goals cases to
 all_goals cases span
 all_goals simp+contextual only [↓U45.2.1.2.1,hod,qg,n13,vZ,Bool.true_beq,Bool.false_beq,Bool.not_not,↓XP,qh,XW1,qb,qe]
 all_goals repeat' (first|intro _|with_reducible apply And.intro)
 all_goals (try simp only [<-hod])
 all_goals first
  |exact kF (fun hh=>by simp [I3] at hh;simp_all)
  |exact go (by simp [I3];simp_all) _ ⟨rfl,rfl,rfl,trivial⟩
  |(have g:=go (by simp [I3];simp_all);clear go kF;simp only [*] at g;exact g _ ⟨rfl,rfl,rfl,trivial⟩)
  |skip
theorem IL {b3} (n13:b1≠b3) (hF:Fr 165 [(1,.ptr b1 0),(3,.ptr b3 0)] F) (kF:¬I4 (Shp.mk on to name text span low high a b) o->R (.bool false) H) (go:I4 (Shp.mk on to name text span low high a b) o->∀F',Fr 165 [(1,.ptr b1 0),(3,.ptr b3 0)] F'->xcode Tryz.prog (g9 36) F' ((b3,AO.cells [.bool on,.bool to,.bool name,.bool text,.bool span,.i low,.i high,.i a,.i b])::(b1,AO.cells o.d)::H) (jX Tryz.prog [.tmp 2] H.length R)):xcode Tryz.prog (g9 28) F ((b3,AO.cells [.bool on,.bool to,.bool name,.bool text,.bool span,.i low,.i high,.i a,.i b])::(b1,AO.cells o.d)::H) (jX Tryz.prog [.tmp 2] H.length R):=by
 have hbig:=qk
 have hod:o.d= [.i o.k,.i o.on.o,.i o.on.s,.i o.on.i,.i o.to.o,.i o.to.s,.i o.to.i,.slc (j5 o.ids),.i o.n,.str o.name,.str o.text,.i o.a,.i o.b]:=rfl
 obtain ⟨z,rfl⟩:=hF.fl rfl
 try dsimp only [fl,zz,qa,qb] at*
 clear hF
 all_goals cases on
 all_goals cases to
 all_goals cases span
 all_goals simp+contextual only [↓U45.2.1.1,hod,qg,n13,↓XP,qh,XW1,qb,qe]
 all_goals repeat' (first|(refine aR ?_;simp+contextual only [qg,n13,↓XP,qh,XW1,qb,qe])|(refine nB ?_;simp+contextual only [↓XP,qp,XW1])|intro _|with_reducible apply And.intro)
 all_goals (try simp only [<-hod])
 all_goals first
  |exact kF (fun hh=>by simp [I4] at hh;simp_all)
  |exact go (by simp [I4];simp_all) _ ⟨rfl,rfl,rfl,trivial⟩
  |exact go (by simp [I4]) _ ⟨rfl,rfl,rfl,trivial⟩
  |skip
end Go.Proofs.YtgopigkdcmhbbaaGreatDoor
end
section
namespace Go.Proofs.YtgopigkdcmhbbaaGreatDoor
open Go Go.Aw
variable {R:D->AH->Prop}
theorem i8:(j5 l).take i=j5 (l.take i):=by simp [j5,List.map_take]
theorem M0 {b3} (n13:b1≠b3) (hF:Fr 165 [(1,.ptr b1 0),(3,.ptr b3 0)] F) (kF:¬I5 o->R (.bool false) H) (go:I5 o->∀F',Fr 165 [(1,.ptr b1 0),(3,.ptr b3 0)] F'->xcode Tryz.prog (g9 59) F' ((b3,AO.cells [.bool on,.bool to,.bool name,.bool text,.bool span,.i low,.i high,.i a,.i b])::(b1,AO.cells o.d)::H) (jX Tryz.prog [.tmp 2] H.length R)):xcode Tryz.prog (g9 36) F ((b3,AO.cells [.bool on,.bool to,.bool name,.bool text,.bool span,.i low,.i high,.i a,.i b])::(b1,AO.cells o.d)::H) (jX Tryz.prog [.tmp 2] H.length R):=by
 have hbig:=qk
 have hod:o.d= [.i o.k,.i o.on.o,.i o.on.s,.i o.on.i,.i o.to.o,.i o.to.s,.i o.to.i,.slc (j5 o.ids),.i o.n,.str o.name,.str o.text,.i o.a,.i o.b]:=rfl
 obtain ⟨z,rfl⟩:=hF.fl rfl
 try dsimp only [fl,zz,qa,qb] at*
 clear hF
 simp+contextual only [↓U45.1.2.2.2,↓U45.1.2.1,↓U45.1.1.2,↓U45.1.1.1,hod,qJ,qg,n13,↓XP,qh,XW1]
 simp only [<-hod]
 intro hlen
 refine XW.loopK hmm (fun F H'=>∃(i:Nat),i<=o.ids.length∧(∀x∈o.ids.take i,yI x∧(o.k=16->x≠o.on))∧(o.ids.take i).Nodup∧Fr 165 [(1,.ptr b1 0),(3,.ptr b3 0),(125,.slc (j5 o.ids)),(126,.i o.ids.length),(127,.i i)] F∧((b3,AO.cells [.bool on,.bool to,.bool name,.bool text,.bool span,.i low,.i high,.i a,.i b])::(b1,AO.cells o.d)::H)=H') (fun F H=>match F.getD 127 .any with| .int _ n'=>o.ids.length - n'.toNat|_=>0) ⟨0,by omega,by simp,by simp,⟨rfl,rfl,rfl,rfl,rfl,rfl,trivial⟩,rfl⟩ ?_
 rintro _ _ ⟨i,hi,hv,hn,hF,rfl⟩ K hN hE hR
 obtain ⟨z,rfl⟩:=hF.fl rfl
 try dsimp only [fl,zz,qa,qb] at*
 clear hF
 by_cases hlt:i<o.ids.length
 ·have nx:(yI (o.ids.getD i default)∧(o.k=16->o.ids.getD i default≠o.on))->o.ids.getD i default ∉ o.ids.take i->∀F' H',back (((b3,AO.cells [.bool on,.bool to,.bool name,.bool text,.bool span,.i low,.i high,.i a,.i b])::(b1,AO.cells o.d)::H):AH).length H'=((b3,AO.cells [.bool on,.bool to,.bool name,.bool text,.bool span,.i low,.i high,.i a,.i b])::(b1,AO.cells o.d)::H)->Fr 165 [(1,.ptr b1 0),(3,.ptr b3 0),(125,.slc (j5 o.ids)),(126,.i o.ids.length),(127,.i ((i+1:Nat):Int))] F'->K .normal F' H':=fun h1 h2 F' H' hH hF'=>hN _ _ ⟨i+1,hlt,fun x hx=>by
    rw [List.take_add_one] at hx
    rcases List.mem_append.1 hx with hx|hx
    ·exact hv x hx
    ·simp [hlt] at hx
     have:x=o.ids.getD i default:=by simp [hlt,hx]
     rw [this];exact h1,(og hlt).2 ⟨hn,h2⟩,hF',hH.symm⟩ (by
   rw [Na,hF'.2.2.2.2.2.1]
   simp only [Nc,Nd,Ng]
   omega)
  clear hN hE
  have q1:=yp hlt
  have hm:o.ids.getD i default∈o.ids:=by rw [jB hlt];exact List.getElem_mem hlt
  generalize hxe:o.ids.getD i default=x at q1 nx hm
  have hxd:x.d= [.i x.o,.i x.s,.i x.i]:=rfl
  have hlt':((i:Int)<(o.ids.length:Int))=True:=qo
  simp+contextual only [↓U45.1.2.2.2,↓U45.1.2.1,↓U45.1.1.2,↓U45.1.1.1,hod,qJ,q1,hxd,hlt',↓XP,qh,XW1,qb]
  intro b6 h6
  obtain ⟨n36,n16,h6⟩:=h6
  have hgx:x∈o.ids.take i->¬I5 o:=fun hxm h5=>((og hlt).1 (h5.2.sublist (List.take_sublist (i+1) o.ids))).2 (hxe▸hxm)
  refine ⟨_,fun _ _=>aR (x:=x) ⟨rfl,rfl⟩,?_⟩
  by_cases hok:yI x
  ·simp+contextual only [qJ,qg,n13,i8,n16,eq_true hok,show (0<=(i:Int))=True from qo,show ((i:Int)<=(o.ids.length:Int))=True from qo,↓XP,qh,XW1,qb]
   refine fun _=>⟨fun y hy=>by obtain ⟨y',_,rfl⟩:=List.mem_map.1 hy;rfl,⟨_,fun _ _=>Gy (l:=o.ids.take i) (x:=x) ⟨rfl,rfl⟩,?_⟩⟩
   by_cases hmem:x∈o.ids.take i
   ·simp+contextual only [eq_true hmem,↓XP,qp,XW1]
    refine hR _ _ ?_
    simp+contextual only [↓XP,qp]
    exact kF (hgx hmem)
   ·have bk:∀y:AO,back (((b3,AO.cells [.bool on,.bool to,.bool name,.bool text,.bool span,.i low,.i high,.i a,.i b])::(b1,AO.cells o.d)::H):AH).length ((b6,y)::((b3,AO.cells [.bool on,.bool to,.bool name,.bool text,.bool span,.i low,.i high,.i a,.i b])::(b1,AO.cells o.d)::H))=((b3,AO.cells [.bool on,.bool to,.bool name,.bool text,.bool span,.i low,.i high,.i a,.i b])::(b1,AO.cells o.d)::H):=fun y=>kK rfl
    by_cases hk16:o.k=16
    ·by_cases hxo:x=o.on
     ·simp+contextual only [qg,n13,gI,n16,eq_false hmem,eq_true hk16,eq_true hxo,↓XP,qh,XW1,qb,qe]
      refine fun _=>hR _ _ ?_
      simp+contextual only [↓XP,qp]
      exact kF (fun h5=>(h5.1 x hm).2 hk16 hxo)
     ·simp+contextual only [qg,n13,gI,n16,eq_false hmem,eq_true hk16,eq_false hxo,qj (show i<=big by omega),↓XP,qh,XW1,qb,qe]
      simp only [<-hod]
      exact fun _=>nx ⟨hok,fun _=>hxo⟩ hmem _ _ (bk _) ⟨rfl,rfl,rfl,rfl,rfl,rfl,trivial⟩
    ·simp+contextual only [qg,n13,n16,eq_false hmem,eq_false hk16,qj (show i<=big by omega),↓XP,qh,XW1]
     simp only [<-hod]
     exact fun _=>nx ⟨hok,fun h=>(hk16 h).elim⟩ hmem _ _ (bk _) ⟨rfl,rfl,rfl,rfl,rfl,rfl,trivial⟩
  ·simp+contextual only [eq_false hok,↓XP,qp,XW1]
   refine hR _ _ ?_
   simp+contextual only [↓XP,qp]
   exact kF (fun h5=>hok (h5.1 x hm).1)
 ·have hik:i=o.ids.length:=by omega
  subst hik
  clear hN
  rw [List.take_length] at hn hv
  simp+contextual only [↓U45.1.2.2.2,↓U45.1.2.1,↓U45.1.1.2,↓U45.1.1.1,hod,↓XP,qp]
  refine hE _ _ _ ?_
  simp+contextual only [↓XP,qp,XW1]
  simp only [<-hod]
  exact go ⟨hv,hn⟩ _ ⟨rfl,rfl,rfl,trivial⟩
theorem HG {b3} (n13:b1≠b3) (hF:Fr 165 [(1,.ptr b1 0),(3,.ptr b3 0)] F) (h:R (.bool (decide (Wb o))) H):xcode Tryz.prog (g9 59) F ((b3,AO.cells [.bool on,.bool to,.bool name,.bool text,.bool span,.i low,.i high,.i a,.i b])::(b1,AO.cells o.d)::H) (jX Tryz.prog [.tmp 2] H.length R):=by
 have hod:o.d= [.i o.k,.i o.on.o,.i o.on.s,.i o.on.i,.i o.to.o,.i o.to.s,.i o.to.i,.slc (j5 o.ids),.i o.n,.str o.name,.str o.text,.i o.a,.i o.b]:=rfl
 have hk:∀c,decide (Wb o)=c->R (.bool c) H:=fun b hb=>hb▸h
 obtain ⟨z,rfl⟩:=hF.fl rfl
 try dsimp only [fl,zz,qa,qb] at*
 clear hF
 by_cases h17:o.k=17
 ·by_cases he:o.on=o.to
  ·simp+contextual only [↓U45.1.2.2.1,hod,qg,n13,gI,eq_true h17,eq_true he,↓XP,qh,XW1,qb,qe]
   exact fun _=>hk _ (decide_eq_false fun hh=>hh h17 he)
  ·simp+contextual only [↓U45.1.2.2.1,hod,qg,n13,gI,eq_true h17,eq_false he,↓XP,qh,XW1,qb,qe]
   exact fun _=>hk _ (decide_eq_true fun _=>he)
 ·simp+contextual only [↓U45.1.2.2.1,hod,qg,n13,eq_false h17,↓XP,qh,XW1]
  exact fun _=>hk _ (decide_eq_true fun hh=>(h17 hh).elim)
open Classical in
theorem fm (h:R (.bool (decide (VI o))) H):ACall Tryz.prog 45 [.agg o.d] H R:=by
 refine b45 fun hf=>?_
 have hbig:=qk
 have hod:o.d= [.i o.k,.i o.on.o,.i o.on.s,.i o.on.i,.i o.to.o,.i o.to.s,.i o.to.i,.slc (j5 o.ids),.i o.n,.str o.name,.str o.text,.i o.a,.i o.b]:=rfl
 have kF:¬VI o->R (.bool false) H:=fun hv=>by rwa [decide_eq_false hv] at h
 have kk:VI o->R (.bool true) H:=fun hv=>by rwa [decide_eq_true hv] at h
 clear h
 simp+contextual only [↓U45.2.2.2.2,↓U45.2.2.2.1,hod,↓XP,qh,qa,qb]
 simp only [<-hod]
 refine fun b1 h1=>bP ?_
 unfold VI at kF kk
 generalize shp o.k o.ids.length=s at kF kk
 obtain ⟨on,to,name,text,span,low,high,a,b⟩:=s
 have hsd:Shp.d ⟨on,to,name,text,span,low,high,a,b⟩= [.bool on,.bool to,.bool name,.bool text,.bool span,.i low,.i high,.i a,.i b]:=rfl
 by_cases hkk:1<=o.k∧o.k<=18
 ·simp+contextual only [hod,hsd,eq_true hkk,↓XP,qh,XW1,qb]
  simp only [<-hod]
  intro b3 h3
  refine Ho h3.1 ⟨rfl,rfl,rfl,rfl,trivial⟩ (fun c=>kF fun hh=>c hh.2.1) fun i1 F1 hF1=>Ik h3.1 hF1 (fun c=>kF fun hh=>c hh.2.2.1) fun i2 F2 hF2=>I0 h3.1 hF2 (fun c=>kF fun hh=>c hh.2.2.2.1) fun i3 F3 hF3=>IL h3.1 hF3 (fun c=>kF fun hh=>c hh.2.2.2.2.1) fun i4 F4 hF4=>M0 h3.1 hF4 (fun c=>kF fun hh=>c hh.2.2.2.2.2.1) fun i5 F5 hF5=>HG h3.1 hF5 ?_
  by_cases h6:Wb o
  ·rw [decide_eq_true h6]
   exact kk ⟨hkk,i1,i2,i3,i4,i5,h6⟩
  ·rw [decide_eq_false h6]
   exact kF fun hh=>h6 hh.2.2.2.2.2.2
 ·simp+contextual only [hod,↓U45.2.2.1,hsd,eq_false hkk,↓XP,qh,XW1,qb]
  exact fun _ _=>kF fun hh=>hkk hh.1
end Go.Proofs.YtgopigkdcmhbbaaGreatDoor
end
section
namespace Go.Proofs.YtgopigkdcmhbbaaGreatDoor
open Go Go.Aw
theorem rl (h:yI x):x≠Ja:=fun e=>by
  subst e
  have:=h.2.2.1
  simp [Ja] at this
theorem Eu (h:yi a b):¬(a=0∧b=0):=fun e=>by
  have:=h.1
  omega
theorem A7:VI o↔WO o:=by
  rcases (show o.k=1∨o.k=2∨o.k=3∨o.k=4∨o.k=5∨o.k=6∨o.k=7∨o.k=8∨o.k=9∨o.k=10∨o.k=11∨o.k=12∨o.k=13∨o.k=14∨o.k=15∨o.k=16∨o.k=17∨o.k=18∨¬(1<=o.k∧o.k<=18) by omega) with h|h|h|h|h|h|h|h|h|h|h|h|h|h|h|h|h|h|h
  all_goals
    obtain ⟨k,on,to,ids,n,name,text,a,b⟩:=o
    dsimp only at h
    first|subst h|skip
  all_goals
    have q1:=@rl on
    have q2:=@rl to
    have q3:=@Eu a b
  all_goals first
    | (have e1:¬VI ⟨k,on,to,ids,n,name,text,a,b⟩:=fun hh=>h hh.1
       have e2:¬WO ⟨k,on,to,ids,n,name,text,a,b⟩:=fun hh=>hh.1.1 (by
         show uses k= []
         unfold uses
         repeat rw [if_neg (by omega)])
       exact ⟨fun hh=>(e1 hh).elim,fun hh=>(e2 hh).elim⟩)
    |skip
  all_goals simp [VI,WO,I1,I2,I3,I4,I5,su,pp,ib,bW,Wb,shp,oc,uses,gp,QR,zG,Q3]
  all_goals refine ⟨fun hh=>?_,fun hh=>?_⟩
  all_goals simp_all
  all_goals omega
open Classical in
theorem lS {R:D->AH->Prop} (h:R (.bool (decide (WO o))) H):ACall Tryz.prog 45 [.agg o.d] H R:=by
  refine fm ?_
  have:decide (VI o)=decide (WO o):=decide_eq_decide.2 A7
  rw [this]
  exact h
end Go.Proofs.YtgopigkdcmhbbaaGreatDoor
end
section
namespace Go.Proofs.YtgopigkdcmhbbaaGreatDoor
open Go Go.Aw
open Classical in
theorem zd {R:D->AH->Prop} (hp:Fit p) (h:R (.i (jl p)) H):ACall Tryz.prog 22 [.agg p.d] H R:=by
 refine b22 fun hf=>?_
 have hbig:=qk
 have hd:p.d= [.i p.o,.i p.s,.i p.day,.slc (qv p.needs),.slc (qw p.ops),.str p.sl]:=rfl
 have hk:∀b,jl p=b->R (.i b) H:=fun b hb=>hb▸h
 clear h
 simp+contextual only [↓nQ,hd,↓nQ,↓XP,qh,qa]
 refine fun b1 h1 _ _=>gE ?_
 by_cases hh:¬yR p
 ·have h5:=hk 5 (by unfold jl;rw [if_pos hh])
  unfold yR at hh
  by_cases hn:zU p.o p.s
  ·simp+contextual only [decide_eq_true hn,↓XP,qh,XW1]
   unfold zU at hn
   refine fun _=>wn ?_
   simp+contextual only [decide_eq_false (show ¬(1<=p.day∧p.day<=1048576) by omega),↓XP,qp,XW1]
   exact h5
  ·simp+contextual only [decide_eq_false hn,↓XP,qp,XW1]
   exact h5
 have hh:yR p:=Classical.not_not.1 hh
 have hn:zU p.o p.s:=⟨hh.1,hh.2.1,hh.2.2.1,hh.2.2.2.1⟩
 simp+contextual only [decide_eq_true hn,↓XP,qh,XW1]
 refine fun _=>wn ?_
 simp+contextual only [j9,qQ,decide_eq_true (show 1<=p.day∧p.day<=1048576 from hh.2.2.2.2),↓nQ,↓XP,qh,XW1]
 have k4:8<p.needs.length∨16<p.ops.length->R (.i 4) H:=fun hl=>hk 4 (by unfold jl;rw [if_neg (fun h=>h hh),if_pos hl])
 refine fun _=>⟨fun c=>k4 (by omega),fun c1 _=>⟨fun c=>k4 (by omega),fun c2=>⟨fun c=>hk 1 (by unfold jl;rw [if_neg (fun h=>h hh),if_neg (by omega),if_pos (List.eq_nil_of_length_eq_zero (by omega))]),fun c3=>?_⟩⟩⟩
 have hl:¬(8<p.needs.length∨16<p.ops.length):=by omega
 have hne:p.ops≠ []:=fun e=>c3 (by rw [e];rfl)
 have hk2:∀b,(if ¬ud p then (1:Int) else if ¬gq p then 1 else if 6800<(jK (bare p)).length then 4 else 0)=b->R (.i b) H:=fun b hb=>hk b (by
  unfold jl
  rw [if_neg (fun h=>h hh),if_neg hl,if_neg hne]
  exact hb)
 clear hk k4
 simp only [<-hd]
 refine XW.loopK hmm (fun F H'=>∃(i:Nat),i<=p.needs.length∧(∀j,j<i->yJ p j)∧Fr 86 [(1,.ptr b1 0),(34,.slc (qv p.needs)),(35,.i p.needs.length),(36,.i i)] F∧((b1,AO.cells p.d)::H)=H') (fun F H=>match F.getD 36 .any with| .int _ n'=>p.needs.length - n'.toNat|_=>0) ⟨0,by omega,by omega,⟨rfl,rfl,rfl,rfl,rfl,trivial⟩,rfl⟩ ?_
 rintro _ _ ⟨i,hi,hv,hF,rfl⟩ K hN hE hR
 obtain ⟨z,rfl⟩:=hF.fl rfl
 try dsimp only [fl,zz,qa,qb] at*
 clear hF
 by_cases hlt:i<p.needs.length
 ·have nx:yJ p i->∀F' H',back ((b1,AO.cells p.d)::H).length H'=((b1,AO.cells p.d)::H)->Fr 86 [(1,.ptr b1 0),(34,.slc (qv p.needs)),(35,.i p.needs.length),(36,.i ((i+1:Nat):Int))] F'->K .normal F' H':=fun h1 F' H' hH hF'=>hN _ _ ⟨i+1,hlt,fun j hj=>by
    by_cases e:j=i
    ·rw [e];exact h1
    ·exact hv j (by omega),hF',hH.symm⟩ (by
   rw [Na,hF'.2.2.2.2.1]
   simp only [Nc,Nd,Ng]
   omega)
  have hno:¬yJ p i->R (.i 1) H:=fun h1=>hk2 1 (by rw [if_pos (fun h=>h1 (h i hlt))])
  clear hN hE
  have q1:=wM hlt
  have q0:0<i->(qv p.needs).getD (i - 1) []=(p.needs.getD (i - 1) default).d:=fun h=>wM (by omega)
  unfold yJ at nx hno
  generalize p.needs.getD i default=r at q1 nx hno
  generalize p.needs.getD (i - 1) default=t at q0 nx hno
  have hr:r.d= [.i r.o,.i r.s]:=rfl
  have ht:t.d= [.i t.o,.i t.s]:=rfl
  have w1:0<i->IntKind.i64.wrap ((i:Int) - 1)=((i - 1:Nat):Int):=fun h=>by rw [qi (by omega) (by omega)];omega
  simp+contextual only [hd,j9,hlt,Int.ofNat_lt,q1,hr,↓nQ,↓XP,qh,XW1,qb]
  rintro b4 ⟨n14,h4⟩ _ _
  refine ⟨_,fun _ _=>gE ⟨rfl,rfl⟩,?_⟩
  by_cases k1:zU r.o r.s
  ·have k1':=k1
   unfold zU at k1'
   by_cases k2:r.o=p.o
   ·have k1p:zU p.o r.s:=k2▸k1
    simp+contextual only [qg n14,k2,decide_eq_true k1p,↓XP,qh,XW1]
    intros
    refine hR _ _ ?_
    simp+contextual only [↓XP,qp]
    exact hno (by omega)
   by_cases hi0:0<i
   ·have q0':=q0 hi0
    have w1':=w1 hi0
    by_cases c6:r.o<=t.o
    ·simp+contextual only [j9,decide_eq_true k1,qg n14,eq_false k2,q0',ht,w1',(qo:((0:Int)<(i:Int))=True),(eq_true c6),↓XP,qh,XW1,qb,qe]
     intros
     refine ⟨by omega,fun _=>hR _ _ ?_⟩
     simp+contextual only [↓XP,qp]
     exact hno (by omega)
    ·simp+contextual only [j9,decide_eq_true k1,qg n14,eq_false k2,q0',ht,w1',(qo:((0:Int)<(i:Int))=True),(eq_false c6),qj (show i<=big by omega),↓XP,qh,XW1,qb,qe]
     intros
     exact ⟨by omega,fun _=>nx (by omega) _ _ (kK rfl) ⟨rfl,rfl,rfl,rfl,rfl,trivial⟩⟩
   ·simp+contextual only [decide_eq_true k1,qg n14,eq_false k2,(qy:((0:Int)<(i:Int))=False),qj (show i<=big by omega),↓XP,qh,XW1]
    intros
    exact nx (by omega) _ _ (kK rfl) ⟨rfl,rfl,rfl,rfl,rfl,trivial⟩
  ·simp+contextual only [decide_eq_false k1,↓XP,qp,XW1]
   refine hR _ _ ?_
   simp+contextual only [↓XP,qp]
   unfold zU at k1
   exact hno (by omega)
 ·have hik:i=p.needs.length:=by omega
  subst hik
  clear hN
  have hon:ud p:=hv
  have hk3:∀b,(if ¬gq p then (1:Int) else if 6800<(jK (bare p)).length then 4 else 0)=b->R (.i b) H:=fun b hb=>hk2 b (by rw [if_neg (fun h=>h hon)];exact hb)
  clear hk2 hv
  simp+contextual only [hd,↓nQ,↓XP,qp]
  refine hE _ _ _ ?_
  clear hE hR
  simp+contextual only [qQ,↓nQ,↓XP,qh,XW1]
  simp only [<-hd]
  refine fun _=>XW.loopK hmm (fun F H'=>∃(i:Nat),i<=p.ops.length∧(∀o∈p.ops.take i,WO o)∧Fr 86 [(1,.ptr b1 0),(72,.slc (qw p.ops)),(73,.i p.ops.length),(74,.i i)] F∧((b1,AO.cells p.d)::H)=H') (fun F H=>match F.getD 74 .any with| .int _ n'=>p.ops.length - n'.toNat|_=>0) ⟨0,by omega,by simp,⟨rfl,rfl,rfl,rfl,rfl,trivial⟩,rfl⟩ ?_
  rintro _ _ ⟨i,hi,hv,hF,rfl⟩ K hN hE hR
  obtain ⟨z,rfl⟩:=hF.fl rfl
  try dsimp only [fl,zz,qa,qb] at*
  clear hF
  by_cases hlt:i<p.ops.length
  ·have nx:WO (p.ops.getD i default)->∀F' H',back ((b1,AO.cells p.d)::H).length H'=((b1,AO.cells p.d)::H)->Fr 86 [(1,.ptr b1 0),(72,.slc (qw p.ops)),(73,.i p.ops.length),(74,.i ((i+1:Nat):Int))] F'->K .normal F' H':=fun h1 F' H' hH hF'=>hN _ _ ⟨i+1,hlt,fun o ho=>by
     rw [List.take_add_one] at ho
     rcases List.mem_append.1 ho with ho|ho
     ·exact hv o ho
     ·simp [hlt] at ho
      have:o=p.ops.getD i default:=by simp [hlt,ho]
      rw [this];exact h1,hF',hH.symm⟩ (by
    rw [Na,hF'.2.2.2.2.1]
    simp only [Nc,Nd,Ng]
    omega)
   have hm:p.ops.getD i default∈p.ops:=by rw [jB hlt];exact List.getElem_mem hlt
   have hno:¬WO (p.ops.getD i default)->R (.i 1) H:=fun h1=>hk3 1 (by rw [if_pos (fun h=>h1 (h _ hm))])
   clear hN hE hk3
   have q1:=kO hlt
   generalize p.ops.getD i default=o at q1 nx hno
   have hod:o.d= [.i o.k,.i o.on.o,.i o.on.s,.i o.on.i,.i o.to.o,.i o.to.s,.i o.to.i,.slc (j5 o.ids),.i o.n,.str o.name,.str o.text,.i o.a,.i o.b]:=rfl
   simp+contextual only [hd,qQ,hlt,Int.ofNat_lt,q1,hod,↓nQ,↓XP,qh,XW1,qb]
   refine fun b6 hb6=>lS (o:=o) ?_
   by_cases ho:WO o
   ·simp+contextual only [ho,qj (show i<=big by omega),↓XP,qp,XW1]
    simp only [<-hd]
    exact nx ho _ _ (kK rfl) ⟨rfl,rfl,rfl,rfl,rfl,trivial⟩
   ·simp+contextual only [ho,↓XP,qp,XW1]
    refine hR _ _ ?_
    simp+contextual only [↓XP,qp]
    exact hno ho
  ·have hik:i=p.ops.length:=by omega
   subst hik
   clear hN
   rw [List.take_length] at hv
   have hoo:gq p:=hv
   simp+contextual only [hd,↓nQ,↓XP,qp]
   refine hE _ _ _ ?_
   clear hE hR
   simp+contextual only [↓nQ,↓XP,qh,XW1,qb]
   refine py hp ?_
   simp+contextual only [↓XP,qh,XW1]
   refine fun _=>⟨fun c=>hk3 4 ?_,fun c=>hk3 0 ?_⟩
   ·exact (if_neg (fun h=>h hoo)).trans (if_pos (Int.ofNat_lt.1 c))
   ·exact (if_neg (fun h=>h hoo)).trans (if_neg (fun h=>c (Int.ofNat_lt.2 h)))
noncomputable def JL (p:Pt):Int:=if jl p≠0 then jl p else if 1200<p.sl.length then 4 else 0
theorem W5 {R:D->AH->Prop} (hp:Fit p) (h:R (.tup [if JL p=0 then .own ((jK p).map ql) else .own [],.i (JL p)]) H):ACall Tryz.prog 21 [.agg p.d] H R:=by
 refine MB fun hf=>?_
 have hbig:=qk
 have hd:p.d= [.i p.o,.i p.s,.i p.day,.slc (qv p.needs),.slc (qw p.ops),.str p.sl]:=rfl
 simp+contextual only [↓Fh,hd,↓Fh,↓XP,qh,qa,qb]
 refine fun b1 h1=>zd hp ?_
 by_cases c1:jl p=0
 ·have e0:JL p=if 1200<p.sl.length then 4 else 0:=by unfold JL;rw [if_neg (fun h=>h c1)]
  simp+contextual only [c1,↓Fh,↓XP,qh,XW1,qb]
  by_cases c2:1200<p.sl.length
  ·rw [if_pos c2] at e0
   simp+contextual only [(qo:((1200:Int)<(p.sl.length:Int))=True),qp,XW1]
   rw [e0,if_neg (by decide)] at h
   exact fun _ _=>h
  ·rw [if_neg c2] at e0
   simp+contextual only [(qy:((1200:Int)<(p.sl.length:Int))=False),qp,XW1]
   refine fun _ _=>pN hp fun _=>?_
   simp+contextual only [↓XP,qp]
   rw [e0,if_pos rfl] at h
   exact fun _=>h
 ·have e0:JL p=jl p:=by unfold JL;rw [if_pos c1]
  simp+contextual only [eq_false c1,↓Fh,↓XP,qp]
  rw [e0,if_neg c1] at h
  exact fun _=>h
end Go.Proofs.YtgopigkdcmhbbaaGreatDoor
end
section
namespace Go.Proofs.YtgopigkdcmhbbaaGreatDoor
open Go Go.Aw
theorem kG {R:D->AH->Prop} (hl:p.ops.length<=1000) (h:R (.agg (je p o).d) H):ACall Tryz.prog 126 [.agg p.d,.agg o.d] H R:=by
 refine HR fun hf=>?_
 have hbig:=qk
 simp+contextual only [↓BN,Pt.d,OpP.d,↓BN,↓XP,qh,XW1,qa,qb,qc,qe]
 intro b1 h1 b2 h2 b3 h3
 have e:qw p.ops++ [[.i o.k,.i o.on.o,.i o.on.s,.i o.on.i,.i o.to.o,.i o.to.s,.i o.to.i,.slc (j5 o.ids),.i o.n,.str o.name,.str o.text,.i o.a,.i o.b]]=qw (p.ops++ [o]):=by simp [qw,OpP.d]
 refine fun _=>⟨kT,by rw [qQ];omega,kT,by rw [qQ];omega,by omega,?_⟩
 rw [e]
 exact h
theorem vQ:(je p o).ops.length=p.ops.length+1:=by simp [je]
theorem vz {R:D->AH->Prop} (hl:p.ops.length<=900) (h:R (.agg (meaning p on m).d) H):ACall Tryz.prog 128 [.agg p.d,.agg on.d,.slc (ints m)] H R:=by
 refine LL fun hf=>?_
 have hbig:=qk
 have hd:p.d= [.i p.o,.i p.s,.i p.day,.slc (qv p.needs),.slc (qw p.ops),.str p.sl]:=rfl
 have ho:on.d= [.i on.o,.i on.s,.i on.i]:=rfl
 simp+contextual only [↓fX,hd,ho,qQ,↓fX,↓XP,qh,XW1,qa,qb,qe]
 rintro b1 h1 b2 ⟨n12,h2⟩ b3 ⟨n23,n13,h3⟩ _ _ _ b4 ⟨n34,n24,n14,h4⟩
 simp+contextual only [qg,n12,n13,n23,n14,n24,↓XP,qh,XW1,qb]
 refine ⟨_,fun _ _=>jS (i:=2) (by omega) ⟨rfl,rfl⟩,?_⟩
 simp+contextual only [↓XP,qh,qb,qe]
 refine fun _=>⟨_,fun _ _=>kG (p:=p) (o:={yB with k:=2,on:=on,n:=qG m 2 5}) (by omega) ⟨rfl,rfl⟩,?_⟩
 obtain ⟨p1,hp1⟩:∃q,q=je p {yB with k:=2,on:=on,n:=qG m 2 5}:=⟨_,rfl⟩
 have l1:p1.ops.length=p.ops.length+1:=by rw [hp1,vQ]
 rw [<-hp1]
 have hd1:p1.d= [.i p1.o,.i p1.s,.i p1.day,.slc (qv p1.needs),.slc (qw p1.ops),.str p1.sl]:=rfl
 simp+contextual only [hd1,qg,qm,n12,n13,n14,↓fX,↓XP,qh,XW1,qb]
 intros
 refine ⟨_,fun _ _=>kx (n:=3) ⟨rfl,rfl⟩,?_⟩
 simp+contextual only [↓XP,qp]
 refine fun _=>⟨_,fun _ _=>uX ⟨rfl,rfl⟩,?_⟩
 simp+contextual only [↓XP,qh,qb,qe]
 refine fun _=>⟨_,fun _ _=>kG (p:=p1) (o:={yB with k:=7,on:=jQ p,text:=gloss (m.drop 3)}) (by omega) ⟨rfl,rfl⟩,?_⟩
 obtain ⟨p2,hp2⟩:∃q,q=je p1 {yB with k:=7,on:=jQ p,text:=gloss (m.drop 3)}:=⟨_,rfl⟩
 have l2:p2.ops.length=p1.ops.length+1:=by rw [hp2,vQ]
 rw [<-hp2]
 have hd2:p2.d= [.i p2.o,.i p2.s,.i p2.day,.slc (qv p2.needs),.slc (qw p2.ops),.str p2.sl]:=rfl
 simp+contextual only [hd2,qg,qm,n12,n13,n14,↓fX,↓XP,qh,XW1,qb]
 intros
 refine jS (i:=1) (by omega) ?_
 have hm:meaning p on m=if qG m 1 9=5 then p2 else je p2 {yB with k:=9,on:=jQ p,n:=1}:=by
  unfold meaning
  simp only
  rw [<-hp1,<-hp2]
 rw [hm] at h
 simp+contextual only [qg,qm,n12,n13,n14,n34,↓fX,↓XP,qh,XW1,qb,qe]
 refine fun _=>⟨fun h5=>kG (p:=p2) (o:={yB with k:=9,on:=jQ p,n:=1}) (by omega) ?_,fun h5=>?_⟩
 ·rw [if_neg h5] at h
  obtain ⟨p3,hp3⟩:∃q,q=je p2 {yB with k:=9,on:=jQ p,n:=1}:=⟨_,rfl⟩
  rw [<-hp3] at h ⊢
  have hd3:p3.d= [.i p3.o,.i p3.s,.i p3.day,.slc (qv p3.needs),.slc (qw p3.ops),.str p3.sl]:=rfl
  simp+contextual only [hd3,qg,qm,n12,n13,n14,n34,↓XP,qh,XW1,qb]
  intros
  exact h
 ·rw [if_pos h5] at h
  exact h
end Go.Proofs.YtgopigkdcmhbbaaGreatDoor
end
section
namespace Go.Aw
open Go Go.RowKit
section
variable {F:List D} {H:AH} {k:List D->AH->Prop}
theorem Gz.give0 (hg:qn H bx=some (.cells cs)) (hj:cs[j]?=some (.own [])) (h:k F (qM H bx (.cells (cs.set j (.osl 0 0 []))))):Gz F H k:=by
 intro K w t hs
 refine ⟨F,_,K,h,.refl K w,hs.krel,⟨by rw [jW];exact hs.hrel.nd,fun c' o' hm'=>?_⟩,hs.len,hs.slot⟩
 rcases kY hs.hrel.nd hm' with ⟨rfl,rfl⟩|⟨hne,hm'⟩
 ·obtain ⟨hpb,c,T,hb,hcs,hrc⟩:=hs.hrel.ok c' _ (qW hg)
  refine ⟨hpb,c,T,hb,by simpa using hcs,fun q d hd=>?_⟩
  rcases getElem?_set_some hd with ⟨rfl,rfl,_⟩|⟨_,hd⟩
  ·obtain ⟨u,f1,f2,f3⟩:=hrc _ _ hj
   have f4:OwnAt K w _ [] u:=f3
   refine ⟨u,f1,f2,?_⟩
   rcases f4 with ⟨_,a,rfl⟩|⟨b,cap,sz,c2,T2,_,_,_,_,hp,_⟩
   ·exact .oslnil 0 0 a
   ·simp at hp
  ·exact hrc q d hd
 ·exact hs.hrel.ok c' o' hm'
theorem Gz.giveA (hg:qn H bx=some (.cells cs)) (hj:cs[j]?=some (.own xs))
  (h:∀b cap H',qn H' bx=some (.cells (cs.set j (.osl b cap xs)))->(xs≠ []->qn H' b=some (.room cap xs))->jF H' b xs=qM H bx (.cells (cs.set j (.osl b cap xs)))->k F H'):Gz F H k:=by
 rcases Classical.em (xs= []) with hx|hx
 ·subst hx
  exact Gz.give0 hg hj (h 0 0 _ (Jp (by rw [hg];rfl)) (fun e=>(e rfl).elim) (by simp only [jF,if_true]))
 ·refine Gz.give hx hg hj fun b cap hf=>h b cap _ ?_ (fun _=>ji) (by simp only [jF,if_neg hx,vY])
  rw [qg (fun e=>ou hf (qW hg) e),Jp (by rw [hg];rfl)]
end
theorem Fz.hgsC (hd:qn H b'=some (.cells ds)) (hj:ds[j]?=some (.hgs b n cap)):Fz F H F (qM H b' (.cells (ds.set j (.hsl b n)))):=by
 intro K w t hs
 refine ⟨K,.refl K w,hs.krel,⟨by rw [jW];exact hs.hrel.nd,fun c' o' hm=>?_⟩,hs.len,hs.slot⟩
 rcases kY hs.hrel.nd hm with ⟨rfl,rfl⟩|⟨hne',hm⟩
 ·obtain ⟨g1,c',T',g2,g3,g4⟩:=hs.hrel.ok c' _ (qW hd)
  refine ⟨g1,c',T',g2,by simpa using g3,fun q d' hd'=>?_⟩
  rcases getElem?_set_some hd' with ⟨rfl,rfl,_⟩|⟨hnq,hd'⟩
  ·obtain ⟨u,e1,e2,e3⟩:=g4 j _ hj
   obtain ⟨rfl,h1,h2,h3⟩:=RepV.hgs_inv e3
   exact ⟨_,e1,e2,.hsl b n cap h1 h2 h3⟩
  ·exact g4 q d' hd'
 ·exact hs.hrel.ok c' o' hm
end Go.Aw
end
section
namespace Go.Proofs.YtgopigkdcmhbbaaGreatDoor
open Go Go.Aw
structure Sz (n:Nat) (p:Pt):Prop where
 ops:p.ops.length<=n
 needs:p.needs.length<=n
 ids:∀o∈p.ops,o.ids.length<=100+n
 name:∀o∈p.ops,o.name.length<=2000
 text:∀o∈p.ops,o.text.length<=2000
 sl:p.sl.length<=2000
theorem Sz.le (h:Sz n p) (hn:n<=m):Sz m p:=
 ⟨by have:=h.ops;omega,by have:=h.needs;omega,fun o ho=>by have:=h.ids o ho;omega,h.name,h.text,h.sl⟩
theorem Sz.setOp (h:Sz n p) (h1:o.ids.length<=114+n) (h2:o.name.length<=2000) (h3:o.text.length<=2000):Sz (n+14) {p with ops:=p.ops.set k o}:=by
 refine ⟨by simp only [Nr];have:=h.ops;omega,by have:=h.needs;simp only;omega,fun x hx=>?_,fun x hx=>?_,fun x hx=>?_,h.sl⟩
 ·rcases List.mem_or_eq_of_mem_set hx with hx|rfl
  ·have:=h.ids x hx;omega
  ·omega
 ·rcases List.mem_or_eq_of_mem_set hx with hx|rfl
  ·exact h.name x hx
  ·exact h2
 ·rcases List.mem_or_eq_of_mem_set hx with hx|rfl
  ·exact h.text x hx
  ·exact h3
theorem Sz.more (h:Sz n p) (hl:l.length<=m) (h1:∀o∈l,o.ids.length<=100+n) (h2:∀o∈l,o.name.length<=2000) (h3:∀o∈l,o.text.length<=2000):Sz (n+m) {p with ops:=p.ops++l}:=by
 refine ⟨by simp only [Ni];have:=h.ops;omega,by have:=h.needs;simp only;omega,fun x hx=>?_,fun x hx=>?_,fun x hx=>?_,h.sl⟩
 ·rcases List.mem_append.1 hx with hx|hx
  ·have:=h.ids x hx;omega
  ·have:=h1 x hx;omega
 ·exact (List.mem_append.1 hx).elim (h.name x) (h2 x)
 ·exact (List.mem_append.1 hx).elim (h.text x) (h3 x)
theorem QE {xs:List (List D)} {sz k:Nat} (hs:∀x∈xs,x.length=sz) (hk:k<xs.length) (rest:List D):
  xs.flatten++rest=(xs.take k).flatten++(xs.getD k []++((xs.drop (k+1)).flatten++rest))∧(xs.take k).flatten.length=k*sz∧(xs.getD k []).length=sz:=by
 have e:xs=xs.take k++(xs.getD k []::xs.drop (k+1)):=by
  have h1:xs.getD k []=xs[k]:=by simp [hk]
  rw [h1,List.getElem_cons_drop,List.take_append_drop]
 refine ⟨?_,?_,?_⟩
 ·conv=>lhs;rw [e]
  simp only [List.flatten_append,N1,No]
 ·rw [vO (sz:=sz) (fun x hx=>hs x (List.mem_of_mem_take hx)),List.length_take,Nat.min_eq_left (by omega)]
 ·have h1:xs.getD k []=xs[k]:=by simp [hk]
  rw [h1]
  exact hs _ (List.getElem_mem hk)
theorem GO {xs:List (List D)} {k:Nat} (hk:k<xs.length) (y rest:List D):(xs.take k).flatten++(y++((xs.drop (k+1)).flatten++rest))=(xs.set k y).flatten++rest:=by
 rw [List.set_eq_take_append_cons_drop,if_pos hk]
 simp only [List.flatten_append,N1,No]
theorem rL {xs:List (List D)} {sz k j:Nat} {v:D} {rest:List D} (hs:∀x∈xs,x.length=sz) (hk:k<xs.length) (hj:j<sz):
  (xs.flatten++rest).set (k*sz+j) v=(xs.set k ((xs.getD k []).set j v)).flatten++rest:=by
 obtain ⟨h1,h2,h3⟩:=QE hs hk rest
 rw [h1,<-GO hk,List.set_append_right _ _ (by omega),h2,Nat.add_sub_cancel_left,List.set_append_left _ _ (by omega)]
theorem mU {A x r v:List D} {a j m sz:Nat} (ha:A.length=a) (hx:x.length=sz) (hj:j+m<=sz):
  (A++(x++r)).take (a+j)++(v++(A++(x++r)).drop (a+j+m))=A++((x.take j++(v++x.drop (j+m)))++r):=by
 subst ha
 rw [List.take_length_add_append,Nat.add_assoc,List.drop_length_add_append,List.take_append_of_le_length (by omega),List.drop_append_of_le_length (by omega)]
 simp only [No]
theorem nY {A x r:List D} {a j m sz:Nat} (ha:A.length=a) (hx:x.length=sz) (hj:j+m<=sz):
  ((A++(x++r)).drop (a+j)).take m=(x.drop j).take m:=by
 subst ha
 rw [List.drop_length_add_append,List.drop_append_of_le_length (by omega),List.take_append_of_le_length (by rw [List.length_drop];omega)]
theorem nD {xs:List (List D)} {sz k j m:Nat} {v:List D} {rest:List D} (hs:∀x∈xs,x.length=sz) (hk:k<xs.length) (hj:j+m<=sz):
  (xs.flatten++rest).take (k*sz+j)++(v++(xs.flatten++rest).drop (k*sz+j+m))=(xs.set k ((xs.getD k []).take j++(v++(xs.getD k []).drop (j+m)))).flatten++rest:=by
 obtain ⟨h1,h2,h3⟩:=QE hs hk rest
 rw [h1,<-GO hk]
 exact mU h2 h3 hj
theorem pm {xs:List (List D)} {sz k j m:Nat} {rest:List D} (hs:∀x∈xs,x.length=sz) (hk:k<xs.length) (hj:j+m<=sz):
  ((xs.flatten++rest).drop (k*sz+j)).take m=((xs.getD k []).drop j).take m:=by
 obtain ⟨h1,h2,h3⟩:=QE hs hk rest
 rw [h1]
 exact nY h2 h3 hj
theorem t5 {xs:List (List D)} {sz k j:Nat} {rest:List D} (hs:∀x∈xs,x.length=sz) (hk:k<xs.length) (hj:j<sz):
  (xs.flatten++rest)[k*sz+j]?=(xs.getD k [])[j]?:=by
 obtain ⟨h1,h2,h3⟩:=QE hs hk rest
 rw [h1,List.getElem?_append_right (by omega),h2,Nat.add_sub_cancel_left,Nn (by omega)]
theorem GR:(qw l).set k o.d=qw (l.set k o):=by simp only [qw,List.map_set]
end Go.Proofs.YtgopigkdcmhbbaaGreatDoor
end
noncomputable section
namespace Go.Proofs.YtgopigkdcmhbbaaGreatDoor
open Go.Xs
open Go Go.Aw
def y6:=yy Tryz.f6
def x6_s1:XC:=(.seq (.block 2 (.gh (.regV [f 26 4 4 88,c (.load 24 (t 88)) 89,f 26 4 4 90,l 24 90 91,m 11 92,j 24 91 92 93,l 71 93 94,a (.buildSlice 24 1 #[(0,(t 94))]) 95] [b (.call ⟨(.builtin .append),#[t 89,t 95],#[24,24,0,0]⟩) 96,f 26 4 4 97,w 24 97 96]))) (y6 54))
def x6_L2:XC:=(.seq (R [m 13 84,q .lss 3 84 14 85] (C 85 .skip (.exit 1))) x6_s1)
def x6_s4:XC:=(.seq (.block 4 (.gh (.regV [f 26 4 4 238,c (.load 24 (t 238)) 239,a (.build 66 #[(1,(i 1))]) 240,m 3 241,a (k 16 #[t 241,i 125] #[3,3]) 242,a (.binOp .add 3 (i 900) (t 242) 3) 243,a (.makeSlice 55 (t 243) (t 243)) 244,a (.convert 55 9 (t 244)) 245,a (.build 71 #[(0,(i 7)),(1,(t 240)),(6,(t 245))]) 246,a (.buildSlice 24 1 #[(0,(t 246))]) 247] [b (.call ⟨(.builtin .append),#[t 239,t 247],#[24,24,0,0]⟩) 248,f 26 4 4 249,w 24 249 248]))) (y6 111))
def x6_L5:XC:=(.seq (R [m 14 234,q .lss 3 234 7 235] (C 235 .skip (.exit 3))) x6_s4)
def x6_s14:XC:=(C 215 (y6 94) (R [Q .eql 3 35 16 233,n 233 232] (C 232 (R [A 0 14] (.block 3 (.loop x6_L5))) (y6 112))))
def x6_c17:XC:=(R [Q .eql 3 35 14 199,n 199 198] (C 198 (y6 90) (R [Q .eql 3 35 15 216,n 216 215] x6_s14)))
def x6_s19:XC:=(C 172 (y6 82) (R [Q .eql 3 35 13 187,n 187 186] (C 186 (y6 86) x6_c17)))
def x6_c22:XC:=(R [Q .eql 3 35 11 163,n 163 162] (C 162 (y6 78) (R [Q .eql 3 35 12 173,n 173 172] x6_s19)))
def x6_s24:XC:=(C 136 (y6 70) (R [Q .eql 3 35 10 150,n 150 149] (C 149 (y6 74) x6_c22)))
def x6_c27:XC:=(R [Q .eql 3 35 8 122,n 122 121] (C 121 (y6 66) (R [Q .eql 3 35 9 137,n 137 136] x6_s24)))
def x6_s29:XC:=(C 98 (y6 58) (R [Q .eql 3 35 7 107,n 107 106] (C 106 (y6 62) x6_c27)))
def x6_s30:XC:=(C 82 (R [A 0 13] (.block 1 (.loop x6_L2))) (R [Q .eql 3 35 6 99,n 99 98] x6_s29))
def x6_c32:XC:=(.gh (.regV [f 26 4 3 63,c (.load 23 (t 63)) 64,m 3 65,a (k 16 #[t 65,i 10] #[3,3]) 66,q .sub 3 66 1 67,m 3 68,q .quo 3 68 10 69,a (k 16 #[t 69,i 19] #[3,3]) 70,q .sub 3 70 1 71,a (.build 64 #[(0,(t 67)),(1,(t 71))]) 72,a (.buildSlice 23 1 #[(0,(t 72))]) 73] [b (.call ⟨(.builtin .append),#[t 64,t 73],#[23,23,0,0]⟩) 74,f 26 4 3 75,w 23 75 74]))
def x6_c33:XC:=(R [Q .eql 3 35 4 77,n 77 76] (C 76 (y6 37) (R [Q .eql 3 35 5 83,n 83 82] x6_s30)))
def x6_s35:XC:=(C 52 (y6 29) (R [Q .eql 3 35 3 62,n 62 61] (C 61 x6_c32 x6_c33)))
def x6_s36:XC:=(C 48 (.reg [M 12 50,f 26 4 1 51,w 3 51 50]) (R [Q .eql 3 35 2 53,n 53 52] x6_s35))
def x6_s37:XC:=(C 44 (.reg [M 12 46,f 26 4 0 47,w 3 47 46]) (R [Q .eql 3 35 1 49,n 49 48] x6_s36))
def x6_s38:XC:=(.seq (R [m 2 34,a (k 16 #[t 34,i 20] #[3,3]) 35] (.block 0 (R [Q .eql 3 35 0 45,n 45 44] x6_s37))) (R [L 26 4 277,w 26 8 277] .ret))
def x6_s39:XC:=(.seq (y6 13) x6_s38)
theorem eE:type_of% (@unf _ _ x6_s39.eq_1):=unf x6_s39.eq_1
def x6_s40:XC:=(.seq (y6 11) x6_s39)
theorem fE:type_of% (@unf _ _ x6_s40.eq_1):=unf x6_s40.eq_1
def x6_s41:XC:=(.seq (y6 9) x6_s40)
theorem eZ:type_of% (@unf _ _ x6_s41.eq_1):=unf x6_s41.eq_1
def x6_s42:XC:=(.seq (y6 5) (R [Z 10] x6_s41))
theorem fM:type_of% (@unf _ _ x6_s42.eq_1):=unf x6_s42.eq_1
def x6:XC:=(R [B 26 0 4,a (.alloc 26) 8] (R [Z 9] x6_s42))
def V6r:=PLift.up (aI (aI (@unf (y6 13) (r [u,u,v,u]) rfl) (@unf (y6 11) (r [u,u,u,u,v,u]) rfl)) (aI (@unf (y6 9) (r [x,u,u,v,u,u]) rfl) (@unf (y6 5) (r [x,u,u,v,u,u]) rfl)))
theorem yX:type_of% V6r.down:=V6r.down
def V6:=PLift.up (aI (aI (aI (aI (aI (@unf (y6 54) (r [u,v,u]) rfl) (@unf _ _ x6_s1.eq_1)) (aI (@unf _ _ x6_L2.eq_1) (aI (@unf (y6 111) (r [u,v,u]) rfl) (@unf _ _ x6_s4.eq_1)))) (aI (aI (@unf _ _ x6_L5.eq_1) (@unf (y6 134) (r [u,v,u]) rfl)) (aI (@unf (y6 131) (X (O (r [u,x,u,u,u,v,u,u])) (y6 134)) rfl) (aI (@unf (y6 125) (X (R [u,u,u,u,u] I) (y6 131)) rfl) (@unf (y6 135) (G [u,u,u,u,u,v,u,u,u]) rfl))))) (aI (aI (aI (@unf (y6 118) (V (R [u,u] (R [u] (U (y6 125)))) (y6 135)) rfl) (@unf (y6 115) (r [u,u,u,u,u,u,v,u,u]) rfl)) (aI (@unf (y6 112) (R [v,u] (V (y6 115) (R [v,u] (y6 118)))) rfl) (aI (@unf (y6 94) (G [u,u,u,u,u,u,u,u,u,u,u,u,u,v,u,u]) rfl) (@unf _ _ x6_s14.eq_1)))) (aI (aI (@unf (y6 90) (G [u,u,u,u,u,x,u,u,u,u,u,u,v,u,u,u]) rfl) (aI (@unf (y6 86) (G [u,u,u,u,u,u,u,v,u,u,u]) rfl) (@unf _ _ x6_c17.eq_1))) (aI (@unf (y6 82) (G [u,u,u,u,u,u,u,u,u,v,u,u,u]) rfl) (aI (@unf _ _ x6_s19.eq_1) (@unf (y6 78) (G [u,u,u,u,u,v,u,u,u]) rfl)))))) (aI (aI (aI (aI (@unf (y6 74) (G [u,u,u,u,u,u,u,u,v,u,u,u]) rfl) (@unf _ _ x6_c22.eq_1)) (aI (@unf (y6 70) (G [u,u,u,u,u,u,u,u,v,u,u,u]) rfl) (aI (@unf _ _ x6_s24.eq_1) (@unf (y6 66) (G [u,u,u,u,u,u,u,u,u,u,v,u,u,u]) rfl)))) (aI (aI (@unf (y6 62) (G [u,u,u,u,u,u,u,u,u,u,v,u,u,u]) rfl) (aI (@unf _ _ x6_c27.eq_1) (@unf (y6 58) (r [u,u,u,v,u,u,u]) rfl))) (aI (@unf _ _ x6_s29.eq_1) (aI (@unf _ _ x6_s30.eq_1) (@unf (y6 37) (r [u,u,v,u,u]) rfl))))) (aI (aI (aI (@unf _ _ x6_c32.eq_1) (@unf _ _ x6_c33.eq_1)) (aI (@unf (y6 29) (r [u,u,u,u,u,v,u,u]) rfl) (aI (@unf _ _ x6_s35.eq_1) (@unf _ _ x6_s36.eq_1)))) (aI (aI (@unf _ _ x6_s37.eq_1) (aI (@unf _ _ x6_s38.eq_1) (@unf _ _ x6_s39.eq_1))) (aI (@unf _ _ x6_s40.eq_1) (aI (@unf _ _ x6_s41.eq_1) (@unf _ _ x6_s42.eq_1)))))))
theorem U6:type_of% V6.down:=V6.down
theorem b6:Bt 6 278 x6 [(.cell 8 26)]:=bt Tryz.func6 rfl
def x6v_s38:XC:=(.seq (R [m 2 34,a (k 16 #[t 34,i 20] #[3,3]) 35] (.block 0 (R [Q .eql 3 35 0 45,n 45 44] (y6 20)))) (.seq (.gh (.reg [L 26 4 277,w 26 8 277])) .ret))
def x6v_s39:XC:=(.seq (y6 13) x6v_s38)
theorem az:type_of% (@unf _ _ x6v_s39.eq_1):=unf x6v_s39.eq_1
def x6v_s40:XC:=(.seq (y6 11) x6v_s39)
theorem aD:type_of% (@unf _ _ x6v_s40.eq_1):=unf x6v_s40.eq_1
def x6v_s41:XC:=(R [N 10 21,f 26 4 4 22,l 24 22 23,b (.call ⟨(.builtin .append),#[t 21,t 23],#[24,24,0]⟩) 24,f 26 4 4 25,w 24 25 24] x6v_s40)
theorem GU:type_of% (@unf _ _ x6v_s41.eq_1):=unf x6v_s41.eq_1
def x6v_s42:XC:=(.seq (y6 5) (R [Z 10] x6v_s41))
theorem GP:type_of% (@unf _ _ x6v_s42.eq_1):=unf x6v_s42.eq_1
def x6v:XC:=(R [B 26 0 4,a (.alloc 26) 8] (R [Z 9] x6v_s42))
def V6vr:=PLift.up (aI (@unf (y6 13) (r [u,u,v,u]) rfl) (aI (@unf (y6 11) (r [u,u,u,u,v,u]) rfl) (@unf (y6 5) (r [x,u,u,v,u,u]) rfl)))
theorem jY:type_of% V6vr.down:=V6vr.down
def V6v:=PLift.up (aI (aI (aI (aI (aI (@unf (y6 54) (r [u,v,u]) rfl) (@unf (y6 51) (X (O (G [u,x,u,u,u,u,u,u,v,u,u])) (y6 54)) rfl)) (aI (@unf (y6 45) (X (R [u,u] I) (y6 51)) rfl) (aI (@unf (y6 111) (r [u,v,u]) rfl) (@unf (y6 108) (X (O (G [u,x,u,u,u,u,u,u,u,u,v,u,u])) (y6 111)) rfl)))) (aI (aI (@unf (y6 102) (X (R [u,u] I) (y6 108)) rfl) (@unf (y6 134) (r [u,v,u]) rfl)) (aI (@unf (y6 131) (X (O (r [u,x,u,u,u,v,u,u])) (y6 134)) rfl) (aI (@unf (y6 125) (X (R [u,u,u,u,u] I) (y6 131)) rfl) (@unf (y6 135) (G [u,u,u,u,u,v,u,u,u]) rfl))))) (aI (aI (aI (@unf (y6 118) (V (R [u,u] (R [u] (U (y6 125)))) (y6 135)) rfl) (@unf (y6 115) (r [u,u,u,u,u,u,v,u,u]) rfl)) (aI (@unf (y6 112) (R [v,u] (V (y6 115) (R [v,u] (y6 118)))) rfl) (aI (@unf (y6 94) (G [u,u,u,u,u,u,u,u,u,u,u,u,u,v,u,u]) rfl) (@unf (y6 93) (V (y6 94) (R [v,u] (V (R [u] (U (y6 102))) (y6 112)))) rfl)))) (aI (aI (@unf (y6 90) (G [u,u,u,u,u,x,u,u,u,u,u,u,v,u,u,u]) rfl) (aI (@unf (y6 86) (G [u,u,u,u,u,u,u,v,u,u,u]) rfl) (@unf (y6 87) (R [v,u] (V (y6 90) (R [v,u] (y6 93)))) rfl))) (aI (@unf (y6 82) (G [u,u,u,u,u,u,u,u,u,v,u,u,u]) rfl) (aI (@unf (y6 81) (V (y6 82) (R [v,u] (V (y6 86) (y6 87)))) rfl) (@unf (y6 78) (G [u,u,u,u,u,v,u,u,u]) rfl)))))) (aI (aI (aI (aI (@unf (y6 74) (G [u,u,u,u,u,u,u,u,v,u,u,u]) rfl) (@unf (y6 75) (R [v,u] (V (y6 78) (R [v,u] (y6 81)))) rfl)) (aI (@unf (y6 70) (G [u,u,u,u,u,u,u,u,v,u,u,u]) rfl) (aI (@unf (y6 69) (V (y6 70) (R [v,u] (V (y6 74) (y6 75)))) rfl) (@unf (y6 66) (G [u,u,u,u,u,u,u,u,u,u,v,u,u,u]) rfl)))) (aI (aI (@unf (y6 62) (G [u,u,u,u,u,u,u,u,u,u,v,u,u,u]) rfl) (aI (@unf (y6 63) (R [v,u] (V (y6 66) (R [v,u] (y6 69)))) rfl) (@unf (y6 58) (r [u,u,u,v,u,u,u]) rfl))) (aI (@unf (y6 57) (V (y6 58) (R [v,u] (V (y6 62) (y6 63)))) rfl) (aI (@unf (y6 40) (V (R [u] (U (y6 45))) (R [v,u] (y6 57))) rfl) (@unf (y6 37) (r [u,u,v,u,u]) rfl))))) (aI (aI (aI (@unf (y6 33) (G [u,x,u,u,u,u,u,u,u,u,u,v,u,u]) rfl) (@unf (y6 34) (R [v,u] (V (y6 37) (R [v,u] (y6 40)))) rfl)) (aI (@unf (y6 29) (r [u,u,u,u,u,v,u,u]) rfl) (aI (@unf (y6 28) (V (y6 29) (R [v,u] (V (y6 33) (y6 34)))) rfl) (@unf (y6 24) (V (r [v,u,u]) (R [v,u] (y6 28))) rfl)))) (aI (aI (@unf (y6 20) (V (r [v,u,u]) (R [v,u] (y6 24))) rfl) (aI (@unf _ _ x6v_s38.eq_1) (@unf _ _ x6v_s39.eq_1))) (aI (@unf _ _ x6v_s40.eq_1) (aI (@unf _ _ x6v_s41.eq_1) (@unf _ _ x6v_s42.eq_1)))))))
theorem YD:type_of% V6v.down:=V6v.down
theorem b6v:Bt 6 278 x6v [(.cell 8 26)]:=bt Tryz.func6 rfl
end Go.Proofs.YtgopigkdcmhbbaaGreatDoor
end
section
namespace Go.Proofs.YtgopigkdcmhbbaaGreatDoor
open Go Go.Aw
variable {R:D->AH->Prop}
theorem lP (hn:n<=900) (hp:Sz n p) (hne:0<p.ops.length) (hkk:around a (p.ops.length:Int)=kk) (hnr:around bb 22 - 2=near)
  (h:∀(b4 b8:Nat) (F:List D),b4≠b8->Fr 278 [(1,.i a),(2,.i how),(3,.i bb),(4,.ptr b4 0),(8,.ptr b8 0),(11,.i kk),(12,.i near)] F->xcode Tryz.prog x6_s38 F ((b8,.cells [.i 0,.i 0,.i 0,.own [],.own [],.str []])::(b4,.cells [.i p.o,.i p.s,.i p.day,.own (qv p.needs),.own (qw p.ops),.str p.sl])::H) (jX Tryz.prog [(.cell 8 26)] H.length R)):
  ACall Tryz.prog 6 [.agg p.d,.i a,.i how,.i bb] H R:=by
 refine b6 fun hf=>?_
 have hbig:=qk
 have hd:p.d= [.i p.o,.i p.s,.i p.day,.slc (qv p.needs),.slc (qw p.ops),.str p.sl]:=rfl
 have l1:=hp.ops
 have l2:=hp.needs
 simp+contextual only [x6,↓fM,↓eZ,↓fE,↓eE,j9,qQ,qg,qm,hd,↓yX,↓XP,qh,XW1,qa,qb]
 intro b4 h4 b8 hh h8
 obtain ⟨n48,h8'⟩:=hh
 have a1:=j4 (n:=a) (most:=(p.ops.length:Int)) (by omega)
 have a2:=j4 (n:=bb) (most:=22) (by omega)
 refine ⟨gV,by omega,by omega,fun _=>⟨kT,by omega,by omega,qL (by omega) ?_⟩⟩
 simp+contextual only [↓fM,↓eZ,↓fE,↓eE,↓yX,↓XP,qp]
 refine fun _=>qL (by omega) ?_
 simp+contextual only [qi (show -9223372036854775808<=around bb 22 - 2 by omega) (by omega),↓yX,↓XP,qp]
 intros
 subst hkk hnr
 refine h b4 b8 _ n48 ?_
 exact ⟨rfl,rfl,rfl,rfl,rfl,rfl,rfl,rfl,trivial⟩
theorem Sz.same (h:Sz n p) (e1:q.ops=p.ops) (e2:q.needs=p.needs) (e3:q.sl=p.sl):Sz (n+14) q:=
 ⟨by rw [e1];have:=h.ops;omega,by rw [e2];have:=h.needs;omega,by rw [e1];intro o ho;have:=h.ids o ho;omega,by rw [e1];exact h.name,by rw [e1];exact h.text,by rw [e3];exact h.sl⟩
theorem qX {l:List OpP} {k:Nat} (h:k<l.length):l.getD k default∈l:=by
 simp [h]
theorem Qt {l:List Int} {r:Int} (h0:0<=r) (h1:r<l.length):l.getD r.toNat 0∈l∧(ints l).getD r.toNat []= [.i (l.getD r.toNat 0)]:=by
 have hl:r.toNat<l.length:=by omega
 have e:l.getD r.toNat 0=l[r.toNat]:=by simp [hl]
 rw [e]
 exact ⟨List.getElem_mem hl,by simp [ints,hl]⟩
theorem tF:(Tryz.prog.info? 5).map (·.bytes)=some 1:=by kernel_rfl
theorem iS (h:n<=100000):match Tryz.prog.info? 5 with|some i=>(i.bytes:Int)*n<=140737488355328∧n<=140737488355328|none=>False:=by
 have h4:=tF
 cases hq:Tryz.prog.info? 5 with
 |none=>rw [hq] at h4;cases h4
 | some i=>
  rw [hq] at h4
  simp only [Option.map_some,Option.some.injEq] at h4
  simp only [h4]
  omega
theorem eA:∀x∈List.replicate n [D.int .u8 0],yQ x:=by
 intro x hx
 rw [(List.mem_replicate.1 hx).2]
 exact ⟨by omega,by omega⟩
theorem BU {b4 b8} (hm:around how 20=0) (hn:n<=900) (hp:Sz n p) (n48:b4≠b8) (hF:Fr 278 [(1,.i a),(2,.i how),(3,.i bb),(4,.ptr b4 0),(8,.ptr b8 0),(11,.i kk),(12,.i near)] F) (h:R (.agg ({p with o:=near}:Pt).d) H):xcode Tryz.prog x6_s38 F ((b8,.cells [.i 0,.i 0,.i 0,.own [],.own [],.str []])::(b4,.cells [.i p.o,.i p.s,.i p.day,.own (qv p.needs),.own (qw p.ops),.str p.sl])::H) (jX Tryz.prog [(.cell 8 26)] H.length R):=by
 obtain ⟨z,rfl⟩:=hF.fl rfl
 try dsimp only [fl,zz,qa,qb] at*
 clear hF
 have hbig:=qk
 simp+contextual only [↓U6,↓yX,↓XP,qp]
 refine qL (by omega) ?_
 rw [hm]
 simp+contextual only [qg,qm,n48,↓U6,↓yX,↓XP,qh,XW1,qb]
 exact fun _=>h
theorem Ea {b4 b8} (hm:around how 20=1) (hn:n<=900) (hp:Sz n p) (n48:b4≠b8) (hF:Fr 278 [(1,.i a),(2,.i how),(3,.i bb),(4,.ptr b4 0),(8,.ptr b8 0),(11,.i kk),(12,.i near)] F) (h:R (.agg ({p with s:=near}:Pt).d) H):xcode Tryz.prog x6_s38 F ((b8,.cells [.i 0,.i 0,.i 0,.own [],.own [],.str []])::(b4,.cells [.i p.o,.i p.s,.i p.day,.own (qv p.needs),.own (qw p.ops),.str p.sl])::H) (jX Tryz.prog [(.cell 8 26)] H.length R):=by
 obtain ⟨z,rfl⟩:=hF.fl rfl
 try dsimp only [fl,zz,qa,qb] at*
 clear hF
 have hbig:=qk
 simp+contextual only [↓U6,↓yX,↓XP,qp]
 refine qL (by omega) ?_
 rw [hm]
 simp+contextual only [qg,qm,Int.reduceEq,n48,↓U6,↓yX,↓XP,qh,XW1,qb]
 exact fun _=>⟨by omega,h⟩
theorem Dk {n:Nat} {p:Pt} {a how bb kk near:Int} {b4 b8:Nat} {F:List D} {H:AH} (hm:around how 20=2) (hn:n<=900) (hp:Sz n p) (n48:b4≠b8) (hF:Fr 278 [(1,.i a),(2,.i how),(3,.i bb),(4,.ptr b4 0),(8,.ptr b8 0),(11,.i kk),(12,.i near)] F) (h:R (.agg ({p with day:=([0,1,1048576,1048577,bb]:List Int).getD (around bb 5).toNat 0}:Pt).d) H):xcode Tryz.prog x6_s38 F ((b8,.cells [.i 0,.i 0,.i 0,.own [],.own [],.str []])::(b4,.cells [.i p.o,.i p.s,.i p.day,.own (qv p.needs),.own (qw p.ops),.str p.sl])::H) (jX Tryz.prog [(.cell 8 26)] H.length R):=by
 obtain ⟨z,rfl⟩:=hF.fl rfl
 try dsimp only [fl,zz,qa,qb] at*
 clear hF
 have hbig:=qk
 simp+contextual only [↓U6,↓yX,↓XP,qp]
 refine qL (by omega) ?_
 rw [hm]
 simp+contextual only [Int.reduceEq,↓U6,↓yX,↓XP,qh,XW1,qc,qe]
 refine fun _=>qL (by omega) ?_
 obtain ⟨r1,r2⟩:=j4 (n:=bb) (most:=5) (by omega)
 generalize around bb 5=r at r1 r2 h ⊢
 obtain ⟨hv,e⟩:=Qt (l:= [0,1,1048576,1048577,bb]) r1 r2
 generalize ([0,1,1048576,1048577,bb]:List Int).getD r.toNat 0=v at hv e h
 have e': [[D.i 0],[D.i 1],[D.i 1048576],[D.i 1048577],[D.i bb]].getD r.toNat []= [.i v]:=e
 simp+contextual only [qg,qm,n48,e',r1,show r<((5:Nat):Int) from r2,↓yX,↓XP,qh,XW1,qb]
 exact fun _ _=>⟨by omega,h⟩
theorem Be {b4 b8} (hm:around how 20=4) (hn:n<=900) (hp:Sz n p) (n48:b4≠b8) (hF:Fr 278 [(1,.i a),(2,.i how),(3,.i bb),(4,.ptr b4 0),(8,.ptr b8 0),(11,.i kk),(12,.i near)] F) (h:R (.agg ({p with ops:= []}:Pt).d) H):xcode Tryz.prog x6_s38 F ((b8,.cells [.i 0,.i 0,.i 0,.own [],.own [],.str []])::(b4,.cells [.i p.o,.i p.s,.i p.day,.own (qv p.needs),.own (qw p.ops),.str p.sl])::H) (jX Tryz.prog [(.cell 8 26)] H.length R):=by
 obtain ⟨z,rfl⟩:=hF.fl rfl
 try dsimp only [fl,zz,qa,qb] at*
 clear hF
 have hbig:=qk
 simp+contextual only [↓U6,↓yX,↓XP,qp]
 refine qL (by omega) ?_
 rw [hm]
 simp+contextual only [qQ,qg,qm,Int.reduceEq,n48,↓U6,↓yX,↓XP,qh,XW1,qb]
 exact fun _ _=>⟨kT,by omega,h⟩
theorem xV {n:Nat} {p:Pt} {a how bb kk near:Int} {b4 b8:Nat} {F:List D} {H:AH} (hm:around how 20=17) (hn:n<=900) (hp:Sz n p) (n48:b4≠b8) (hF:Fr 278 [(1,.i a),(2,.i how),(3,.i bb),(4,.ptr b4 0),(8,.ptr b8 0),(11,.i kk),(12,.i near)] F) (h:R (.agg ({p with sl:=(List.replicate (([0,1,1200,1201]:List Int).getD (around bb 4).toNat 0).toNat [D.int .u8 0]).map unbyte}:Pt).d) H):xcode Tryz.prog x6_s38 F ((b8,.cells [.i 0,.i 0,.i 0,.own [],.own [],.str []])::(b4,.cells [.i p.o,.i p.s,.i p.day,.own (qv p.needs),.own (qw p.ops),.str p.sl])::H) (jX Tryz.prog [(.cell 8 26)] H.length R):=by
 obtain ⟨z,rfl⟩:=hF.fl rfl
 try dsimp only [fl,zz,qa,qb] at*
 clear hF
 have hbig:=qk
 simp+contextual only [↓U6,↓yX,↓XP,qp]
 refine qL (by omega) ?_
 rw [hm]
 simp+contextual only [Int.reduceEq,↓U6,↓yX,↓XP,qh,XW1,qc,qe]
 refine fun _=>qL (by omega) ?_
 obtain ⟨r1,r2⟩:=j4 (n:=bb) (most:=4) (by omega)
 generalize around bb 4=r at r1 r2 h ⊢
 obtain ⟨hv,e⟩:=Qt (l:= [0,1,1200,1201]) r1 r2
 generalize ([0,1,1200,1201]:List Int).getD r.toNat 0=v at hv e h
 have e': [[D.i 0],[D.i 1],[D.i 1200],[D.i 1201]].getD r.toNat []= [.i v]:=e
 have hv':0<=v∧v<=1201:=by
  simp only [Nu,N0,or_false] at hv
  omega
 simp+contextual only [qg,qm,n48,e',r1,show r<((4:Nat):Int) from r2,↓yX,↓XP,qh,XW1,qb]
 exact fun _ _=>⟨hv'.1,iS (by omega),eA,fun _=>h⟩
theorem CB {b4 b8} (hm:around how 20=3) (hn:n<=900) (hp:Sz n p) (n48:b4≠b8) (hF:Fr 278 [(1,.i a),(2,.i how),(3,.i bb),(4,.ptr b4 0),(8,.ptr b8 0),(11,.i kk),(12,.i near)] F) (h:R (.agg ({p with needs:=p.needs++ [⟨IntKind.i64.wrap (around bb 10 - 1),IntKind.i64.wrap (around (IntKind.i64.wrap (bb.tdiv 10)) 19 - 1)⟩]}:Pt).d) H):xcode Tryz.prog x6_s38 F ((b8,.cells [.i 0,.i 0,.i 0,.own [],.own [],.str []])::(b4,.cells [.i p.o,.i p.s,.i p.day,.own (qv p.needs),.own (qw p.ops),.str p.sl])::H) (jX Tryz.prog [(.cell 8 26)] H.length R):=by
 obtain ⟨z,rfl⟩:=hF.fl rfl
 try dsimp only [fl,zz,qa,qb] at*
 clear hF
 have hbig:=qk
 simp+contextual only [↓U6,↓yX,↓XP,qp]
 refine qL (by omega) ?_
 rw [hm]
 simp+contextual only [Int.reduceEq,↓U6,↓yX,↓XP,qp]
 refine fun _=>?_
 rw [Jx]
 refine Gz.giveA (bx:=b4) (j:=3) (xs:=qv p.needs) (by rw [qg n48,ji]) rfl (fun b cap H' g1 g2 g3=>?_)
 simp+contextual only [g1,↓yX,↓XP,qh,XW1]
 refine ⟨_,fun _ _=>qL (by omega) ⟨rfl,rfl⟩,?_⟩
 simp+contextual only [Int.reduceEq,↓yX,↓XP,qp,XW1]
 obtain ⟨r1,r2⟩:=j4 (n:=bb) (most:=10) (by omega)
 obtain ⟨r3,r4⟩:=j4 (n:=IntKind.i64.wrap (bb.tdiv 10)) (most:=19) (by omega)
 refine fun _=>⟨_,fun _ _=>qL (by omega) ⟨rfl,rfl⟩,?_⟩
 simp+contextual only [↓yX,↓XP,qh,XW1,qb,qc,qe]
 intros
 rw [iR]
 refine Gz.takeS (s:=64) (b:=b) (cap:=cap) (xs:=qv p.needs) rfl g2 ?_
 rw [g3]
 simp+contextual only [j9,qg,qm,n48,↓yX,↓XP,qh,XW1,qb]
 rw [show ∀x y,qv p.needs++ [[.i x,.i y]]=qv (p.needs++ [⟨x,y⟩]) from fun x y=>by simp [qv,Rf.d]]
 have l1:=hp.ops
 have l2:=hp.needs
 exact ⟨gV,by omega,by omega,h⟩
def YH (i:Nat):List Rf:=(List.range i).map fun k:Nat=>(⟨(k:Int),1⟩:Rf)
theorem UI:(YH i).length=i:=by simp [YH]
theorem bZ:YH (i+1)=YH i++ [⟨(i:Int),1⟩]:=by simp [YH,List.range_succ]
def ld (bb:Int):OpP:={yB with k:=7,on:=⟨0,1,0⟩,text:=(List.replicate (900+around bb 125).toNat [D.int .u8 0]).map unbyte}
theorem tL {p:Pt} {bb:Int} {b4 b8:Nat} {H:AH} {Q:AQ} {F:List D} (n48:b4≠b8) {i:Nat} (hi:i=0) (hF:Fr 278 [(3,.i bb),(4,.ptr b4 0),(8,.ptr b8 0),(15,.i (i:Int))] F)
  (hE:∀F' l,Fr 278 [(4,.ptr b4 0),(8,.ptr b8 0)] F'->l=YH (7+around bb 4).toNat->Q (.exit 5) F' ((b8,AO.cells [.i 0,.i 0,.i 0,.own [],.own [],.str []])::(b4,AO.cells [.i p.o,.i p.s,.i p.day,.own (qv l),.own (qw p.ops),.str p.sl])::H)) {l:List Rf} (hl:l= []):XW Tryz.prog (y6 125) F ((b8,AO.cells [.i 0,.i 0,.i 0,.own [],.own [],.str []])::(b4,AO.cells [.i p.o,.i p.s,.i p.day,.own (qv l),.own (qw p.ops),.str p.sl])::H) Q:=by
 have hbig:=qk
 obtain ⟨r1,r2⟩:=j4 (n:=bb) (most:=4) (by omega)
 refine XW.loopK hm (fun F H'=>∃(i:Nat) (l:List Rf),(i:Int)<=7+around bb 4∧l=YH i∧Fr 278 [(3,.i bb),(4,.ptr b4 0),(8,.ptr b8 0),(15,.i (i:Int))] F∧((b8,AO.cells [.i 0,.i 0,.i 0,.own [],.own [],.str []])::(b4,AO.cells [.i p.o,.i p.s,.i p.day,.own (qv l),.own (qw p.ops),.str p.sl])::H)=H') (fun F H=>match F.getD 15 .any with| .int _ n'=>10 - n'.toNat|_=>0) ⟨0,[],by omega,rfl,by subst hi;exact hF,by rw [hl]⟩ ?_
 clear hF hi hl i l
 rintro _ _ ⟨i,l,hi,hl,hF,rfl⟩ K hN hE' hR
 have hll:l.length=i:=by rw [hl,UI]
 obtain ⟨z,rfl⟩:=hF.fl rfl
 try dsimp only [fl,zz,qa,qb] at*
 clear hF hR
 simp+contextual only [↓U6,↓yX,↓XP,qp]
 intros
 refine qL (by omega) ?_
 generalize around bb 4=r at r1 r2 hi hN hE ⊢
 simp+contextual only [j9,qg,qm,n48,qi (show -9223372036854775808<=7+r by omega) (by omega),↓U6,↓yX,↓XP,qh,XW1,qb,qc,qe]
 refine fun _=>⟨fun hlt=>?_,fun hge=>?_⟩
 ·have nx:∀F',Fr 278 [(3,.i bb),(4,.ptr b4 0),(8,.ptr b8 0),(15,.i ((i+1:Nat):Int))] F'->∀l:List Rf,l=YH (i+1)->K .normal F' ((b8,AO.cells [.i 0,.i 0,.i 0,.own [],.own [],.str []])::(b4,AO.cells [.i p.o,.i p.s,.i p.day,.own (qv l),.own (qw p.ops),.str p.sl])::H):=fun F' hF' l hl=>hN _ _ ⟨i+1,l,by omega,hl,hF',(qz rfl).symm⟩ (by
   rw [Na,hF'.2.2.2.2.1]
   simp only [Nc,Nd,Ng]
   omega)
  rw [show ∀x y,qv l++ [[.i x,.i y]]=qv (l++ [⟨x,y⟩]) from fun x y=>by simp [qv,Rf.d],qj (by omega)]
  exact ⟨gV,by omega,by omega,nx _ ⟨rfl,rfl,rfl,rfl,rfl,trivial⟩ _ (by rw [hl,bZ])⟩
 ·exact hE' _ _ _ (hE _ l ⟨rfl,rfl,rfl,trivial⟩ (by rw [hl];congr 1;omega))
theorem El {b4 b8} (n48:b4≠b8) (hn:n<=900) (hp:Sz n p) (hk:kk<p.ops.length) (hi:i=0) (hF:Fr 278 [(3,.i bb),(4,.ptr b4 0),(8,.ptr b8 0),(11,.i (kk:Int)),(13,.i (i:Int))] F)
  (hE:∀F' l,Fr 278 [(4,.ptr b4 0),(8,.ptr b8 0)] F'->l=List.replicate 14 (p.ops.getD kk default)->Q (.exit 1) F' ((b8,AO.cells [.i 0,.i 0,.i 0,.own [],.own [],.str []])::(b4,AO.cells [.i p.o,.i p.s,.i p.day,.own (qv p.needs),.own (qw (p.ops++l)),.str p.sl])::H)) (hl:l= []):XW Tryz.prog x6_L2 F ((b8,AO.cells [.i 0,.i 0,.i 0,.own [],.own [],.str []])::(b4,AO.cells [.i p.o,.i p.s,.i p.day,.own (qv p.needs),.own (qw (p.ops++l)),.str p.sl])::H) Q:=by
 have hbig:=qk
 have l1:=hp.ops
 refine XW.loopK hm (fun F H'=>∃(i:Nat) (l:List OpP),i<=14∧l=List.replicate i (p.ops.getD kk default)∧Fr 278 [(3,.i bb),(4,.ptr b4 0),(8,.ptr b8 0),(11,.i (kk:Int)),(13,.i (i:Int))] F∧((b8,AO.cells [.i 0,.i 0,.i 0,.own [],.own [],.str []])::(b4,AO.cells [.i p.o,.i p.s,.i p.day,.own (qv p.needs),.own (qw (p.ops++l)),.str p.sl])::H)=H') (fun F H=>match F.getD 13 .any with| .int _ n'=>14 - n'.toNat|_=>0) ⟨0,[],by omega,rfl,by subst hi;exact hF,by rw [hl]⟩ ?_
 clear hF hi hl i l
 rintro _ _ ⟨i,l,hi,hl,hF,rfl⟩ K hN hE' hR
 obtain ⟨z,rfl⟩:=hF.fl rfl
 try dsimp only [fl,zz,qa,qb] at*
 clear hF hR
 have e1:l.length=i:=by rw [hl,N2]
 by_cases hlt:i<14
 ·have nx:∀F',Fr 278 [(3,.i bb),(4,.ptr b4 0),(8,.ptr b8 0),(11,.i (kk:Int)),(13,.i ((i+1:Nat):Int))] F'->∀l:List OpP,l=List.replicate (i+1) (p.ops.getD kk default)->K .normal F' ((b8,AO.cells [.i 0,.i 0,.i 0,.own [],.own [],.str []])::(b4,AO.cells [.i p.o,.i p.s,.i p.day,.own (qv p.needs),.own (qw (p.ops++l)),.str p.sl])::H):=fun F' hF' l hl=>hN _ _ ⟨i+1,l,by omega,hl,hF',(qz rfl).symm⟩ (by
   rw [Na,hF'.2.2.2.2.2.1]
   simp only [Nc,Nd,Ng]
   omega)
  clear hN hE hE'
  simp+contextual only [show ((i:Int)<14)=True from qo,↓U6,↓yX,↓XP,qp]
  intros
  rw [Jx]
  refine Gz.giveA (bx:=b4) (j:=4) (xs:=qw (p.ops++l)) (by rw [qg n48,ji]) rfl (fun b cap H' g1 g2 g3=>?_)
  have q1:(qw (p.ops++l)).getD kk []=(p.ops.getD kk default).d:=by
   rw [kO (by rw [Ni];omega)]
   congr 1
   simp only [Na]
   rw [Nn hk]
  have ho:=qX hk
  have o1:=hp.ids _ ho
  have o2:=hp.name _ ho
  have o3:=hp.text _ ho
  generalize p.ops.getD kk default=o at q1 o1 o2 o3 nx hl
  have hd:o.d= [.i o.k,.i o.on.o,.i o.on.s,.i o.on.i,.i o.to.o,.i o.to.s,.i o.to.i,.slc (j5 o.ids),.i o.n,.str o.name,.str o.text,.i o.a,.i o.b]:=rfl
  simp+contextual only [qQ,g1,Bk,q1,hd,Ni,show (kk:Int)<((p.ops.length+l.length:Nat):Int) from by omega,↓yX,↓XP,qh,XW1,qb,qc,qe]
  rw [iR]
  refine Gz.takeS (s:=89) (b:=b) (cap:=cap) (xs:=qw (p.ops++l)) rfl g2 ?_
  rw [g3]
  simp+contextual only [qQ,qg,qm,n48,Ni,↓U6,↓yX,↓XP,qh,XW1,qb]
  rw [<-hd,show qw (p.ops++l)++ [o.d]=qw (p.ops++(l++ [o])) by simp [qw],qj (by omega)]
  exact ⟨kT,by omega,by omega,nx _ ⟨rfl,rfl,rfl,rfl,rfl,rfl,trivial⟩ _ (by rw [hl,List.replicate_succ'])⟩
 ·have hik:i=14:=by omega
  subst hik
  clear hN
  simp+contextual only [show (((14:Nat):Int)<14)=False from qy,↓U6,↓yX,↓XP,qp]
  refine hE' _ _ _ (hE _ l ?_ hl)
  exact ⟨rfl,rfl,rfl,trivial⟩
theorem CC {b4 b8} (n48:b4≠b8) (hn:n<=900) (hp:Sz n p) (hk:kk<p.ops.length) (hi:i=0) (hF:Fr 278 [(3,.i bb),(4,.ptr b4 0),(8,.ptr b8 0),(11,.i (kk:Int)),(14,.i (i:Int))] F)
  (hE:∀F' l,Fr 278 [(4,.ptr b4 0),(8,.ptr b8 0)] F'->l=List.replicate 7 (ld bb)->Q (.exit 3) F' ((b8,AO.cells [.i 0,.i 0,.i 0,.own [],.own [],.str []])::(b4,AO.cells [.i p.o,.i p.s,.i p.day,.own (qv p.needs),.own (qw (p.ops++l)),.str p.sl])::H)) (hl:l= []):XW Tryz.prog x6_L5 F ((b8,AO.cells [.i 0,.i 0,.i 0,.own [],.own [],.str []])::(b4,AO.cells [.i p.o,.i p.s,.i p.day,.own (qv p.needs),.own (qw (p.ops++l)),.str p.sl])::H) Q:=by
 have hbig:=qk
 have l1:=hp.ops
 refine XW.loopK hm (fun F H'=>∃(i:Nat) (l:List OpP),i<=7∧l=List.replicate i (ld bb)∧Fr 278 [(3,.i bb),(4,.ptr b4 0),(8,.ptr b8 0),(11,.i (kk:Int)),(14,.i (i:Int))] F∧((b8,AO.cells [.i 0,.i 0,.i 0,.own [],.own [],.str []])::(b4,AO.cells [.i p.o,.i p.s,.i p.day,.own (qv p.needs),.own (qw (p.ops++l)),.str p.sl])::H)=H') (fun F H=>match F.getD 14 .any with| .int _ n'=>7 - n'.toNat|_=>0) ⟨0,[],by omega,rfl,by subst hi;exact hF,by rw [hl]⟩ ?_
 clear hF hi hl i l
 rintro _ _ ⟨i,l,hi,hl,hF,rfl⟩ K hN hE' hR
 obtain ⟨z,rfl⟩:=hF.fl rfl
 try dsimp only [fl,zz,qa,qb] at*
 clear hF hR
 have e1:l.length=i:=by rw [hl,N2]
 by_cases hlt:i<7
 ·have nx:∀F',Fr 278 [(3,.i bb),(4,.ptr b4 0),(8,.ptr b8 0),(11,.i (kk:Int)),(14,.i ((i+1:Nat):Int))] F'->∀l:List OpP,l=List.replicate (i+1) (ld bb)->K .normal F' ((b8,AO.cells [.i 0,.i 0,.i 0,.own [],.own [],.str []])::(b4,AO.cells [.i p.o,.i p.s,.i p.day,.own (qv p.needs),.own (qw (p.ops++l)),.str p.sl])::H):=fun F' hF' l hl=>hN _ _ ⟨i+1,l,by omega,hl,hF',(qz rfl).symm⟩ (by
   rw [Na,hF'.2.2.2.2.2.1]
   simp only [Nc,Nd,Ng]
   omega)
  clear hN hE hE'
  simp+contextual only [show ((i:Int)<7)=True from qo,↓U6,↓yX,↓XP,qp]
  intros
  rw [Jx]
  refine Gz.giveA (bx:=b4) (j:=4) (xs:=qw (p.ops++l)) (by rw [qg n48,ji]) rfl (fun b cap H' g1 g2 g3=>?_)
  simp+contextual only [g1,↓yX,↓XP,qh,XW1,qb,qe]
  obtain ⟨r1,r2⟩:=j4 (n:=bb) (most:=125) (by omega)
  refine ⟨_,fun _ _=>qL (by omega) ⟨rfl,rfl⟩,?_⟩
  generalize hr:around bb 125=r at r1 r2 ⊢
  have hg:ld bb={yB with k:=7,on:=⟨0,1,0⟩,text:=(List.replicate (900+r).toNat [D.int .u8 0]).map unbyte}:=by unfold ld;rw [hr]
  have w:IntKind.i64.wrap (900+r)=900+r:=qi (by omega) (by omega)
  simp+contextual only [w,↓yX,↓XP,qh,XW1,qb,qc,qe]
  refine fun _=>⟨by omega,iS (by omega),eA,fun _=>?_⟩
  rw [iR]
  refine Gz.takeS (s:=239) (b:=b) (cap:=cap) (xs:=qw (p.ops++l)) rfl g2 ?_
  rw [g3]
  simp+contextual only [qQ,qg,qm,n48,Ni,↓U6,↓yX,↓XP,qh,XW1,qb]
  have e:∀t:List UInt8,qw (p.ops++l)++ [[.i 7,.i 0,.i 1,.i 0,.i 0,.i 0,.i 0,.slc [],.i 0,.str [],.str t,.i 0,.i 0]]=qw (p.ops++(l++ [{yB with k:=7,on:=⟨0,1,0⟩,text:=t}])):=fun t=>by simp [qw,OpP.d,j5,yB,Ja]
  rw [e,qj (by omega)]
  exact ⟨kT,by omega,by omega,nx _ ⟨rfl,rfl,rfl,rfl,rfl,rfl,trivial⟩ _ (by rw [hl,List.replicate_succ',hg])⟩
 ·have hik:i=7:=by omega
  subst hik
  clear hN
  simp+contextual only [show (((7:Nat):Int)<7)=False from qy,↓U6,↓yX,↓XP,qp]
  refine hE' _ _ _ (hE _ l ?_ hl)
  exact ⟨rfl,rfl,rfl,trivial⟩
theorem Da {b4 b8} (hm:around how 20=5) (hn:n<=900) (hp:Sz n p) (n48:b4≠b8) (hk:kk<p.ops.length) (hF:Fr 278 [(1,.i a),(2,.i how),(3,.i bb),(4,.ptr b4 0),(8,.ptr b8 0),(11,.i (kk:Int)),(12,.i near)] F) (h:R (.agg ({p with ops:=p.ops++List.replicate 14 (p.ops.getD kk default)}:Pt).d) H):xcode Tryz.prog x6_s38 F ((b8,.cells [.i 0,.i 0,.i 0,.own [],.own [],.str []])::(b4,.cells [.i p.o,.i p.s,.i p.day,.own (qv p.needs),.own (qw p.ops),.str p.sl])::H) (jX Tryz.prog [(.cell 8 26)] H.length R):=by
 obtain ⟨z,rfl⟩:=hF.fl rfl
 try dsimp only [fl,zz,qa,qb] at*
 clear hF
 have hbig:=qk
 simp+contextual only [↓U6,↓yX,↓XP,qp]
 refine qL (by omega) ?_
 rw [hm]
 simp+contextual only [Int.reduceEq,↓U6,↓yX,↓XP,qp]
 intros
 rw [show qw p.ops=qw (p.ops++ []) by rw [Nw]]
 refine El (i:=0) (l:= []) n48 hn hp hk rfl ⟨rfl,rfl,rfl,rfl,rfl,rfl,trivial⟩ (fun F' l hF' hl=>?_) rfl
 subst hl
 obtain ⟨z,rfl⟩:=hF'.fl rfl
 try dsimp only [fl,zz,qa,qb] at*
 simp+contextual only [qg,n48,↓yX,↓XP,qh,XW1,qb,qf]
 exact h
theorem xG {b4 b8} (hm:around how 20=16) (hn:n<=900) (hp:Sz n p) (n48:b4≠b8) (hk:kk<p.ops.length) (hF:Fr 278 [(1,.i a),(2,.i how),(3,.i bb),(4,.ptr b4 0),(8,.ptr b8 0),(11,.i (kk:Int)),(12,.i near)] F) (h:R (.agg ({p with ops:=p.ops++List.replicate 7 (ld bb)}:Pt).d) H):xcode Tryz.prog x6_s38 F ((b8,.cells [.i 0,.i 0,.i 0,.own [],.own [],.str []])::(b4,.cells [.i p.o,.i p.s,.i p.day,.own (qv p.needs),.own (qw p.ops),.str p.sl])::H) (jX Tryz.prog [(.cell 8 26)] H.length R):=by
 obtain ⟨z,rfl⟩:=hF.fl rfl
 try dsimp only [fl,zz,qa,qb] at*
 clear hF
 have hbig:=qk
 simp+contextual only [↓U6,↓yX,↓XP,qp]
 refine qL (by omega) ?_
 rw [hm]
 simp+contextual only [Int.reduceEq,↓U6,↓yX,↓XP,qp]
 intros
 rw [show qw p.ops=qw (p.ops++ []) by rw [Nw]]
 refine CC (i:=0) (l:= []) n48 hn hp hk rfl ⟨rfl,rfl,rfl,rfl,rfl,rfl,trivial⟩ (fun F' l hF' hl=>?_) rfl
 subst hl
 obtain ⟨z,rfl⟩:=hF'.fl rfl
 try dsimp only [fl,zz,qa,qb] at*
 simp+contextual only [qg,n48,↓yX,↓XP,qh,XW1,qb,qf]
 exact h
theorem rB {b4 b8} (hm:around how 20=18) (hn:n<=900) (hp:Sz n p) (n48:b4≠b8) (hk:kk<p.ops.length) (hF:Fr 278 [(1,.i a),(2,.i how),(3,.i bb),(4,.ptr b4 0),(8,.ptr b8 0),(11,.i (kk:Int)),(12,.i near)] F) (h:R (.agg ({p with needs:=YH (7+around bb 4).toNat}:Pt).d) H):xcode Tryz.prog x6_s38 F ((b8,.cells [.i 0,.i 0,.i 0,.own [],.own [],.str []])::(b4,.cells [.i p.o,.i p.s,.i p.day,.own (qv p.needs),.own (qw p.ops),.str p.sl])::H) (jX Tryz.prog [(.cell 8 26)] H.length R):=by
 obtain ⟨z,rfl⟩:=hF.fl rfl
 try dsimp only [fl,zz,qa,qb] at*
 clear hF
 have hbig:=qk
 simp+contextual only [↓U6,↓yX,↓XP,qp]
 refine qL (by omega) ?_
 rw [hm]
 simp+contextual only [qg,qm,Int.reduceEq,n48,↓U6,↓yX,↓XP,qh,XW1,qb]
 refine fun _=>⟨by omega,?_⟩
 refine tL (i:=0) (l:= []) n48 rfl ⟨rfl,rfl,rfl,rfl,rfl,trivial⟩ (fun F' l hF' hl=>?_) rfl
 subst hl
 obtain ⟨z,rfl⟩:=hF'.fl rfl
 try dsimp only [fl,zz,qa,qb] at*
 simp+contextual only [qg,n48,↓yX,↓XP,qh,XW1,qb,qf]
 exact h
theorem fT (hp:Fit p) (h:R (.str (jK (bare p))) H):ACall Tryz.prog 34 [.agg p.d] H R:=by
 refine b34 fun hf=>?_
 have hbig:=qk
 have hd:p.d= [.i p.o,.i p.s,.i p.day,.slc (qv p.needs),.slc (qw p.ops),.str p.sl]:=rfl
 simp+contextual only [↓U34,hd,↓U34.1,↓XP,qh,qa,qb]
 refine fun b1 h1=>eM (p:=bare p) (Ze hp) fun k=>?_
 simp+contextual only [↓XP,qh,XW1]
 refine fun _=>⟨Qh,?_⟩
 rw [K5]
 exact h
theorem iN (hp:Fit p) (h:R (.str (jK (bare p))) H):ACall Tryz.prog 28 [.agg p.d] H R:=py hp h
def Q8 (seed:List UInt8) (i:Int) (p:Pt):Pt:={p with sl:=JB seed i.toNat (p.s - 1).toNat (jK (bare p))}
noncomputable def Km (seed:List UInt8) (i:Int) (p:Pt):Pt×Int:=
 if jl p≠0 then (pt0,jl p)
 else if ¬(v8 seed i=true∧i<=4) then (pt0,1)
 else if ((2 ^ i.toNat:Nat):Int)<p.s then (pt0,23)
 else (Q8 seed i p,0)
theorem QA (h:jl p=0):yR p∧(jK (bare p)).length<=6800:=by
 unfold jl at h
 by_cases h1:yR p
 ·refine ⟨h1,?_⟩
  rw [if_neg (fun c=>c h1)] at h
  repeat' split at h
  all_goals first|omega|simp_all
 ·rw [if_pos h1] at h
  omega
theorem xJ (hg:Kst0 H) (hp:Fit p) (h:R (.tup [.agg (Km seed i p).1.d,.i (Km seed i p).2]) H):ACall Tryz.prog 13 [.str seed,.i i,.agg p.d] H R:=by
 refine dk fun hf=>?_
 have hbig:=qk
 have hd:p.d= [.i p.o,.i p.s,.i p.day,.slc (qv p.needs),.slc (qw p.ops),.str p.sl]:=rfl
 simp+contextual only [↓ny,hd,↓ny,↓XP,qh,XW1,qa,qb]
 intro b5 h5 b6 h6
 obtain ⟨n56,f6⟩:=h6
 simp only [<-hd]
 refine Uf hp ?_
 have h0: [D.i 0,.i 0,.i 0,.slc [],.slc [],.str []]=pt0.d:=rfl
 unfold Km at h
 by_cases hv:jl p=0
 ·obtain ⟨hh,hml⟩:=QA hv
  obtain ⟨_,_,hs1,hs16,_⟩:=hh
  rw [if_neg (fun c=>c hv)] at h
  rw [hv]
  simp+contextual only [↓ny,↓XP,qp]
  have hg2:Kst0 ((b6,AO.cells [D.int IntKind.i64 0,D.int IntKind.i64 0,D.int IntKind.i64 0,D.own [],D.own [],D.str []])::(b5,.cells p.d)::H):=(hg.push h5).push ⟨Ne.symm n56,f6⟩
  refine fun _=>Jo hg2 ?_
  by_cases hk:v8 seed i=true∧i<=4
  ·rw [if_neg (fun c=>c hk)] at h
   obtain ⟨hk1,hk2,_⟩:seed.length=32∧0<=i∧i<=6:=of_decide_eq_true hk.1
   obtain ⟨n,rfl⟩:=Nv hk2
   rw [Ky hk.1 hk.2]
   rw [Nh] at h ⊢
   have nr:=jI seed n 0
   generalize jp seed n 0=root at nr ⊢
   have hn6:n<=6:=by have:=hk.2;omega
   obtain ⟨hp1,hp2,hp3⟩:=ua hn6
   have hn0:((0:Int)<=(n:Int))=True:=qo
   simp+contextual only [↓ny,↓XP,qh,XW1,qb]
   intro _ b9 h9
   obtain ⟨n96,n95,f9⟩:=h9
   by_cases hq:((2 ^ n:Nat):Int)<p.s
   ·rw [if_pos hq] at h
    simp+contextual only [qg,qm,n56,n96,n95,hd,hp1,hn0,eq_true hq,Nh,↓ny,↓XP,qh,XW1,qb]
    exact ⟨vf nr _,fun _=>h⟩
   ·rw [if_neg hq] at h
    simp+contextual only [qg,n56,n95,hd,hp1,hn0,eq_false hq,Nh,↓ny,↓XP,qh,XW1,qb]
    obtain ⟨m,hm⟩:=Nv (show 0<=p.s - 1 by omega)
    have hw:IntKind.i64.wrap (p.s - 1)=(m:Int):=by rw [qi (by omega) (by omega)];exact hm
    have hKm:Kst0 ((b9,.cells (jf root++ [D.int IntKind.i64 ↑n]))::(b6,AO.cells [D.int IntKind.i64 0,D.int IntKind.i64 0,D.int IntKind.i64 0,D.own [],D.own [],D.str []])::(b5,.cells p.d)::H):=hg2.push ⟨Ne.symm n96,Ne.symm n95,f9⟩
    simp only [hd] at hKm
    refine ⟨vf nr _,fun _=>⟨_,fun H1 hs=>fT hp ⟨rfl,rfl⟩,?_⟩⟩
    have hsp:Q8 seed (n:Int) p={p with sl:=JB seed n m (jK (bare p))}:=by
     unfold Q8
     rw [Nh,hm,Nh]
    rw [hsp] at h
    generalize jK (bare p)=msg at hml h ⊢
    simp+contextual only [hw,↓XP,qp]
    refine fun _=>⟨_,fun H1 hs=>lR (hKm.sub hs) hk1 hn6 (by omega) (by omega) ⟨rfl,rfl⟩,?_⟩
    generalize JB seed n m msg=sg at h ⊢
    simp+contextual only [qg,qm,n56,n96,n95,↓ny,↓XP,qh,XW1,qb]
    exact fun _ _=>h
  ·rw [if_pos hk] at h
   rw [QO hk]
   simp+contextual only [hd,↓ny,↓XP,qh,XW1,qb]
   exact fun _ b9 _=>⟨rfl,fun _=>h,fun c=>absurd c (by decide)⟩
 ·rw [if_pos hv] at h
  generalize jl p=e at hv h ⊢
  simp+contextual only [hd,hv,↓ny,↓XP,qh,XW1,qb]
  exact fun _=>h
theorem Zk:∀x∈qw l,∀d∈x,plain d=true:=by
 intro x hx d hd
 obtain ⟨o,_,rfl⟩:=List.mem_map.1 hx
 simp only [OpP.d,Nu,N0,or_false] at hd
 rcases hd with rfl|rfl|rfl|rfl|rfl|rfl|rfl|rfl|rfl|rfl|rfl|rfl|rfl<;>rfl
theorem zl {b4 b8} (h1:b4≠b) (h2:b4≠b8) (hl:l.length=n):
  Fz F ((b,.cells ((qw l).flatten++rest))::(b8,o8)::(b4,.cells [c0,c1,c2,c3,.hgs b n cp,c5])::H) F ((b8,o8)::(b4,.cells [c0,c1,c2,c3,.slc (qw l),c5])::H):=by
 have h:=Fz.freezeC (F:=F) (H:=(b,.cells ((qw l).flatten++rest))::(b8,o8)::(b4,.cells [c0,c1,c2,c3,.hsl b n,c5])::H) (b':=b4) (j:=4) (b:=b) (n:=n) (sz:=13) (ds:= [c0,c1,c2,c3,.hsl b n,c5]) (cs:=(qw l).flatten++rest) (xs:=qw l) (rest:=rest) h1
  (by rw [qg h1,qg h2,ji]) rfl ji rfl (by rw [qQ,hl]) kT (by omega) Zk
 rw [qm h1,qm h2,wT,vY] at h
 have h0:=Fz.hgsC (F:=F) (H:=(b,.cells ((qw l).flatten++rest))::(b8,o8)::(b4,.cells [c0,c1,c2,c3,.hgs b n cp,c5])::H) (b':=b4) (j:=4) (b:=b) (n:=n) (cap:=cp) (ds:= [c0,c1,c2,c3,.hgs b n cp,c5])
  (by rw [qg h1,qg h2,ji]) rfl
 rw [qm h1,qm h2,wT] at h0
 exact h0.trans h
theorem tX (hk:kk<l.length) (hj:j<13) (e:(l.getD kk default).d.set j v=o'.d):
  ((qw l).flatten++rest).set (kk*13+j) v=(qw (l.set kk o')).flatten++rest:=by
 rw [rL kT (by rw [qQ];exact hk) hj,kO hk,e,GR]
theorem FA (hk:kk<l.length) (hj:j+m<=13) (e:(l.getD kk default).d.take j++(v++(l.getD kk default).d.drop (j+m))=o'.d):
  ((qw l).flatten++rest).take (kk*13+j)++(v++((qw l).flatten++rest).drop (kk*13+j+m))=(qw (l.set kk o')).flatten++rest:=by
 rw [nD kT (by rw [qQ];exact hk) hj,kO hk,e,GR]
theorem IG (hk:kk<l.length) (hj:j+2<=13) (e:(l.getD kk default).d.take j++([x,y]++(l.getD kk default).d.drop (j+2))=o'.d):
  ((qw l).flatten++rest).take (kk*13+j)++x::y::((qw l).flatten++rest).drop (kk*13+j+2)=(qw (l.set kk o')).flatten++rest:=FA hk hj e
theorem C6 (hk:kk<l.length) (hj:j+3<=13) (e:(l.getD kk default).d.take j++([x,y,z]++(l.getD kk default).d.drop (j+3))=o'.d):
  ((qw l).flatten++rest).take (kk*13+j)++x::y::z::((qw l).flatten++rest).drop (kk*13+j+3)=(qw (l.set kk o')).flatten++rest:=FA hk hj e
theorem Bc (hk:kk<l.length):
  ((qw l).flatten++rest).take (kk*13)++(o'.d++((qw l).flatten++rest).drop (kk*13+13))=(qw (l.set kk o')).flatten++rest:=
 FA (j:=0) (m:=13) hk (by omega) (by simp [OpP.d])
theorem Eb {k:List D->AH->Prop} (h:Gz F H fun F' H'=>Gz F' H' k):Gz F H k:=Gz.bind h fun _ _ h=>h
theorem rd1 (hk:kk<l.length) (hj:j<13):((qw l).flatten++rest)[kk*13+j]?=(l.getD kk default).d[j]?:=by
 rw [t5 kT (by rw [qQ];exact hk) hj,kO hk]
theorem rd2 (hk:kk<l.length) (hj:j+m<=13):(((qw l).flatten++rest).drop (kk*13+j)).take m=((l.getD kk default).d.drop j).take m:=by
 rw [pm kT (by rw [qQ];exact hk) hj,kO hk]
theorem vj (hk:kk<l.length):kk*13+13<=((qw l).flatten++rest).length:=by
 rw [Ni,vO (sz:=13) kT,qQ]
 have:(kk+1)*13<=l.length*13:=Nat.mul_le_mul_right _ hk
 omega
theorem eW (hn:n<=900) (hp:Sz n p) (hne:0<p.ops.length) (hkk:around a (p.ops.length:Int)=(kk:Int)) (hnr:around bb 22 - 2=near)
  (h:∀(b b4 b8 m cp:Nat) (F:List D),b4≠b8->b4≠b->b8≠b->Fr 278 [(1,.i a),(2,.i how),(3,.i bb),(4,.ptr b4 0),(8,.ptr b8 0),(11,.i (kk:Int)),(12,.i near)] F->xcode Tryz.prog x6v_s38 F ((b,.cells ((qw p.ops).flatten++List.replicate m .any))::(b8,.cells [.i 0,.i 0,.i 0,.own [],.own [],.str []])::(b4,.cells [.i p.o,.i p.s,.i p.day,.own (qv p.needs),.hgs b p.ops.length cp,.str p.sl])::H) (jX Tryz.prog [(.cell 8 26)] H.length R)):
  ACall Tryz.prog 6 [.agg p.d,.i a,.i how,.i bb] H R:=by
 refine b6v fun hf=>?_
 have hbig:=qk
 have hd:p.d= [.i p.o,.i p.s,.i p.day,.slc (qv p.needs),.slc (qw p.ops),.str p.sl]:=rfl
 have l1:=hp.ops
 have l2:=hp.needs
 have hx:qw p.ops≠ []:=by
  intro e
  have:=congrArg List.length e
  rw [qQ] at this
  simp at this
  rw [this] at hne
  simp at hne
 simp+contextual only [x6v,↓GP,↓GU,↓aD,↓az,j9,qQ,qg,qm,hd,hx,↓jY,↓XP,qh,XW1,qa,qb]
 intro b4 h4 b8 hh h8
 obtain ⟨n48,h8'⟩:=hh
 have a1:=j4 (n:=a) (most:=(p.ops.length:Int)) (by omega)
 have a2:=j4 (n:=bb) (most:=22) (by omega)
 have hk:=hkk
 refine ⟨gV,by omega,by omega,fun _=>⟨kT,by omega,fun b cp m hh hcm=>?_⟩⟩
 obtain ⟨n8b,n4b,hb⟩:=hh
 refine ⟨by omega,qL (by omega) ?_⟩
 rw [hk]
 simp+contextual only [↓GP,↓GU,↓aD,↓az,↓jY,↓XP,qp]
 refine fun _=>qL (by omega) ?_
 simp+contextual only [qi (show -9223372036854775808<=around bb 22 - 2 by omega) (by omega),↓jY,↓XP,qp]
 intros
 subst hnr
 refine h b b4 b8 m cp _ n48 n4b n8b ?_
 exact ⟨rfl,rfl,rfl,rfl,rfl,rfl,rfl,rfl,trivial⟩
theorem BT {b4 b8} (hm:around how 20=6) (hn:n<=900) (hp:Sz n p) (n48:b4≠b8) (n4b:b4≠b) (n8b:b8≠b) (hk:kk<p.ops.length) (hF:Fr 278 [(1,.i a),(2,.i how),(3,.i bb),(4,.ptr b4 0),(8,.ptr b8 0),(11,.i (kk:Int)),(12,.i near)] F) (h:R (.agg ({p with ops:=p.ops.set kk {(p.ops.getD kk default) with k:=near}}:Pt).d) H):xcode Tryz.prog x6v_s38 F ((b,.cells ((qw p.ops).flatten++List.replicate m .any))::(b8,.cells [.i 0,.i 0,.i 0,.own [],.own [],.str []])::(b4,.cells [.i p.o,.i p.s,.i p.day,.own (qv p.needs),.hgs b p.ops.length cp,.str p.sl])::H) (jX Tryz.prog [(.cell 8 26)] H.length R):=by
 obtain ⟨z,rfl⟩:=hF.fl rfl
 try dsimp only [fl,zz,qa,qb] at*
 clear hF
 have hbig:=qk
 have wl:=vj (rest:=List.replicate m .any) hk
 have ho:=qX hk
 have o1:=hp.ids _ ho
 have o2:=hp.name _ ho
 have o3:=hp.text _ ho
 obtain ⟨o,eo⟩:∃o,p.ops.getD kk default=o:=⟨_,rfl⟩
 rw [eo] at o1 o2 o3
 try rw [eo] at h
 simp+contextual only [↓YD,↓jY,↓XP,qp]
 refine qL (by omega) ?_
 rw [hm]
 simp+contextual only [qg,Int.reduceEq,n48,n4b,hk,Int.ofNat_lt,↓YD,↓jY,↓XP,qh,XW1]
 refine fun _=>⟨by omega,?_⟩
 have e:=tX (rest:=List.replicate m .any) (v:= .i near) (o':={o with k:=near}) (j:=0) hk (by omega) (by rw [eo];rfl)
 try rw [Nat.add_zero] at e
 rw [e]
 refine kP (zl n4b n48 (by rw [Nr])) ?_
 simp+contextual only [qg,n48,↓jY,↓XP,qh,XW1,qb]
 exact h
theorem Dh {b4 b8} (hm:around how 20=7) (hn:n<=900) (hp:Sz n p) (n48:b4≠b8) (n4b:b4≠b) (n8b:b8≠b) (hk:kk<p.ops.length) (hF:Fr 278 [(1,.i a),(2,.i how),(3,.i bb),(4,.ptr b4 0),(8,.ptr b8 0),(11,.i (kk:Int)),(12,.i near)] F) (h:R (.agg ({p with ops:=p.ops.set kk {(p.ops.getD kk default) with on:=⟨near,around bb 19,IntKind.i64.wrap (around (IntKind.i64.wrap (bb.tdiv 5)) 18 - 1)⟩}}:Pt).d) H):xcode Tryz.prog x6v_s38 F ((b,.cells ((qw p.ops).flatten++List.replicate m .any))::(b8,.cells [.i 0,.i 0,.i 0,.own [],.own [],.str []])::(b4,.cells [.i p.o,.i p.s,.i p.day,.own (qv p.needs),.hgs b p.ops.length cp,.str p.sl])::H) (jX Tryz.prog [(.cell 8 26)] H.length R):=by
 obtain ⟨z,rfl⟩:=hF.fl rfl
 try dsimp only [fl,zz,qa,qb] at*
 clear hF
 have hbig:=qk
 have wl:=vj (rest:=List.replicate m .any) hk
 have ho:=qX hk
 have o1:=hp.ids _ ho
 have o2:=hp.name _ ho
 have o3:=hp.text _ ho
 obtain ⟨o,eo⟩:∃o,p.ops.getD kk default=o:=⟨_,rfl⟩
 rw [eo] at o1 o2 o3
 try rw [eo] at h
 simp+contextual only [↓YD,↓jY,↓XP,qp]
 refine qL (by omega) ?_
 rw [hm]
 simp+contextual only [qg,Int.reduceEq,n48,n4b,↓YD,↓jY,↓XP,qh,XW1]
 refine fun _=>⟨_,fun _ _=>qL (by omega) ⟨rfl,rfl⟩,?_⟩
 simp+contextual only [Int.reduceEq,↓jY,↓XP,qp,XW1]
 refine fun _=>⟨_,fun _ _=>qL (by omega) ⟨rfl,rfl⟩,?_⟩
 simp+contextual only [hk,Int.ofNat_lt,↓jY,↓XP,qh,qb,qe]
 refine fun _=>⟨by omega,?_⟩
 have e:=C6 (rest:=List.replicate m .any) (x:= .i (near)) (y:= .i (around bb 19)) (z:= .i (IntKind.i64.wrap (around (IntKind.i64.wrap (bb.tdiv 5)) 18 - 1))) (o':={o with on:=⟨near,around bb 19,IntKind.i64.wrap (around (IntKind.i64.wrap (bb.tdiv 5)) 18 - 1)⟩}) (j:=1) hk (by omega) (by rw [eo];rfl)
 try rw [Nat.add_zero] at e
 rw [e]
 refine kP (zl n4b n48 (by rw [Nr])) ?_
 simp+contextual only [qg,n48,↓jY,↓XP,qh,XW1,qb]
 exact h
theorem E1 {b4 b8} (hm:around how 20=8) (hn:n<=900) (hp:Sz n p) (n48:b4≠b8) (n4b:b4≠b) (n8b:b8≠b) (hk:kk<p.ops.length) (hF:Fr 278 [(1,.i a),(2,.i how),(3,.i bb),(4,.ptr b4 0),(8,.ptr b8 0),(11,.i (kk:Int)),(12,.i near)] F) (h:R (.agg ({p with ops:=p.ops.set kk {(p.ops.getD kk default) with to:=⟨around bb 9,near,IntKind.i64.wrap (around (IntKind.i64.wrap (bb.tdiv 5)) 18 - 1)⟩}}:Pt).d) H):xcode Tryz.prog x6v_s38 F ((b,.cells ((qw p.ops).flatten++List.replicate m .any))::(b8,.cells [.i 0,.i 0,.i 0,.own [],.own [],.str []])::(b4,.cells [.i p.o,.i p.s,.i p.day,.own (qv p.needs),.hgs b p.ops.length cp,.str p.sl])::H) (jX Tryz.prog [(.cell 8 26)] H.length R):=by
 obtain ⟨z,rfl⟩:=hF.fl rfl
 try dsimp only [fl,zz,qa,qb] at*
 clear hF
 have hbig:=qk
 have wl:=vj (rest:=List.replicate m .any) hk
 have ho:=qX hk
 have o1:=hp.ids _ ho
 have o2:=hp.name _ ho
 have o3:=hp.text _ ho
 obtain ⟨o,eo⟩:∃o,p.ops.getD kk default=o:=⟨_,rfl⟩
 rw [eo] at o1 o2 o3
 try rw [eo] at h
 simp+contextual only [↓YD,↓jY,↓XP,qp]
 refine qL (by omega) ?_
 rw [hm]
 simp+contextual only [qg,Int.reduceEq,n48,n4b,↓YD,↓jY,↓XP,qh,XW1]
 refine fun _=>⟨_,fun _ _=>qL (by omega) ⟨rfl,rfl⟩,?_⟩
 simp+contextual only [Int.reduceEq,↓jY,↓XP,qp,XW1]
 refine fun _=>⟨_,fun _ _=>qL (by omega) ⟨rfl,rfl⟩,?_⟩
 simp+contextual only [hk,Int.ofNat_lt,↓jY,↓XP,qh,qb,qe]
 refine fun _=>⟨by omega,?_⟩
 have e:=C6 (rest:=List.replicate m .any) (x:= .i (around bb 9)) (y:= .i (near)) (z:= .i (IntKind.i64.wrap (around (IntKind.i64.wrap (bb.tdiv 5)) 18 - 1))) (o':={o with to:=⟨around bb 9,near,IntKind.i64.wrap (around (IntKind.i64.wrap (bb.tdiv 5)) 18 - 1)⟩}) (j:=4) hk (by omega) (by rw [eo];rfl)
 try rw [Nat.add_zero] at e
 rw [e]
 refine kP (zl n4b n48 (by rw [Nr])) ?_
 simp+contextual only [qg,n48,↓jY,↓XP,qh,XW1,qb]
 exact h
theorem Eq {b4 b8} (hm:around how 20=9) (hn:n<=900) (hp:Sz n p) (n48:b4≠b8) (n4b:b4≠b) (n8b:b8≠b) (hk:kk<p.ops.length) (hF:Fr 278 [(1,.i a),(2,.i how),(3,.i bb),(4,.ptr b4 0),(8,.ptr b8 0),(11,.i (kk:Int)),(12,.i near)] F) (h:R (.agg ({p with ops:=p.ops.set kk {(p.ops.getD kk default) with to:=(p.ops.getD kk default).on}}:Pt).d) H):xcode Tryz.prog x6v_s38 F ((b,.cells ((qw p.ops).flatten++List.replicate m .any))::(b8,.cells [.i 0,.i 0,.i 0,.own [],.own [],.str []])::(b4,.cells [.i p.o,.i p.s,.i p.day,.own (qv p.needs),.hgs b p.ops.length cp,.str p.sl])::H) (jX Tryz.prog [(.cell 8 26)] H.length R):=by
 obtain ⟨z,rfl⟩:=hF.fl rfl
 try dsimp only [fl,zz,qa,qb] at*
 clear hF
 have hbig:=qk
 have wl:=vj (rest:=List.replicate m .any) hk
 have ho:=qX hk
 have o1:=hp.ids _ ho
 have o2:=hp.name _ ho
 have o3:=hp.text _ ho
 obtain ⟨o,eo⟩:∃o,p.ops.getD kk default=o:=⟨_,rfl⟩
 rw [eo] at o1 o2 o3
 try rw [eo] at h
 simp+contextual only [↓YD,↓jY,↓XP,qp]
 refine qL (by omega) ?_
 rw [hm]
 simp+contextual only [qg,Int.reduceEq,n48,n4b,hk,Int.ofNat_lt,↓YD,↓jY,↓XP,qh,XW1]
 refine fun _=>⟨by omega,by rw [rd2 hk (by omega),eo];rfl,by omega,?_⟩
 rw [rd2 hk (by omega),eo]
 have e:=FA (rest:=List.replicate m .any) (v:=List.map D.view1 ((o.d.drop 1).take 3)) (o':={o with to:=o.on}) (j:=4) (m:=3) hk (by omega) (by rw [eo];rfl)
 try rw [Nat.add_zero] at e
 rw [e]
 refine kP (zl n4b n48 (by rw [Nr])) ?_
 simp+contextual only [qg,n48,↓jY,↓XP,qh,XW1,qb]
 exact h
theorem rX {b4 b8} (hm:around how 20=10) (hn:n<=900) (hp:Sz n p) (n48:b4≠b8) (n4b:b4≠b) (n8b:b8≠b) (hk:kk<p.ops.length) (hF:Fr 278 [(1,.i a),(2,.i how),(3,.i bb),(4,.ptr b4 0),(8,.ptr b8 0),(11,.i (kk:Int)),(12,.i near)] F) (h:R (.agg ({p with ops:=p.ops.set kk {(p.ops.getD kk default) with n:=([-2,-1,0,1,2,1023,1024,1048576,1048577,bb]:List Int).getD (around bb 10).toNat 0}}:Pt).d) H):xcode Tryz.prog x6v_s38 F ((b,.cells ((qw p.ops).flatten++List.replicate m .any))::(b8,.cells [.i 0,.i 0,.i 0,.own [],.own [],.str []])::(b4,.cells [.i p.o,.i p.s,.i p.day,.own (qv p.needs),.hgs b p.ops.length cp,.str p.sl])::H) (jX Tryz.prog [(.cell 8 26)] H.length R):=by
 obtain ⟨z,rfl⟩:=hF.fl rfl
 try dsimp only [fl,zz,qa,qb] at*
 clear hF
 have hbig:=qk
 have wl:=vj (rest:=List.replicate m .any) hk
 have ho:=qX hk
 have o1:=hp.ids _ ho
 have o2:=hp.name _ ho
 have o3:=hp.text _ ho
 obtain ⟨o,eo⟩:∃o,p.ops.getD kk default=o:=⟨_,rfl⟩
 rw [eo] at o1 o2 o3
 try rw [eo] at h
 simp+contextual only [↓YD,↓jY,↓XP,qp]
 refine qL (by omega) ?_
 rw [hm]
 simp+contextual only [qg,Int.reduceEq,n48,n4b,↓YD,↓jY,↓XP,qh,XW1,qc,qe]
 refine fun _=>⟨_,fun _ _=>qL (by omega) ⟨rfl,rfl⟩,?_⟩
 obtain ⟨r1,r2⟩:=j4 (n:=bb) (most:=10) (by omega)
 generalize around bb 10=r at r1 r2 h ⊢
 obtain ⟨hv,e⟩:=Qt (l:= [-2,-1,0,1,2,1023,1024,1048576,1048577,bb]) r1 r2
 generalize ([-2,-1,0,1,2,1023,1024,1048576,1048577,bb]:List Int).getD r.toNat 0=v at hv e h
 have e': [[D.i (-2)],[D.i (-1)],[D.i 0],[D.i 1],[D.i 2],[D.i 1023],[D.i 1024],[D.i 1048576],[D.i 1048577],[D.i bb]].getD r.toNat []= [.i v]:=e
 simp+contextual only [hk,Int.ofNat_lt,e',r1,show r<((10:Nat):Int) from r2,↓jY,↓XP,qh,qb]
 refine fun _ _=>⟨by omega,?_⟩
 have e:=tX (rest:=List.replicate m .any) (v:= .i v) (o':={o with n:=v}) (j:=8) hk (by omega) (by rw [eo];rfl)
 try rw [Nat.add_zero] at e
 rw [e]
 refine kP (zl n4b n48 (by rw [Nr])) ?_
 simp+contextual only [qg,n48,↓jY,↓XP,qh,XW1,qb]
 exact h
theorem xq {b4 b8} (hm:around how 20=11) (hn:n<=900) (hp:Sz n p) (n48:b4≠b8) (n4b:b4≠b) (n8b:b8≠b) (hk:kk<p.ops.length) (hF:Fr 278 [(1,.i a),(2,.i how),(3,.i bb),(4,.ptr b4 0),(8,.ptr b8 0),(11,.i (kk:Int)),(12,.i near)] F) (h:R (.agg ({p with ops:=p.ops.set kk {(p.ops.getD kk default) with name:=List.take (around bb 18).toNat [115,105,120,116,101,101,110,32,108,101,116,116,101,114,115,33,33]}}:Pt).d) H):xcode Tryz.prog x6v_s38 F ((b,.cells ((qw p.ops).flatten++List.replicate m .any))::(b8,.cells [.i 0,.i 0,.i 0,.own [],.own [],.str []])::(b4,.cells [.i p.o,.i p.s,.i p.day,.own (qv p.needs),.hgs b p.ops.length cp,.str p.sl])::H) (jX Tryz.prog [(.cell 8 26)] H.length R):=by
 obtain ⟨z,rfl⟩:=hF.fl rfl
 try dsimp only [fl,zz,qa,qb] at*
 clear hF
 have hbig:=qk
 have wl:=vj (rest:=List.replicate m .any) hk
 have ho:=qX hk
 have o1:=hp.ids _ ho
 have o2:=hp.name _ ho
 have o3:=hp.text _ ho
 obtain ⟨o,eo⟩:∃o,p.ops.getD kk default=o:=⟨_,rfl⟩
 rw [eo] at o1 o2 o3
 try rw [eo] at h
 simp+contextual only [↓YD,↓jY,↓XP,qp]
 refine qL (by omega) ?_
 rw [hm]
 simp+contextual only [qg,Int.reduceEq,n48,n4b,↓YD,↓jY,↓XP,qh,XW1]
 refine fun _=>⟨_,fun _ _=>qL (by omega) ⟨rfl,rfl⟩,?_⟩
 obtain ⟨r1,r2⟩:=j4 (n:=bb) (most:=18) (by omega)
 generalize around bb 18=r at r1 r2 h ⊢
 simp+contextual only [hk,Int.ofNat_lt,↓jY,↓XP,qh,qb]
 refine fun _=>⟨by omega,by omega,by omega,?_⟩
 have e:=tX (rest:=List.replicate m .any) (v:= .str (List.take r.toNat [115,105,120,116,101,101,110,32,108,101,116,116,101,114,115,33,33])) (o':={o with name:=List.take r.toNat [115,105,120,116,101,101,110,32,108,101,116,116,101,114,115,33,33]}) (j:=9) hk (by omega) (by rw [eo];rfl)
 try rw [Nat.add_zero] at e
 rw [e]
 refine kP (zl n4b n48 (by rw [Nr])) ?_
 simp+contextual only [qg,n48,↓jY,↓XP,qh,XW1,qb]
 exact h
theorem AF {b4 b8} (hm:around how 20=12) (hn:n<=900) (hp:Sz n p) (n48:b4≠b8) (n4b:b4≠b) (n8b:b8≠b) (hk:kk<p.ops.length) (hF:Fr 278 [(1,.i a),(2,.i how),(3,.i bb),(4,.ptr b4 0),(8,.ptr b8 0),(11,.i (kk:Int)),(12,.i near)] F) (h:R (.agg ({p with ops:=p.ops.set kk {(p.ops.getD kk default) with text:=List.map unbyte (List.replicate (([0,1,1024,1025]:List Int).getD (around bb 4).toNat 0).toNat [D.int .u8 0])}}:Pt).d) H):xcode Tryz.prog x6v_s38 F ((b,.cells ((qw p.ops).flatten++List.replicate m .any))::(b8,.cells [.i 0,.i 0,.i 0,.own [],.own [],.str []])::(b4,.cells [.i p.o,.i p.s,.i p.day,.own (qv p.needs),.hgs b p.ops.length cp,.str p.sl])::H) (jX Tryz.prog [(.cell 8 26)] H.length R):=by
 obtain ⟨z,rfl⟩:=hF.fl rfl
 try dsimp only [fl,zz,qa,qb] at*
 clear hF
 have hbig:=qk
 have wl:=vj (rest:=List.replicate m .any) hk
 have ho:=qX hk
 have o1:=hp.ids _ ho
 have o2:=hp.name _ ho
 have o3:=hp.text _ ho
 obtain ⟨o,eo⟩:∃o,p.ops.getD kk default=o:=⟨_,rfl⟩
 rw [eo] at o1 o2 o3
 try rw [eo] at h
 simp+contextual only [↓YD,↓jY,↓XP,qp]
 refine qL (by omega) ?_
 rw [hm]
 simp+contextual only [qg,Int.reduceEq,n48,n4b,↓YD,↓jY,↓XP,qh,XW1,qc,qe]
 refine fun _=>⟨_,fun _ _=>qL (by omega) ⟨rfl,rfl⟩,?_⟩
 obtain ⟨r1,r2⟩:=j4 (n:=bb) (most:=4) (by omega)
 generalize around bb 4=r at r1 r2 h ⊢
 obtain ⟨hv,e⟩:=Qt (l:= [0,1,1024,1025]) r1 r2
 generalize ([0,1,1024,1025]:List Int).getD r.toNat 0=v at hv e h
 have hv':0<=v∧v<=1025:=by
  simp only [Nu,N0,or_false] at hv
  omega
 have e': [[D.i 0],[D.i 1],[D.i 1024],[D.i 1025]].getD r.toNat []= [.i v]:=e
 simp+contextual only [hk,Int.ofNat_lt,e',r1,show r<((4:Nat):Int) from r2,↓jY,↓XP,qh,qb]
 refine fun _ _=>⟨by omega,iS (by omega),eA,fun _=>⟨by omega,?_⟩⟩
 have e:=tX (rest:=List.replicate m .any) (v:= .str (List.map unbyte (List.replicate v.toNat [D.int .u8 0]))) (o':={o with text:=List.map unbyte (List.replicate v.toNat [D.int .u8 0])}) (j:=10) hk (by omega) (by rw [eo];rfl)
 try rw [Nat.add_zero] at e
 rw [e]
 refine kP (zl n4b n48 (by rw [Nr])) ?_
 simp+contextual only [qg,n48,↓jY,↓XP,qh,XW1,qb]
 exact h
theorem sR {b4 b8} (hm:around how 20=13) (hn:n<=900) (hp:Sz n p) (n48:b4≠b8) (n4b:b4≠b) (n8b:b8≠b) (hk:kk<p.ops.length) (hF:Fr 278 [(1,.i a),(2,.i how),(3,.i bb),(4,.ptr b4 0),(8,.ptr b8 0),(11,.i (kk:Int)),(12,.i near)] F) (h:R (.agg ({p with ops:=p.ops.set kk {(p.ops.getD kk default) with a:=around bb 3,b:=around bb 5}}:Pt).d) H):xcode Tryz.prog x6v_s38 F ((b,.cells ((qw p.ops).flatten++List.replicate m .any))::(b8,.cells [.i 0,.i 0,.i 0,.own [],.own [],.str []])::(b4,.cells [.i p.o,.i p.s,.i p.day,.own (qv p.needs),.hgs b p.ops.length cp,.str p.sl])::H) (jX Tryz.prog [(.cell 8 26)] H.length R):=by
 obtain ⟨z,rfl⟩:=hF.fl rfl
 try dsimp only [fl,zz,qa,qb] at*
 clear hF
 have hbig:=qk
 have wl:=vj (rest:=List.replicate m .any) hk
 have ho:=qX hk
 have o1:=hp.ids _ ho
 have o2:=hp.name _ ho
 have o3:=hp.text _ ho
 obtain ⟨o,eo⟩:∃o,p.ops.getD kk default=o:=⟨_,rfl⟩
 rw [eo] at o1 o2 o3
 try rw [eo] at h
 simp+contextual only [↓YD,↓jY,↓XP,qp]
 refine qL (by omega) ?_
 rw [hm]
 simp+contextual only [qg,Int.reduceEq,n48,n4b,↓YD,↓jY,↓XP,qh,XW1]
 refine fun _=>⟨_,fun _ _=>qL (by omega) ⟨rfl,rfl⟩,?_⟩
 simp+contextual only [↓jY,↓XP,qp]
 refine fun _=>⟨_,fun _ _=>qL (by omega) ⟨rfl,rfl⟩,?_⟩
 simp+contextual only [hk,Int.ofNat_lt,↓jY,↓XP,qh,qb,qe]
 refine fun _=>⟨by omega,?_⟩
 have e:=IG (rest:=List.replicate m .any) (x:= .i (around bb 3)) (y:= .i (around bb 5)) (o':={o with a:=around bb 3,b:=around bb 5}) (j:=11) hk (by omega) (by rw [eo];rfl)
 try rw [Nat.add_zero] at e
 rw [e]
 refine kP (zl n4b n48 (by rw [Nr])) ?_
 simp+contextual only [qg,n48,↓jY,↓XP,qh,XW1,qb]
 exact h
theorem tR {b4 b8} (hm:around how 20=14) (hn:n<=900) (hp:Sz n p) (n48:b4≠b8) (n4b:b4≠b) (n8b:b8≠b) (hk:kk<p.ops.length) (hF:Fr 278 [(1,.i a),(2,.i how),(3,.i bb),(4,.ptr b4 0),(8,.ptr b8 0),(11,.i (kk:Int)),(12,.i near)] F) (h:R (.agg ({p with ops:=p.ops.set kk {(p.ops.getD kk default) with ids:=⟨1,1,near⟩::(p.ops.getD kk default).ids}}:Pt).d) H):xcode Tryz.prog x6v_s38 F ((b,.cells ((qw p.ops).flatten++List.replicate m .any))::(b8,.cells [.i 0,.i 0,.i 0,.own [],.own [],.str []])::(b4,.cells [.i p.o,.i p.s,.i p.day,.own (qv p.needs),.hgs b p.ops.length cp,.str p.sl])::H) (jX Tryz.prog [(.cell 8 26)] H.length R):=by
 obtain ⟨z,rfl⟩:=hF.fl rfl
 try dsimp only [fl,zz,qa,qb] at*
 clear hF
 have hbig:=qk
 have wl:=vj (rest:=List.replicate m .any) hk
 have ho:=qX hk
 have o1:=hp.ids _ ho
 have o2:=hp.name _ ho
 have o3:=hp.text _ ho
 obtain ⟨o,eo⟩:∃o,p.ops.getD kk default=o:=⟨_,rfl⟩
 rw [eo] at o1 o2 o3
 try rw [eo] at h
 simp+contextual only [↓YD,↓jY,↓XP,qp]
 refine qL (by omega) ?_
 rw [hm]
 simp+contextual only [qg,Int.reduceEq,n48,n4b,hk,Int.ofNat_lt,↓YD,↓jY,↓XP,qh,XW1,qb,qc,qe]
 rw [rd1 hk (by omega),eo,show o.d[7]?=some (.slc (j5 o.ids)) from rfl]
 simp+contextual only [hk,Int.ofNat_lt,↓jY,↓XP,qh,XW1,qb]
 have il:(j5 o.ids).length=o.ids.length:=by simp [j5]
 refine fun _ _=>⟨Uu,by omega,by omega,?_⟩
 rw [Jx]
 refine Eb (Gz.viewC (bx:=b) (j:=kk*13+7) ji (by rw [List.getElem?_set_self (by omega)]) ?_)
 rw [wT,List.set_set]
 have e:=tX (rest:=List.replicate m .any) (v:= .slc (j5 (⟨1,1,near⟩::o.ids))) (o':={o with ids:=⟨1,1,near⟩::o.ids}) (j:=7) hk (by omega) (by rw [eo];rfl)
 rw [show ([D.i 1,D.i 1,D.i near]::j5 o.ids)=j5 (⟨1,1,near⟩::o.ids) from rfl,e]
 refine Gz.of_fz (zl n4b n48 (by rw [Nr])) ?_
 simp+contextual only [qg,n48,↓jY,↓XP,qh,XW1,qb]
 exact h
theorem xY {b4 b8} (hm:around how 20=15) (hn:n<=900) (hp:Sz n p) (n48:b4≠b8) (n4b:b4≠b) (n8b:b8≠b) (hk:kk<p.ops.length) (hF:Fr 278 [(1,.i a),(2,.i how),(3,.i bb),(4,.ptr b4 0),(8,.ptr b8 0),(11,.i (kk:Int)),(12,.i near)] F) (h:R (.agg ({p with ops:=p.ops.set kk ⟨16,⟨1,1,0⟩,Ja,[⟨1,1,2⟩,⟨1,1,around bb 4⟩],IntKind.i64.wrap (around (IntKind.i64.wrap (bb.tdiv 4)) 5 - 2),[],[],0,0⟩}:Pt).d) H):xcode Tryz.prog x6v_s38 F ((b,.cells ((qw p.ops).flatten++List.replicate m .any))::(b8,.cells [.i 0,.i 0,.i 0,.own [],.own [],.str []])::(b4,.cells [.i p.o,.i p.s,.i p.day,.own (qv p.needs),.hgs b p.ops.length cp,.str p.sl])::H) (jX Tryz.prog [(.cell 8 26)] H.length R):=by
 obtain ⟨z,rfl⟩:=hF.fl rfl
 try dsimp only [fl,zz,qa,qb] at*
 clear hF
 have hbig:=qk
 have wl:=vj (rest:=List.replicate m .any) hk
 have ho:=qX hk
 have o1:=hp.ids _ ho
 have o2:=hp.name _ ho
 have o3:=hp.text _ ho
 obtain ⟨o,eo⟩:∃o,p.ops.getD kk default=o:=⟨_,rfl⟩
 rw [eo] at o1 o2 o3
 try rw [eo] at h
 simp+contextual only [↓YD,↓jY,↓XP,qp]
 refine qL (by omega) ?_
 rw [hm]
 simp+contextual only [qg,Int.reduceEq,n48,n4b,↓YD,↓jY,↓XP,qh,XW1,qb,qe]
 refine fun _=>⟨_,fun _ _=>qL (by omega) ⟨rfl,rfl⟩,?_⟩
 simp+contextual only [Int.reduceEq,↓jY,↓XP,qh,XW1,qb,qc,qe]
 refine fun _=>⟨_,fun _ _=>qL (by omega) ⟨rfl,rfl⟩,?_⟩
 simp+contextual only [hk,Int.ofNat_lt,↓jY,↓XP,qh,qb,qe]
 refine fun _=>⟨by omega,?_⟩
 have e:=Bc (l:=p.ops) (rest:=List.replicate m .any) (o':=⟨16,⟨1,1,0⟩,Ja,[⟨1,1,2⟩,⟨1,1,around bb 4⟩],IntKind.i64.wrap (around (IntKind.i64.wrap (bb.tdiv 4)) 5 - 2),[],[],0,0⟩) hk
 simp only [OpP.d,j5,Id3.d,Ja,List.map_cons,List.map_nil,Nz,Ny] at e
 rw [e]
 refine kP (zl n4b n48 (by rw [Nr])) ?_
 simp+contextual only [qg,n48,↓jY,↓XP,qh,XW1,qb]
 exact h
theorem rt {b4 b8} (hm:around how 20=19) (hn:n<=900) (hp:Sz n p) (n48:b4≠b8) (n4b:b4≠b) (n8b:b8≠b) (hk:kk<p.ops.length) (hF:Fr 278 [(1,.i a),(2,.i how),(3,.i bb),(4,.ptr b4 0),(8,.ptr b8 0),(11,.i (kk:Int)),(12,.i near)] F) (h:R (.agg ({p with ops:=p.ops.set kk {(p.ops.getD kk default) with k:=IntKind.i64.wrap (1+around bb 18)}}:Pt).d) H):xcode Tryz.prog x6v_s38 F ((b,.cells ((qw p.ops).flatten++List.replicate m .any))::(b8,.cells [.i 0,.i 0,.i 0,.own [],.own [],.str []])::(b4,.cells [.i p.o,.i p.s,.i p.day,.own (qv p.needs),.hgs b p.ops.length cp,.str p.sl])::H) (jX Tryz.prog [(.cell 8 26)] H.length R):=by
 obtain ⟨z,rfl⟩:=hF.fl rfl
 try dsimp only [fl,zz,qa,qb] at*
 clear hF
 have hbig:=qk
 have wl:=vj (rest:=List.replicate m .any) hk
 have ho:=qX hk
 have o1:=hp.ids _ ho
 have o2:=hp.name _ ho
 have o3:=hp.text _ ho
 obtain ⟨o,eo⟩:∃o,p.ops.getD kk default=o:=⟨_,rfl⟩
 rw [eo] at o1 o2 o3
 try rw [eo] at h
 simp+contextual only [↓YD,↓jY,↓XP,qp]
 refine qL (by omega) ?_
 rw [hm]
 simp+contextual only [qg,Int.reduceEq,n48,n4b,↓YD,↓jY,↓XP,qh,XW1]
 refine fun _=>⟨_,fun _ _=>qL (by omega) ⟨rfl,rfl⟩,?_⟩
 simp+contextual only [hk,Int.ofNat_lt,↓jY,↓XP,qh]
 refine fun _=>⟨by omega,?_⟩
 have e:=tX (rest:=List.replicate m .any) (v:= .i (IntKind.i64.wrap (1+around bb 18))) (o':={o with k:=IntKind.i64.wrap (1+around bb 18)}) (j:=0) hk (by omega) (by rw [eo];rfl)
 try rw [Nat.add_zero] at e
 rw [e]
 refine kP (zl n4b n48 (by rw [Nr])) ?_
 simp+contextual only [qg,n48,↓jY,↓XP,qh,XW1,qb]
 exact h
end Go.Proofs.YtgopigkdcmhbbaaGreatDoor
end
section
namespace Go.Aw
open Go
theorem ACall.view {R:D->AH->Prop} (h:ACall P f args H (fun d H'=>R d.view H')):ACall P f args H R:=
 ⟨h.1,fun K w vs h1 h2 h3 h4 h5=>(h.2 K w vs h1 h2 h3 h4 h5).mono fun e w' ⟨v,d,H',K',g1,g2,g3,g4,g5,g6⟩=>⟨v,d.view,H',K',g1,g2,g3,g4,g5,g6.rep.viewO⟩⟩
end Go.Aw
namespace Go.Proofs.YtgopigkdcmhbbaaGreatDoor
open Go Go.Aw
variable {R:D->AH->Prop}
theorem fe (hl:l.length<=3000000) (h:R (.slc (qv l)) H):ACall Tryz.prog 29 [.slc (qv l)] H R:=by
 refine ACall.view (b29 fun hf=>?_)
 have hbig:=qk
 simp+contextual only [↓U29,j9,↓U29,↓XP,qh,XW1,qa,qc,qe]
 exact ⟨fun e=>by rw [e] at h;exact h,gV,by omega,h⟩
theorem fg (hl:l.length<=3000000) (h:R (.slc (j5 l)) H):ACall Tryz.prog 31 [.slc (j5 l)] H R:=by
 refine ACall.view (b31 fun hf=>?_)
 have hbig:=qk
 simp+contextual only [↓U31,qJ,↓U31,↓XP,qh,XW1,qa,qc,qe]
 exact ⟨fun e=>by rw [e] at h;exact h,Uu,by omega,h⟩
theorem cD (h0:l≠ []) (hl:l.length<=100000) (h:∀b cap m,qH H b->R (.hgs b l.length cap) ((b,.cells ((qw l).flatten++List.replicate m .any))::H)):ACall Tryz.prog 30 [.slc (qw l)] H R:=by
 refine Iy fun hf=>?_
 have hbig:=qk
 simp+contextual only [Bw,↓M9,zM,QT,qQ,↓XP,qh,XW1,qa,qc,qe]
 have hne:qw l≠ []:=fun e=>h0 (List.eq_nil_of_length_eq_zero (by rw [<-qQ,e];rfl))
 exact ⟨fun e=>(hne e).elim,kT,by omega,fun e=>(hne e).elim,fun _ b cap m hb _=>⟨_,Sbn.sub (List.Sublist.refl _),h b cap m hb⟩⟩
theorem Dy {F:List D} {H:AH} {b b9 b4 b3 n cp:Nat} {o9 o4:AO} {c0 c1 c2 c3 c5:D} {l:List OpP} {rest:List D} (h1:b3≠b) (h2:b3≠b9) (h3:b3≠b4) (hl:l.length=n):
  Fz F ((b,.cells ((qw l).flatten++rest))::(b9,o9)::(b4,o4)::(b3,.cells [c0,c1,c2,c3,.hgs b n cp,c5])::H) F ((b9,o9)::(b4,o4)::(b3,.cells [c0,c1,c2,c3,.slc (qw l),c5])::H):=by
 have h:=Fz.freezeC (F:=F) (H:=(b,.cells ((qw l).flatten++rest))::(b9,o9)::(b4,o4)::(b3,.cells [c0,c1,c2,c3,.hsl b n,c5])::H) (b':=b3) (j:=4) (b:=b) (n:=n) (sz:=13) (ds:= [c0,c1,c2,c3,.hsl b n,c5]) (cs:=(qw l).flatten++rest) (xs:=qw l) (rest:=rest) h1
  (by rw [qg h1,qg h2,qg h3,ji]) rfl ji rfl (by rw [qQ,hl]) kT (by omega) Zk
 rw [qm h1,qm h2,qm h3,wT,vY] at h
 have h0:=Fz.hgsC (F:=F) (H:=(b,.cells ((qw l).flatten++rest))::(b9,o9)::(b4,o4)::(b3,.cells [c0,c1,c2,c3,.hgs b n cp,c5])::H) (b':=b3) (j:=4) (b:=b) (n:=n) (cap:=cp) (ds:= [c0,c1,c2,c3,.hgs b n cp,c5])
  (by rw [qg h1,qg h2,qg h3,ji]) rfl
 rw [qm h1,qm h2,qm h3,wT] at h0
 exact h0.trans h
theorem dS {α:Type} [Inhabited α] {l:List α} {k:Nat} (h:k<l.length):l.set k (l.getD k default)=l:=by
 have e:l.getD k default=l[k]:=by simp [List.getD,h]
 rw [e]
 exact List.set_getElem_self h
theorem fF (h:jl p=0):p.ops≠ []:=fun e=>by
 unfold jl at h
 rw [if_pos e] at h
 repeat' split at h
 all_goals omega
theorem A6 {seed:List UInt8} {i:Int} {p:Pt} {H:AH} (hg:Kst H) (hp:Fit p) (h:R (.tup [.agg (Km seed i p).1.d,.i (Km seed i p).2]) H):ACall Tryz.prog 12 [.agg [.str seed,.i i],.agg p.d] H R:=by
 refine b12 fun hf=>?_
 have hbig:=qk
 have hd:p.d= [.i p.o,.i p.s,.i p.day,.slc (qv p.needs),.slc (qw p.ops),.str p.sl]:=rfl
 simp+contextual only [x12,hd,↓cv,↓zZ,↓XP,qh,XW1,qa,qb]
 intro b2 h2 b3 h3 b4 h4
 obtain ⟨n32,f3⟩:=h3
 obtain ⟨n43,n42,f4⟩:=h4
 simp+contextual only [<-hd]
 refine zd hp ?_
 have h0: [D.i 0,.i 0,.i 0,.slc [],.slc [],.str []]=pt0.d:=rfl
 unfold Km at h
 by_cases hv:jl p=0
 ·obtain ⟨hh,hml⟩:=QA hv
  obtain ⟨_,_,hs1,hs16,_⟩:=hh
  rw [if_neg (fun c=>c hv)] at h
  rw [hv]
  simp+contextual only [qg,n32,n42,↓cv,↓zZ,↓XP,qh,XW1,qb]
  have hg2:Kst ((b4,AO.cells [D.int IntKind.i64 0,D.int IntKind.i64 0,D.int IntKind.i64 0,D.own [],D.own [],D.str []])::(b3,.cells p.d)::(b2,.cells [.str seed,.i i])::H):=((hg.push h2).push ⟨Ne.symm n32,f3⟩).push ⟨Ne.symm n43,Ne.symm n42,f4⟩
  refine fun _=>cW hg2 ?_
  by_cases hk:v8 seed i=true∧i<=4
  ·rw [if_neg (fun c=>c hk)] at h
   obtain ⟨hk1,hk2,_⟩:seed.length=32∧0<=i∧i<=6:=of_decide_eq_true hk.1
   obtain ⟨n,rfl⟩:=Nv hk2
   rw [Ky hk.1 hk.2]
   rw [Nh] at h ⊢
   have nr:=jI seed n 0
   generalize jp seed n 0=root at nr ⊢
   have hn6:n<=6:=by have:=hk.2;omega
   obtain ⟨hp1,hp2,hp3⟩:=ua hn6
   have hn0:((0:Int)<=(n:Int))=True:=qo
   simp+contextual only [↓cv,↓zZ,↓XP,qh,XW1,qb]
   intro _ b9 h9
   obtain ⟨n94,n93,n92,f9⟩:=h9
   by_cases hq:((2 ^ n:Nat):Int)<p.s
   ·rw [if_pos hq] at h
    simp+contextual only [qg,qm,n32,n43,n42,qg,qm,n94,n93,n92,hd,hp1,hn0,eq_true hq,Nh,↓cv,↓zZ,↓XP,qh,XW1,qb]
    exact ⟨vf nr _,fun _ _=>h⟩
   ·rw [if_neg hq] at h
    simp+contextual only [qg,n32,n43,n42,qg,n93,n92,hd,hp1,hn0,eq_false hq,Nh,↓cv,↓zZ,↓XP,qh,XW1,qb]
    obtain ⟨m,hm⟩:=Nv (show 0<=p.s - 1 by omega)
    have hw:IntKind.i64.wrap (p.s - 1)=(m:Int):=by rw [qi (by omega) (by omega)];exact hm
    have hKm:=hg2.push (b:=b9) (o:= .cells (jf root++ [D.int IntKind.i64 ↑n])) ⟨Ne.symm n94,Ne.symm n93,Ne.symm n92,f9⟩
    simp only [hd] at hKm
    refine ⟨vf nr _,fun _ _ _=>⟨_,fun H1 hs=>iN hp ⟨rfl,rfl⟩,?_⟩⟩
    have hsp:Q8 seed (n:Int) p={p with sl:=JB seed n m (jK (bare p))}:=by
     unfold Q8
     rw [Nh,hm,Nh]
    rw [hsp] at h
    generalize jK (bare p)=msg at hml h ⊢
    simp+contextual only [hw,↓zZ,↓XP,qp]
    refine fun _=>⟨_,fun H1 hs=>na (hKm.sub hs) hk1 hn6 (by omega) (by omega) ⟨rfl,rfl⟩,?_⟩
    generalize JB seed n m msg=sg at h ⊢
    simp+contextual only [j9,qg,qm,n43,qg,qm,n93,↓cv,↓zZ,↓XP,qh,XW1,qb]
    refine fun _ _ _=>fe hp.needs ?_
    simp+contextual only [qQ,j9,Nat.reduceLT,qg,qm,n43,qg,qm,n93,↓cv,↓zZ,↓XP,qh,XW1,qb]
    refine fun _ _=>cD (fF hv) (Np hp.ops (by omega)) fun b cap mm hb=>?_
    obtain ⟨bn9,bn4,bn3,bn2,fb⟩:=hb
    simp+contextual only [Nat.reduceLT,qg,qm,n43,qg,qm,n93,qg,qm,Ne.symm bn3,↓cv,↓zZ,↓XP,qh,XW1,qb]
    refine XW.loopS hmm 81 (fun k:Nat=>[(2,.ptr b2 0),(3,.ptr b3 0),(4,.ptr b4 0),(63,.i (p.ops.length:Int)),(64,.i (k:Int))]) (fun _=>(b,AO.cells ((qw p.ops).flatten++List.replicate mm D.any))::(b9,.cells (jf root++ [D.int IntKind.i64 ↑n]))::(b4,.cells [D.int IntKind.i64 0,D.int IntKind.i64 0,D.int IntKind.i64 0,D.own [],D.own [],D.str []])::(b3,.cells [D.int IntKind.i64 p.o,D.int IntKind.i64 p.s,D.int IntKind.i64 p.day,D.slc (qv p.needs),D.hgs b p.ops.length cap,D.str sg])::(b2,.cells [D.str seed,D.int IntKind.i64 ↑n])::H) (fun k=>p.ops.length - k) (fun k=>k<=p.ops.length) 0 (Nat.zero_le _) ⟨rfl,rfl,rfl,rfl,rfl,rfl,trivial⟩ rfl ?_
    intro k z hk K hN hE hR
    dsimp only [fl,zz,qa,qb]
    by_cases hlt:k<p.ops.length
    ·have hlt':((k:Int)<(p.ops.length:Int))=True:=qo
     have hk0:((0:Int)<=(k:Int))=True:=qo
     have hr:=rd1 (l:=p.ops) (kk:=k) (j:=7) (rest:=List.replicate mm D.any) hlt (by omega)
     have ho:=hp.ids _ (qX hlt)
     have hwr:=tX (l:=p.ops) (kk:=k) (j:=7) (v:= .slc (j5 (p.ops.getD k default).ids)) (rest:=List.replicate mm D.any) hlt (o':=p.ops.getD k default) (by omega) rfl
     rw [show p.ops.set k (p.ops.getD k default)=p.ops from dS hlt] at hwr
     rw [show (p.ops.getD k default).d[7]?=some (.slc (j5 (p.ops.getD k default).ids)) from rfl] at hr
     simp+contextual only [qg,n43,qg,n93,qg,Ne.symm bn3,hlt',hk0,Nh,hr,↓cv,↓zZ,↓XP,qh,XW1]
     refine fun _=>⟨_,fun H1 hs=>fg ho ⟨rfl,rfl⟩,?_⟩
     simp+contextual only [hlt',hk0,Nh,hwr,↓zZ,↓XP,qh]
     have hwl:=vj (l:=p.ops) (rest:=List.replicate mm D.any) hlt
     rw [qj (by omega)]
     exact fun _=>⟨by omega,hN (k+1) _ _ (by omega) (by omega) ⟨rfl,rfl,rfl,rfl,rfl,rfl,trivial⟩ (qz rfl)⟩
    ·have hkn:k=p.ops.length:=by omega
     have hlt':((k:Int)<(p.ops.length:Int))=False:=qy
     simp+contextual only [hlt',↓cv,↓zZ,↓XP,qp]
     apply hE
     simp+contextual only [↓cv,↓zZ,↓XP,qp,XW1]
     refine kP (Dy (b3:=b3) (Ne.symm bn3) n93 n43 rfl) ?_
     simp+contextual only [qg,qm,n43,qg,qm,n94,n93,qg,qm,↓zZ,↓XP,qh,XW1,qb]
     exact h
  ·rw [if_pos hk] at h
   rw [QO hk]
   simp+contextual only [qg,qm,n32,n43,n42,hd,↓cv,↓zZ,↓XP,qh,XW1,qb]
   exact fun _ b9 _=>⟨rfl,fun _=>h,fun c=>absurd c (by decide)⟩
 ·rw [if_pos hv] at h
  generalize jl p=e at hv h ⊢
  simp+contextual only [hd,hv,↓cv,↓zZ,↓XP,qh,XW1,qb]
  exact fun _=>h
end Go.Proofs.YtgopigkdcmhbbaaGreatDoor
end
section
namespace Go.Aw
open Go Go.RowKit Go.ChangeShapes Go.WideShapes
section
variable {P:Program}
structure Rw (P:Program) (t:TypeId) (n:Nat) {T:Type} (g:T->List D):Prop where
 out:∀{H:Type} (enc:TypeId×Value->H) (W:World) (fuel:Nat) (cs:List Value) (x:DataW H×List MemPlace),
  DataW.trod enc P W 0 (fun _=>true) true fuel t cs=some x->(DataW.weights P t x.1).all (·<=reachBytes)=true->
  ∃a:T,cs.length=n∧(g a).length=n∧∀(j:Nat) (d:D) (v:Value),(g a)[j]?=some d->cs[j]?=some v->v.oneCell'=true∧RepV (fun _=>.imm) W d v
theorem Rw.int {t:TypeId} (ht:P.underlying t=some (.int k)):Rw P t 1 (fun n:Int=>[.int k n]):=by
 refine ⟨?_⟩
 intro H enc W fuel cs x h _
 obtain ⟨n,rfl,rfl,hw⟩:=DataW.trod_int ht h
 exact ⟨n,rfl,rfl,Vm rfl (.int k n hw)⟩
theorem zp {H:Type} {e:TypeId}:∀{l:List (DataW H)} {d:DataW H},d∈l->w∈DataW.weights P e d->w∈DataW.weightsAll P e l
 | x::r,d,hd,hw=>by
  simp only [DataW.weightsAll,List.mem_append]
  rcases List.mem_cons.1 hd with rfl|h
  ·exact .inl hw
  ·exact .inr (zp h hw)
theorem Rw.slice {t e:TypeId} {n:Nat} {T:Type} {g:T->List D} (ht:P.underlying t=some (.slice e)) (hc:P.cellsOf e=n) (hn:0<n) (hby:1<=P.bytesOf e) (h:Rw P e n g):
  Rw P t 1 (fun l:List T=>[.slc (l.map g)]):=by
 refine ⟨?_⟩
 intro H enc W fuel cs x hx hb
 rcases DataW.trod_slice ht hx with ⟨rfl,rfl⟩|⟨a,len,cap,elems,rest,m,rfl,rfl,rfl,hba,hlc,hcm,hel,hget,hsp,_⟩
 ·exact ⟨[],rfl,rfl,Vm rfl (.slcnil none)⟩
 ·rw [hc] at hget hsp
  have hbb:=List.all_eq_true.1 hb
  simp only [DataW.weights,ht] at hbb
  have hlen:elems.length<=reachBytes:=by
   have h1:(elems.length+rest.length)*P.bytesOf e<=reachBytes:=by
    have:=hbb _ (List.mem_cons_self ..)
    simpa using this
   have h2:elems.length+rest.length<=(elems.length+rest.length)*P.bytesOf e:=Nat.le_mul_of_pos_right _ hby
   omega
  have hel2:∀y,y∈elems->(DataW.weights P e y.1).all (·<=reachBytes)=true:=fun y hy=>by
   refine List.all_eq_true.2 fun w hw=>hbb w ?_
   exact List.mem_cons_of_mem _ (List.mem_append_left _ (zp (List.mem_map_of_mem (f:=(·.1)) hy) hw))
  obtain ⟨l,hl,hR⟩:=Jj (R:=fun i (y:DataW H×List MemPlace) (c:T)=>∃cs',W.cells? 0 (a.add (i*n)) n=some cs'∧(g c).length=n∧∀(j:Nat) (d:D) (v:Value),(g c)[j]?=some d->cs'[j]?=some v->v.oneCell'=true∧RepV (fun _=>.imm) W d v) elems 0 (fun i y hy=>by
    have hi:i<len:=by rw [<-hel];exact (List.getElem?_eq_some_iff.1 hy).1
    have hg:=hget i hi
    rw [hy] at hg
    obtain ⟨cs',e1,e2⟩:=Option.bind_eq_some_iff.1 hg
    obtain ⟨c,_,g2,g4⟩:=h.out enc W m cs' y e2 (hel2 y (Nm hy))
    exact ⟨c,cs',by rw [Nt];exact e1,g2,g4⟩)
  have hRi:∀i c,l[i]?=some c->i<len∧∃cs',W.cells? 0 (a.add (i*n)) n=some cs'∧(g c).length=n∧∀(j:Nat) (d:D) (v:Value),(g c)[j]?=some d->cs'[j]?=some v->v.oneCell'=true∧RepV (fun _=>.imm) W d v:=fun i c hi=>by
   have hlt:i<elems.length:=by rw [<-hl];exact (List.getElem?_eq_some_iff.1 hi).1
   have:=hR i elems[i] c (Nb hlt) hi
   rw [Nt] at this
   exact ⟨by omega,this⟩
  refine ⟨l,rfl,rfl,Vm rfl ?_⟩
  ·by_cases hz:cap=0
   ·have h0:l= []:=List.eq_nil_of_length_eq_zero (by omega)
    have h1:len=0:=by omega
    subst hz;subst h1;subst h0
    exact .slcnil (some a)
   ·have hpl:a.spot=none∧a.block<W.heap.size:=by
     have go:∀(k:Nat) (y:Option (DataW H×List MemPlace)),k*n=0->(∃z,y=some z)->(W.cells? 0 (a.add (k*n)) n).bind (DataW.trod enc P W 0 (fun _=>true) true m e)=y->a.spot=none∧a.block<W.heap.size:=by
      rintro k _ h0 ⟨z,rfl⟩ hg
      obtain ⟨cs',e1,e2⟩:=Option.bind_eq_some_iff.1 hg
      obtain ⟨k1,k2⟩:=Wv e1
      have:=GI (k2 0 cs'[0] (Nb (by omega)))
      simpa [Addr.add,h0] using this
     by_cases hp:0<len
     ·exact go 0 _ (Nat.zero_mul n) ⟨_,Nb (by omega)⟩ (hget 0 hp)
     ·have h0:len=0:=by omega
      obtain ⟨hr1,hr2⟩:=hsp rfl
      exact go (len+0) _ (by rw [h0];exact Nat.zero_mul n) ⟨_,Nb (by omega)⟩ (hr2 0 (by omega))
    obtain ⟨b,off,sp⟩:=a
    obtain ⟨hpl1,hpl2⟩:=hpl
    simp only at hpl1 hpl2
    subst hpl1
    have hll:(l.map g).length=len:=by simp [hl,hel]
    have key:∀(i:Nat) (x:List D),(l.map g)[i]?=some x->x.length=n∧∀(j:Nat) (d:D),x[j]?=some d->∃v,W.cell? ⟨b,off+(i*n+j),none⟩=some v∧v.oneCell'=true∧RepV (fun _=>.imm) W d v:=fun i x hi=>by
     rw [Nf,Nl] at hi
     obtain ⟨c,hci,rfl⟩:=hi
     obtain ⟨_,cs',e1,e2,e3⟩:=hRi i c hci
     refine ⟨e2,fun j d hd=>?_⟩
     obtain ⟨k1,k2⟩:=Wv e1
     have hj:j<cs'.length:=by rw [k1,<-e2];exact (List.getElem?_eq_some_iff.1 hd).1
     have h5:=k2 j cs'[j] (Nb hj)
     refine ⟨cs'[j],?_,e3 j d cs'[j] hd (Nb hj)⟩
     rw [<-h5]
     rw [Addr.add_add]
     simp only [Addr.add]
     split
     ·rename_i hz';rw [hz'];rfl
     ·rfl
    have hrep:=RepV.slc (K:=fun _=>.imm) (w:=W) (l.map g) b off cap n (fun i j=>(W.cell? ⟨b,off+(i*n+j),none⟩).getD default) (by rw [hll];have:=qk;have:reachBytes=140737488351232:=rfl;omega) (by rw [hll];exact hlc) hcm
     (fun i x hi=>(key i x hi).1) ⟨hpl2,trivial⟩
     (fun i x hi j d hd=>by obtain ⟨v,e1,e2,e3⟩:=(key i x hi).2 j d hd;rw [e1];rfl)
     (fun i x hi j d hd=>by obtain ⟨v,e1,e2,e3⟩:=(key i x hi).2 j d hd;rw [e1];exact e2)
     (fun i x hi j d hd=>by obtain ⟨v,e1,e2,e3⟩:=(key i x hi).2 j d hd;rw [e1];exact e3)
    rw [hll] at hrep
    exact hrep
theorem Rw.arg1 {t:TypeId} {T:Type} {g:T->D} (h:Rw P t 1 (fun a=>[g a])) (hr:rk P t=false) {H:Type} {enc:TypeId×Value->H} {W:World} {r:Reach} {b0:Nat} {v:Value} {d:DataW H} {ps:List MemPlace}
  (hval:Value.okWide P W r b0 t v) (hd:DataW.Trod enc P W 0 (fun _=>true) true t v d ps) (hb:(DataW.weights P t d).all (·<=reachBytes)=true):∃a:T,RepV (fun _=>.imm) W (g a) v:=by
 obtain ⟨fuel,hf⟩:=hd
 obtain ⟨a,h1,_,h4⟩:=h.out enc W fuel _ (d,ps) hf hb
 refine ⟨a,?_⟩
 have hcl:Cell.okWide P W r b0 t v:=by
  unfold Value.okWide at hval
  unfold rk at hr
  split at hval
  ·rename_i hq;simp [hq] at hr
  ·rename_i hq;simp [hq] at hr
  ·exact hval
 cases v with
 | agg cs=>
  unfold Cell.okWide at hcl
  split at hcl<;>simp_all [Cell.ok]
  done
 |_=>exact (h4 0 (g a) _ rfl rfl).2
end
end Go.Aw
namespace Go.Proofs.YtgopigkdcmhbbaaGreatDoor
open Go Go.Aw Go.RowKit Go.ChangeShapes Go.WideShapes
theorem rw_int:Rw Tryz.prog 3 1 (fun n:Int=>[.int .i64 n]):=Rw.int Tryz.underlying3
theorem rw_ints:Rw Tryz.prog 22 1 (fun l:List Int=>[.slc (ints l)]):=
 Rw.slice Tryz.underlying22 (by kernel_rfl) (by decide) (of_decide_eq_true (by kernel_rfl)) rw_int
theorem own:ownKnob Tryz.prog.godebug=none:=by kernel_rfl
theorem kids:Kids Tryz.prog (·<Tryz.prog.types.size):=kids_rows (by kernel_rfl) (by kernel_rfl)
theorem full:∀t e,t<Tryz.prog.types.size->Tryz.prog.underlying t=some (.slice e)->0<Tryz.prog.cellsOf e:=slices_full_of Tryz.prog (by kernel_rfl)
def Ud (d:DataW Unit):Array Value:=(match d with
 | .agg l=>l.map fun (d:DataW Unit)=>match d with
  | .lit (.int k n)=>Value.int k n
  |_=>undef
 |_=>[]).toArray
noncomputable def Yu (os:Os):World:=
 { World.holding Tryz.prog os ⟨#[],#[],[]⟩ with heap:=(World.holding Tryz.prog os ⟨#[],#[],[]⟩).heap.modify 0 fun
   | .cells _ t frozen=>.cells (Ud Rows.laid_wordbook_wordbookref02_constants) t frozen
   |o=>o}
noncomputable def J2 (os:Os):World:=
 { Yu os with heap:=(Yu os).heap.modify 1 fun
   | .cells _ t frozen=>.cells (Ud Rows.laid_wordbook_hash_constants) t frozen
   |o=>o}
theorem DU:(Rows.laid_wordbook_hash_constants:DataW Unit)=Lib.tabData .u32 (kW.map fun x=>(x.toNat:Int)):=by kernel_rfl
theorem C3:(Rows.laid_wordbook_wordbookref02_constants:DataW Unit)=Lib.tabData .u32 (kW.map fun x=>(x.toNat:Int)):=by kernel_rfl
theorem g_1 : Tryz.prog.globalNamed "wordbook/hash.constants" = some 1 := by kernel_rfl
theorem g_0 : Tryz.prog.globalNamed "wordbook/wordbookref02.constants" = some 0 := by kernel_rfl
theorem IE:(Tryz.prog.globals[1]?).map (·.type)=some 203:=by kernel_rfl
theorem Ma:(Tryz.prog.globals[0]?).map (·.type)=some 203:=by kernel_rfl
theorem bY {P:Program} {W:World} {x:String×DataW Unit} {rest:List (String×DataW Unit)} (h:laidMet P (x::rest) W):∃ps,DataW.LaidVars P W rest ps:=by
 obtain ⟨ps,⟨_,_,_,_,_,q,_,_,_,_,h,_⟩,_⟩:=h
 exact ⟨q,h⟩
theorem fJ {P:Program} {W:World} {name:String} {k:IntKind} {zs:List Int} {rest:List (String×DataW Unit)} {ps:List MemPlace} {g:Nat} {t e:TypeId} {n:Nat}
  (hg:P.globalNamed name=some g) (hty:(P.globals[g]?).map (·.type)=some t) (ht:P.underlying t=some (.array n e)) (he:P.underlying e=some (.int k)) (hce:P.cellsOf e=1) (hct:P.cellsOf t=n)
  (h:DataW.LaidVars P W ((name,Lib.tabData k zs)::rest) ps):Lib.TabIs P W name k zs:=by
 obtain ⟨g',t',cs,fuel,p,q,hg',ht',hvar,hd,_,_⟩:=h
 obtain rfl:=Option.some.inj (hg.symm.trans hg')
 obtain rfl:=Option.some.inj (hty.symm.trans ht')
 unfold Lib.TabIs
 rw [hvar,<-Lib.cells_of_tab ht he hce hct hd]
theorem dH {W:World} {name:String} {g:Nat} (hg:Tryz.prog.globalNamed name=some g) (h:Lib.TabIs Tryz.prog W name .u32 (kW.map fun x=>(x.toNat:Int))):AO.at_ (fun _=>.imm) W g (.cst kD):=by
 unfold Lib.TabIs at h
 have h2:=h
 simp only [World.var?,hg,Option.bind_some] at h
 split at h
 ·rename_i cs T fz hb
  injection h with h
  subst h
  refine ⟨rfl,(Array.getElem?_eq_some_iff.1 hb).1,_,T,fz,hb,by simp [kD],fun j d hd=>?_⟩
  rw [kD,Nf,Nl] at hd
  obtain ⟨x,hx,rfl⟩:=hd
  exact ⟨.int .u32 (x.toNat:Int),by simp [hx],rfl,.int _ _ (of_eq_true (yw x))⟩
 ·cases h
def H0:AH:= [(1,.cst kD),(0,.cst kD)]
theorem Ee {W : World} (h : laidMetH Tryz.prog [("wordbook/hash.constants", Rows.laid_wordbook_hash_constants), ("wordbook/wordbookref02.constants", Rows.laid_wordbook_wordbookref02_constants)] W) : HRel (fun _=>.imm) W H0 := by
 have h1 : laidMet Tryz.prog [("wordbook/hash.constants", Rows.laid_wordbook_hash_constants), ("wordbook/wordbookref02.constants", Rows.laid_wordbook_wordbookref02_constants)] W := h
 rw [DU,C3] at h1
 have a:=dH g_1 (Lib.tabIs_of_head g_1 IE Tryz.underlying203 Tryz.underlying179 (by kernel_rfl) (by kernel_rfl) h1)
 obtain ⟨ps,h2⟩:=bY h1
 have b:=dH g_0 (fJ g_0 Ma Tryz.underlying203 Tryz.underlying179 (by kernel_rfl) (by kernel_rfl) h2)
 refine ⟨by decide,fun c o hm=>?_⟩
 simp only [H0,Nu,N0,or_false] at hm
 rcases hm with hm|hm<;>injection hm with e1 e2<;>subst e1 e2
 ·exact a
 ·exact b
theorem MO:Kst H0:=rfl
theorem D4:Kst0 H0:=rfl
theorem rC {R:D->AH->Prop} (h:ACall P f args H R) (w:World) (vs:Array Value) (hh:HRel (fun _=>.imm) w H) (hl:vs.size=args.length)
  (hr:∀(j:Nat) (d:D) (v:Value),args[j]?=some d->vs[j]?=some v->RepV (fun _=>.imm) w d v):
  Calls P f vs w fun e w'=>∃v d H' K',e= .returned v∧R d H'∧Below w.heap.size w w'∧RepO K' w' 0 d v:=by
 refine (h.2 (fun _=>.imm) w vs (fun _ _=>rfl) (fun _ _ _ _ h=>by cases h) hh hl hr).mono fun e w' ⟨v,d,H',K',g1,g2,g3,g4,g5,g6⟩=>⟨v,d,H',K',g1,g2,?_,g6⟩
 exact ⟨g3.ext.os,g3.ext.tape,g3.ext.output.1,g3.ext.size,fun b hb=>(g3.ext.imm b hb rfl).2⟩
end Go.Proofs.YtgopigkdcmhbbaaGreatDoor
end
section
namespace Go.Proofs.YtgopigkdcmhbbaaGreatDoor
open Go Go.Aw
variable {R:D->AH->Prop}
def cls5:List (List UInt8):= [[110],[110],[110],[118],[120]]
def cls2:List (List UInt8):= [[110],[118]]
def yH (p:Pt) (sense other:Id3) (n:Int) (m:List Int):Pt:=je p (small sense other (n.tmod 11) (m.drop 1))
def step (x:Gs) (seen:List Bool) (p:Pt) (m:List Int):Pt:=
 let entries:=visible x seen p 1
 let senses:=visible x seen p 2
 let n:=qG m 0 24
 if senses.length=0∨n<=5 then
  meaning (je p {yB with k:=1,name:=cls5.getD (jR m 1 5) [],text:=heads8.getD (jR m 2 8) []}) (jQ p) (m.drop 3)
 else
  let entry:=entries.getD (jR m 1 entries.length) default
  let sense:=senses.getD (jR m 1 senses.length) default
  let other:=senses.getD (jR m 2 senses.length) default
  if n=6 then meaning p entry (m.drop 2)
  else if n=7 then meaning p sense (m.drop 2)
  else if n=8∨n=9 then quoted x seen p sense (m.drop 2)
  else if n=10 then divided p entry sense (m.drop 2)
  else if n=11 then (if other=sense then yH p sense other n m else je p {yB with k:=17,on:=sense,to:=other})
  else if n=12 then
   let l:=splits x seen p
   if l.length=0 then yH p sense other n m else
    let o:=l.getD (jR m 3 l.length) default
    je p {yB with k:=18,on:=sense,to:=o.on,ids:= [o.ids.getD (jR m 4 o.ids.length) default]}
  else if n=13 then
   if qG m 2 2=0 then je p {yB with k:=5,on:=entry,text:=heads8.getD (jR m 3 8) []}
   else je p {yB with k:=6,on:=entry,name:=cls2.getD (jR m 3 2) []}
  else if n=14 then
   let l:=visible x seen p 3
   if l.length=0 then yH p sense other n m else
    let from_:=600000+500*qG m 3 60
    je p {yB with k:=11,on:=l.getD (jR m 2 l.length) default,a:=from_,b:=from_+99}
  else yH p sense other n m
def va (x:Gs) (office:Int):Nat->Int
 |0=>-1
 |i+1=>if (x.l.getD i default).o=office then i else va x office i
def last (x:Gs) (office:Int):Int:=va x office x.l.length
structure Ns where
 p:Pt
 seen:List Bool
def kQ (x:Gs) (seen:List Bool) (k:Nat):List Bool:=(List.range seen.length).map fun i=>if i=k then true else if i<k then seen.getD i false||(x.past.getD k []).getD i false else seen.getD i false
def yq (x:Gs) (o:Int) (m:List Int) (q:Nat) (s:Ns):Ns:=
 let k:=last x q
 if k<0∨((q:Int)≠o∧qG m (1+q) 4=1) then s else
  let pk:=x.l.getD k.toNat default
  let p1:={s.p with day:=max s.p.day pk.day}
  ⟨if (q:Int)=o then {p1 with s:=pk.s+1} else {p1 with needs:=p1.needs++ [⟨q,pk.s⟩]},kQ x s.seen k.toNat⟩
def qE (x:Gs) (o:Int) (m:List Int):Nat->Ns
 |0=>⟨{pt0 with o:=o,s:=1,day:=1},List.replicate x.l.length false⟩
 |q+1=>yq x o m q (qE x o m q)
def jr (x:Gs) (seen:List Bool) (p:Pt) (m:List Int):Nat->Pt
 |0=>p
 |i+1=>step x seen (jr x seen p m i) (m.drop (6+13*i))
def next (x:Gs) (offices:Nat) (m:List Int):Gs:=
 let o:=qG m 0 offices
 let s:=qE x o m offices
 let p:=jr x s.seen {s.p with day:=s.p.day+qG m 4 4} m (1+jR m 5 2)
 ⟨x.l++ [p],x.past++ [s.seen]⟩
def known (l:List Pt) (office seq:Int):Bool:=l.any fun p=>decide (p.o=office)&&decide (p.s=seq)
def ready (l:List Pt) (p:Pt):Bool:=p.needs.all (fun r=>known l r.o r.s)&&(decide (p.s=1)||known l p.o (p.s - 1))
def better (l:List Pt) (out:List Pt) (i:Nat) (best:Int):Bool:=
 let p:=l.getD i default
 ready out p&& !known out p.o p.s&&(decide (best<0)||decide (p.o<(l.getD best.toNat default).o)||(decide (p.o=(l.getD best.toNat default).o)&&decide (p.s<(l.getD best.toNat default).s)))
def jq (l:List Pt) (out:List Pt):Nat->Int
 |0=>-1
 |i+1=>if better l out i (jq l out i)=true then i else jq l out i
def j6 (l:List Pt):Nat->List Pt×Bool
 |0=>([],true)
 | n+1=>
  let s:=j6 l n
  if s.2=true then (if jq l s.1 l.length<0 then (s.1,false) else (s.1++ [l.getD (jq l s.1 l.length).toNat default],true)) else s
def ordered (l:List Pt):List Pt:=(j6 l l.length).1
def jc (l:List Int) (offices:Nat):Nat->Gs
 |0=>⟨[],[]⟩
 |i+1=>next (jc l offices i) offices (l.drop (2+32*i))
def patches (l:List Int):List Pt:=ordered (jc l (2+jR l 1 2) (2+jR l 0 8)).l
def Gs.d (x:Gs):List D:= [.slc (jk x.l),.slc (jg x.past)]
theorem uV:∀k,(upto (ku p kind ok) k).length<=k:=fun k=>by
 have:=zm (f:=ku p kind ok) (c:=1) (fun k=>by unfold ku;split<;>simp) k
 omega
theorem W6 {x:Gs} {seen:List Bool} {kind:Int} (ho:∀q∈x.l,q.ops.length<=1000) (i:Nat):(upto (fun i=>kv (x.l.getD i default) kind (seen.getD i false)) i).length<=1000*i:=by
 have:=zm (f:=fun i=>kv (x.l.getD i default) kind (seen.getD i false)) (c:=1000) (fun k=>by
  have h1:=uV (p:=x.l.getD k default) (kind:=kind) (ok:=seen.getD k false) (x.l.getD k default).ops.length
  have h2:(x.l.getD k default).ops.length<=1000:=uC (p:=fun q:Pt=>q.ops.length<=1000) ho (by decide) k
  unfold kv
  omega) i
 omega
theorem zR {x:Gs} {seen:List Bool} {p:Pt} {kind:Int} {H:AH} (hs:x.l.length<=seen.length) (hb:x.l.length<=100) (ho:∀q∈x.l,q.ops.length<=1000) (hp:p.ops.length<=1000) (h:R (.own (j5 (visible x seen p kind))) H):ACall Tryz.prog 125 [.agg x.d,.slc (jL seen),.agg p.d,.i kind] H R:=by
 refine Mc fun hf=>?_
 have hbig:=qk
 have hx:x.d= [.slc (jk x.l),.slc (jg x.past)]:=rfl
 have hd:p.d= [.i p.o,.i p.s,.i p.day,.slc (qv p.needs),.slc (qw p.ops),.str p.sl]:=rfl
 simp+contextual only [↓KT,hx,hd,↓KT,↓XP,qh,XW1,qa,qb]
 rintro b1 h1 b2 ⟨n12,h2⟩
 simp only [<-hx,<-hd]
 refine XW.loopK hm (fun F H'=>∃(i:Nat),i<=x.l.length∧Fr 91 [(1,.slc (jL seen)),(3,.i kind),(4,.ptr b1 0),(6,.ptr b2 0),(9,.own (j5 (upto (fun i=>kv (x.l.getD i default) kind (seen.getD i false)) i))),(10,.i i)] F∧((b2,AO.cells p.d)::(b1,AO.cells x.d)::H)=H') (fun F H=>match F.getD 10 .any with| .int _ n'=>x.l.length - n'.toNat|_=>0) ⟨0,by omega,⟨rfl,rfl,rfl,rfl,rfl,rfl,rfl,trivial⟩,rfl⟩ ?_
 rintro _ _ ⟨i,hi,hF,rfl⟩ K hN hE hR
 obtain ⟨z,rfl⟩:=hF.fl rfl
 try dsimp only [fl,zz,qa,qb] at*
 clear hF
 have hv:=W6 (x:=x) (seen:=seen) (kind:=kind) ho i
 by_cases hlt:i<x.l.length
 ·have nx:∀F',Fr 91 [(1,.slc (jL seen)),(3,.i kind),(4,.ptr b1 0),(6,.ptr b2 0),(9,.own (j5 (upto (fun i=>kv (x.l.getD i default) kind (seen.getD i false)) (i+1)))),(10,.i ((i+1:Nat):Int))] F'->K .normal F' ((b2,AO.cells p.d)::(b1,AO.cells x.d)::H):=fun F' hF'=>hN _ _ ⟨i+1,hlt,hF',(qz rfl).symm⟩ (by
   rw [Na,hF'.2.2.2.2.2.2.1]
   simp only [Nc,Nd,Ng]
   omega)
  clear hN hE hR
  have q1:=u5 hlt
  have q2:=J6 (l:=seen) (i:=i) (by omega)
  have hqo:(x.l.getD i default).ops.length<=1000:=uC (p:=fun q:Pt=>q.ops.length<=1000) ho (by decide) i
  have hun:upto (fun i=>kv (x.l.getD i default) kind (seen.getD i false)) (i+1)=upto (fun i=>kv (x.l.getD i default) kind (seen.getD i false)) i++kv (x.l.getD i default) kind (seen.getD i false):=rfl
  rw [hun] at nx
  generalize upto (fun i=>kv (x.l.getD i default) kind (seen.getD i false)) i=ac at nx hv
  generalize x.l.getD i default=q at q1 hqo nx
  generalize seen.getD i false=ok at q2 nx
  have hq:q.d= [.i q.o,.i q.s,.i q.day,.slc (qv q.needs),.slc (qw q.ops),.str q.sl]:=rfl
  simp+contextual only [hx,hd,jG,qg,n12,↓KT,↓XP,qh,XW1]
  refine fun _=>⟨fun _=>?_,fun hge=>absurd (by omega) hge⟩
  simp only [<-hx,<-hd]
  refine XW.loopK hm (fun F H'=>∃(k:Nat),k<=q.ops.length∧Fr 91 [(1,.slc (jL seen)),(3,.i kind),(4,.ptr b1 0),(6,.ptr b2 0),(9,.own (j5 (ac++upto (ku q kind ok) k))),(10,.i i),(11,.i k)] F∧((b2,AO.cells p.d)::(b1,AO.cells x.d)::H)=H') (fun F H=>match F.getD 11 .any with| .int _ n'=>q.ops.length - n'.toNat|_=>0) ⟨0,by omega,by rw [upto,Nw];exact ⟨rfl,rfl,rfl,rfl,rfl,rfl,rfl,rfl,trivial⟩,rfl⟩ ?_
  rintro _ _ ⟨k,hk,hF,rfl⟩ K2 hN hE hR
  obtain ⟨z2,rfl⟩:∃z2:Nat->D,_=(let z:=z2; [z 0,.slc (jL seen),z 2,.i kind,.ptr b1 0,z 5,.ptr b2 0,z 7,z 8,.own (j5 (ac++upto (ku q kind ok) k)),.i i,.i k,z 12,z 13,z 14,z 15,z 16,z 17,z 18,z 19,z 20,z 21,z 22,z 23,z 24,z 25,z 26,z 27,z 28,z 29,z 30,z 31,z 32,z 33,z 34,z 35,z 36,z 37,z 38,z 39,z 40,z 41,z 42,z 43,z 44,z 45,z 46,z 47,z 48,z 49,z 50,z 51,z 52,z 53,z 54,z 55,z 56,z 57,z 58,z 59,z 60,z 61,z 62,z 63,z 64,z 65,z 66,z 67,z 68,z 69,z 70,z 71,z 72,z 73,z 74,z 75,z 76,z 77,z 78,z 79,z 80,z 81,z 82,z 83,z 84,z 85,z 86,z 87,z 88,z 89,z 90]):=hF.lit
  clear hF
  have hv3:=uV (p:=q) (kind:=kind) (ok:=ok) k
  by_cases hlk:k<q.ops.length
  ·have nx3:∀F',Fr 91 [(1,.slc (jL seen)),(3,.i kind),(4,.ptr b1 0),(6,.ptr b2 0),(9,.own (j5 (ac++upto (ku q kind ok) (k+1)))),(10,.i i),(11,.i ((k+1:Nat):Int))] F'->K2 .normal F' ((b2,AO.cells p.d)::(b1,AO.cells x.d)::H):=fun F' hF'=>hN _ _ ⟨k+1,hlk,hF',(qz rfl).symm⟩ (by
    rw [Na,hF'.2.2.2.2.2.2.2.1]
    simp only [Nc,Nd,Ng]
    omega)
   clear hN hE hR nx
   have q3:=kO hlk
   have hu3:upto (ku q kind ok) (k+1)=upto (ku q kind ok) k++ku q kind ok k:=rfl
   rw [hu3] at nx3
   have ho3:ku q kind ok k=if ok=true∧(q.ops.getD k default).k=kind then [⟨q.o,q.s,k⟩] else []:=rfl
   rw [ho3] at nx3
   generalize q.ops.getD k default=o at q3 nx3
   have hod:o.d= [.i o.k,.i o.on.o,.i o.on.s,.i o.on.i,.i o.to.o,.i o.to.s,.i o.to.i,.slc (j5 o.ids),.i o.n,.str o.name,.str o.text,.i o.a,.i o.b]:=rfl
   generalize upto (ku q kind ok) k=ac3 at nx3 hv3
   have hac:(j5 (ac++ac3)).length<=200000:=by rw [qJ,Ni];omega
   rcases ok with _|_
   ·simp+contextual only [hx,hd,qQ,jG,qg,n12,qj (show k<=big by omega),q1,q2,hq,vv,↓KT,↓XP,qh,XW1,qb,qe]
    refine fun _=>⟨by omega,fun _=>⟨fun _=>⟨by omega,?_⟩,fun hge=>absurd (by omega) hge⟩⟩
    rw [if_neg (by simp),Nw] at nx3
    exact nx3 _ ⟨rfl,rfl,rfl,rfl,rfl,rfl,rfl,rfl,trivial⟩
   ·simp+contextual only [hx,hd,qQ,jG,qg,n12,qj (show k<=big by omega),q1,q2,hq,q3,hod,vv,↓KT,↓XP,qh,XW1,qb,qc,qe]
    refine fun _=>⟨by omega,fun _=>⟨fun _=>⟨by omega,by omega,fun _=>⟨fun hk'=>⟨by omega,fun _=>⟨by omega,fun _=>⟨Uu,by omega,?_⟩⟩⟩,fun hk'=>?_⟩⟩,fun hge=>absurd (by omega) hge⟩⟩
    ·rw [if_pos ⟨rfl,hk'⟩,<-No,<-Vy] at nx3
     exact nx3 _ ⟨rfl,rfl,rfl,rfl,rfl,rfl,rfl,rfl,trivial⟩
    ·rw [if_neg (fun hc=>hk' hc.2),Nw] at nx3
     exact nx3 _ ⟨rfl,rfl,rfl,rfl,rfl,rfl,rfl,rfl,trivial⟩
  ·have hik:k=q.ops.length:=by omega
   subst hik
   simp+contextual only [hx,hd,qQ,jG,qg,n12,q1,hq,↓KT,↓XP,qh,XW1,qb,qe]
   refine fun _=>⟨by omega,fun _=>hE _ _ _ ?_⟩
   clear hN hE hR
   simp+contextual only [qj (show i<=big by omega),↓KT,↓XP,qp,XW1,qf]
   exact nx _ ⟨rfl,rfl,rfl,rfl,rfl,rfl,rfl,trivial⟩
 ·have hik:i=x.l.length:=by omega
  subst hik
  clear hN
  simp+contextual only [hx,hd,jG,qg,n12,↓KT,↓XP,qh,XW1]
  refine fun _=>hE _ _ _ ?_
  clear hE hR
  have hv0:visible x seen p kind=upto (fun i=>kv (x.l.getD i default) kind (seen.getD i false)) x.l.length++kv p kind true:=rfl
  rw [hv0] at h
  generalize upto (fun i=>kv (x.l.getD i default) kind (seen.getD i false)) x.l.length=ac at h hv ⊢
  simp+contextual only [↓KT,↓XP,qp,XW1]
  simp only [<-hx,<-hd]
  refine XW.loopK hm (fun F H'=>∃(k:Nat),k<=p.ops.length∧Fr 91 [(3,.i kind),(6,.ptr b2 0),(9,.own (j5 (ac++upto (ku p kind true) k))),(12,.i k)] F∧((b2,AO.cells p.d)::(b1,AO.cells x.d)::H)=H') (fun F H=>match F.getD 12 .any with| .int _ n'=>p.ops.length - n'.toNat|_=>0) ⟨0,by omega,by rw [upto,Nw];exact ⟨rfl,rfl,rfl,rfl,rfl,trivial⟩,rfl⟩ ?_
  rintro _ _ ⟨k,hk,hF,rfl⟩ K hN hE hR
  obtain ⟨z,rfl⟩:=hF.fl rfl
  try dsimp only [fl,zz,qa,qb] at*
  clear hF
  have hv3:=uV (p:=p) (kind:=kind) (ok:=true) k
  by_cases hlk:k<p.ops.length
  ·have nx3:∀F',Fr 91 [(3,.i kind),(6,.ptr b2 0),(9,.own (j5 (ac++upto (ku p kind true) (k+1)))),(12,.i ((k+1:Nat):Int))] F'->K .normal F' ((b2,AO.cells p.d)::(b1,AO.cells x.d)::H):=fun F' hF'=>hN _ _ ⟨k+1,hlk,hF',(qz rfl).symm⟩ (by
    rw [Na,hF'.2.2.2.2.1]
    simp only [Nc,Nd,Ng]
    omega)
   clear hN hE hR
   have q3:=kO hlk
   have hu3:upto (ku p kind true) (k+1)=upto (ku p kind true) k++ku p kind true k:=rfl
   rw [hu3] at nx3
   have ho3:ku p kind true k=if true=true∧(p.ops.getD k default).k=kind then [⟨p.o,p.s,k⟩] else []:=rfl
   rw [ho3] at nx3
   generalize p.ops.getD k default=o at q3 nx3
   have hod:o.d= [.i o.k,.i o.on.o,.i o.on.s,.i o.on.i,.i o.to.o,.i o.to.s,.i o.to.i,.slc (j5 o.ids),.i o.n,.str o.name,.str o.text,.i o.a,.i o.b]:=rfl
   generalize upto (ku p kind true) k=ac3 at nx3 hv3
   have hac:(j5 (ac++ac3)).length<=200000:=by rw [qJ,Ni];omega
   simp+contextual only [hx,hd,qQ,qj (show k<=big by omega),q3,hod,↓KT,↓XP,qh,XW1,qb,qc,qe]
   refine fun _=>⟨fun _ _=>⟨fun hk' _ _=>⟨Uu,by omega,?_⟩,fun hk'=>?_⟩,fun hge=>absurd (by omega) hge⟩
   ·rw [if_pos ⟨rfl,hk'⟩,<-No,<-Vy] at nx3
    exact nx3 _ ⟨rfl,rfl,rfl,rfl,rfl,trivial⟩
   ·rw [if_neg (fun hc=>hk' hc.2),Nw] at nx3
    exact nx3 _ ⟨rfl,rfl,rfl,rfl,rfl,trivial⟩
  ·have hik:k=p.ops.length:=by omega
   subst hik
   simp+contextual only [hx,hd,qQ,↓KT,↓XP,qh,XW1]
   refine fun _=>hE _ _ _ ?_
   clear hN hE hR
   simp+contextual only [↓XP,qp,XW1]
   exact h
theorem ru (hb:x.l.length<=100) (h:R (.i (last x q)) H):ACall Tryz.prog 97 [.agg x.d,.i q] H R:=by
 refine b97 fun hf=>?_
 have hbig:=qk
 have hx:x.d= [.slc (jk x.l),.slc (jg x.past)]:=rfl
 have w1:IntKind.i64.wrap ((x.l.length:Int) - 1)=(x.l.length:Int) - 1:=qi (by omega) (by omega)
 simp+contextual only [↓Fs,hx,jG,w1,↓Fs,↓XP,qh,XW1,qa,qb]
 rintro b1 h1
 simp only [<-hx]
 refine fun _=>XW.loopK hm (fun F H'=>∃(j:Nat),j<=x.l.length∧last x q=va x q j∧Fr 23 [(1,.i q),(2,.ptr b1 0),(5,.i ((j:Int) - 1))] F∧((b1,AO.cells x.d)::H)=H') (fun F H=>match F.getD 5 .any with| .int _ n'=>(n'+1).toNat|_=>0) ⟨x.l.length,by omega,rfl,⟨rfl,rfl,rfl,rfl,trivial⟩,rfl⟩ ?_
 rintro _ _ ⟨j,hj,hl,hF,rfl⟩ K hN hE hR
 obtain ⟨z,rfl⟩:=hF.fl rfl
 try dsimp only [fl,zz,qa,qb] at*
 clear hF
 rcases j with _|j
 ·clear hN hR
  have e0:((0:Nat):Int) - 1= -1:=by omega
  have e1:(0<=(-1:Int))=False:=by simp
  simp+contextual only [hx,e0,e1,↓Fs,↓XP,qp]
  refine hE _ _ _ ?_
  rw [hl] at h
  simp+contextual only [↓XP,qp,XW1]
  exact h
 ·have e0:((j+1:Nat):Int) - 1=(j:Int):=by omega
  have nx:(x.l.getD j default).o≠q->∀F',Fr 23 [(1,.i q),(2,.ptr b1 0),(5,.i ((j:Int) - 1))] F'->K .normal F' ((b1,AO.cells x.d)::H):=fun hne F' hF'=>hN _ _ ⟨j,by omega,by rw [hl];simp only [va,if_neg hne],hF',(qz rfl).symm⟩ (by
   rw [Na,hF'.2.2.2.1]
   simp only [Nc,Nd,Ng]
   omega)
  rw [e0]
  clear hN hE
  have q1:=u5 (l:=x.l) (i:=j) (by omega)
  have hl2:(x.l.getD j default).o=q->last x q=(j:Int):=fun he=>by rw [hl];simp only [va,if_pos he]
  generalize x.l.getD j default=e at q1 nx hl2
  have hq:e.d= [.i e.o,.i e.s,.i e.day,.slc (qv e.needs),.slc (qw e.ops),.str e.sl]:=rfl
  have w2:IntKind.i64.wrap ((j:Int) - 1)=(j:Int) - 1:=qi (by omega) (by omega)
  simp+contextual only [hx,jG,q1,hq,w2,↓Fs,↓XP,qh,qb,qe]
  refine fun _=>⟨by omega,fun _=>⟨fun he=>hR _ _ ?_,fun hne=>?_⟩⟩
  ·rw [hl2 he] at h
   simp+contextual only [↓XP,qp]
   exact h
  ·simp only [<-hx]
   exact nx hne _ ⟨rfl,rfl,rfl,rfl,trivial⟩
def vW (l:List Pt) (o s:Int) (i:Nat):Bool:=(l.take i).any fun p=>decide (p.o=o)&&decide (p.s=s)
theorem VK (h:i<l.length):vW l o s (i+1)=(vW l o s i||(decide ((l.getD i default).o=o)&&decide ((l.getD i default).s=s))):=by
 unfold vW
 rw [List.take_add_one,List.any_append]
 simp [h]
theorem VB (h:R (.bool (known l o s)) H):ACall Tryz.prog 100 [.slc (jk l),.i o,.i s] H R:=by
 refine FD fun hf=>?_
 have hbig:=qk
 have hlen:l.length<=big:=by have:=hf.1;simpa only [fact,jG] using this
 simp+contextual only [↓lL,↓lL,↓XP,qp,qa,qb]
 refine XW.loopK hm (fun F H'=>∃(i:Nat),i<=l.length∧vW l o s i=false∧Fr 30 [(0,.slc (jk l)),(1,.i o),(2,.i s),(7,.i i)] F∧H=H') (fun F H=>match F.getD 7 .any with| .int _ n'=>l.length - n'.toNat|_=>0) ⟨0,by omega,rfl,⟨rfl,rfl,rfl,rfl,rfl,trivial⟩,rfl⟩ ?_
 rintro _ _ ⟨i,hi,hk,hF,rfl⟩ K hN hE hR
 obtain ⟨z,rfl⟩:=hF.fl rfl
 try dsimp only [fl,zz,qa,qb] at*
 clear hF
 by_cases hlt:i<l.length
 ·have hk1:=VK (o:=o) (s:=s) hlt
  rw [hk,Bool.false_or] at hk1
  have nx:vW l o s (i+1)=false->∀F',Fr 30 [(0,.slc (jk l)),(1,.i o),(2,.i s),(7,.i ((i+1:Nat):Int))] F'->K .normal F' H:=fun hk F' hF'=>hN _ _ ⟨i+1,hlt,hk,hF',(qz rfl).symm⟩ (by
   rw [Na,hF'.2.2.2.2.1]
   simp only [Nc,Nd,Ng]
   omega)
  have hkt:vW l o s (i+1)=true->known l o s=true:=fun h=>by
   unfold vW at h
   unfold known
   rw [List.any_eq_true] at h ⊢
   obtain ⟨x,h1,h2⟩:=h
   exact ⟨x,List.mem_of_mem_take h1,h2⟩
  rw [hk1] at nx hkt
  clear hN hE
  have q1:=u5 hlt
  generalize l.getD i default=e at q1 nx hkt
  have hq:e.d= [.i e.o,.i e.s,.i e.day,.slc (qv e.needs),.slc (qw e.ops),.str e.sl]:=rfl
  simp+contextual only [jG,q1,hq,qj (show i<=big by omega),↓lL,↓XP,qh,qb,qe]
  refine fun _=>⟨fun _ _=>⟨fun ho _=>⟨fun hs=>hR _ _ ?_,fun hs=>?_⟩,fun ho=>?_⟩,fun hge=>absurd (by omega) hge⟩
  ·rw [hkt (by simp [ho,hs])] at h
   simp+contextual only [↓XP,qp]
   exact h
  ·exact nx (by simp [hs]) _ ⟨rfl,rfl,rfl,rfl,rfl,trivial⟩
  ·exact nx (by simp [ho]) _ ⟨rfl,rfl,rfl,rfl,rfl,trivial⟩
 ·have hik:i=l.length:=by omega
  subst hik
  clear hN
  simp+contextual only [jG,↓lL,↓XP,qh]
  refine fun _=>hE _ _ _ ?_
  rw [show known l o s=false by unfold vW at hk;rw [List.take_length] at hk;exact hk] at h
  simp+contextual only [↓XP,qp,XW1]
  exact h
def vX (l:List Pt) (p:Pt) (i:Nat):Bool:=(p.needs.take i).all fun r=>known l r.o r.s
theorem WW (h:i<p.needs.length):vX l p (i+1)=(vX l p i&&known l (p.needs.getD i default).o (p.needs.getD i default).s):=by
 unfold vX
 rw [List.take_add_one,List.all_append]
 simp [h]
theorem mX (hp:0<=p.s) (hp':p.s<=1000000) (hn:p.needs.length<=1000000) (h:R (.bool (ready l p)) H):ACall Tryz.prog 99 [.slc (jk l),.agg p.d] H R:=by
 refine b99 fun hf=>?_
 have hbig:=qk
 have hd:p.d= [.i p.o,.i p.s,.i p.day,.slc (qv p.needs),.slc (qw p.ops),.str p.sl]:=rfl
 have wm:IntKind.i64.wrap (p.s - 1)=p.s - 1:=qi (by omega) (by omega)
 simp+contextual only [↓DI,hd,↓XP,qp,qa,qb]
 rintro b1 h1
 simp only [<-hd]
 refine XW.loopK hm (fun F H'=>∃(i:Nat),i<=p.needs.length∧vX l p i=true∧Fr 40 [(0,.slc (jk l)),(3,.ptr b1 0),(5,.i i)] F∧((b1,AO.cells p.d)::H)=H') (fun F H=>match F.getD 5 .any with| .int _ n'=>p.needs.length - n'.toNat|_=>0) ⟨0,by omega,rfl,⟨rfl,rfl,rfl,rfl,trivial⟩,rfl⟩ ?_
 rintro _ _ ⟨i,hi,hk,hF,rfl⟩ K hN hE hR
 obtain ⟨z,rfl⟩:=hF.fl rfl
 try dsimp only [fl,zz,qa,qb] at*
 clear hF
 by_cases hlt:i<p.needs.length
 ·have hk1:=WW (l:=l) hlt
  rw [hk,Bool.true_and] at hk1
  have nx:vX l p (i+1)=true->∀F',Fr 40 [(0,.slc (jk l)),(3,.ptr b1 0),(5,.i ((i+1:Nat):Int))] F'->K .normal F' ((b1,AO.cells p.d)::H):=fun hk F' hF'=>hN _ _ ⟨i+1,hlt,hk,hF',(qz rfl).symm⟩ (by
   rw [Na,hF'.2.2.2.1]
   simp only [Nc,Nd,Ng]
   omega)
  have hkt:vX l p (i+1)=false->ready l p=false:=fun h=>by
   unfold vX at h
   unfold ready
   rw [Bool.and_eq_false_iff]
   left
   rw [List.all_eq_false] at h ⊢
   obtain ⟨x,h1,h2⟩:=h
   exact ⟨x,List.mem_of_mem_take h1,h2⟩
  rw [hk1] at nx hkt
  clear hN hE
  have q1:=wM hlt
  generalize p.needs.getD i default=e at q1 nx hkt
  have hq:e.d= [.i e.o,.i e.s]:=rfl
  simp+contextual only [hd,j9,q1,hq,↓DI,↓XP,qh,XW1,qb,qe]
  refine fun _=>⟨fun _ _ _=>⟨_,fun _ _=>VB ⟨rfl,rfl⟩,?_⟩,fun hge=>absurd (by omega) hge⟩
  rcases hkk:known l e.o e.s with _|_
  ·rw [hkt hkk] at h
   simp+contextual only [↓XP,qp,XW1]
   refine hR _ _ ?_
   simp+contextual only [↓XP,qp]
   exact h
  ·simp+contextual only [qj (show i<=big by omega),↓DI,↓XP,qp,XW1]
   simp only [<-hd]
   exact nx hkk _ ⟨rfl,rfl,rfl,rfl,trivial⟩
 ·have hik:i=p.needs.length:=by omega
  subst hik
  clear hN
  simp+contextual only [hd,j9,↓DI,↓XP,qh,XW1]
  refine fun _=>hE _ _ _ ?_
  have hr:ready l p=(decide (p.s=1)||known l p.o (p.s - 1)):=by
   unfold vX at hk
   rw [List.take_length] at hk
   unfold ready
   rw [hk,Bool.true_and]
  rw [hr] at h
  simp+contextual only [wm,↓DI,↓XP,qh,XW1]
  refine fun _=>⟨fun h1=>?_,fun h1 _=>VB ?_⟩
  ·simp only [h1,decide_true,Bool.true_or] at h
   exact h
  ·simp only [h1,decide_false,Bool.false_or] at h
   simp+contextual only [↓XP,qp,XW1]
   exact h
def yv (seen past:List Bool) (i:Nat):List Bool:=(List.range seen.length).map fun j=>if j<i then seen.getD j false||past.getD j false else seen.getD j false
theorem WP {seen past:List Bool} {i:Nat}:(yv seen past i).length=seen.length:=by simp [yv]
theorem Gd {seen past:List Bool}:yv seen past 0=seen:=by
 refine List.ext_getElem (by simp [yv]) fun j h1 h2=>?_
 simp [yv,h2]
theorem cM {seen past:List Bool} {i:Nat} (h:i<seen.length):(yv seen past i).getD i false=seen.getD i false:=by
 simp [yv,h]
theorem Gt {seen past:List Bool} {i:Nat} (h:i<seen.length):(yv seen past i).set i (seen.getD i false||past.getD i false)=yv seen past (i+1):=by
 refine List.ext_getElem (by simp [yv]) fun j h1 h2=>?_
 rw [List.getElem_set]
 simp only [yv,List.getElem_map,List.getElem_range]
 split
 ·rename_i e;subst e;rw [if_pos (by omega)]
 ·rename_i e
  by_cases hj:j<i
  ·rw [if_pos hj,if_pos (by omega)]
  ·rw [if_neg hj,if_neg (by omega)]
theorem cX {x:Gs} {seen:List Bool} {k:Nat} (h:k<seen.length):(yv seen (x.past.getD k []) k).set k true=kQ x seen k:=by
 refine List.ext_getElem (by simp [yv,kQ]) fun j h1 h2=>?_
 rw [List.getElem_set]
 simp only [yv,kQ,List.getElem_map,List.getElem_range]
 split
 ·rename_i e;subst e;rw [if_pos rfl]
 ·rename_i e;rw [if_neg (Ne.symm e)]
theorem Qb {x:Gs} {seen:List Bool} {k:Nat}:(kQ x seen k).length=seen.length:=by simp [kQ]
theorem rU {l:List Bool} {i:Nat} (h:i<l.length):(l.map D.bool)[i]?=some (.bool (l.getD i false)):=by simp [h]
theorem WV {l:List Bool} {i:Nat} {b:Bool}:(l.map D.bool).set i (.bool b)=(l.set i b).map D.bool:=List.map_set.symm
theorem uY:∀i,-1<=va x q i∧va x q i<i
 |0=>⟨by simp [va],by simp [va]⟩
 | i+1=>by
  have:=uY (x:=x) (q:=q) i
  unfold va
  split
  ·omega
  ·omega
def Pt.dn (p:Pt):List D:= [.i p.o,.i p.s,.i p.day,.own (qv p.needs),.slc [],.str []]
structure Nx (b3 b6 b8 b9:Nat):Prop where
 n39:b3≠b9
 n38:b3≠b8
 n36:b3≠b6
 n89:b8≠b9
 n69:b6≠b9
 n68:b6≠b8
theorem lE {x:Gs} {offices n k b3 b6 b8 b9:Nat} {o q:Int} {m:List Int} {seen:List Bool} {pc:List D} {c6:AO} {H:AH} {Q:AQ} {F:List D} (nx:Nx b3 b6 b8 b9) (hk:k<x.l.length) (hb:x.l.length<=100) (hn:n=x.l.length) (hs:seen.length=n) (hp:x.past.length=x.l.length) (hpk:(x.past.getD k []).length=k)
  (hF:Fr 139 [(1,.i offices),(2,.slc (ints m)),(3,.ptr b3 0),(6,.ptr b6 0),(7,.i o),(8,.ptr b8 0),(9,.hsl b9 n),(10,.i q),(11,.i (k:Int)),(12,.i 0)] F) (hE:∀F',Fr 139 [(1,.i offices),(2,.slc (ints m)),(3,.ptr b3 0),(6,.ptr b6 0),(7,.i o),(8,.ptr b8 0),(9,.hsl b9 n),(10,.i q),(11,.i (k:Int))] F'->Q (.exit 2) F' ((b9,.cells ((yv seen (x.past.getD k []) k).map D.bool))::(b8,AO.cells pc)::(b6,c6)::(b3,AO.cells [.own (jk x.l),.own (jg x.past)])::H)):
  XW Tryz.prog (zS 34) F ((b9,.cells (seen.map D.bool))::(b8,AO.cells pc)::(b6,c6)::(b3,AO.cells [.own (jk x.l),.own (jg x.past)])::H) Q:=by
 have hbig:=qk
 obtain ⟨n39,n38,n36,n89,n69,n68⟩:=nx
 refine XW.loopK hm (fun F H'=>∃(i:Nat),i<=k∧Fr 139 [(1,.i offices),(2,.slc (ints m)),(3,.ptr b3 0),(6,.ptr b6 0),(7,.i o),(8,.ptr b8 0),(9,.hsl b9 n),(10,.i q),(11,.i (k:Int)),(12,.i i)] F∧(b9,AO.cells ((yv seen (x.past.getD k []) i).map D.bool))::(b8,AO.cells pc)::(b6,c6)::(b3,AO.cells [.own (jk x.l),.own (jg x.past)])::H=H') (fun F H=>match F.getD 12 .any with| .int _ n'=>k - n'.toNat|_=>0) ⟨0,by omega,hF,by rw [Gd]⟩ ?_
 rintro _ _ ⟨i,hi,hF,rfl⟩ K hN hE' hR
 obtain ⟨z,rfl⟩:=hF.fl rfl
 try dsimp only [fl,zz,qa,qb] at*
 clear hF
 by_cases hlt:i<k
 ·have nx:∀F',Fr 139 [(1,.i offices),(2,.slc (ints m)),(3,.ptr b3 0),(6,.ptr b6 0),(7,.i o),(8,.ptr b8 0),(9,.hsl b9 n),(10,.i q),(11,.i (k:Int)),(12,.i ((i+1:Nat):Int))] F'->K .normal F' ((b9,.cells ((yv seen (x.past.getD k []) (i+1)).map D.bool))::(b8,AO.cells pc)::(b6,c6)::(b3,AO.cells [.own (jk x.l),.own (jg x.past)])::H):=fun F' hF'=>hN _ _ ⟨i+1,hlt,hF',(qz rfl).symm⟩ (by
   rw [Na,hF'.2.2.2.2.2.2.2.2.2.2.1]
   simp only [Nc,Nd,Ng]
   omega)
  clear hN hE' hR hE
  have hl9:=WP (seen:=seen) (past:=x.past.getD k []) (i:=i)
  rw [<-Gt (by omega)] at nx
  have q1:=rU (l:=yv seen (x.past.getD k []) i) (i:=i) (by omega)
  rw [cM (by omega)] at q1
  have q2:=fC (l:=x.past) (i:=k) (by omega)
  have q3:=J6 (l:=x.past.getD k []) (i:=i) (by omega)
  have hw:(yv seen (x.past.getD k []) i).length=n:=by omega
  generalize yv seen (x.past.getD k []) i=s9 at q1 nx hl9 hw ⊢
  generalize (x.past.getD k []).getD i false=pb at q3 nx
  generalize seen.getD i false=sb at q1 nx
  rcases sb with _|_
  ·simp+contextual only [Nat.mul_one,WV,Zt,vv,qg,n39,n38,n36,q1,q2,q3,qj (show i<=big by omega),↓Wo,↓wu,↓XP,qh,XW1]
   rw [Bool.false_or] at nx
   exact ⟨fun _=>⟨by omega,fun _=>⟨by omega,fun _=>⟨by omega,by omega,by omega,nx _ ⟨rfl,rfl,rfl,rfl,rfl,rfl,rfl,rfl,rfl,rfl,rfl,trivial⟩⟩⟩⟩,fun hge=>absurd (by omega) hge⟩
  ·simp+contextual only [Nat.mul_one,WV,q1,qj (show i<=big by omega),↓Wo,↓wu,↓XP,qh,XW1]
   rw [Bool.true_or] at nx
   exact ⟨fun _=>⟨by omega,by omega,by omega,nx _ ⟨rfl,rfl,rfl,rfl,rfl,rfl,rfl,rfl,rfl,rfl,rfl,trivial⟩⟩,fun hge=>absurd (by omega) hge⟩
 ·have hik:i=k:=by omega
  subst hik
  clear hN
  simp+contextual only [↓Wo,↓wu,↓XP,qp]
  exact hE' _ _ _ (hE _ ⟨rfl,rfl,rfl,rfl,rfl,rfl,rfl,rfl,rfl,rfl,trivial⟩)
theorem kr:∀q,(qE x o m q).p.needs.length<=q∧(qE x o m q).p.ops= []∧(qE x o m q).p.sl= []∧(qE x o m q).seen.length=x.l.length
 |0=>by simp [qE,pt0]
 | q+1=>by
  obtain ⟨h1,h2,h3,h4⟩:=kr (x:=x) (o:=o) (m:=m) q
  simp only [qE]
  generalize qE x o m q=s at h1 h2 h3 h4 ⊢
  unfold yq
  simp only []
  split
  ·exact ⟨by omega,h2,h3,h4⟩
  ·split
   ·exact ⟨by simp only [];omega,h2,h3,by rw [Qb];exact h4⟩
   ·exact ⟨by simp only [Ni,Nj,Nk];omega,h2,h3,by rw [Qb];exact h4⟩
theorem tK {x:Gs} {offices n q k b3 b6 b8 b9:Nat} {o:Int} {m:List Int} {seen:List Bool} {p:Pt} {c6:AO} {H:AH} {Q:AQ} {F:List D} (nx:Nx b3 b6 b8 b9) (hof:offices<=10) (hb:x.l.length<=100) (hn:n=x.l.length) (hs:seen.length=n) (hk:k<x.l.length) (hq:q<=10) (hne:p.needs.length<=10) (hxs:∀p∈x.l,0<=p.s∧p.s<=1000)
  (hfr:qn H b8=none)
  (hF:Fr 139 [(1,.i offices),(2,.slc (ints m)),(3,.ptr b3 0),(6,.ptr b6 0),(7,.i o),(8,.ptr b8 0),(9,.hsl b9 n),(10,.i (q:Int)),(11,.i (k:Int))] F) (hE:∀p2,p2=(let pk:=x.l.getD k default;let p1:={p with day:=max p.day pk.day};if (q:Int)=o then {p1 with s:=pk.s+1} else {p1 with needs:=p1.needs++ [⟨q,pk.s⟩]})->∀F',Fr 139 [(1,.i offices),(2,.slc (ints m)),(3,.ptr b3 0),(6,.ptr b6 0),(7,.i o),(8,.ptr b8 0),(9,.hsl b9 n),(10,.i (q:Int)),(11,.i (k:Int))] F'->Q .normal F' ((b9,AO.cells ((kQ x seen k).map D.bool))::(b8,AO.cells p2.dn)::(b6,c6)::(b3,AO.cells [.own (jk x.l),.own (jg x.past)])::H)):
  xcode Tryz.prog x58_s7 F ((b9,AO.cells ((yv seen (x.past.getD k []) k).map D.bool))::(b8,AO.cells p.dn)::(b6,c6)::(b3,AO.cells [.own (jk x.l),.own (jg x.past)])::H) Q:=by
 have hbig:=qk
 obtain ⟨n39,n38,n36,n89,n69,n68⟩:=nx
 obtain ⟨z,rfl⟩:=hF.fl rfl
 try dsimp only [fl,zz,qa,qb] at*
 clear hF
 have q1:=u5 hk
 obtain ⟨e1,e2⟩:=hxs (x.l.getD k default) (by rw [jB hk];exact List.getElem_mem hk)
 rw [<-cX (by omega)] at hE
 have hl9:=WP (seen:=seen) (past:=x.past.getD k []) (i:=k)
 generalize yv seen (x.past.getD k []) k=s9 at hE hl9 ⊢
 generalize x.l.getD k default=e at q1 hE e1 e2
 have hd:e.d= [.i e.o,.i e.s,.i e.day,.slc (qv e.needs),.slc (qw e.ops),.str e.sl]:=rfl
 have hdn:p.dn= [.i p.o,.i p.s,.i p.day,.own (qv p.needs),.slc [],.str []]:=rfl
 have hmx:(if e.day>p.day then e.day else p.day)=max p.day e.day:=by rw [Int.max_def];split<;>split<;>omega
 have ws:IntKind.i64.wrap (e.s+1)=e.s+1:=qi (by omega) (by omega)
 by_cases hqo:(q:Int)=o
 ·subst hqo
  simp only [if_true] at hE
  simp+contextual only [Nat.mul_one,WV,jG,qg,qm,n39,n38,n36,n89,q1,hd,hdn,hmx,ws,↓Wo,↓wu,↓XP,qh,XW1,qb,qe]
  exact ⟨by omega,by omega,fun _ _=>⟨by omega,fun _=>⟨by omega,by omega,fun _=>⟨by omega,hE _ rfl _ ⟨rfl,rfl,rfl,rfl,rfl,rfl,rfl,rfl,rfl,rfl,trivial⟩⟩⟩⟩⟩
 ·simp only [if_neg hqo] at hE
  simp+contextual only [Nat.mul_one,WV,jG,j9,qg,qm,uk,n39,n38,n36,n89,q1,hd,hdn,hmx,hqo,↓Wo,↓wu,↓XP,qh,XW1,qb,qc,qe]
  refine ⟨by omega,by omega,fun _ _=>⟨by omega,fun _=>⟨by omega,by rw [qg (Ne.symm n68),qg (Ne.symm n38)];exact .inl hfr,by omega,fun _=>⟨gV,by omega,by omega,?_⟩⟩⟩⟩
  have hh:=fun F'=>hE _ rfl F'
  simp only [Pt.dn,<-UQ] at hh
  exact hh _ ⟨rfl,rfl,rfl,rfl,rfl,rfl,rfl,rfl,rfl,rfl,trivial⟩
theorem pt {x:Gs} {offices n b3 b6 b8 b9:Nat} {o:Int} {m:List Int} {c6:AO} {H:AH} {Q:AQ} {F:List D} (nx:Nx b3 b6 b8 b9) (hof:offices<=10) (hb:x.l.length<=100) (hn:n=x.l.length) (hp:x.past.length=x.l.length) (hpk:∀k,k<x.l.length->(x.past.getD k []).length=k) (hxs:∀p∈x.l,0<=p.s∧p.s<=1000)
  (hfr:qn H b8=none) (hF:Fr 139 [(1,.i offices),(2,.slc (ints m)),(3,.ptr b3 0),(6,.ptr b6 0),(7,.i o),(8,.ptr b8 0),(9,.hsl b9 n),(10,.i 0)] F) (hE:∀F',Fr 139 [(1,.i offices),(2,.slc (ints m)),(3,.ptr b3 0),(6,.ptr b6 0),(7,.i o),(8,.ptr b8 0),(9,.hsl b9 n)] F'->∀s,s=qE x o m offices->Q (.exit 0) F' ((b9,AO.cells (s.seen.map D.bool))::(b8,AO.cells s.p.dn)::(b6,c6)::(b3,AO.cells [.own (jk x.l),.own (jg x.past)])::H)):
  ∀s,s=qE x o m 0->XW Tryz.prog x58_L11 F ((b9,AO.cells (s.seen.map D.bool))::(b8,AO.cells s.p.dn)::(b6,c6)::(b3,AO.cells [.own (jk x.l),.own (jg x.past)])::H) Q:=by
 intro s0 hs0
 have hbig:=qk
 have nx0:=nx
 obtain ⟨n39,n38,n36,n89,n69,n68⟩:=nx
 refine XW.loopK hm (fun F H'=>∃(q:Nat) (s:Ns),q<=offices∧s=qE x o m q∧Fr 139 [(1,.i offices),(2,.slc (ints m)),(3,.ptr b3 0),(6,.ptr b6 0),(7,.i o),(8,.ptr b8 0),(9,.hsl b9 n),(10,.i (q:Int))] F∧((b9,AO.cells (s.seen.map D.bool))::(b8,AO.cells s.p.dn)::(b6,c6)::(b3,AO.cells [.own (jk x.l),.own (jg x.past)])::H)=H') (fun F H=>match F.getD 10 .any with| .int _ n'=>offices - n'.toNat|_=>0) ⟨0,s0,by omega,hs0,hF,rfl⟩ ?_
 clear hF hs0 s0
 rintro _ _ ⟨q,s,hq,hs,hF,rfl⟩ K hN hE' hR
 obtain ⟨z,rfl⟩:=hF.fl rfl
 try dsimp only [fl,zz,qa,qb] at*
 clear hF hR
 by_cases hlt:q<offices
 ·have nx:∀F' s2,s2=yq x o m q s->Fr 139 [(1,.i offices),(2,.slc (ints m)),(3,.ptr b3 0),(6,.ptr b6 0),(7,.i o),(8,.ptr b8 0),(9,.hsl b9 n),(10,.i ((q+1:Nat):Int))] F'->K .normal F' ((b9,AO.cells (s2.seen.map D.bool))::(b8,AO.cells s2.p.dn)::(b6,c6)::(b3,AO.cells [.own (jk x.l),.own (jg x.past)])::H):=fun F' s2 h2 hF'=>hN _ _ ⟨q+1,s2,hlt,by rw [h2,hs];rfl,hF',(qz rfl).symm⟩ (by
   rw [Na,hF'.2.2.2.2.2.2.2.2.1]
   simp only [Nc,Nd,Ng]
   omega)
  clear hN hE' hE
  obtain ⟨g1,g2,g3,g4⟩:=kr (x:=x) (o:=o) (m:=m) q
  rw [<-hs] at g1 g2 g3 g4
  clear hs
  obtain ⟨r1,r2⟩:=uY (x:=x) (q:=q) x.l.length
  have hx:x.d= [.slc (jk x.l),.slc (jg x.past)]:=rfl
  have wq:IntKind.i64.wrap (1+(q:Int))=((1+q:Nat):Int):=by rw [qi (by omega) (by omega)];omega
  have a0:=qN (l:=m) (i:=1+q) (most:=4) (by omega)
  have k1:∀j:Nat,((j:Int)<0)=False:=fun j=>by simp
  simp+contextual only [qg,n39,n38,n36,↓Wo,↓wu,↓XP,qh,XW1,qb]
  refine ⟨fun _=>ru (x:=x) hb ?_,fun hge=>absurd (by omega) hge⟩
  by_cases hk0:last x q<0
  ·simp+contextual only [hk0,qj (show q<=big by omega),↓Wo,↓wu,↓XP,qp,XW1]
   refine fun _=>nx _ s ?_ ⟨rfl,rfl,rfl,rfl,rfl,rfl,rfl,rfl,rfl,trivial⟩
   unfold yq
   simp only [if_pos (Or.inl hk0)]
  ·obtain ⟨k,hk⟩:∃k:Nat,last x q=k:=⟨(last x q).toNat,by omega⟩
   have hkl:k<x.l.length:=by unfold last at hk;omega
   have hgo:((q:Int)≠o->¬qG m (1+q) 4=1)->∀p2,p2=(let pk:=x.l.getD k default;let p1:={s.p with day:=max s.p.day pk.day};if (q:Int)=o then {p1 with s:=pk.s+1} else {p1 with needs:=p1.needs++ [⟨q,pk.s⟩]})->yq x o m q s=⟨p2,kQ x s.seen k⟩:=by
    rintro h1 p2 rfl
    unfold yq
    simp only [hk,Nh]
    rw [if_neg (fun h=>h.elim (by omega) (fun h=>h1 h.1 h.2))]
   have go:((q:Int)≠o->¬qG m (1+q) 4=1)->∀F',Fr 139 [(1,.i offices),(2,.slc (ints m)),(3,.ptr b3 0),(6,.ptr b6 0),(7,.i o),(8,.ptr b8 0),(9,.hsl b9 n),(10,.i (q:Int)),(11,.i (k:Int)),(12,.i 0)] F'->XW Tryz.prog (zS 34) F' ((b9,AO.cells (s.seen.map D.bool))::(b8,AO.cells s.p.dn)::(b6,c6)::(b3,AO.cells [.own (jk x.l),.own (jg x.past)])::H) (kU 2 (Vg Tryz.prog x58_s7 (kU 1 (Vg Tryz.prog (zS 53) K)))):=fun hc F' hF'=>by
    refine lE nx0 hkl hb hn (by omega) hp (hpk k hkl) hF' (fun F'' hF''=>?_)
    simp only [Zp,fK,beq_self_eq_true,ew]
    refine tK nx0 hof hb hn (by omega) hkl (by omega) (by omega) hxs hfr hF'' (fun p2 hp2 F3 hF3=>?_)
    obtain ⟨z,rfl⟩:=hF3.fl rfl
    try dsimp only [fl,zz,qa,qb] at*
    simp+contextual only [qj (show q<=big by omega),↓Wo,↓wu,↓XP,qp]
    exact nx _ ⟨p2,kQ x s.seen k⟩ (hgo hc p2 hp2).symm ⟨rfl,rfl,rfl,rfl,rfl,rfl,rfl,rfl,rfl,trivial⟩
   rw [hk]
   by_cases hqo:(q:Int)=o
   ·subst hqo
    simp+contextual only [k1,↓Wo,↓wu,↓XP,qp]
    exact fun _=>go (fun h=>(h rfl).elim) _ ⟨rfl,rfl,rfl,rfl,rfl,rfl,rfl,rfl,rfl,rfl,rfl,trivial⟩
   ·simp+contextual only [k1,hqo,wq,↓Wo,↓wu,↓XP,qp]
    refine fun _=>jS (i:=1+q) (by omega) ?_
    by_cases ha:qG m (1+q) 4=1
    ·simp+contextual only [ha,qj (show q<=big by omega),↓Wo,↓wu,↓XP,qp,XW1]
     refine fun _=>nx _ s ?_ ⟨rfl,rfl,rfl,rfl,rfl,rfl,rfl,rfl,rfl,trivial⟩
     unfold yq
     simp only [if_pos (Or.inr (And.intro hqo ha))]
    ·simp+contextual only [ha,↓wu,↓XP,qp]
     exact fun _=>go (fun _=>ha) _ ⟨rfl,rfl,rfl,rfl,rfl,rfl,rfl,rfl,rfl,rfl,rfl,trivial⟩
 ·have hik:q=offices:=by omega
  subst hik
  clear hN
  simp+contextual only [↓Wo,↓wu,↓XP,qp]
  exact hE' _ _ _ (hE _ ⟨rfl,rfl,rfl,rfl,rfl,rfl,rfl,rfl,trivial⟩ s hs)
def Ge (o:OpP):Prop:=o.k=16->o.ids.length=2
structure More (p p':Pt) (c:Nat) (more:List OpP):Prop where
 eq:p'={p with ops:=p.ops++more}
 len:more.length<=c
 ok:∀o∈more,Ge o
theorem More.refl (p:Pt):More p p 0 []:=⟨by simp,by simp,by simp⟩
theorem More.trans {p p' p'':Pt} {c c':Nat} {a b:List OpP} (h:More p p' c a) (g:More p' p'' c' b):More p p'' (c+c') (a++b):=by
 refine ⟨?_,by have:=h.len;have:=g.len;rw [Ni];omega,fun o ho=>(List.mem_append.1 ho).elim (h.ok o) (g.ok o)⟩
 rw [g.eq,h.eq]
 simp only [No]
theorem More.le {p p':Pt} {c c':Nat} {a:List OpP} (h:More p p' c a) (hc:c<=c'):More p p' c' a:=⟨h.eq,Np h.len hc,h.ok⟩
theorem More.one (p:Pt) {o:OpP} (h:Ge o):More p (je p o) 1 [o]:=⟨rfl,by simp,fun x hx=>by rw [List.mem_singleton.1 hx];exact h⟩
theorem QD {o:OpP} (h:o.k≠16):Ge o:=fun h'=>(h h').elim
theorem w9 (p:Pt) (on:Id3) (m:List Int):∃more,More p (meaning p on m) 3 more:=by
 unfold meaning
 simp only []
 have h1:=(More.one p (o:={yB with k:=2,on:=on,n:=qG m 2 5}) (QD (by simp))).trans (More.one _ (o:={yB with k:=7,on:=jQ p,text:=gloss (m.drop 3)}) (QD (by simp)))
 split
 ·exact ⟨_,h1.le (by omega)⟩
 ·exact ⟨_,h1.trans (More.one _ (QD (by simp)))⟩
theorem Zs (x:Gs) (seen:List Bool) (p:Pt) (sense:Id3) (m:List Int):∃more,More p (quoted x seen p sense m) 2 more:=by
 unfold quoted
 simp only []
 split
 ·exact ⟨_,(More.one p (QD (by simp))).trans (More.one _ (QD (by simp)))⟩
 ·exact ⟨_,(More.one p (QD (by simp))).le (by omega)⟩
theorem VS (p:Pt) (entry sense:Id3) (m:List Int):∃more,More p (divided p entry sense m) 7 more:=by
 unfold divided
 simp only []
 obtain ⟨a,h1⟩:=w9 p entry m
 obtain ⟨b,h2⟩:=w9 (meaning p entry m) entry (m.drop 1)
 exact ⟨_,(h1.trans h2).trans (More.one _ (fun _=>rfl))⟩
theorem iV {sense other:Id3} {n:Int} {m:List Int}:Ge (small sense other n m):=by
 refine QD ?_
 unfold small
 repeat' split
 all_goals simp
theorem zJ (p:Pt) (sense other:Id3) (n:Int) (m:List Int):∃more,More p (yH p sense other n m) 1 more:=⟨_,More.one p iV⟩
theorem Wr (x:Gs) (seen:List Bool) (p:Pt) (m:List Int):∃more,More p (step x seen p m) 7 more∧((visible x seen p 2).length=0->∃o∈more,o.k=1):=by
 have one:(visible x seen p 2).length≠0->∀{p':Pt} {c:Nat},(∃more,More p p' c more)->c<=7->∃more,More p p' 7 more∧((visible x seen p 2).length=0->∃o∈more,o.k=1):=fun hv p' c ⟨more,h⟩ hc=>⟨more,h.le hc,fun h=>(hv h).elim⟩
 have w:∀{o:OpP},o.k≠16->∃more,More p (je p o) 1 more:=fun h=>⟨_,More.one p (QD h)⟩
 unfold step
 dsimp only
 by_cases c0:(visible x seen p 2).length=0∨qG m 0 24<=5
 ·rw [if_pos c0]
  obtain ⟨b,h2⟩:=w9 (je p {yB with k:=1,name:=cls5.getD (jR m 1 5) [],text:=heads8.getD (jR m 2 8) []}) (jQ p) (m.drop 3)
  exact ⟨_,((More.one p (QD (by show (1:Int)≠16;decide))).trans h2).le (by omega),fun _=>⟨_,List.mem_append_left _ (List.mem_singleton.2 rfl),rfl⟩⟩
 ·rw [if_neg c0]
  refine one (fun h=>c0 (.inl h)) (c:=7) ?_ (by omega)
  have le:∀{p':Pt} {c:Nat},(∃more,More p p' c more)->c<=7->∃more,More p p' 7 more:=fun ⟨more,h⟩ hc=>⟨more,h.le hc⟩
  generalize (visible x seen p 1).getD _ _=entry
  generalize (visible x seen p 2).getD (jR m 1 _) _=sense
  generalize (visible x seen p 2).getD (jR m 2 _) _=other
  generalize qG m 0 24=n
  by_cases c1:n=6
  ·rw [if_pos c1];exact le (w9 _ _ _) (by omega)
  rw [if_neg c1]
  by_cases c2:n=7
  ·rw [if_pos c2];exact le (w9 _ _ _) (by omega)
  rw [if_neg c2]
  by_cases c3:n=8∨n=9
  ·rw [if_pos c3];exact le (Zs _ _ _ _ _) (by omega)
  rw [if_neg c3]
  by_cases c4:n=10
  ·rw [if_pos c4];exact le (VS _ _ _ _) (by omega)
  rw [if_neg c4]
  by_cases c5:n=11
  ·rw [if_pos c5]
   by_cases d1:other=sense
   ·rw [if_pos d1];exact le (zJ _ _ _ _ _) (by omega)
   ·rw [if_neg d1];exact le (w (by show (17:Int)≠16;decide)) (by omega)
  rw [if_neg c5]
  by_cases c6:n=12
  ·rw [if_pos c6]
   by_cases d1:(splits x seen p).length=0
   ·rw [if_pos d1];exact le (zJ _ _ _ _ _) (by omega)
   ·rw [if_neg d1];exact le (w (by show (18:Int)≠16;decide)) (by omega)
  rw [if_neg c6]
  by_cases c7:n=13
  ·rw [if_pos c7]
   by_cases d1:qG m 2 2=0
   ·rw [if_pos d1];exact le (w (by show (5:Int)≠16;decide)) (by omega)
   ·rw [if_neg d1];exact le (w (by show (6:Int)≠16;decide)) (by omega)
  rw [if_neg c7]
  by_cases c8:n=14
  ·rw [if_pos c8]
   by_cases d1:(visible x seen p 3).length=0
   ·rw [if_pos d1];exact le (zJ _ _ _ _ _) (by omega)
   ·rw [if_neg d1];exact le (w (by show (11:Int)≠16;decide)) (by omega)
  rw [if_neg c8]
  exact le (zJ _ _ _ _ _) (by omega)
theorem mem_visOne {p:Pt} {kind:Int} {ok:Bool} {i:Id3}:i∈kv p kind ok↔ok=true∧∃k,k<p.ops.length∧(p.ops.getD k default).k=kind∧i=⟨p.o,p.s,k⟩:=by
 unfold kv
 rw [upto_mem]
 constructor
 ·rintro ⟨k,hk,h⟩
  unfold ku at h
  split at h
  ·rename_i hc
   exact ⟨hc.1,k,hk,hc.2,List.mem_singleton.1 h⟩
  ·cases h
 ·rintro ⟨h1,k,hk,h2,h3⟩
  refine ⟨k,hk,?_⟩
  unfold ku
  rw [if_pos ⟨h1,h2⟩,h3]
  exact List.mem_singleton.2 rfl
theorem ng {p:Pt} {kind:Int}:(kv p kind true).length≠0↔∃o∈p.ops,o.k=kind:=by
 constructor
 ·intro h
  obtain ⟨i,hi⟩:=List.exists_mem_of_length_pos (Nat.pos_of_ne_zero h)
  obtain ⟨_,k,hk,h2,_⟩:=mem_visOne.1 hi
  exact ⟨p.ops.getD k default,by rw [jB hk];exact List.getElem_mem hk,h2⟩
 ·rintro ⟨o,ho,h2⟩ h
  obtain ⟨k,hk,rfl⟩:=List.mem_iff_getElem.1 ho
  have:=List.eq_nil_of_length_eq_zero h▸(mem_visOne (p:=p) (kind:=kind) (ok:=true) (i:=⟨p.o,p.s,k⟩)).2 ⟨rfl,k,hk,by rw [jB hk];exact h2,rfl⟩
  cases this
theorem vis_ne {x:Gs} {seen:List Bool} {p:Pt} {kind:Int}:(visible x seen p kind).length≠0↔(∃i,i<x.l.length∧seen.getD i false=true∧∃o∈(x.l.getD i default).ops,o.k=kind)∨∃o∈p.ops,o.k=kind:=by
 unfold visible
 rw [Ni,<-ng]
 constructor
 ·intro h
  by_cases hp:(kv p kind true).length=0
  ·left
   obtain ⟨i,hi⟩:=List.exists_mem_of_length_pos (l:=upto (fun i=>kv (x.l.getD i default) kind (seen.getD i false)) x.l.length) (by omega)
   obtain ⟨j,hj,h2⟩:=upto_mem.1 hi
   obtain ⟨h3,k,hk,h4,_⟩:=mem_visOne.1 h2
   exact ⟨j,hj,h3,(x.l.getD j default).ops.getD k default,by rw [jB hk];exact List.getElem_mem hk,h4⟩
  ·exact .inr hp
 ·rintro (⟨i,hi,hs,o,ho,h2⟩|h)
  ·obtain ⟨k,hk,rfl⟩:=List.mem_iff_getElem.1 ho
   have:(⟨(x.l.getD i default).o,(x.l.getD i default).s,k⟩:Id3)∈upto (fun i=>kv (x.l.getD i default) kind (seen.getD i false)) x.l.length:=upto_mem.2 ⟨i,hi,mem_visOne.2 ⟨hs,k,hk,by rw [jB hk];exact h2,rfl⟩⟩
   have:=List.length_pos_of_mem this
   omega
  ·omega
def Cl (x:Gs) (seen:List Bool) (n:Nat):Prop:=∀i,i<n->seen.getD i false=true->∀j,j<i->(x.past.getD i []).getD j false=true->seen.getD j false=true
structure GInv (x:Gs):Prop where
 np:x.past.length=x.l.length
 pk:∀k,k<x.l.length->(x.past.getD k []).length=k
 sq:∀p∈x.l,0<=p.s∧p.s<=x.l.length
 op:∀p∈x.l,p.ops.length<=14
 dy:∀p∈x.l,1<=p.day∧p.day<=1+4*x.l.length
 ne:∀p∈x.l,p.needs.length<=10
 spl:∀p∈x.l,∀o∈p.ops,Ge o
 ent:∀i,i<x.l.length->(∃o∈(x.l.getD i default).ops,o.k=2)->∃j,(j=i∨(j<i∧(x.past.getD i []).getD j false=true))∧∃o∈(x.l.getD j default).ops,o.k=1
 cl:∀k,k<x.l.length->Cl x (x.past.getD k []) k
theorem GInv.nil:GInv ⟨[],[]⟩:=⟨rfl,by simp,by simp,by simp,by simp,by simp,by simp,by simp,by simp⟩
theorem VE {x:Gs} {seen:List Bool} {k i:Nat} (h:i<seen.length):(kQ x seen k).getD i false=if i=k then true else if i<k then seen.getD i false||(x.past.getD k []).getD i false else seen.getD i false:=by
 simp [kQ,h]
theorem p8 {x:Gs} (hx:GInv x) {seen:List Bool} (hl:seen.length=x.l.length) {k:Nat} (hk:k<x.l.length) (h:Cl x seen x.l.length):Cl x (kQ x seen k) x.l.length:=by
 intro i hi h1 j hj h2
 rw [VE (by omega)] at h1 ⊢
 by_cases hjk:j=k
 ·rw [if_pos hjk]
 ·rw [if_neg hjk]
  by_cases hik:i=k
  ·subst hik
   rw [if_pos hj,h2,Bool.or_true]
  ·rw [if_neg hik] at h1
   by_cases hik':i<k
   ·rw [if_pos hik',Bool.or_eq_true] at h1
    rw [if_pos (by omega),Bool.or_eq_true]
    rcases h1 with h1|h1
    ·exact .inl (h i hi h1 j hj h2)
    ·exact .inr (hx.cl k hk i hik' h1 j hj h2)
   ·rw [if_neg hik'] at h1
    have:=h i hi h1 j hj h2
    split
    ·rw [this,Bool.true_or]
    ·exact this
theorem wI {x:Gs} (hx:GInv x) {o:Int} {m:List Int}:∀q,Cl x (qE x o m q).seen x.l.length∧0<=(qE x o m q).p.s∧(qE x o m q).p.s<=x.l.length+1∧1<=(qE x o m q).p.day∧(qE x o m q).p.day<=1+4*x.l.length
 | 0=>by
  refine ⟨fun i hi h1=>?_,by simp only [qE];omega,by simp only [qE];omega,by simp only [qE];omega,by simp only [qE];omega⟩
  simp only [qE] at h1
  rw [Na,List.getElem?_replicate] at h1
  split at h1<;>cases h1
 | q+1=>by
  obtain ⟨h1,h2,h3,h5,h6⟩:=wI hx (o:=o) (m:=m) q
  obtain ⟨_,_,_,h4⟩:=kr (x:=x) (o:=o) (m:=m) q
  obtain ⟨r1,r2⟩:=uY (x:=x) (q:=q) x.l.length
  simp only [qE]
  generalize qE x o m q=s at h1 h2 h3 h4 h5 h6 ⊢
  unfold yq
  simp only []
  split
  ·exact ⟨h1,h2,h3,h5,h6⟩
  ·rename_i hc
   have hk:(last x q).toNat<x.l.length:=by
    unfold last at hc ⊢
    have:¬va x q x.l.length<0:=fun h=>hc (.inl h)
    omega
   have hd:=hx.dy (x.l.getD (last x q).toNat default) (by rw [jB hk];exact List.getElem_mem hk)
   have hs:=hx.sq (x.l.getD (last x q).toNat default) (by rw [jB hk];exact List.getElem_mem hk)
   refine ⟨p8 hx h4 hk h1,?_⟩
   split
   ·exact ⟨by simp only [];omega,by simp only [];omega,by simp only [];omega,by simp only [];omega⟩
   ·exact ⟨h2,h3,by simp only [];omega,by simp only [];omega⟩
def VOk (x:Gs) (seen:List Bool) (p:Pt):Prop:=(visible x seen p 2).length≠0->(visible x seen p 1).length≠0
theorem VOk.step {x:Gs} {seen:List Bool} {p:Pt} (h:VOk x seen p) (m:List Int):VOk x seen (step x seen p m):=by
 obtain ⟨more,h1,h2⟩:=Wr x seen p m
 generalize Go.Proofs.YtgopigkdcmhbbaaGreatDoor.step x seen p m=p' at h1 ⊢
 intro _
 by_cases hv:(visible x seen p 2).length=0
 ·obtain ⟨o,ho,hk⟩:=h2 hv
  exact vis_ne.2 (.inr ⟨o,by rw [h1.eq];exact List.mem_append_right _ ho,hk⟩)
 ·rcases vis_ne.1 (h hv) with h3|⟨o,ho,hk⟩
  ·exact vis_ne.2 (.inl h3)
  ·exact vis_ne.2 (.inr ⟨o,by rw [h1.eq];exact List.mem_append_left _ ho,hk⟩)
theorem VOk.base {x:Gs} (hx:GInv x) {seen:List Bool} (hc:Cl x seen x.l.length) {p:Pt} (hp:p.ops= []):VOk x seen p:=by
 intro h
 rcases vis_ne.1 h with ⟨i,hi,hs,o,ho,hk⟩|⟨o,ho,_⟩
 ·obtain ⟨j,hj,h1⟩:=hx.ent i hi ⟨o,ho,hk⟩
  rcases hj with rfl|⟨hj,h2⟩
  ·exact vis_ne.2 (.inl ⟨j,hi,hs,h1⟩)
  ·exact vis_ne.2 (.inl ⟨j,by omega,hc i hi hs j hj h2,h1⟩)
 ·rw [hp] at ho;cases ho
theorem uQ {x:Gs} {seen:List Bool} {p:Pt} {m:List Int} (hp:p.ops= []) (hv:VOk x seen p):∀i,∃more,More p (jr x seen p m i) (7*i) more∧VOk x seen (jr x seen p m i)
 |0=>⟨[],More.refl p,hv⟩
 | i+1=>by
  obtain ⟨a,h1,h2⟩:=uQ (m:=m) hp hv i
  obtain ⟨b,h3,_⟩:=Wr x seen (jr x seen p m i) (m.drop (6+13*i))
  exact ⟨_,(h1.trans h3).le (by omega),h2.step _⟩
theorem cB {x:Gs} (hx:GInv x) {seen:List Bool} {p:Pt} (hp:∀o∈p.ops,Ge o):∀o∈splits x seen p,o.ids.length=2:=by
 have one:∀{q:Pt} {ok:Bool},(∀o∈q.ops,Ge o)->∀o∈yj q ok,o.ids.length=2:=by
  intro q ok hq o ho
  unfold yj at ho
  obtain ⟨k,hk,h⟩:=upto_mem.1 ho
  unfold kE at h
  split at h
  ·rename_i hc
   rw [List.mem_singleton.1 h]
   exact hq _ (by rw [jB hk];exact List.getElem_mem hk) hc.2
  ·cases h
 intro o ho
 unfold splits at ho
 rcases List.mem_append.1 ho with h|h
 ·obtain ⟨i,hi,h⟩:=upto_mem.1 h
  exact one (hx.spl _ (by rw [jB hi];exact List.getElem_mem hi)) o h
 ·exact one hp o h
theorem Wi {x:Gs} (hx:GInv x) {offices:Nat} (hof:offices<=10) {m:List Int}:∃more,More {(qE x (qG m 0 offices) m offices).p with day:=(qE x (qG m 0 offices) m offices).p.day+qG m 4 4} (jr x (qE x (qG m 0 offices) m offices).seen {(qE x (qG m 0 offices) m offices).p with day:=(qE x (qG m 0 offices) m offices).p.day+qG m 4 4} m (1+jR m 5 2)) 14 more∧
  VOk x (qE x (qG m 0 offices) m offices).seen (jr x (qE x (qG m 0 offices) m offices).seen {(qE x (qG m 0 offices) m offices).p with day:=(qE x (qG m 0 offices) m offices).p.day+qG m 4 4} m (1+jR m 5 2)):=by
 obtain ⟨h1,h2,h3,h5,h6⟩:=wI hx (o:=qG m 0 offices) (m:=m) offices
 obtain ⟨g1,g2,g3,g4⟩:=kr (x:=x) (o:=qG m 0 offices) (m:=m) offices
 generalize qE x (qG m 0 offices) m offices=s at h1 h2 h3 g1 g2 g3 g4 ⊢
 have a5:=qN (l:=m) (i:=5) (most:=2) (by omega)
 have hn:7*(1+jR m 5 2)<=14:=by unfold jR;omega
 obtain ⟨more,e1,e2⟩:=uQ (x:=x) (seen:=s.seen) (p:={s.p with day:=s.p.day+qG m 4 4}) (m:=m) g2 (VOk.base hx h1 g2) (1+jR m 5 2)
 exact ⟨more,e1.le hn,e2⟩
theorem wj {α:Type} {l:List α} {a d:α} {i:Nat} (h:i<l.length):(l++ [a]).getD i d=l.getD i d:=by
 simp [Na,Nn h]
theorem z5 {α:Type} {l:List α} {a d:α} {i:Nat} (h:i=l.length):(l++ [a]).getD i d=a:=by
 subst h;simp
theorem GInv.next {x:Gs} (hx:GInv x) {offices:Nat} (hof:offices<=10) (m:List Int):GInv (next x offices m):=by
 obtain ⟨more,e1,e2⟩:=Wi hx hof (m:=m)
 obtain ⟨h1,h2,h3,h5,h6⟩:=wI hx (o:=qG m 0 offices) (m:=m) offices
 obtain ⟨g1,g2,g3,g4⟩:=kr (x:=x) (o:=qG m 0 offices) (m:=m) offices
 unfold Go.Proofs.YtgopigkdcmhbbaaGreatDoor.next
 simp only []
 generalize jr x _ _ m _=p at e1 e2 ⊢
 generalize qE x (qG m 0 offices) m offices=s at h1 h2 h3 h5 h6 g1 g2 g3 g4 e1 e2 ⊢
 have a4:=qN (l:=m) (i:=4) (most:=4) (by omega)
 have pd:p.day=s.p.day+qG m 4 4:=by rw [e1.eq]
 have hps:p.s=s.p.s∧p.needs=s.p.needs∧p.ops=more:=by rw [e1.eq];exact ⟨rfl,rfl,by simp only [g2,Ny]⟩
 obtain ⟨p1,p2,p3⟩:=hps
 have hlen:=e1.len
 have mem:∀{P:Pt->Prop},(∀q∈x.l,P q)->P p->∀q∈x.l++ [p],P q:=fun hq hp q hm=>(List.mem_append.1 hm).elim (hq q) (fun h=>by rw [List.mem_singleton.1 h];exact hp)
 refine ⟨by simp [hx.np],fun k hk=>?_,?_,mem hx.op (by rw [p3];omega),?_,mem hx.ne (by rw [p2];omega),mem hx.spl (by rw [p3];exact e1.ok),fun i hi=>?_,fun k hk=>?_⟩
 ·simp only [Ni,Nj,Nk] at hk
  by_cases h:k<x.l.length
  ·rw [wj (by rw [hx.np];exact h)];exact hx.pk k h
  ·have hkn:k=x.past.length:=by rw [hx.np];omega
   rw [z5 hkn,g4,hkn,hx.np]
 ·refine mem (fun q hq=>?_) ?_
  ·have:=hx.sq q hq
   simp only [Ni,Nj,Nk]
   omega
  ·simp only [Ni,Nj,Nk]
   omega
 ·refine mem (fun q hq=>?_) ?_
  ·have:=hx.dy q hq
   simp only [Ni,Nj,Nk]
   omega
  ·simp only [Ni,Nj,Nk]
   omega
 ·simp only [Ni,Nj,Nk] at hi
  by_cases h:i<x.l.length
  ·rw [wj h,wj (by rw [hx.np];exact h)]
   intro he
   obtain ⟨j,hj,h4⟩:=hx.ent i h he
   refine ⟨j,hj,?_⟩
   rw [wj (by rcases hj with rfl|hj<;>omega)]
   exact h4
  ·have hin:i=x.l.length:=by omega
   subst hin
   rw [z5 rfl,z5 hx.np.symm]
   intro he
   rcases vis_ne.1 (e2 (vis_ne.2 (.inr he))) with ⟨j,hj,hs,h4⟩|h4
   ·exact ⟨j,.inr ⟨hj,hs⟩,by rw [wj hj];exact h4⟩
   ·exact ⟨_,.inl rfl,by rw [z5 rfl];exact h4⟩
 ·simp only [Ni,Nj,Nk] at hk
  intro i hi h4 j hj h5
  simp only at h4 h5 ⊢
  by_cases h:k<x.l.length
  ·rw [wj (by rw [hx.np];exact h)] at h4 ⊢
   rw [wj (by rw [hx.np];omega)] at h5
   exact hx.cl k h i hi h4 j hj h5
  ·have hkn:k=x.l.length:=by omega
   subst hkn
   rw [z5 hx.np.symm] at h4 ⊢
   rw [wj (by rw [hx.np];exact hi)] at h5
   exact h1 i hi h4 j hj h5
theorem JY {l:List (List UInt8)} {i c:Nat} (h:∀x∈l,x.length<=c):(l.getD i []).length<=c:=by
 rw [Na]
 cases e:l[i]? with
 |none=>simp
 |some x=>exact h x (Nm e)
theorem Ul {α:Type} {l:List α} {i:Nat} {d:α} (hi:i<l.length):l.getD i d∈l:=by
 rw [jB hi]
 exact List.getElem_mem hi
theorem ZS {l:List Int} {i n:Nat} (h:0<n):jR l i (n:Int)<n:=by
 have:=qN (l:=l) (i:=i) (most:=(n:Int)) (by omega)
 unfold jR
 omega
theorem vB {l:List Int}:(gloss l).length<=60:=by
 have go:∀i,(yL l i).length<=5+7*i:=by
  intro i
  induction i with
  |zero=>exact JY (by decide)
  | succ i ih=>
   have h1:(seps3.getD (jR l (2+i) 3) []).length<=2:=JY (by decide)
   have h2:(words16.getD (jR l (4+i) (6+i)) []).length<=5:=JY (by decide)
   simp only [yL,Ni]
   omega
 unfold gloss
 split
 ·simp
 ·have h1:=go (jR l 1 3)
  have h2:=ZS (l:=l) (i:=1) (n:=3) (by omega)
  have h2':jR l 1 3<3:=h2
  omega
theorem WT {p:Pt} {on:Id3} {m:List Int}:p.ops.length+2<=(meaning p on m).ops.length∧(meaning p on m).ops.length<=p.ops.length+3∧(meaning p on m).o=p.o∧(meaning p on m).s=p.s:=by
 unfold meaning
 dsimp only
 split<;>simp [je]
theorem nh {x:Gs} {seen:List Bool} {p:Pt} {m:List Int}:(step x seen p m).ops≠ []:=by
 have w:∀{p:Pt} {o:OpP},(je p o).ops≠ []:=fun {p o}=>by simp [je]
 have mm:∀{p:Pt} {on:Id3} {m:List Int},(meaning p on m).ops≠ []:=fun {p on m}=>by
  have:=WT (p:=p) (on:=on) (m:=m)
  intro e
  rw [e] at this
  simp at this
 have qq:∀{sense:Id3} {m:List Int},(quoted x seen p sense m).ops≠ []:=fun {sense m}=>by
  unfold quoted
  dsimp only
  split
  ·exact w
  ·exact w
 unfold step
 dsimp only
 by_cases c0:(visible x seen p 2).length=0∨qG m 0 24<=5
 ·rw [if_pos c0];exact mm
 rw [if_neg c0]
 generalize (visible x seen p 1).getD (jR m 1 (visible x seen p 1).length) default=entry
 generalize (visible x seen p 2).getD (jR m 1 (visible x seen p 2).length) default=sense
 generalize (visible x seen p 2).getD (jR m 2 (visible x seen p 2).length) default=other
 generalize qG m 0 24=n
 by_cases c1:n=6
 ·rw [if_pos c1];exact mm
 rw [if_neg c1]
 by_cases c2:n=7
 ·rw [if_pos c2];exact mm
 rw [if_neg c2]
 by_cases c3:n=8∨n=9
 ·rw [if_pos c3];exact qq
 rw [if_neg c3]
 by_cases c4:n=10
 ·rw [if_pos c4];exact w
 rw [if_neg c4]
 by_cases c5:n=11
 ·rw [if_pos c5]
  by_cases d1:other=sense
  ·rw [if_pos d1];exact w
  ·rw [if_neg d1];exact w
 rw [if_neg c5]
 by_cases c6:n=12
 ·rw [if_pos c6]
  by_cases d1:(splits x seen p).length=0
  ·rw [if_pos d1];exact w
  ·rw [if_neg d1];exact w
 rw [if_neg c6]
 by_cases c7:n=13
 ·rw [if_pos c7]
  by_cases d1:qG m 2 2=0
  ·rw [if_pos d1];exact w
  ·rw [if_neg d1];exact w
 rw [if_neg c7]
 by_cases c8:n=14
 ·rw [if_pos c8]
  by_cases d1:(visible x seen p 3).length=0
  ·rw [if_pos d1];exact w
  ·rw [if_neg d1];exact w
 rw [if_neg c8]
 exact w
theorem UE:(next x offices m).l.length=x.l.length+1:=by simp [Go.Proofs.YtgopigkdcmhbbaaGreatDoor.next]
def val (L:List UInt8):Nat:=L.foldl (fun a d=>256*a+d.toNat) 0
theorem oZ:val (L++ [d])=256*val L+d.toNat:=by simp [val]
theorem Zr:∀(m:Nat),val (digs m).reverse=m
 | m=>by
  by_cases h:m=0
  ·subst h;rw [kf];rfl
  ·rw [yK h,List.reverse_cons,oZ,Zr (m / 256),UInt8.toNat_ofNat']
   omega
theorem eL:∀(L:List UInt8) (a:Nat),L.foldl (fun a d=>256*a+d.toNat) a<256 ^ L.length*(a+1)
 | [],a=>by simp
 | d::r,a=>by
  have h1:=eL r (256*a+d.toNat)
  have h2:=d.toNat_lt
  simp only [List.foldl_cons,Nj]
  refine Nat.lt_of_lt_of_le h1 ?_
  rw [Nat.pow_succ,Nat.mul_assoc]
  exact Nat.mul_le_mul_left _ (by omega)
theorem hU (L:List UInt8):val L<256 ^ L.length:=by
 have:=eL L 0
 simpa [val] using this
theorem Wf:∀(m:Nat) (d:UInt8) (r:List UInt8),(digs m).reverse=d::r->d≠0
 | m,d,r,h=>by
  by_cases hm:m=0
  ·subst hm;rw [kf] at h;simp at h
  ·rw [yK hm,List.reverse_cons] at h
   by_cases h2:m / 256=0
   ·rw [h2,kf] at h
    simp only [List.reverse_nil,Ny,List.cons.injEq] at h
    rw [<-h.1]
    intro e
    have:=congrArg UInt8.toNat e
    rw [UInt8.toNat_ofNat'] at this
    simp at this
    omega
   ·cases hr:(digs (m / 256)).reverse with
    | nil=>
     rw [yK h2] at hr
     simp at hr
    | cons a t=>
     rw [hr] at h
     simp only [Nz,List.cons.injEq] at h
     have:=Wf (m / 256) a t hr
     rw [<-h.1]
     exact this
theorem VY:qU f (qU f x)=x:=by
 cases f with
 |false=>rfl
 | true=>
  simp only [qU,if_true]
  apply UInt8.toNat_inj.1
  have:=x.toNat_lt
  rw [UInt8.toNat_sub_of_le _ _ (by rw [UInt8.le_iff_toNat_le,UInt8.toNat_sub_of_le _ _ (by rw [UInt8.le_iff_toNat_le];simp;omega)];simp),UInt8.toNat_sub_of_le _ _ (by rw [UInt8.le_iff_toNat_le];simp;omega)]
  simp
  omega
def qC (c:UInt8):Nat:=if c.toNat<128 then 127 - c.toNat else c.toNat - 128
def turned (c:UInt8):Bool:=decide (c.toNat<128)
def body (c:UInt8) (r:List UInt8):List UInt8:=(r.take (qC c)).map (qU (turned c))
def qD:List UInt8->Int×Nat×Int
 | []=>(0,0,3)
 | c::r=>
  if 8<qC c then (0,0,2) else if r.length<qC c then (0,0,3) else if 0<qC c∧qU (turned c) (r.getD 0 0)=0 then (0,0,2)
  else if 9223372036854775808<=val (body c r) then (0,0,2)
  else (if turned c=true then -1 - (val (body c r):Int) else (val (body c r):Int),qC c+1,0)
theorem Kc (hm:wP .i64 m):qD (qr m++rest)=(m,(qr m).length,0):=by
 have hl:=Ka hm
 have hg:=VF hm
 obtain ⟨g,hgd⟩:∃g,mag m=g:=⟨_,rfl⟩
 have hv:=Zr g
 have hh:=Wf g
 rw [hgd] at hl hg
 obtain ⟨c,hc⟩:∃c,UInt8.ofNat (if m<0 then 127 - (digs g).length else 128+(digs g).length)=c:=⟨_,rfl⟩
 have hcn:c.toNat=if m<0 then 127 - (digs g).length else 128+(digs g).length:=by
  rw [<-hc,UInt8.toNat_ofNat']
  split<;>omega
 have ht:qC c=(digs g).length:=by
  unfold qC
  rw [hcn]
  split<;>split<;>omega
 have hf:turned c=decide (m<0):=by
  unfold turned
  rw [hcn]
  apply decide_eq_decide.2
  split<;>omega
 have he:qr m=c::(digs g).reverse.map (qU (decide (m<0))):=by rw [qr,hgd,hc]
 have hlen:(qr m).length=(digs g).length+1:=by rw [he];simp
 have hb:body c ((digs g).reverse.map (qU (decide (m<0)))++rest)=(digs g).reverse:=by
  unfold body
  rw [ht,hf,List.take_append_of_le_length (by simp),List.take_of_length_le (by simp),List.map_map]
  refine (List.map_congr_left fun x _=>?_).trans (List.map_id _)
  exact VY
 rw [hlen,he,Nz]
 unfold qD
 dsimp only
 rw [hb,hv,ht,hf,if_neg (by omega),if_neg (by simp),if_neg ?_,if_neg (by omega)]
 ·have:m=if m<0 then -1 - (g:Int) else (g:Int):=by
   rw [<-hgd]
   unfold mag
   split<;>omega
  simp only [decide_eq_true_eq]
  rw [<-this]
 ·rintro ⟨h1,h2⟩
  cases hr:(digs g).reverse with
  | nil=>
   have:=congrArg List.length hr
   simp at this
   rw [this] at h1
   simp at h1
  | cons a t=>
   rw [hr] at h2
   simp only [List.map_cons,Nz,Nd] at h2
   rw [VY] at h2
   exact hh a t hr h2
theorem zn:(qD b).2.1<=b.length:=by
 unfold qD
 split
 ·simp
 ·next c r=>
  split
  ·simp
  ·split
   ·simp
   ·split
    ·simp
    ·split
     ·simp
     ·simp;omega
end Go.Proofs.YtgopigkdcmhbbaaGreatDoor
end
noncomputable section
namespace Go.Proofs.YtgopigkdcmhbbaaGreatDoor
open Go.Xs
open Go Go.Aw
def y7:=yy Tryz.f7
def V7:=PLift.up (aI (@unf (y7 4) (F [u,u,u,u,u,u,v,u]) rfl) (aI (@unf (y7 2) (R [u,v,u] (y7 4)) rfl) (@unf (y7 0) (R [u] (y7 2)) rfl)))
theorem U7:type_of% V7.down:=V7.down
theorem b7:Bt 7 15 (y7 0) [(.cell 4 26)]:=bt Tryz.func7 rfl
end Go.Proofs.YtgopigkdcmhbbaaGreatDoor
end
section

end
