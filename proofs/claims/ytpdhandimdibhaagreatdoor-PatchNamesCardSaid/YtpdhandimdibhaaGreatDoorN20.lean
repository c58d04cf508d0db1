/- A part of the proof of what the last text says: Gk3, Gk4, Gk5, XcE. Conditions: those in each theorem. -/
import Derived.Test.YtpdhandimdibhaaGreatDoorN19
set_option linter.unusedVariables false
set_option linter.unusedSimpArgs false
set_option maxRecDepth 100000
set_option maxHeartbeats 16000000
open Nat renaming reduceSub → qa,reduceAdd → qb,reduceMul → qc,reduceEqDiff → qd,reduceLeDiff → qe,reduceBEq → qf
section
namespace Go.Proofs.YtpdhandimdibhaaGreatDoor
open Go Go.Aw
def I1 (s:Shp) (o:OpP):Prop:=(s.low≤o.n∧o.n≤s.high)∧(s.a≤o.ids.length∧o.ids.length≤s.b)∧o.text.length≤1024
def I2 (s:Shp) (o:OpP):Prop:=(s.name=true↔1≤o.name.length∧o.name.length≤16)∧(s.name=false→o.name= [])∧(s.text=false→o.text= [])
def I3 (s:Shp) (o:OpP):Prop:=(s.on=true↔o.on≠wE)∧(s.to=true↔o.to≠wE)∧(s.span=true↔¬(o.a=0∧o.b=0))
def I4 (s:Shp) (o:OpP):Prop:=(s.on=true→jy o.on)∧(s.to=true→jy o.to)∧(s.span=true→yS o.a o.b)
def I5 (o:OpP):Prop:=(∀x∈o.ids,jy x∧(o.k=16→x≠o.on))∧o.ids.Nodup
def VI (o:OpP):Prop:=(1≤o.k∧o.k≤18)∧I1 (shp o.k o.ids.length) o∧I2 (shp o.k o.ids.length) o∧I3 (shp o.k o.ids.length) o∧I4 (shp o.k o.ids.length) o∧I5 o∧zT o
theorem vi_8 {o:OpP} {b1 b3:Nat} {on to name text span:Bool} {low high a b:Int} {F:List D} {H:AH} {R:D→AH→Prop} (n13:b1≠b3) (hF:Fr 165 [(1,.ptr b1 0),(3,.ptr b3 0),(4,.bool true)] F) (kF:¬I1 (Shp.mk on to name text span low high a b) o→R (.bool false) H) (go:I1 (Shp.mk on to name text span low high a b) o→∀F',Fr 165 [(1,.ptr b1 0),(3,.ptr b3 0)] F'→xcode Tryz.prog x24_s7 F' ((b3,AO.cells [.bool on,.bool to,.bool name,.bool text,.bool span,.int .i64 low,.int .i64 high,.int .i64 a,.int .i64 b])::(b1,AO.cells o.d)::H) (kK Tryz.prog [.tmp 2] H.length R)):xcode Tryz.prog x24_s8 F ((b3,AO.cells [.bool on,.bool to,.bool name,.bool text,.bool span,.int .i64 low,.int .i64 high,.int .i64 a,.int .i64 b])::(b1,AO.cells o.d)::H) (kK Tryz.prog [.tmp 2] H.length R):=by
 have hbig:=qt
 have hod:o.d= [.int .i64 o.k,.int .i64 o.on.o,.int .i64 o.on.s,.int .i64 o.on.i,.int .i64 o.to.o,.int .i64 o.to.s,.int .i64 o.to.i,.slc (qI o.ids),.int .i64 o.n,.str o.name,.str o.text,.int .i64 o.a,.int .i64 o.b]:=rfl
 obtain ⟨z,rfl⟩:∃z:Nat→D,_=z 0:: .ptr b1 0::z 2:: .ptr b3 0:: .bool true::zz z 5 160 []:=hF.lit
 try dsimp only [zz,qb] at*
 clear hF
 all_goals simp+contextual only [↓Wk,hod,qk,qg,qh,n13,jz,jC,Int.reduceToNat,Bool.true_beq,Bool.false_beq,Bool.not_not,↓XP,↓XU,qn,XW1,qa,qb,qc,qd,qe,qf,reduceCtorEq]
 all_goals repeat' (first|(refine yq ?_;simp+contextual only [↓Wk,hod,qk,qg,qh,n13,jz,jC,Int.reduceToNat,Bool.true_beq,Bool.false_beq,Bool.not_not,↓XP,↓XU,qn,XW1,qa,qb,qc,qd,qe,qf,reduceCtorEq])|intro _|with_reducible apply And.intro)
 all_goals (try simp only [←hod])
 all_goals first
  |omega
  |exact kF (fun hh=>by simp only [I1] at hh;omega)
  |exact go ⟨by omega,by omega,by omega⟩ _ ⟨rfl,rfl,rfl,trivial⟩
  |skip
theorem vi_7 {o:OpP} {b1 b3:Nat} {on to name text span:Bool} {low high a b:Int} {F:List D} {H:AH} {R:D→AH→Prop} (n13:b1≠b3) (hF:Fr 165 [(1,.ptr b1 0),(3,.ptr b3 0)] F) (kF:¬I2 (Shp.mk on to name text span low high a b) o→R (.bool false) H) (go:I2 (Shp.mk on to name text span low high a b) o→∀F',Fr 165 [(1,.ptr b1 0),(3,.ptr b3 0)] F'→xcode Tryz.prog x24_s6 F' ((b3,AO.cells [.bool on,.bool to,.bool name,.bool text,.bool span,.int .i64 low,.int .i64 high,.int .i64 a,.int .i64 b])::(b1,AO.cells o.d)::H) (kK Tryz.prog [.tmp 2] H.length R)):xcode Tryz.prog x24_s7 F ((b3,AO.cells [.bool on,.bool to,.bool name,.bool text,.bool span,.int .i64 low,.int .i64 high,.int .i64 a,.int .i64 b])::(b1,AO.cells o.d)::H) (kK Tryz.prog [.tmp 2] H.length R):=by
 have hbig:=qt
 have hod:o.d= [.int .i64 o.k,.int .i64 o.on.o,.int .i64 o.on.s,.int .i64 o.on.i,.int .i64 o.to.o,.int .i64 o.to.s,.int .i64 o.to.i,.slc (qI o.ids),.int .i64 o.n,.str o.name,.str o.text,.int .i64 o.a,.int .i64 o.b]:=rfl
 obtain ⟨z,rfl⟩:∃z:Nat→D,_=z 0:: .ptr b1 0::z 2:: .ptr b3 0::zz z 4 161 []:=hF.lit
 try dsimp only [zz,qb] at*
 clear hF
 all_goals cases name
 all_goals cases text
 all_goals simp+contextual only [↓Wc,hod,qk,qg,qh,n13,jz,jC,Int.reduceToNat,Bool.true_beq,Bool.false_beq,Bool.not_not,↓XP,↓XU,qn,XW1,qa,qb,qc,qd,qe,qf,reduceCtorEq]
 all_goals repeat' (first|(refine ⟨_,fun _ _=>yq ⟨rfl,rfl⟩,?_⟩;simp+contextual only [↓Wc,hod,qk,qg,qh,n13,jz,jC,Int.reduceToNat,Bool.true_beq,Bool.false_beq,Bool.not_not,↓XP,↓XU,qn,XW1,qa,qb,qc,qd,qe,qf,reduceCtorEq])|(refine yq ?_;simp+contextual only [↓Wc,hod,qk,qg,qh,n13,jz,jC,Int.reduceToNat,Bool.true_beq,Bool.false_beq,Bool.not_not,↓XP,↓XU,qn,XW1,qa,qb,qc,qd,qe,qf,reduceCtorEq])|intro _|with_reducible apply And.intro)
 all_goals (try simp only [←hod])
 all_goals first
  |omega
  |exact kF (fun hh=>by simp [I2] at hh;simp_all<;>omega)
  |exact go (by simp [I2];simp_all<;>omega) _ ⟨rfl,rfl,rfl,trivial⟩
  |(have g:=go (by simp [I2];simp_all<;>omega);clear go kF;simp only [hod, *] at g;exact g _ ⟨rfl,rfl,rfl,trivial⟩)
  |skip
theorem vi_6 {o:OpP} {b1 b3:Nat} {on to name text span:Bool} {low high a b:Int} {F:List D} {H:AH} {R:D→AH→Prop} (n13:b1≠b3) (hF:Fr 165 [(1,.ptr b1 0),(3,.ptr b3 0)] F) (kF:¬I3 (Shp.mk on to name text span low high a b) o→R (.bool false) H) (go:I3 (Shp.mk on to name text span low high a b) o→∀F',Fr 165 [(1,.ptr b1 0),(3,.ptr b3 0)] F'→xcode Tryz.prog x24_s5 F' ((b3,AO.cells [.bool on,.bool to,.bool name,.bool text,.bool span,.int .i64 low,.int .i64 high,.int .i64 a,.int .i64 b])::(b1,AO.cells o.d)::H) (kK Tryz.prog [.tmp 2] H.length R)):xcode Tryz.prog x24_s6 F ((b3,AO.cells [.bool on,.bool to,.bool name,.bool text,.bool span,.int .i64 low,.int .i64 high,.int .i64 a,.int .i64 b])::(b1,AO.cells o.d)::H) (kK Tryz.prog [.tmp 2] H.length R):=by
 have hbig:=qt
 have hod:o.d= [.int .i64 o.k,.int .i64 o.on.o,.int .i64 o.on.s,.int .i64 o.on.i,.int .i64 o.to.o,.int .i64 o.to.s,.int .i64 o.to.i,.slc (qI o.ids),.int .i64 o.n,.str o.name,.str o.text,.int .i64 o.a,.int .i64 o.b]:=rfl
 obtain ⟨z,rfl⟩:∃z:Nat→D,_=z 0:: .ptr b1 0::z 2:: .ptr b3 0::zz z 4 161 []:=hF.lit
 try dsimp only [zz,qb] at*
 clear hF
 all_goals cases on
 all_goals cases to
 all_goals cases span
 all_goals simp+contextual only [↓u24_s6,hod,qk,qg,qh,n13,jz,jC,Int.reduceToNat,Bool.true_beq,Bool.false_beq,Bool.not_not,↓XP,↓XU,qn,XW1,qa,qb,qc,qd,qe,qf,reduceCtorEq]
 all_goals repeat' (first|intro _|with_reducible apply And.intro)
 all_goals (try simp only [←hod])
 all_goals first
  |exact kF (fun hh=>by simp [I3] at hh;simp_all)
  |exact go (by simp [I3];simp_all) _ ⟨rfl,rfl,rfl,trivial⟩
  |(have g:=go (by simp [I3];simp_all);clear go kF;simp only [hod, *] at g;exact g _ ⟨rfl,rfl,rfl,trivial⟩)
  |skip
theorem vi_5 {o:OpP} {b1 b3:Nat} {on to name text span:Bool} {low high a b:Int} {F:List D} {H:AH} {R:D→AH→Prop} (n13:b1≠b3) (hF:Fr 165 [(1,.ptr b1 0),(3,.ptr b3 0)] F) (kF:¬I4 (Shp.mk on to name text span low high a b) o→R (.bool false) H) (go:I4 (Shp.mk on to name text span low high a b) o→∀F',Fr 165 [(1,.ptr b1 0),(3,.ptr b3 0)] F'→xcode Tryz.prog x24_s4 F' ((b3,AO.cells [.bool on,.bool to,.bool name,.bool text,.bool span,.int .i64 low,.int .i64 high,.int .i64 a,.int .i64 b])::(b1,AO.cells o.d)::H) (kK Tryz.prog [.tmp 2] H.length R)):xcode Tryz.prog x24_s5 F ((b3,AO.cells [.bool on,.bool to,.bool name,.bool text,.bool span,.int .i64 low,.int .i64 high,.int .i64 a,.int .i64 b])::(b1,AO.cells o.d)::H) (kK Tryz.prog [.tmp 2] H.length R):=by
 have hbig:=qt
 have hod:o.d= [.int .i64 o.k,.int .i64 o.on.o,.int .i64 o.on.s,.int .i64 o.on.i,.int .i64 o.to.o,.int .i64 o.to.s,.int .i64 o.to.i,.slc (qI o.ids),.int .i64 o.n,.str o.name,.str o.text,.int .i64 o.a,.int .i64 o.b]:=rfl
 obtain ⟨z,rfl⟩:∃z:Nat→D,_=z 0:: .ptr b1 0::z 2:: .ptr b3 0::zz z 4 161 []:=hF.lit
 try dsimp only [zz,qb] at*
 clear hF
 all_goals cases on
 all_goals cases to
 all_goals cases span
 all_goals simp+contextual only [↓W7,hod,qk,qg,qh,n13,jz,jC,Int.reduceToNat,Bool.true_beq,Bool.false_beq,Bool.not_not,↓XP,↓XU,qn,XW1,qa,qb,qc,qd,qe,qf,reduceCtorEq]
 all_goals repeat' (first|(refine WJ ?_;simp+contextual only [↓W7,hod,qk,qg,qh,n13,jz,jC,Int.reduceToNat,Bool.true_beq,Bool.false_beq,Bool.not_not,↓XP,↓XU,qn,XW1,qa,qb,qc,qd,qe,qf,reduceCtorEq])|(refine f_cSpan ?_;simp+contextual only [↓W7,hod,qk,qg,qh,n13,jz,jC,Int.reduceToNat,Bool.true_beq,Bool.false_beq,Bool.not_not,↓XP,↓XU,qn,XW1,qa,qb,qc,qd,qe,qf,reduceCtorEq])|intro _|with_reducible apply And.intro)
 all_goals (try simp only [←hod])
 all_goals first
  |exact kF (fun hh=>by simp [I4] at hh;simp_all)
  |exact go (by simp [I4];simp_all) _ ⟨rfl,rfl,rfl,trivial⟩
  |exact go (by simp [I4]) _ ⟨rfl,rfl,rfl,trivial⟩
  |skip
end Go.Proofs.YtpdhandimdibhaaGreatDoor
end
section
namespace Go.Proofs.YtpdhandimdibhaaGreatDoor
open Go Go.Aw
theorem UQ {l:List Id3} {i:Nat}:(qI l).take i=qI (l.take i):=by simp [qI,List.map_take]
theorem vi_4 {o:OpP} {b1 b3:Nat} {on to name text span:Bool} {low high a b:Int} {F:List D} {H:AH} {R:D→AH→Prop} (n13:b1≠b3) (hF:Fr 165 [(1,.ptr b1 0),(3,.ptr b3 0)] F) (kF:¬I5 o→R (.bool false) H) (go:I5 o→∀F',Fr 165 [(1,.ptr b1 0),(3,.ptr b3 0)] F'→xcode Tryz.prog x24_s3 F' ((b3,AO.cells [.bool on,.bool to,.bool name,.bool text,.bool span,.int .i64 low,.int .i64 high,.int .i64 a,.int .i64 b])::(b1,AO.cells o.d)::H) (kK Tryz.prog [.tmp 2] H.length R)):xcode Tryz.prog x24_s4 F ((b3,AO.cells [.bool on,.bool to,.bool name,.bool text,.bool span,.int .i64 low,.int .i64 high,.int .i64 a,.int .i64 b])::(b1,AO.cells o.d)::H) (kK Tryz.prog [.tmp 2] H.length R):=by
 have hbig:=qt
 have hod:o.d= [.int .i64 o.k,.int .i64 o.on.o,.int .i64 o.on.s,.int .i64 o.on.i,.int .i64 o.to.o,.int .i64 o.to.s,.int .i64 o.to.i,.slc (qI o.ids),.int .i64 o.n,.str o.name,.str o.text,.int .i64 o.a,.int .i64 o.b]:=rfl
 obtain ⟨z,rfl⟩:∃z:Nat→D,_=z 0:: .ptr b1 0::z 2:: .ptr b3 0::zz z 4 161 []:=hF.lit
 try dsimp only [zz,qb] at*
 clear hF
 simp+contextual only [↓yO,↓yT,↓yN,↓yM,hod,qk,qg,qh,n13,jz,jC,↓XP,↓XU,qn,XW1,qa,qb,qc,qd,qe,qf,reduceCtorEq]
 simp only [←hod]
 intro hlen
 refine XW.loopK Go.Proofs.YtpdhandimdibhaaGreatDoor.hm (fun F H'=>∃(i:Nat),i≤o.ids.length∧(∀x∈o.ids.take i,jy x∧(o.k=16→x≠o.on))∧(o.ids.take i).Nodup∧Fr 165 [(1,.ptr b1 0),(3,.ptr b3 0),(125,.slc (qI o.ids)),(126,.int .i64 o.ids.length),(127,.int .i64 i)] F∧((b3,AO.cells [.bool on,.bool to,.bool name,.bool text,.bool span,.int .i64 low,.int .i64 high,.int .i64 a,.int .i64 b])::(b1,AO.cells o.d)::H)=H') (fun F H=>match F.getD 127 .any with| .int _ n'=>o.ids.length - n'.toNat|_=>0) ⟨0,by omega,by simp,by simp,⟨rfl,rfl,rfl,rfl,rfl,rfl,trivial⟩,rfl⟩ ?_
 rintro _ _ ⟨i,hi,hv,hn,hF,rfl⟩ K hN hE hR
 obtain ⟨z,rfl⟩:∃z:Nat→D,_=z 0:: .ptr b1 0::z 2:: .ptr b3 0::zz z 4 121 (.slc (qI o.ids):: .int .i64 o.ids.length:: .int .i64 i::zz z 128 37 []):=hF.lit
 try dsimp only [zz,qb] at*
 clear hF
 by_cases hlt:i<o.ids.length
 ·have nx:(jy (o.ids.getD i default)∧(o.k=16→o.ids.getD i default≠o.on))→o.ids.getD i default ∉ o.ids.take i→∀F' H',back (((b3,AO.cells [.bool on,.bool to,.bool name,.bool text,.bool span,.int .i64 low,.int .i64 high,.int .i64 a,.int .i64 b])::(b1,AO.cells o.d)::H):AH).length H'=((b3,AO.cells [.bool on,.bool to,.bool name,.bool text,.bool span,.int .i64 low,.int .i64 high,.int .i64 a,.int .i64 b])::(b1,AO.cells o.d)::H)→Fr 165 [(1,.ptr b1 0),(3,.ptr b3 0),(125,.slc (qI o.ids)),(126,.int .i64 o.ids.length),(127,.int .i64 ((i+1:Nat):Int))] F'→K .normal F' H':=fun h1 h2 F' H' hH hF'=>hN _ _ ⟨i+1,hlt,fun x hx=>by
    rw [List.take_add_one] at hx
    rcases List.mem_append.1 hx with hx|hx
    ·exact hv x hx
    ·simp [hlt] at hx
     have:x=o.ids.getD i default:=by simp [hlt,hx]
     rw [this];exact h1,(gV hlt).2 ⟨hn,h2⟩,hF',hH.symm⟩ (by
   rw [List.getD_eq_getElem?_getD,hF'.2.2.2.2.2.1]
   simp only [List.getD_cons_succ,List.getD_cons_zero,Option.getD_some]
   omega)
  clear hN hE
  have q1:=kL hlt
  have hm:o.ids.getD i default∈o.ids:=by rw [js hlt];exact List.getElem_mem hlt
  generalize hxe:o.ids.getD i default=x at q1 nx hm
  have hxd:x.d= [.int .i64 x.o,.int .i64 x.s,.int .i64 x.i]:=rfl
  have hlt':((i:Int)<(o.ids.length:Int))=True:=eq_true (by omega)
  simp+contextual only [↓yO,↓yT,↓yN,↓yM,hod,qk,qg,qh,n13,jz,jC,q1,hxd,hlt',↓XP,↓XU,qn,XW1,qa,qb,qc,qd,qe,qf,reduceCtorEq]
  intro b6 h6
  obtain ⟨n36,n16,h6⟩:=h6
  have hgx:x∈o.ids.take i→¬I5 o:=fun hxm h5=>((gV hlt).1 (h5.2.sublist (List.take_sublist (i+1) o.ids))).2 (hxe▸hxm)
  refine ⟨_,fun _ _=>WJ (x:=x) ⟨rfl,rfl⟩,?_⟩
  by_cases hok:jy x
  ·simp+contextual only [↓yO,↓yT,↓yN,↓yM,hod,qk,qg,qh,n13,jz,jC,q1,hxd,hlt',UQ,n36,n16,eq_true hok,show (0≤(i:Int))=True from eq_true (by omega),show ((i:Int)≤(o.ids.length:Int))=True from eq_true (by omega),↓XP,↓XU,qn,XW1,qa,qb,qc,qd,qe,qf,reduceCtorEq]
   refine fun _=>⟨fun y hy=>by obtain ⟨y',_,rfl⟩:=List.mem_map.1 hy;rfl,⟨_,fun _ _=>YW (l:=o.ids.take i) (x:=x) ⟨rfl,rfl⟩,?_⟩⟩
   by_cases hmem:x∈o.ids.take i
   ·simp+contextual only [↓yO,↓yT,↓yN,↓yM,hod,qk,qg,qh,n13,jz,jC,q1,hxd,n36,n16,eq_true hmem,↓XP,↓XU,qn,XW1,qa,qb,qc,qd,qe,qf,reduceCtorEq]
    refine hR _ _ ?_
    simp+contextual only [↓yO,↓yT,↓yN,↓yM,hod,qk,qg,qh,n13,jz,jC,↓XP,↓XU,qn,XW1,qa,qb,qc,qd,qe,qf,reduceCtorEq]
    exact kF (hgx hmem)
   ·have bk:∀y:AO,back (((b3,AO.cells [.bool on,.bool to,.bool name,.bool text,.bool span,.int .i64 low,.int .i64 high,.int .i64 a,.int .i64 b])::(b1,AO.cells o.d)::H):AH).length ((b6,y)::((b3,AO.cells [.bool on,.bool to,.bool name,.bool text,.bool span,.int .i64 low,.int .i64 high,.int .i64 a,.int .i64 b])::(b1,AO.cells o.d)::H))=((b3,AO.cells [.bool on,.bool to,.bool name,.bool text,.bool span,.int .i64 low,.int .i64 high,.int .i64 a,.int .i64 b])::(b1,AO.cells o.d)::H):=fun y=>kW rfl
    by_cases hk16:o.k=16
    ·by_cases hxo:x=o.on
     ·simp+contextual only [↓yO,↓yT,↓yN,↓yM,hod,qk,qg,qh,n13,jz,jC,q1,hxd,n36,n16,eq_false hmem,eq_true hk16,eq_true hxo,↓XP,↓XU,qn,XW1,qa,qb,qc,qd,qe,qf,reduceCtorEq]
      refine fun _=>hR _ _ ?_
      simp+contextual only [↓yO,↓yT,↓yN,↓yM,hod,qk,qg,qh,n13,jz,jC,↓XP,↓XU,qn,XW1,qa,qb,qc,qd,qe,qf,reduceCtorEq]
      exact kF (fun h5=>(h5.1 x hm).2 hk16 hxo)
     ·simp+contextual only [↓yO,↓yT,↓yN,↓yM,hod,qk,qg,qh,n13,jz,jC,q1,hxd,n36,n16,eq_false hmem,eq_true hk16,eq_false hxo,qp (show i≤big by omega),↓XP,↓XU,qn,XW1,qa,qb,qc,qd,qe,qf,reduceCtorEq]
      simp only [←hod]
      exact fun _=>nx ⟨hok,fun _=>hxo⟩ hmem _ _ (bk _) ⟨rfl,rfl,rfl,rfl,rfl,rfl,trivial⟩
    ·simp+contextual only [↓yO,↓yT,↓yN,↓yM,hod,qk,qg,qh,n13,jz,jC,q1,hxd,n36,n16,eq_false hmem,eq_false hk16,qp (show i≤big by omega),↓XP,↓XU,qn,XW1,qa,qb,qc,qd,qe,qf,reduceCtorEq]
     simp only [←hod]
     exact fun _=>nx ⟨hok,fun h=>(hk16 h).elim⟩ hmem _ _ (bk _) ⟨rfl,rfl,rfl,rfl,rfl,rfl,trivial⟩
  ·simp+contextual only [↓yO,↓yT,↓yN,↓yM,hod,qk,qg,qh,n13,jz,jC,q1,hxd,hlt',n36,n16,eq_false hok,↓XP,↓XU,qn,XW1,qa,qb,qc,qd,qe,qf,reduceCtorEq]
   refine hR _ _ ?_
   simp+contextual only [↓yO,↓yT,↓yN,↓yM,hod,qk,qg,qh,n13,jz,jC,↓XP,↓XU,qn,XW1,qa,qb,qc,qd,qe,qf,reduceCtorEq]
   exact kF (fun h5=>hok (h5.1 x hm).1)
 ·have hik:i=o.ids.length:=by omega
  subst hik
  clear hN
  rw [List.take_length] at hn hv
  simp+contextual only [↓yO,↓yT,↓yN,↓yM,hod,qk,qg,qh,n13,jz,jC,↓XP,↓XU,qn,XW1,qa,qb,qc,qd,qe,qf,reduceCtorEq]
  refine hE _ _ _ ?_
  simp+contextual only [↓yO,↓yT,↓yN,↓yM,hod,qk,qg,qh,n13,jz,jC,↓XP,↓XU,qn,XW1,qa,qb,qc,qd,qe,qf,reduceCtorEq]
  simp only [←hod]
  exact go ⟨hv,hn⟩ _ ⟨rfl,rfl,rfl,trivial⟩
theorem vi_3 {o:OpP} {b1 b3:Nat} {on to name text span:Bool} {low high a b:Int} {F:List D} {H:AH} {R:D→AH→Prop} (n13:b1≠b3) (hF:Fr 165 [(1,.ptr b1 0),(3,.ptr b3 0)] F) (h:R (.bool (decide (zT o))) H):xcode Tryz.prog x24_s3 F ((b3,AO.cells [.bool on,.bool to,.bool name,.bool text,.bool span,.int .i64 low,.int .i64 high,.int .i64 a,.int .i64 b])::(b1,AO.cells o.d)::H) (kK Tryz.prog [.tmp 2] H.length R):=by
 have hod:o.d= [.int .i64 o.k,.int .i64 o.on.o,.int .i64 o.on.s,.int .i64 o.on.i,.int .i64 o.to.o,.int .i64 o.to.s,.int .i64 o.to.i,.slc (qI o.ids),.int .i64 o.n,.str o.name,.str o.text,.int .i64 o.a,.int .i64 o.b]:=rfl
 have hk:∀c,decide (zT o)=c→R (.bool c) H:=fun b hb=>hb▸h
 obtain ⟨z,rfl⟩:∃z:Nat→D,_=z 0:: .ptr b1 0::z 2:: .ptr b3 0::zz z 4 161 []:=hF.lit
 try dsimp only [zz,qb] at*
 clear hF
 by_cases h17:o.k=17
 ·by_cases he:o.on=o.to
  ·simp+contextual only [↓W6,hod,qg,qh,n13,jz,eq_true h17,eq_true he,↓XP,↓XU,qn,XW1,qa,qb,qc,qd,qe,qf,reduceCtorEq]
   exact fun _=>hk _ (decide_eq_false fun hh=>hh h17 he)
  ·simp+contextual only [↓W6,hod,qg,qh,n13,jz,eq_true h17,eq_false he,↓XP,↓XU,qn,XW1,qa,qb,qc,qd,qe,qf,reduceCtorEq]
   exact fun _=>hk _ (decide_eq_true fun _=>he)
 ·simp+contextual only [↓W6,hod,qg,qh,n13,jz,eq_false h17,↓XP,↓XU,qn,XW1,qa,qb,qc,qd,qe,qf,reduceCtorEq]
  exact fun _=>hk _ (decide_eq_true fun hh=>(h17 hh).elim)
open Classical in
theorem ZR {o:OpP} {H:AH} {R:D→AH→Prop} (h:R (.bool (decide (VI o))) H):ACall Tryz.prog 24 [.agg o.d] H R:=by
 refine b24 fun hf=>?_
 have hbig:=qt
 have hod:o.d= [.int .i64 o.k,.int .i64 o.on.o,.int .i64 o.on.s,.int .i64 o.on.i,.int .i64 o.to.o,.int .i64 o.to.s,.int .i64 o.to.i,.slc (qI o.ids),.int .i64 o.n,.str o.name,.str o.text,.int .i64 o.a,.int .i64 o.b]:=rfl
 have kF:¬VI o→R (.bool false) H:=fun hv=>by rwa [decide_eq_false hv] at h
 have kk:VI o→R (.bool true) H:=fun hv=>by rwa [decide_eq_true hv] at h
 clear h
 simp+contextual only [x24.eq_1,↓W5,qk,hod,↓XP,↓XU,qn,XW1,qa,qb,qc,qd,qe,qf,reduceCtorEq]
 simp only [←hod]
 refine fun b1 h1=>Ue ?_
 unfold VI at kF kk
 generalize shp o.k o.ids.length=s at kF kk
 obtain ⟨on,to,name,text,span,low,high,a,b⟩:=s
 have hsd:Shp.d ⟨on,to,name,text,span,low,high,a,b⟩= [.bool on,.bool to,.bool name,.bool text,.bool span,.int .i64 low,.int .i64 high,.int .i64 a,.int .i64 b]:=rfl
 by_cases hkk:1≤o.k∧o.k≤18
 ·simp+contextual only [x24.eq_1,↓W5,qk,hod,hsd,eq_true hkk,↓XP,↓XU,qn,XW1,qa,qb,qc,qd,qe,qf,reduceCtorEq]
  simp only [←hod]
  intro b3 h3
  refine vi_8 h3.1 ⟨rfl,rfl,rfl,rfl,trivial⟩ (fun c=>kF fun hh=>c hh.2.1) fun i1 F1 hF1=>vi_7 h3.1 hF1 (fun c=>kF fun hh=>c hh.2.2.1) fun i2 F2 hF2=>vi_6 h3.1 hF2 (fun c=>kF fun hh=>c hh.2.2.2.1) fun i3 F3 hF3=>vi_5 h3.1 hF3 (fun c=>kF fun hh=>c hh.2.2.2.2.1) fun i4 F4 hF4=>vi_4 h3.1 hF4 (fun c=>kF fun hh=>c hh.2.2.2.2.2.1) fun i5 F5 hF5=>vi_3 h3.1 hF5 ?_
  by_cases h6:zT o
  ·rw [decide_eq_true h6]
   exact kk ⟨hkk,i1,i2,i3,i4,i5,h6⟩
  ·rw [decide_eq_false h6]
   exact kF fun hh=>h6 hh.2.2.2.2.2.2
 ·simp+contextual only [x24.eq_1,↓W5,qk,hod,↓Wk,hsd,eq_false hkk,↓XP,↓XU,qn,XW1,qa,qb,qc,qd,qe,qf,reduceCtorEq]
  exact fun _ _=>kF fun hh=>hkk hh.1
end Go.Proofs.YtpdhandimdibhaaGreatDoor
end
section
namespace Go.Proofs.YtpdhandimdibhaaGreatDoor
open Go Go.Aw
theorem ok_nz {x:Id3} (h:jy x):x≠wE:=fun e=>by
  subst e
  have:=h.2.2.1
  simp [wE] at this
theorem sp_nz {a b:Int} (h:yS a b):¬(a=0∧b=0):=fun e=>by
  have:=h.1
  omega
theorem vi_vop {o:OpP}:VI o↔uK o:=by
  rcases (show o.k=1∨o.k=2∨o.k=3∨o.k=4∨o.k=5∨o.k=6∨o.k=7∨o.k=8∨o.k=9∨o.k=10∨o.k=11∨o.k=12∨o.k=13∨o.k=14∨o.k=15∨o.k=16∨o.k=17∨o.k=18∨¬(1≤o.k∧o.k≤18) by omega) with h|h|h|h|h|h|h|h|h|h|h|h|h|h|h|h|h|h|h
  all_goals
    obtain ⟨k,on,to,ids,n,name,text,a,b⟩:=o
    dsimp only at h
    first|subst h|skip
  all_goals
    have q1:=@ok_nz on
    have q2:=@ok_nz to
    have q3:=@sp_nz a b
  all_goals first
    | (have e1:¬VI ⟨k,on,to,ids,n,name,text,a,b⟩:=fun hh=>h hh.1
       have e2:¬uK ⟨k,on,to,ids,n,name,text,a,b⟩:=fun hh=>hh.1.1 (by
         show uses k= []
         unfold uses
         repeat rw [if_neg (by omega)])
       exact ⟨fun hh=>(e1 hh).elim,fun hh=>(e2 hh).elim⟩)
    |skip
  all_goals simp [VI,uK,I1,I2,I3,I4,I5,QJ,QH,QG,QI,zT,shp,vP,uses,vE,ww,yr,Jv]
  all_goals refine ⟨fun hh=>?_,fun hh=>?_⟩
  all_goals simp_all
  all_goals omega
open Classical in
theorem f_valid {o:OpP} {H:AH} {R:D→AH→Prop} (h:R (.bool (decide (uK o))) H):ACall Tryz.prog 24 [.agg o.d] H R:=by
  refine ZR ?_
  have:decide (VI o)=decide (uK o):=decide_eq_decide.2 vi_vop
  rw [this]
  exact h
end Go.Proofs.YtpdhandimdibhaaGreatDoor
end
section
namespace Go.Proofs.YtpdhandimdibhaaGreatDoor
open Go.Xs
open Go Go.Aw
def x13_s0:XC:=(.seq (.reg [m 2 62,a (.slice 48 (t 62) .none (.some (i 10)) .none) 63,a (.buildSlice 48 10 #[(0,(.const (.int .u8 129))),(1,(.const (.int .u8 3))),(2,(.const (.int .u8 129))),(3,(.const (.int .u8 1))),(4,(.const (.int .u8 129))),(5,(.const (.int .u8 1))),(6,(.const (.int .u8 129))),(7,(.const (.int .u8 3))),(8,(.const (.int .u8 128))),(9,(.const (.int .u8 129)))]) 64,a (k 30 #[(t 63),(t 64)] #[48,48]) 65,m 65 66,g (.load 26 (t 1)) 67 66 true,g (k 11 #[(t 67)] #[26]) 68 66 true,g (.binOp .eql 33 (t 68) (i 0) 33) 69 66 true,a (.pick (t 66) (t 69) (.const (.bool false))) 70,m 70 71,g (.build 26 #[]) 72 71 true,g (k 11 #[(t 72)] #[26]) 73 71 true,g (.binOp .eql 33 (t 73) (i 5) 33) 74 71 true,b (.pick (t 71) (t 74) (.const (.bool false))) 75,n 75 0]) .ret)
def x13_s1:XC:=(.seq (.seq (.reg [m 3 29,a (.binOp .neq 33 (t 29) (i 0) 33) 30,m 30 31,g (.move (t 5)) 32 31 false,g (.binOp .neq 33 (t 32) (i 0) 33) 33 31 false,a (.pick (t 31) (.const (.bool true)) (t 33)) 34,m 34 35,g (.move (t 7)) 36 35 false,g (.binOp .neq 33 (t 36) (i 1) 33) 37 35 false,a (.pick (t 35) (.const (.bool true)) (t 37)) 38,m 38 39,g (.move (t 2)) 40 39 false,g (.call ⟨(.builtin .len),#[(t 40)],#[48]⟩) 41 39 false,g (.binOp .neq 3 (t 41) (i 36) 3) 42 39 false,a (.pick (t 39) (.const (.bool true)) (t 42)) 43,m 43 44,g (.load 26 (t 1)) 45 44 false,g (.load 26 (t 4)) 46 44 false,g (k 29 #[(t 45),(t 46)] #[26,26]) 47 44 false,g (.unOp .not 4 (t 47)) 48 44 false,a (.pick (t 44) (.const (.bool true)) (t 48)) 49,m 49 50,g (.move (t 8)) 51 50 false,g (.call ⟨(.builtin .len),#[(t 51)],#[30]⟩) 52 50 false,g (.binOp .neq 3 (t 52) (i 1) 3) 53 50 false,a (.pick (t 50) (.const (.bool true)) (t 53)) 54,m 54 55,g (.move (t 8)) 56 55 false,g (.indexAddr 30 (t 56) (i 0)) 57 55 false,g (.load 37 (t 57)) 58 55 false,g (.build 37 #[(0,(i 1)),(1,(i 1))]) 59 55 false,g (.binOp .neq 37 (t 58) (t 59) 37) 60 55 false,a (.pick (t 55) (.const (.bool true)) (t 60)) 61]) (.cond (t 61) (.seq (.reg [a (.assign (.const (.bool false))) 0]) .ret) .skip)) x13_s0)
def x13_s2:XC:=(.seq (.reg [l 26 1 27,b (k 6 #[(t 27)] #[26]) 28,n 28 8]) x13_s1)
def x13_s3:XC:=(.seq (.reg [a (.build 70 #[(0,(.const (.string ⟨#[115,104,111,114,116]⟩))),(1,(i 2))]) 23,a (k 28 #[(t 23)] #[70]) 24,m 24 22,b (.extract (t 22) 0) 25,b (.extract (t 22) 1) 26,a (.alloc 66) 6,w 66 6 25,n 26 7]) x13_s2)
def x13_s4:XC:=(.seq (.reg [m 2 18,a (k 27 #[(t 18)] #[48]) 19,m 19 17,b (.extract (t 17) 0) 20,b (.extract (t 17) 1) 21,a (.alloc 26) 4,w 26 4 20,n 21 5]) x13_s3)
def x13_s5:XC:=(.seq (.reg [l 26 1 13,a (k 26 #[(t 13)] #[26]) 14,m 14 12,b (.extract (t 12) 0) 15,b (.extract (t 12) 1) 16,n 15 2,n 16 3]) x13_s4)
def x13_s6:XC:=(.seq (.reg [a (.build 47 #[(0,(i 1)),(5,(.const (.string ⟨#[110]⟩))),(6,(.const (.string ⟨#[99,97,116]⟩)))]) 9,a (.buildSlice 24 1 #[(0,(t 9))]) 10,b (.build 26 #[(0,(i 1)),(1,(i 1)),(2,(i 3)),(4,(t 10))]) 11,a (.alloc 26) 1,w 26 1 11]) x13_s5)
def V13:=PLift.up (aI (aI (@unf _ _ x13_s0.eq_1) (aI (@unf _ _ x13_s1.eq_1) (@unf _ _ x13_s2.eq_1))) (aI (aI (@unf _ _ x13_s3.eq_1) (@unf _ _ x13_s4.eq_1)) (aI (@unf _ _ x13_s5.eq_1) (@unf _ _ x13_s6.eq_1))))
theorem UW:type_of% V13.down:=V13.down
def Uk:XC:=(.seq (.reg [a (.assign (.const (.bool false))) 0]) x13_s6)
theorem b13:Bt 13 76 Uk [(.tmp 0)]:=bt Tryz.func13 rfl (by kernel_rfl) (by kernel_rfl) (by kernel_rfl)
def x26_s0:XC:=(.cond (t 8) (.seq (.reg [b (.move (t 4)) 9,a (.assign (.const (.slice .none 0 0))) 2,n 9 3]) .ret) .skip)
def x26_s1:XC:=(.seq (.reg [l 26 1 14,b (k 44 #[(t 14)] #[26]) 15,n 15 2,a (.assign (i 0)) 3]) .ret)
def x26_s2:XC:=(.seq (.seq (.reg [f 26 1 5 10,l 9 10 11,e 9 11 12,a (.binOp .gtr 3 (t 12) (i 1200) 3) 13]) (.cond (t 13) (.seq (.reg [a (.assign (.const (.slice .none 0 0))) 2,a (.assign (i 4)) 3]) .ret) .skip)) x26_s1)
def x26_s3:XC:=(.seq (.seq (.reg [l 26 1 5,b (k 11 #[(t 5)] #[26]) 6,n 6 4]) (.seq (.reg [m 4 7,a (.binOp .neq 33 (t 7) (i 0) 33) 8]) x26_s0)) x26_s2)
def V26:=PLift.up (aI (aI (@unf _ _ x26_s0.eq_1) (@unf _ _ x26_s1.eq_1)) (aI (@unf _ _ x26_s2.eq_1) (@unf _ _ x26_s3.eq_1)))
theorem U26:type_of% V26.down:=V26.down
def x26:XC:=(.seq (.reg [a (.box 26 (t 0)) 1,a (.assign (.const (.slice .none 0 0))) 2,a (.assign (i 0)) 3]) x26_s3)
theorem b26:Bt 26 16 x26 [(.tmp 2),(.tmp 3)]:=bt Tryz.func26 rfl (by kernel_rfl) (by kernel_rfl) (by kernel_rfl)
def x27_G0:XC:=(.block 1 (.regT [6] [([f 26 6 3 33],c (.load 23 (t 33)) 34,false)] [m 7 35,a (.indexAddr 22 (t 35) (i 0)) 36,l 3 36 37,m 7 38,a (.indexAddr 22 (t 38) (i 1)) 39,l 3 39 40,a (.build 43 #[(0,(t 37)),(1,(t 40))]) 41,a (.buildSlice 23 1 #[(0,(t 41))]) 42,b (.call ⟨(.builtin .append),#[(t 34),(t 42)],#[23,23]⟩) 43,f 26 6 3 44] [w 23 44 43]))
def x27_s1:XC:=(.reg [m 11 72,b (.binOp .add 3 (t 72) (i 1) 3) 73,n 73 11])
def x27_s2:XC:=(.seq (.block 3 (.regT [6,4] [([f 26 6 4 74],c (.load 24 (t 74)) 75,false),([m 4 76],a (k 49 #[(t 76)] #[93]) 77,false)] [a (.buildSlice 24 1 #[(0,(t 77))]) 78,b (.call ⟨(.builtin .append),#[(t 75),(t 78)],#[24,24]⟩) 79,f 26 6 4 80] [w 24 80 79])) x27_s1)
def x27_L3:XC:=(.seq (.seq (.reg [m 11 58,m 8 59,a (.binOp .lss 3 (t 58) (t 59) 3) 60,m 60 61,g (.move (t 11)) 62 61 true,g (.binOp .leq 3 (t 62) (i 16) 3) 63 61 true,a (.pick (t 61) (t 63) (.const (.bool false))) 64,m 64 65,g (.move (t 4)) 66 65 true,g (.nilCheck (t 66)) 67 65 true,g (.fieldAddr 95 (t 67) 1) 68 65 true,g (.load 4 (t 68)) 69 65 true,g (.unOp .not 4 (t 69)) 70 65 true,a (.pick (t 65) (t 70) (.const (.bool false))) 71]) (.cond (t 71) .skip (.exit 2))) x27_s2)
def x27_s4:XC:=(.cond (t 99) (.seq (.reg [b (.build 26 #[]) 100,w 26 2 100,a (.assign (i 2)) 3]) .ret) .skip)
def x27_s5:XC:=(.cond (t 113) (.seq (.reg [b (.build 26 #[]) 114,w 26 2 114,a (.assign (i 2)) 3]) .ret) .skip)
def x27_s6:XC:=(.seq (.reg [b (.load 26 (t 6)) 115,w 26 2 115,a (.assign (i 0)) 3]) .ret)
def x27_s7:XC:=(.seq (.seq (.reg [m 10 106,a (.binOp .neq 33 (t 106) (i 0) 33) 107,m 107 108,g (.move (t 0)) 109 108 false,g (.move (t 13)) 110 108 false,g (k 51 #[(t 109),(t 110)] #[48,48]) 111 108 false,g (.unOp .not 4 (t 111)) 112 108 false,a (.pick (t 108) (.const (.bool true)) (t 112)) 113]) x27_s5) x27_s6)
def x27_s8:XC:=(.seq (.reg [l 26 6 102,a (k 26 #[(t 102)] #[26]) 103,m 103 101,b (.extract (t 101) 0) 104,b (.extract (t 101) 1) 105,n 104 13,n 105 10]) x27_s7)
def x27_s9:XC:=(.seq (.seq (.reg [m 4 96,a (.nilCheck (t 96)) 97,f 95 97 1 98,l 4 98 99]) x27_s4) x27_s8)
def x27_s10:XC:=(.seq (.reg [m 4 90,m 9 91,m 10 92,a (k 48 #[(t 90),(t 91),(t 92)] #[93,3,33]) 93]) (.seq (.reg [b (.move (t 12)) 94,f 26 6 5 95,w 9 95 94]) x27_s9))
def x27_s11:XC:=(.seq (.reg [m 4 82,a (.nilCheck (t 82)) 83,f 95 83 0 84,l 48 84 85,a (k 50 #[(t 85)] #[48]) 86,m 86 81,b (.extract (t 81) 0) 87,b (.extract (t 81) 1) 88,b (.extract (t 81) 2) 89,n 87 12,n 88 9,n 89 10]) x27_s10)
def x27_s12:XC:=(.seq (.reg [m 4 54,m 9 55,m 10 56,a (k 48 #[(t 54),(t 55),(t 56)] #[93,3,33]) 57]) (.seq (.seq (.reg [a (.assign (i 0)) 11]) (.block 2 (.loop x27_L3))) x27_s11))
def x27_s13:XC:=(.seq (.reg [m 4 46,a (.nilCheck (t 46)) 47,f 95 47 0 48,l 48 48 49,a (k 47 #[(t 49)] #[48]) 50,m 50 45,b (.extract (t 45) 0) 51,b (.extract (t 45) 1) 52,b (.extract (t 45) 2) 53,n 51 8,n 52 9,n 53 10]) x27_s12)
def x27_s14:XC:=(.seq (.seq (.gh (.reg [m 4 29,a (k 45 #[(t 29),(i (-1)),(i 2)] #[93,3,3]) 30,a (k 46 #[(t 30),(i 2)] #[22,3]) 31])) (.block 0 (.rgf (t 31) 32 7 x27_G0))) x27_s13)
def x27_s15:XC:=(.seq (.regT [] [([m 5 19,a (.indexAddr 22 (t 19) (i 0)) 20,l 3 20 21,m 5 22,a (.indexAddr 22 (t 22) (i 1)) 23,l 3 23 24,m 5 25,a (.indexAddr 22 (t 25) (i 2)) 26,l 3 26 27],b (.build 26 #[(0,(t 21)),(1,(t 24)),(2,(t 27))]) 28,false),([],a (.alloc 26) 6,false)] [] [w 26 6 28]) x27_s14)
def x27_s16:XC:=(.seq (.reg [m 4 17,b (k 45 #[(t 17),(i 3),(i 1)] #[93,3,3]) 18,n 18 5]) x27_s15)
def x27_s17:XC:=(.seq (.reg [m 0 14,a (.build 95 #[(0,(t 14))]) 15,b (.box 95 (t 15)) 16,n 16 4]) x27_s16)
def V27:=PLift.up (aI (aI (aI (aI (@unf _ _ x27_G0.eq_1) (@unf _ _ x27_s1.eq_1)) (aI (@unf _ _ x27_s2.eq_1) (@unf _ _ x27_L3.eq_1))) (aI (aI (@unf _ _ x27_s4.eq_1) (@unf _ _ x27_s5.eq_1)) (aI (@unf _ _ x27_s6.eq_1) (aI (@unf _ _ x27_s7.eq_1) (@unf _ _ x27_s8.eq_1))))) (aI (aI (aI (@unf _ _ x27_s9.eq_1) (@unf _ _ x27_s10.eq_1)) (aI (@unf _ _ x27_s11.eq_1) (@unf _ _ x27_s12.eq_1))) (aI (aI (@unf _ _ x27_s13.eq_1) (@unf _ _ x27_s14.eq_1)) (aI (@unf _ _ x27_s15.eq_1) (aI (@unf _ _ x27_s16.eq_1) (@unf _ _ x27_s17.eq_1))))))
theorem gP:type_of% V27.down:=V27.down
def gn:XC:=(.seq (.reg [a (.alloc 26) 2,a (.assign (i 0)) 3]) x27_s17)
theorem b27:Bt 27 116 gn [(.cell 2 26),(.tmp 3)]:=bt Tryz.func27 rfl (by kernel_rfl) (by kernel_rfl) (by kernel_rfl)
def x29_s0:XC:=(.reg [m 5 56,b (.binOp .add 3 (t 56) (i 1) 3) 57,n 57 5])
def x29_s1:XC:=(.seq (.block 1 (.seq (.regD [f 26 2 3 58,l 23 58 59,m 5 60,j 23 59 60 61,l 43 61 62,f 26 3 3 63,l 23 63 64,m 5 65,j 23 64 65 66,l 43 66 67,a (.binOp .neq 43 (t 62) (t 67) 43) 68]) (.cond (t 68) (.seq (.reg [a (.assign (.const (.bool false))) 4]) .ret) .skip))) x29_s0)
def x29_L2:XC:=(.seq (.seq (.reg [m 5 51,f 26 2 3 52,l 23 52 53,e 23 53 54,a (.binOp .lss 3 (t 51) (t 54) 3) 55]) (.cond (t 55) .skip (.exit 0))) x29_s1)
def x29_s3:XC:=(.reg [m 6 74,b (.binOp .add 3 (t 74) (i 1) 3) 75,n 75 6])
def x29_s4:XC:=(.seq (.block 3 (.seq (.regD [f 26 2 4 76,l 24 76 77,m 6 78,j 24 77 78 79,l 47 79 80,f 26 3 4 81,l 24 81 82,m 6 83,j 24 82 83 84,l 47 84 85,a (k 53 #[(t 80),(t 85)] #[47,47]) 86,a (.unOp .not 4 (t 86)) 87]) (.cond (t 87) (.seq (.reg [a (.assign (.const (.bool false))) 4]) .ret) .skip))) x29_s3)
def x29_L5:XC:=(.seq (.seq (.reg [m 6 69,f 26 2 4 70,l 24 70 71,e 24 71 72,a (.binOp .lss 3 (t 69) (t 72) 3) 73]) (.cond (t 73) .skip (.exit 2))) x29_s4)
def x29_s6:XC:=(.seq (.seq (.reg [a (.assign (i 0)) 6]) (.block 2 (.loop x29_L5))) (.seq (.reg [a (.assign (.const (.bool true))) 4]) .ret))
def x29_s7:XC:=(.seq (.seq (.reg [f 26 2 0 7,l 3 7 8,f 26 3 0 9,l 3 9 10,a (.binOp .neq 3 (t 8) (t 10) 3) 11,m 11 12,g (.fieldAddr 26 (t 2) 1) 13 12 false,g (.load 3 (t 13)) 14 12 false,g (.fieldAddr 26 (t 3) 1) 15 12 false,g (.load 3 (t 15)) 16 12 false,g (.binOp .neq 3 (t 14) (t 16) 3) 17 12 false,a (.pick (t 12) (.const (.bool true)) (t 17)) 18,m 18 19,g (.fieldAddr 26 (t 2) 2) 20 19 false,g (.load 3 (t 20)) 21 19 false,g (.fieldAddr 26 (t 3) 2) 22 19 false,g (.load 3 (t 22)) 23 19 false,g (.binOp .neq 3 (t 21) (t 23) 3) 24 19 false,a (.pick (t 19) (.const (.bool true)) (t 24)) 25,m 25 26,g (.fieldAddr 26 (t 2) 5) 27 26 false,g (.load 9 (t 27)) 28 26 false,g (.fieldAddr 26 (t 3) 5) 29 26 false,g (.load 9 (t 29)) 30 26 false,g (.binOp .neq 9 (t 28) (t 30) 9) 31 26 false,a (.pick (t 26) (.const (.bool true)) (t 31)) 32,m 32 33,g (.fieldAddr 26 (t 2) 3) 34 33 false,g (.load 23 (t 34)) 35 33 false,g (.call ⟨(.builtin .len),#[(t 35)],#[23]⟩) 36 33 false,g (.fieldAddr 26 (t 3) 3) 37 33 false,g (.load 23 (t 37)) 38 33 false,g (.call ⟨(.builtin .len),#[(t 38)],#[23]⟩) 39 33 false,g (.binOp .neq 3 (t 36) (t 39) 3) 40 33 false,a (.pick (t 33) (.const (.bool true)) (t 40)) 41,m 41 42,g (.fieldAddr 26 (t 2) 4) 43 42 false,g (.load 24 (t 43)) 44 42 false,g (.call ⟨(.builtin .len),#[(t 44)],#[24]⟩) 45 42 false,g (.fieldAddr 26 (t 3) 4) 46 42 false,g (.load 24 (t 46)) 47 42 false,g (.call ⟨(.builtin .len),#[(t 47)],#[24]⟩) 48 42 false,g (.binOp .neq 3 (t 45) (t 48) 3) 49 42 false,a (.pick (t 42) (.const (.bool true)) (t 49)) 50]) (.cond (t 50) (.seq (.reg [a (.assign (.const (.bool false))) 4]) .ret) .skip)) (.seq (.seq (.reg [a (.assign (i 0)) 5]) (.block 0 (.loop x29_L2))) x29_s6))
def V29:=PLift.up (aI (aI (aI (@unf _ _ x29_s0.eq_1) (@unf _ _ x29_s1.eq_1)) (aI (@unf _ _ x29_L2.eq_1) (@unf _ _ x29_s3.eq_1))) (aI (aI (@unf _ _ x29_s4.eq_1) (@unf _ _ x29_L5.eq_1)) (aI (@unf _ _ x29_s6.eq_1) (@unf _ _ x29_s7.eq_1))))
theorem U29:type_of% V29.down:=V29.down
def x29:XC:=(.seq (.reg [a (.box 26 (t 0)) 2,a (.box 26 (t 1)) 3,a (.assign (.const (.bool false))) 4]) x29_s7)
theorem b29:Bt 29 88 x29 [(.tmp 4)]:=bt Tryz.func29 rfl (by kernel_rfl) (by kernel_rfl) (by kernel_rfl)
def x30_s0:XC:=(.reg [m 5 15,b (.binOp .add 3 (t 15) (i 1) 3) 16,n 16 5])
def x30_s1:XC:=(.seq (.block 1 (.seq (.regD [m 0 17,m 5 18,j 48 17 18 19,l 5 19 20,m 1 21,m 5 22,j 48 21 22 23,l 5 23 24,a (.binOp .neq 5 (t 20) (t 24) 5) 25]) (.cond (t 25) (.seq (.reg [a (.assign (.const (.bool false))) 4]) .ret) .skip))) x30_s0)
def x30_L2:XC:=(.seq (.seq (.reg [m 5 11,m 0 12,e 48 12 13,a (.binOp .lss 3 (t 11) (t 13) 3) 14]) (.cond (t 14) .skip (.exit 0))) x30_s1)
def x30_s3:XC:=(.seq (.seq (.reg [a (.assign (i 0)) 5]) (.block 0 (.loop x30_L2))) (.seq (.reg [a (.assign (.const (.bool true))) 4]) .ret))
def x30_s4:XC:=(.seq (.seq (.reg [m 0 6,e 48 6 7,m 1 8,e 48 8 9,a (.binOp .neq 3 (t 7) (t 9) 3) 10]) (.cond (t 10) (.seq (.reg [a (.assign (.const (.bool false))) 4]) .ret) .skip)) x30_s3)
def V30:=PLift.up (aI (aI (@unf _ _ x30_s0.eq_1) (@unf _ _ x30_s1.eq_1)) (aI (@unf _ _ x30_L2.eq_1) (aI (@unf _ _ x30_s3.eq_1) (@unf _ _ x30_s4.eq_1))))
theorem U30:type_of% V30.down:=V30.down
def x30:XC:=(.seq (.reg [a (.assign (.const (.bool false))) 4]) x30_s4)
theorem b30:Bt 30 26 x30 [(.tmp 4)]:=bt Tryz.func30 rfl (by kernel_rfl) (by kernel_rfl) (by kernel_rfl)
def x28_s0:XC:=(.cond (t 8) (.seq (.reg [b (.build 66 #[]) 9,w 66 2 9,a (.assign (i 1)) 3]) .ret) .skip)
def x28_s1:XC:=(.cond (t 19) (.seq (.reg [b (.build 66 #[]) 20,b (.move (t 5)) 21,w 66 2 20,n 21 3]) .ret) .skip)
def x28_s2:XC:=(.seq (.reg [l 64 4 22,f 70 1 1 23,l 3 23 24,b (.build 66 #[(0,(t 22)),(1,(t 24))]) 25,w 66 2 25,a (.assign (i 0)) 3]) .ret)
def x28_s3:XC:=(.seq (.reg [f 70 1 0 11,l 9 11 12,f 70 1 1 13,l 3 13 14,a (k 52 #[(t 12),(t 14)] #[9,3]) 15,m 15 10,b (.extract (t 10) 0) 16,b (.extract (t 10) 1) 17,a (.alloc 64) 4,w 64 4 16,n 17 5]) (.seq (.seq (.reg [m 5 18,a (.binOp .neq 33 (t 18) (i 0) 33) 19]) x28_s1) x28_s2))
def x28_s4:XC:=(.seq (.seq (.reg [f 70 1 1 6,l 3 6 7,a (.binOp .gtr 3 (t 7) (i 4) 3) 8]) x28_s0) x28_s3)
def V28:=PLift.up (aI (aI (@unf _ _ x28_s0.eq_1) (@unf _ _ x28_s1.eq_1)) (aI (@unf _ _ x28_s2.eq_1) (aI (@unf _ _ x28_s3.eq_1) (@unf _ _ x28_s4.eq_1))))
theorem U28:type_of% V28.down:=V28.down
def x28:XC:=(.seq (.reg [a (.box 70 (t 0)) 1,a (.alloc 66) 2,a (.assign (i 0)) 3]) x28_s4)
theorem b28:Bt 28 26 x28 [(.cell 2 66),(.tmp 3)]:=bt Tryz.func28 rfl (by kernel_rfl) (by kernel_rfl) (by kernel_rfl)
def x6_c0:XC:=(.reg [c (.move (t 3)) 17,f 26 1 0 18,l 3 18 19,f 26 1 1 20,l 3 20 21,m 4 22,a (.build 37 #[(0,(t 19)),(1,(t 21)),(2,(t 22))]) 23,a (.buildSlice 30 1 #[(0,(t 23))]) 24,b (.call ⟨(.builtin .append),#[(t 17),(t 24)],#[30,30]⟩) 25,n 25 3])
def x6_s1:XC:=(.seq (.reg [f 47 5 0 14,l 3 14 15,a (k 16 #[(t 15),(i 1),(i 4)] #[3,3,3]) 16]) (.cond (t 16) x6_c0 .skip))
def x6_s2:XC:=(.seq (.block 1 (.seq (.reg [b (.move (t 9)) 11,j 24 7 9 12,b (.load 47 (t 12)) 13,a (.alloc 47) 5,n 11 4,w 47 5 13]) x6_s1)) (.reg [a (.binOp .add 3 (t 9) (i 1) 3) 26,m 26 9]))
def x6_L3:XC:=(.seq (.reg [a (.binOp .lss 3 (t 9) (t 8) 3) 10]) (.seq (.cond (t 10) .skip (.exit 0)) x6_s2))
def x6_s4:XC:=(.seq (.seq (.reg [f 26 1 4 6,l 24 6 7,e 24 7 8,a (.move (i 0)) 9]) (.block 0 (.loop x6_L3))) (.seq (.reg [b (.move (t 3)) 27,n 27 2]) .ret))
def V6:=PLift.up (aI (aI (@unf _ _ x6_c0.eq_1) (@unf _ _ x6_s1.eq_1)) (aI (@unf _ _ x6_s2.eq_1) (aI (@unf _ _ x6_L3.eq_1) (@unf _ _ x6_s4.eq_1))))
theorem U6:type_of% V6.down:=V6.down
def x6:XC:=(.seq (.reg [a (.box 26 (t 0)) 1,a (.assign (.const (.slice .none 0 0))) 2]) (.seq (.reg [a (.assign (.const (.slice .none 0 0))) 3]) x6_s4))
theorem b6:Bt 6 28 x6 [(.tmp 2)]:=bt Tryz.func6 rfl (by kernel_rfl) (by kernel_rfl) (by kernel_rfl)
def x45_s0:XC:=(.cond (t 37) (.reg [m 0 38,a (.nilCheck (t 38)) 39,f 95 39 1 40,s (.store 4 (t 40) (.const (.bool true)))]) .skip)
def x45_c1:XC:=(.seq (.reg [m 1 45,a (.call ⟨(.builtin .max),#[(t 45),(i 0)],#[3,3]⟩) 46,b (.makeSlice 22 (t 46) (t 46)) 47,n 47 6]) .ret)
def x45_s2:XC:=(.seq (.seq (.reg [m 0 41,a (.nilCheck (t 41)) 42,f 95 42 1 43,l 4 43 44]) (.cond (t 44) x45_c1 .skip)) (.seq (.reg [b (.move (t 7)) 48,n 48 6]) .ret))
def x45_s3:XC:=(.seq (.seq (.reg [m 1 23,a (.binOp .geq 3 (t 23) (i 0) 3) 24,m 24 25,g (.move (t 7)) 26 25 true,g (.call ⟨(.builtin .len),#[(t 26)],#[22]⟩) 27 25 true,g (.move (t 1)) 28 25 true,g (.binOp .neq 3 (t 27) (t 28) 3) 29 25 true,a (.pick (t 25) (t 29) (.const (.bool false))) 30,m 30 31,g (.move (t 7)) 32 31 false,g (.call ⟨(.builtin .len),#[(t 32)],#[22]⟩) 33 31 false,g (.move (t 2)) 34 31 false,g (.binOp .rem 3 (t 33) (t 34) 3) 35 31 false,g (.binOp .neq 3 (t 35) (i 0) 3) 36 31 false,a (.pick (t 31) (.const (.bool true)) (t 36)) 37]) x45_s0) x45_s2)
def x45_s4:XC:=(.seq (.reg [m 0 19,m 8 20,m 9 21,a (k 48 #[(t 19),(t 20),(t 21)] #[93,3,33]) 22]) x45_s3)
def x45_s5:XC:=(.seq (.reg [m 0 11,a (.nilCheck (t 11)) 12,f 95 12 0 13,l 48 13 14,a (k 75 #[(t 14)] #[48]) 15,m 15 10,b (.extract (t 10) 0) 16,b (.extract (t 10) 1) 17,b (.extract (t 10) 2) 18,n 16 7,n 17 8,n 18 9]) x45_s4)
def V45:=PLift.up (aI (aI (@unf _ _ x45_s0.eq_1) (aI (@unf _ _ x45_c1.eq_1) (@unf _ _ x45_s2.eq_1))) (aI (@unf _ _ x45_s3.eq_1) (aI (@unf _ _ x45_s4.eq_1) (@unf _ _ x45_s5.eq_1))))
theorem U45:type_of% V45.down:=V45.down
def x45:XC:=(.seq (.reg [a (.assign (.const (.slice .none 0 0))) 6]) x45_s5)
theorem b45:Bt 45 49 x45 [(.tmp 6)]:=bt Tryz.func45 rfl (by kernel_rfl) (by kernel_rfl) (by kernel_rfl)
def x46_s0:XC:=(.cond (t 6) (.reg [a (.makeInterface 9 (.const (.string ⟨#[99,97,110,110,111,116,32,98,101,32,108,101,115,115,32,116,104,97,110,32,49]⟩))) 7,s (.panic (t 7))]) .skip)
def x46_s1:XC:=(.seq (.seq (.reg [l 3 3 5,a (.binOp .lss 3 (t 5) (i 1) 3) 6]) x46_s0) (.seq (.reg [b (.makeFunc (.func 76) #[] #[(t 2),(t 3)]) 8,n 8 4]) .ret))
def V46:=PLift.up (aI (@unf _ _ x46_s0.eq_1) (@unf _ _ x46_s1.eq_1))
theorem U46:type_of% V46.down:=V46.down
def x46:XC:=(.seq (.reg [a (.box 22 (t 0)) 2,a (.box 3 (t 1)) 3,a (.assign (.const .nilFunc)) 4]) x46_s1)
def x47_s0:XC:=(.cond (t 12) (.seq (.reg [a (.assign (i 0)) 2,a (.assign (i 0)) 3,a (.assign (i 3)) 4]) .ret) .skip)
theorem JK:type_of% (@unf _ _ x47_s0.eq_1):=unf x47_s0.eq_1
def x47_s1:XC:=(.cond (t 32) (.seq (.reg [a (.assign (i 0)) 2,a (.assign (i 0)) 3,a (.assign (i 2)) 4]) .ret) .skip)
def x47_c2:XC:=(.seq (.reg [m 6 33,a (.binOp .gtr 3 (t 33) (i 0) 3) 34,m 34 35,g (.move (t 0)) 36 35 true,g (.indexAddr 48 (t 36) (i 1)) 37 35 true,g (.load 5 (t 37)) 38 35 true,g (.move (t 5)) 39 35 true,g (.binOp .xor 5 (t 38) (t 39) 5) 40 35 true,g (.binOp .eql 5 (t 40) (.const (.int .u8 0)) 5) 41 35 true,b (.pick (t 35) (t 41) (.const (.bool false))) 42,n 42 32]) x47_s1)
def x47_s3:XC:=(.cond (t 27) (.seq (.reg [a (.assign (i 0)) 2,a (.assign (i 0)) 3,a (.assign (i 3)) 4]) .ret) x47_c2)
def x47_c4:XC:=(.seq (.reg [m 0 28,e 48 28 29,m 6 30,b (.binOp .leq 3 (t 29) (t 30) 3) 31,n 31 27]) x47_s3)
def x47_s5:XC:=(.cond (t 24) (.seq (.reg [a (.assign (i 0)) 2,a (.assign (i 0)) 3,a (.assign (i 2)) 4]) .ret) x47_c4)
def x47_s6:XC:=(.reg [m 7 52,a (.binOp .shl 125 (t 52) (.const (.int .u64 8)) 82) 53,m 9 54,m 5 55,a (.binOp .xor 5 (t 54) (t 55) 5) 56,a (.convert 5 125 (t 56)) 57,b (.binOp .or 125 (t 53) (t 57) 125) 58,n 58 7])
def x47_s7:XC:=(.seq (.block 2 (.seq (.reg [j 48 46 48 50,b (.load 5 (t 50)) 51,n 51 9]) x47_s6)) (.reg [a (.binOp .add 3 (t 48) (i 1) 3) 59,m 59 48]))
def x47_L8:XC:=(.seq (.reg [a (.binOp .lss 3 (t 48) (t 47) 3) 49]) (.seq (.cond (t 49) .skip (.exit 1)) x47_s7))
def x47_s9:XC:=(.cond (t 62) (.seq (.reg [a (.assign (i 0)) 2,a (.assign (i 0)) 3,a (.assign (i 2)) 4]) .ret) .skip)
def x47_s10:XC:=(.cond (t 64) (.reg [m 7 65,b (.unOp .xor 125 (t 65)) 66,n 66 7]) .skip)
def x47_s11:XC:=(.seq (.reg [m 7 67,b (.convert 125 3 (t 67)) 68,m 6 69,b (.binOp .add 3 (t 69) (i 1) 3) 70,n 68 2,n 70 3,a (.assign (i 0)) 4]) .ret)
def x47_s12:XC:=(.seq (.seq (.reg [m 7 60,a (.binOp .shr 125 (t 60) (.const (.int .u64 63)) 82) 61,a (.binOp .gtr 125 (t 61) (.const (.int .u64 0)) 125) 62]) x47_s9) (.seq (.seq (.reg [m 5 63,a (.binOp .gtr 5 (t 63) (.const (.int .u8 0)) 5) 64]) x47_s10) x47_s11))
def x47_s13:XC:=(.seq (.seq (.reg [m 0 43,m 6 44,a (.binOp .add 3 (t 44) (i 1) 3) 45,a (.slice 48 (t 43) (.some (i 1)) (.some (t 45)) .none) 46,e 48 46 47,a (.move (i 0)) 48]) (.block 1 (.loop x47_L8))) x47_s12)
def x47_s14:XC:=(.seq (.block 0 (.seq (.reg [m 6 25,b (.binOp .gtr 3 (t 25) (i 8) 3) 26,n 26 24]) x47_s5)) (.seq (.reg [a (.assign (.const (.int .u64 0))) 7]) x47_s13))
def x47_s15:XC:=(.seq (.reg [m 0 17,a (.indexAddr 48 (t 17) (i 0)) 18,l 5 18 19,m 5 20,a (.binOp .xor 5 (t 19) (t 20) 5) 21,a (.convert 5 3 (t 21)) 22,b (.binOp .sub 3 (t 22) (i 128) 3) 23,n 23 6]) x47_s14)
theorem gq:type_of% (@unf _ _ x47_s15.eq_1):=unf x47_s15.eq_1
def x47_s16:XC:=(.seq (.seq (.reg [m 0 13,a (.indexAddr 48 (t 13) (i 0)) 14,l 5 14 15,a (.binOp .lss 5 (t 15) (.const (.int .u8 128)) 5) 16]) (.cond (t 16) (.reg [a (.assign (.const (.int .u8 255))) 5]) .skip)) x47_s15)
theorem gD:type_of% (@unf _ _ x47_s16.eq_1):=unf x47_s16.eq_1
def x47_s17:XC:=(.seq (.seq (.reg [m 0 10,e 48 10 11,a (.binOp .eql 3 (t 11) (i 0) 3) 12]) x47_s0) (.seq (.reg [a (.assign (.const (.int .u8 0))) 5]) x47_s16))
theorem gF:type_of% (@unf _ _ x47_s17.eq_1):=unf x47_s17.eq_1
def V47:=PLift.up (aI (aI (aI (aI (@JK) (@unf _ _ x47_s1.eq_1)) (aI (@unf _ _ x47_c2.eq_1) (@unf _ _ x47_s3.eq_1))) (aI (aI (@unf _ _ x47_c4.eq_1) (@unf _ _ x47_s5.eq_1)) (aI (@unf _ _ x47_s6.eq_1) (aI (@unf _ _ x47_s7.eq_1) (@unf _ _ x47_L8.eq_1))))) (aI (aI (aI (@unf _ _ x47_s9.eq_1) (@unf _ _ x47_s10.eq_1)) (aI (@unf _ _ x47_s11.eq_1) (@unf _ _ x47_s12.eq_1))) (aI (aI (@unf _ _ x47_s13.eq_1) (@unf _ _ x47_s14.eq_1)) (aI (@gq) (aI (@gD) (@gF))))))
theorem U47:type_of% V47.down:=V47.down
def WV:XC:=(.seq (.reg [a (.assign (i 0)) 2,a (.assign (i 0)) 3,a (.assign (i 0)) 4]) x47_s17)
theorem b47:Bt 47 71 WV [(.tmp 2),(.tmp 3),(.tmp 4)]:=bt Tryz.func47 rfl (by kernel_rfl) (by kernel_rfl) (by kernel_rfl)
def x48_s0:XC:=(.reg [m 0 15,m 0 16,a (.nilCheck (t 16)) 17,f 95 17 1 18,l 4 18 19,m 19 20,g (.move (t 2)) 21 20 false,g (.binOp .neq 33 (t 21) (i 0) 33) 22 20 false,b (.pick (t 20) (.const (.bool true)) (t 22)) 23,a (.nilCheck (t 15)) 24,f 95 24 1 25,w 4 25 23])
theorem YJ:type_of% (@unf _ _ x48_s0.eq_1):=unf x48_s0.eq_1
def x48:XC:=(.seq (.reg [m 0 6,m 0 7,a (.nilCheck (t 7)) 8,f 95 8 0 9,l 48 9 10,m 1 11,b (.slice 48 (t 10) (.some (t 11)) .none .none) 12,a (.nilCheck (t 6)) 13,f 95 13 0 14,w 48 14 12]) x48_s0)
theorem b48:Bt 48 26 x48 []:=bt Tryz.func48 rfl (by kernel_rfl) (by kernel_rfl) (by kernel_rfl)
def x49_G0:XC:=(.block 1 (.regT [4] [([f 47 4 3 49],c (.load 30 (t 49)) 50,false)] [m 5 51,a (.indexAddr 22 (t 51) (i 0)) 52,l 3 52 53,m 5 54,a (.indexAddr 22 (t 54) (i 1)) 55,l 3 55 56,m 5 57,a (.indexAddr 22 (t 57) (i 2)) 58,l 3 58 59,a (.build 37 #[(0,(t 53)),(1,(t 56)),(2,(t 59))]) 60,a (.buildSlice 30 1 #[(0,(t 60))]) 61,b (.call ⟨(.builtin .append),#[(t 50),(t 61)],#[30,30]⟩) 62,f 47 4 3 63] [w 30 63 62]))
def x49_c1:XC:=(.seq (.reg [m 0 80,a (.nilCheck (t 80)) 81,f 95 81 1 82,s (.store 4 (t 82) (.const (.bool true)))]) (.seq (.reg [b (.load 47 (t 4)) 83,w 47 2 83]) .ret))
def x49_s2:XC:=(.seq (.regT [4] [([m 6 84,a (.indexAddr 133 (t 84) (i 0)) 85,b (.load 9 (t 85)) 86,m 6 87,a (.indexAddr 133 (t 87) (i 1)) 88,b (.load 9 (t 88)) 89,f 47 4 5 90],w 9 90 86,false)] [] [f 47 4 6 91,w 9 91 89]) (.seq (.reg [b (.load 47 (t 4)) 92,w 47 2 92]) .ret))
def x49_s3:XC:=(.seq (.seq (.reg [m 6 77,e 133 77 78,a (.binOp .neq 3 (t 78) (i 2) 3) 79]) (.cond (t 79) x49_c1 .skip)) x49_s2)
def x49_s4:XC:=(.seq (.reg [m 0 73,m 7 74,m 8 75,a (k 48 #[(t 73),(t 74),(t 75)] #[93,3,33]) 76]) x49_s3)
def x49_s5:XC:=(.seq (.reg [m 0 65,a (.nilCheck (t 65)) 66,f 95 66 0 67,l 48 67 68,a (k 77 #[(t 68)] #[48]) 69,m 69 64,b (.extract (t 64) 0) 70,b (.extract (t 64) 1) 71,b (.extract (t 64) 2) 72,n 70 6,n 71 7,n 72 8]) x49_s4)
def x49_s6:XC:=(.seq (.seq (.gh (.reg [m 0 45,a (k 45 #[(t 45),(i (-1)),(i 3)] #[93,3,3]) 46,a (k 46 #[(t 46),(i 3)] #[22,3]) 47])) (.block 0 (.rgf (t 47) 48 5 x49_G0))) x49_s5)
def x49_s7:XC:=(.seq (.regT [] [([m 3 11,a (.indexAddr 22 (t 11) (i 0)) 12,l 3 12 13,m 3 14,a (.indexAddr 22 (t 14) (i 1)) 15,l 3 15 16,m 3 17,a (.indexAddr 22 (t 17) (i 2)) 18,l 3 18 19,m 3 20,a (.indexAddr 22 (t 20) (i 3)) 21,l 3 21 22,a (.build 37 #[(0,(t 16)),(1,(t 19)),(2,(t 22))]) 23,m 3 24,a (.indexAddr 22 (t 24) (i 4)) 25,l 3 25 26,m 3 27,a (.indexAddr 22 (t 27) (i 5)) 28,l 3 28 29,m 3 30,a (.indexAddr 22 (t 30) (i 6)) 31,l 3 31 32,a (.build 37 #[(0,(t 26)),(1,(t 29)),(2,(t 32))]) 33,m 3 34,a (.indexAddr 22 (t 34) (i 7)) 35,l 3 35 36,m 3 37,a (.indexAddr 22 (t 37) (i 8)) 38,l 3 38 39,m 3 40,a (.indexAddr 22 (t 40) (i 9)) 41,l 3 41 42,a (.build 45 #[(0,(t 39)),(1,(t 42))]) 43],b (.build 47 #[(0,(t 13)),(1,(t 23)),(2,(t 33)),(4,(t 36)),(7,(t 43))]) 44,false),([],a (.alloc 47) 4,false)] [] [w 47 4 44]) x49_s6)
def x49_s8:XC:=(.seq (.reg [m 0 9,b (k 45 #[(t 9),(i 10),(i 1)] #[93,3,3]) 10,n 10 3]) x49_s7)
def V49:=PLift.up (aI (aI (aI (@unf _ _ x49_G0.eq_1) (@unf _ _ x49_c1.eq_1)) (aI (@unf _ _ x49_s2.eq_1) (@unf _ _ x49_s3.eq_1))) (aI (aI (@unf _ _ x49_s4.eq_1) (@unf _ _ x49_s5.eq_1)) (aI (@unf _ _ x49_s6.eq_1) (aI (@unf _ _ x49_s7.eq_1) (@unf _ _ x49_s8.eq_1)))))
theorem U49:type_of% V49.down:=V49.down
def Zx:XC:=(.seq (.reg [a (.alloc 47) 2]) x49_s8)
theorem b49:Bt 49 93 Zx [(.cell 2 47)]:=bt Tryz.func49 rfl (by kernel_rfl) (by kernel_rfl) (by kernel_rfl)
def x50_s0:XC:=(.cond (t 15) (.seq (.reg [b (.move (t 7)) 16,a (.assign (.const (.string ⟨#[]⟩))) 2,a (.assign (i 0)) 3,n 16 4]) .ret) .skip)
def x50_s1:XC:=(.seq (.reg [m 0 17,m 6 18,m 6 19,m 5 20,a (.binOp .add 3 (t 19) (t 20) 3) 21,a (.slice 48 (t 17) (.some (t 18)) (.some (t 21)) .none) 22,b (.convert 48 9 (t 22)) 23,m 6 24,m 5 25,b (.binOp .add 3 (t 24) (t 25) 3) 26,n 23 2,n 26 3,a (.assign (i 0)) 4]) .ret)
def x50_s2:XC:=(.seq (.reg [m 0 9,a (k 78 #[(t 9),(i 1)] #[48,3]) 10,m 10 8,b (.extract (t 8) 0) 11,b (.extract (t 8) 1) 12,b (.extract (t 8) 2) 13,n 11 5,n 12 6,n 13 7]) (.seq (.seq (.reg [m 7 14,a (.binOp .neq 33 (t 14) (i 0) 33) 15]) x50_s0) x50_s1))
def V50:=PLift.up (aI (@unf _ _ x50_s0.eq_1) (aI (@unf _ _ x50_s1.eq_1) (@unf _ _ x50_s2.eq_1)))
theorem U50:type_of% V50.down:=V50.down
def x50:XC:=(.seq (.reg [a (.assign (.const (.string ⟨#[]⟩))) 2,a (.assign (i 0)) 3,a (.assign (i 0)) 4]) x50_s2)
theorem b50:Bt 50 27 x50 [(.tmp 2),(.tmp 3),(.tmp 4)]:=bt Tryz.func50 rfl (by kernel_rfl) (by kernel_rfl) (by kernel_rfl)
def x53_s0:XC:=(.seq (.reg [f 47 2 0 5,l 3 5 6,f 47 3 0 7,l 3 7 8,a (.binOp .eql 3 (t 6) (t 8) 3) 9,m 9 10,g (.fieldAddr 47 (t 2) 1) 11 10 true,g (.load 37 (t 11)) 12 10 true,g (.fieldAddr 47 (t 3) 1) 13 10 true,g (.load 37 (t 13)) 14 10 true,g (.binOp .eql 37 (t 12) (t 14) 37) 15 10 true,a (.pick (t 10) (t 15) (.const (.bool false))) 16,m 16 17,g (.fieldAddr 47 (t 2) 2) 18 17 true,g (.load 37 (t 18)) 19 17 true,g (.fieldAddr 47 (t 3) 2) 20 17 true,g (.load 37 (t 20)) 21 17 true,g (.binOp .eql 37 (t 19) (t 21) 37) 22 17 true,a (.pick (t 17) (t 22) (.const (.bool false))) 23,m 23 24,g (.fieldAddr 47 (t 2) 4) 25 24 true,g (.load 3 (t 25)) 26 24 true,g (.fieldAddr 47 (t 3) 4) 27 24 true,g (.load 3 (t 27)) 28 24 true,g (.binOp .eql 3 (t 26) (t 28) 3) 29 24 true,a (.pick (t 24) (t 29) (.const (.bool false))) 30,m 30 31,g (.fieldAddr 47 (t 2) 5) 32 31 true,g (.load 9 (t 32)) 33 31 true,g (.fieldAddr 47 (t 3) 5) 34 31 true,g (.load 9 (t 34)) 35 31 true,g (.binOp .eql 9 (t 33) (t 35) 9) 36 31 true,a (.pick (t 31) (t 36) (.const (.bool false))) 37,m 37 38,g (.fieldAddr 47 (t 2) 6) 39 38 true,g (.load 9 (t 39)) 40 38 true,g (.fieldAddr 47 (t 3) 6) 41 38 true,g (.load 9 (t 41)) 42 38 true,g (.binOp .eql 9 (t 40) (t 42) 9) 43 38 true,a (.pick (t 38) (t 43) (.const (.bool false))) 44,m 44 45,g (.fieldAddr 47 (t 2) 7) 46 45 true,g (.load 45 (t 46)) 47 45 true,g (.fieldAddr 47 (t 3) 7) 48 45 true,g (.load 45 (t 48)) 49 45 true,g (.binOp .eql 45 (t 47) (t 49) 45) 50 45 true,a (.pick (t 45) (t 50) (.const (.bool false))) 51,m 51 52,g (.fieldAddr 47 (t 2) 3) 53 52 true,g (.load 30 (t 53)) 54 52 true,g (.fieldAddr 47 (t 3) 3) 55 52 true,g (.load 30 (t 55)) 56 52 true,g (k 8 #[(t 54),(t 56)] #[30,30]) 57 52 true,b (.pick (t 52) (t 57) (.const (.bool false))) 58,n 58 4]) .ret)
theorem Zz:type_of% (@unf _ _ x53_s0.eq_1):=unf x53_s0.eq_1
def x53:XC:=(.seq (.reg [a (.box 47 (t 0)) 2,a (.box 47 (t 1)) 3,a (.assign (.const (.bool false))) 4]) x53_s0)
theorem b53:Bt 53 59 x53 [(.tmp 4)]:=bt Tryz.func53 rfl (by kernel_rfl) (by kernel_rfl) (by kernel_rfl)
def x75_s0:XC:=(.cond (t 20) (.seq (.reg [b (.move (t 7)) 21,a (.assign (.const (.slice .none 0 0))) 2,a (.assign (i 0)) 3,n 21 4]) .ret) .skip)
def x75_s1:XC:=(.cond (t 35) (.seq (.reg [b (.move (t 12)) 36,a (.assign (.const (.slice .none 0 0))) 2,a (.assign (i 0)) 3,n 36 4]) .ret) .skip)
def x75_s2:XC:=(.reg [c (.move (t 9)) 37,m 10 38,a (.buildSlice 22 1 #[(0,(t 38))]) 39,b (.call ⟨(.builtin .append),#[(t 37),(t 39)],#[22,22]⟩) 40,b (.move (t 11)) 41,n 40 9,n 41 6])
def x75_s3:XC:=(.seq (.block 1 (.seq (.reg [m 8 29,a (.call ⟨(.value (t 29)),#[],#[]⟩) 30,m 30 28,b (.extract (t 28) 0) 31,b (.extract (t 28) 1) 32,b (.extract (t 28) 2) 33,n 31 10,n 32 11,n 33 12]) (.seq (.seq (.reg [m 12 34,a (.binOp .neq 33 (t 34) (i 0) 33) 35]) x75_s1) x75_s2))) (.reg [a (.binOp .add 3 (t 26) (i 1) 3) 42,m 42 26]))
def x75_L4:XC:=(.seq (.reg [a (.binOp .lss 3 (t 26) (t 25) 3) 27]) (.seq (.cond (t 27) .skip (.exit 0)) x75_s3))
def x75_s5:XC:=(.seq (.reg [b (.move (t 9)) 43,b (.move (t 6)) 44,n 43 2,n 44 3,a (.assign (i 0)) 4]) .ret)
def x75_s6:XC:=(.seq (.reg [a (.assign (.const (.slice .none 0 0))) 9]) (.seq (.seq (.reg [m 5 25,a (.move (i 0)) 26]) (.block 0 (.loop x75_L4))) x75_s5))
def x75_s7:XC:=(.seq (.reg [m 0 22,m 6 23,b (k 94 #[(t 22),(t 23)] #[48,3]) 24,n 24 8]) x75_s6)
def x75_s8:XC:=(.seq (.reg [m 0 14,a (k 78 #[(t 14),(i 1)] #[48,3]) 15,m 15 13,b (.extract (t 13) 0) 16,b (.extract (t 13) 1) 17,b (.extract (t 13) 2) 18,n 16 5,n 17 6,n 18 7]) (.seq (.seq (.reg [m 7 19,a (.binOp .neq 33 (t 19) (i 0) 33) 20]) x75_s0) x75_s7))
def V75:=PLift.up (aI (aI (aI (@unf _ _ x75_s0.eq_1) (@unf _ _ x75_s1.eq_1)) (aI (@unf _ _ x75_s2.eq_1) (@unf _ _ x75_s3.eq_1))) (aI (aI (@unf _ _ x75_L4.eq_1) (@unf _ _ x75_s5.eq_1)) (aI (@unf _ _ x75_s6.eq_1) (aI (@unf _ _ x75_s7.eq_1) (@unf _ _ x75_s8.eq_1)))))
theorem U75:type_of% V75.down:=V75.down
def ZW:XC:=(.seq (.reg [a (.assign (.const (.slice .none 0 0))) 2,a (.assign (i 0)) 3,a (.assign (i 0)) 4]) x75_s8)
theorem b75:Bt 75 45 ZW [(.tmp 2),(.tmp 3),(.tmp 4)]:=bt Tryz.func75 rfl (by kernel_rfl) (by kernel_rfl) (by kernel_rfl)
def x77_s0:XC:=(.cond (t 19) (.seq (.reg [b (.move (t 7)) 20,a (.assign (.const (.slice .none 0 0))) 2,a (.assign (i 0)) 3,n 20 4]) .ret) .skip)
def x77_s1:XC:=(.cond (t 33) (.seq (.reg [b (.move (t 11)) 34,a (.assign (.const (.slice .none 0 0))) 2,a (.assign (i 0)) 3,n 34 4]) .ret) .skip)
def x77_s2:XC:=(.reg [c (.move (t 8)) 35,m 9 36,a (.buildSlice 133 1 #[(0,(t 36))]) 37,b (.call ⟨(.builtin .append),#[(t 35),(t 37)],#[133,133]⟩) 38,m 6 39,m 10 40,b (.binOp .add 3 (t 39) (t 40) 3) 41,n 38 8,n 41 6])
def x77_s3:XC:=(.seq (.block 1 (.seq (.reg [m 0 25,m 6 26,a (.slice 48 (t 25) (.some (t 26)) .none .none) 27,a (k 50 #[(t 27)] #[48]) 28,m 28 24,b (.extract (t 24) 0) 29,b (.extract (t 24) 1) 30,b (.extract (t 24) 2) 31,n 29 9,n 30 10,n 31 11]) (.seq (.seq (.reg [m 11 32,a (.binOp .neq 33 (t 32) (i 0) 33) 33]) x77_s1) x77_s2))) (.reg [a (.binOp .add 3 (t 22) (i 1) 3) 42,m 42 22]))
def x77_L4:XC:=(.seq (.reg [a (.binOp .lss 3 (t 22) (t 21) 3) 23]) (.seq (.cond (t 23) .skip (.exit 0)) x77_s3))
def x77_s5:XC:=(.seq (.reg [b (.move (t 8)) 43,b (.move (t 6)) 44,n 43 2,n 44 3,a (.assign (i 0)) 4]) .ret)
def x77_s6:XC:=(.seq (.reg [a (.assign (.const (.slice .none 0 0))) 8]) (.seq (.seq (.reg [m 5 21,a (.move (i 0)) 22]) (.block 0 (.loop x77_L4))) x77_s5))
def x77_s7:XC:=(.seq (.reg [m 0 13,a (k 78 #[(t 13),(i 1)] #[48,3]) 14,m 14 12,b (.extract (t 12) 0) 15,b (.extract (t 12) 1) 16,b (.extract (t 12) 2) 17,n 15 5,n 16 6,n 17 7]) (.seq (.seq (.reg [m 7 18,a (.binOp .neq 33 (t 18) (i 0) 33) 19]) x77_s0) x77_s6))
def V77:=PLift.up (aI (aI (aI (@unf _ _ x77_s0.eq_1) (@unf _ _ x77_s1.eq_1)) (aI (@unf _ _ x77_s2.eq_1) (@unf _ _ x77_s3.eq_1))) (aI (aI (@unf _ _ x77_L4.eq_1) (@unf _ _ x77_s5.eq_1)) (aI (@unf _ _ x77_s6.eq_1) (@unf _ _ x77_s7.eq_1))))
theorem U77:type_of% V77.down:=V77.down
def x77:XC:=(.seq (.reg [a (.assign (.const (.slice .none 0 0))) 2,a (.assign (i 0)) 3,a (.assign (i 0)) 4]) x77_s7)
theorem b77:Bt 77 45 x77 [(.tmp 2),(.tmp 3),(.tmp 4)]:=bt Tryz.func77 rfl (by kernel_rfl) (by kernel_rfl) (by kernel_rfl)
def x78_c0:XC:=(.seq (.reg [m 4 20,m 0 21,e 48 21 22,m 5 23,a (.binOp .sub 3 (t 22) (t 23) 3) 24,m 1 25,a (.binOp .quo 3 (t 24) (t 25) 3) 26,b (.binOp .gtr 3 (t 20) (t 26) 3) 27,n 27 19]) (.cond (t 19) (.reg [a (.assign (i 3)) 6]) .skip))
def x78_c1:XC:=(.seq (.reg [m 4 17,b (.binOp .lss 3 (t 17) (i 0) 3) 18,n 18 16]) (.cond (t 16) (.reg [a (.assign (i 2)) 6]) x78_c0))
def x78_s2:XC:=(.seq (.reg [b (.move (t 4)) 28,b (.move (t 5)) 29,b (.move (t 6)) 30,n 28 4,n 29 5,n 30 6]) .ret)
def x78_s3:XC:=(.seq (.block 0 (.seq (.reg [m 6 14,b (.binOp .neq 33 (t 14) (i 0) 33) 15,n 15 13]) (.cond (t 13) .skip x78_c1))) x78_s2)
def x78_s4:XC:=(.seq (.reg [m 0 8,a (k 47 #[(t 8)] #[48]) 9,m 9 7,b (.extract (t 7) 0) 10,b (.extract (t 7) 1) 11,b (.extract (t 7) 2) 12,n 10 4,n 11 5,n 12 6]) x78_s3)
def V78:=PLift.up (aI (aI (@unf _ _ x78_c0.eq_1) (@unf _ _ x78_c1.eq_1)) (aI (@unf _ _ x78_s2.eq_1) (aI (@unf _ _ x78_s3.eq_1) (@unf _ _ x78_s4.eq_1))))
theorem U78:type_of% V78.down:=V78.down
def x78:XC:=(.seq (.reg [a (.assign (i 0)) 4,a (.assign (i 0)) 5,a (.assign (i 0)) 6]) x78_s4)
theorem b78:Bt 78 31 x78 [(.tmp 4),(.tmp 5),(.tmp 6)]:=bt Tryz.func78 rfl (by kernel_rfl) (by kernel_rfl) (by kernel_rfl)
def x8_s0:XC:=(.reg [m 5 15,b (.binOp .add 3 (t 15) (i 1) 3) 16,n 16 5])
def x8_s1:XC:=(.seq (.block 1 (.seq (.regD [m 0 17,m 5 18,j 30 17 18 19,l 37 19 20,m 1 21,m 5 22,j 30 21 22 23,l 37 23 24,a (.binOp .neq 37 (t 20) (t 24) 37) 25]) (.cond (t 25) (.seq (.reg [a (.assign (.const (.bool false))) 4]) .ret) .skip))) x8_s0)
def x8_L2:XC:=(.seq (.seq (.reg [m 5 11,m 0 12,e 30 12 13,a (.binOp .lss 3 (t 11) (t 13) 3) 14]) (.cond (t 14) .skip (.exit 0))) x8_s1)
def x8_s3:XC:=(.seq (.seq (.reg [a (.assign (i 0)) 5]) (.block 0 (.loop x8_L2))) (.seq (.reg [a (.assign (.const (.bool true))) 4]) .ret))
def x8_s4:XC:=(.seq (.seq (.reg [m 0 6,e 30 6 7,m 1 8,e 30 8 9,a (.binOp .neq 3 (t 7) (t 9) 3) 10]) (.cond (t 10) (.seq (.reg [a (.assign (.const (.bool false))) 4]) .ret) .skip)) x8_s3)
def V8:=PLift.up (aI (aI (@unf _ _ x8_s0.eq_1) (@unf _ _ x8_s1.eq_1)) (aI (@unf _ _ x8_L2.eq_1) (aI (@unf _ _ x8_s3.eq_1) (@unf _ _ x8_s4.eq_1))))
theorem U8:type_of% V8.down:=V8.down
def x8:XC:=(.seq (.reg [a (.assign (.const (.bool false))) 4]) x8_s4)
theorem b8:Bt 8 26 x8 [(.tmp 4)]:=bt Tryz.func8 rfl (by kernel_rfl) (by kernel_rfl) (by kernel_rfl)
def x94:XC:=(.seq (.reg [a (.box 48 (t 0)) 2,a (.box 3 (t 1)) 3,a (.assign (.const .nilFunc)) 4]) (.seq (.reg [b (.makeFunc (.func 103) #[] #[(t 2),(t 3)]) 5,n 5 4]) .ret))
def x103_s0:XC:=(.seq (.regD [b (.move (t 5)) 19,b (.load 3 (t 1)) 20,b (.move (t 7)) 21,n 19 2,n 20 3,n 21 4]) .ret)
def x103_s1:XC:=(.seq (.reg [l 3 1 16,m 6 17,b (.binOp .add 3 (t 16) (t 17) 3) 18,w 3 1 18]) x103_s0)
def x103_s2:XC:=(.seq (.reg [l 48 0 9,l 3 1 10,a (.slice 48 (t 9) (.some (t 10)) .none .none) 11,a (k 47 #[(t 11)] #[48]) 12,m 12 8,b (.extract (t 8) 0) 13,b (.extract (t 8) 1) 14,b (.extract (t 8) 2) 15,n 13 5,n 14 6,n 15 7]) x103_s1)
def V103:=PLift.up (aI (@unf _ _ x103_s0.eq_1) (aI (@unf _ _ x103_s1.eq_1) (@unf _ _ x103_s2.eq_1)))
theorem U103:type_of% V103.down:=V103.down
def x103:XC:=(.seq (.reg [a (.assign (i 0)) 2,a (.assign (i 0)) 3,a (.assign (i 0)) 4]) x103_s2)
theorem b103:Bt 103 22 x103 [(.tmp 2),(.tmp 3),(.tmp 4)]:=bt Tryz.func103 rfl (by kernel_rfl) (by kernel_rfl) (by kernel_rfl)
def x52_s0:XC:=(.cond (t 13) (.seq (.reg [b (.build 64 #[]) 14,w 64 4 14,a (.assign (i 1)) 5]) .ret) .skip)
def x52_s1:XC:=(.seq (.reg [m 0 15,a (k 80 #[(t 15)] #[9]) 16,m 1 17,b (.call ⟨(.value (t 16)),#[(t 17),(i 0)],#[3,3]⟩) 18,w 64 4 18,a (.assign (i 0)) 5]) .ret)
def x52_s2:XC:=(.seq (.seq (.reg [m 0 6,e 9 6 7,a (.binOp .neq 3 (t 7) (i 32) 3) 8,m 8 9,g (.move (t 1)) 10 9 false,g (k 79 #[(t 10)] #[3]) 11 9 false,g (.unOp .not 4 (t 11)) 12 9 false,a (.pick (t 9) (.const (.bool true)) (t 12)) 13]) x52_s0) x52_s1)
def V52:=PLift.up (aI (@unf _ _ x52_s0.eq_1) (aI (@unf _ _ x52_s1.eq_1) (@unf _ _ x52_s2.eq_1)))
theorem U52:type_of% V52.down:=V52.down
def x52:XC:=(.seq (.reg [a (.alloc 64) 4,a (.assign (i 0)) 5]) x52_s2)
theorem b52:Bt 52 19 x52 [(.cell 4 64),(.tmp 5)]:=bt Tryz.func52 rfl (by kernel_rfl) (by kernel_rfl) (by kernel_rfl)
def x51_s0:XC:=(.seq (.reg [m 0 5,a (.convert 48 9 (t 5)) 6,m 1 7,a (.convert 48 9 (t 7)) 8,b (.binOp .eql 9 (t 6) (t 8) 9) 9,n 9 4]) .ret)
theorem u51_s0:type_of% (@unf _ _ x51_s0.eq_1):=unf x51_s0.eq_1
def x51:XC:=(.seq (.reg [a (.assign (.const (.bool false))) 4]) x51_s0)
theorem b51:Bt 51 10 x51 [(.tmp 4)]:=bt Tryz.func51 rfl (by kernel_rfl) (by kernel_rfl) (by kernel_rfl)
end Go.Proofs.YtpdhandimdibhaaGreatDoor
end
