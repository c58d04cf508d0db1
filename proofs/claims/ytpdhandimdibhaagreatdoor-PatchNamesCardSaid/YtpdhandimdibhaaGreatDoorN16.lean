/- A part of the proof of what the last text says: Rh1, Gp1, Gp2, Gf1, Gf4, Gn1, Gn3, Gn4. Conditions: those in each theorem. -/
import Derived.Test.YtpdhandimdibhaaGreatDoorN15
set_option linter.unusedVariables false
set_option linter.unusedSimpArgs false
set_option maxRecDepth 100000
set_option maxHeartbeats 16000000
open Nat renaming reduceSub → qa,reduceAdd → qb,reduceMul → qc,reduceEqDiff → qd,reduceLeDiff → qe,reduceBEq → qf
section
namespace Go.Proofs.YtpdhandimdibhaaGreatDoor
open Go Go.Aw
def around (n most:Int):Int:=(if n<0 then -(n+1) else n).tmod most
theorem qU {n most:Int} (h:0<most):0≤around n most∧around n most<most:=by
 unfold around
 have h0:0≤(if n<0 then -(n+1) else n):=by split<;>omega
 rw [Int.tmod_eq_emod_of_nonneg h0]
 exact ⟨Int.emod_nonneg _ (by omega),Int.emod_lt_of_pos _ h⟩
theorem qH {n most:Int} {H:AH} {R:D→AH→Prop} (hm:0<most) (h:R (.int .i64 (around n most)) H):ACall Tryz.prog 15 [.int .i64 n,.int .i64 most] H R:=by
 refine b15 fun hf=>?_
 have hn:=hf.1
 rw [f_int,wI] at hn
 simp+contextual only [x15,↓U15,↓XP,↓XU,qn,XW1,qa,qb,qc,qd,qe,qf,reduceCtorEq]
 unfold around at h
 refine ⟨fun h0=>?_,fun h0=>?_⟩
 ·rw [qJ (n:=n+1) (by omega) (by omega),qJ (n:=0 - (n+1)) (by omega) (by omega)]
  rw [if_pos h0] at h
  refine ⟨by omega,?_⟩
  rw [show 0 - (n+1)= -(n+1) by omega]
  exact h
 ·rw [if_neg h0] at h
  exact ⟨by omega,h⟩
def ints (l:List Int):List (List D):=l.map fun n=>[.int .i64 n]
theorem qr {l:List Int}:(ints l).length=l.length:=by simp [ints]
theorem UM {l:List Int} {i:Nat} (h:i<l.length):(ints l).getD i []= [.int .i64 l[i]]:=by simp [ints,h]
def qB (l:List Int) (i:Nat) (most:Int):Int:=match l[i]? with
 |some n=>around n most
 |none=>0
theorem qv {l:List Int} {i:Nat} {most:Int} (h:0<most):0≤qB l i most∧qB l i most<most:=by
 unfold qB
 split
 ·exact qU h
 ·omega
theorem jJ {l:List Int} {i:Nat} {most:Int} {H:AH} {R:D→AH→Prop} (hm:0<most) (h:R (.int .i64 (qB l i most)) H):ACall Tryz.prog 31 [.slc (ints l),.int .i64 i,.int .i64 most] H R:=by
 refine b31 fun hf=>?_
 by_cases hi:i<l.length
 ·simp+contextual only [x31,qr,UM hi,↓U31,↓XP,↓XU,qn,XW1,qa,qb,qc,qd,qe,qf,reduceCtorEq]
  refine ⟨fun hneg=>absurd hneg (by omega),fun _ _=>⟨fun hge=>absurd hge (by omega),fun _=>?_⟩⟩
  refine ⟨by omega,fun _=>qH hm ?_⟩
  simp+contextual only [↓U31,↓XP,↓XU,qn,XW1,qa,qb,qc,qd,qe,qf,reduceCtorEq]
  intro _
  unfold qB at h
  rw [List.getElem?_eq_getElem hi] at h
  exact h
 ·simp+contextual only [x31,qr,↓U31,↓XP,↓XU,qn,XW1,qa,qb,qc,qd,qe,qf,reduceCtorEq]
  refine ⟨fun hneg=>absurd hneg (by omega),fun _ _=>⟨fun hge=>?_,fun hlt=>absurd (by omega) hlt⟩⟩
  unfold qB at h
  rw [List.getElem?_eq_none (by omega)] at h
  exact h
end Go.Proofs.YtpdhandimdibhaaGreatDoor
end
section
namespace Go.Proofs.YtpdhandimdibhaaGreatDoor
open Go Go.Aw
def heads8:List (List UInt8):= [[99,97,116],[97,110,116],[98,101,116],[110,101,115,116],[116,101,110],[116,101,101],[99,104,101],[115,101,116]]
def core4:List (List UInt8):= [[97],[97,110],[98,101],[99]]
def words16:List (List UInt8):=core4++heads8++ [[99,97,116,115],[97,110,116,115],[98,101,116,115,116],[120,121,122]]
def seps3:List (List UInt8):= [[32],[44,32],[32]]
def jG (l:List Int) (i:Nat) (most:Int):Nat:=(qB l i most).toNat
def yd (l:List Int):Nat→List UInt8
 |0=>words16.getD (jG l 0 16) []
 |i+1=>yd l i++(seps3.getD (jG l (2+i) 3) []++words16.getD (jG l (4+i) (6+i)) [])
def gloss (l:List Int):List UInt8:=if qB l 6 19=18 then [] else yd l (jG l 1 3)
def qV (p:Pt) (o:OpP):Pt:={p with ops:=p.ops++ [o]}
def jp (p:Pt):Id3:=⟨p.o,p.s,p.ops.length⟩
def meaning (p:Pt) (on:Id3) (m:List Int):Pt:=
 let p1:=qV p {jI with k:=2,on:=on,n:=qB m 2 5}
 let p2:=qV p1 {jI with k:=7,on:=jp p,text:=gloss (m.drop 3)}
 if qB m 1 9=5 then p2 else qV p2 {jI with k:=9,on:=jp p,n:=1}
structure Gs where
 l:List Pt
 past:List (List Bool)
def jZ (p:Pt) (kind:Int) (ok:Bool):Nat→List Id3:=fun k=>if ok=true∧(p.ops.getD k default).k=kind then [⟨p.o,p.s,k⟩] else []
def jW (p:Pt) (kind:Int) (ok:Bool):List Id3:=upto (jZ p kind ok) p.ops.length
def visible (x:Gs) (seen:List Bool) (p:Pt) (kind:Int):List Id3:=upto (fun i=>jW (x.l.getD i default) kind (seen.getD i false)) x.l.length++jW p kind true
def jX (p:Pt) (ok:Bool):Nat→List OpP:=fun k=>if ok=true∧(p.ops.getD k default).k=16 then [p.ops.getD k default] else []
def kD (p:Pt) (ok:Bool):List OpP:=upto (jX p ok) p.ops.length
def splits (x:Gs) (seen:List Bool) (p:Pt):List OpP:=upto (fun i=>kD (x.l.getD i default) (seen.getD i false)) x.l.length++kD p true
def names3:List (List UInt8):= [[112,114,101,115,115],[104,101,105,114,115],[99,114,111,119,110]]
def quoted (x:Gs) (seen:List Bool) (p:Pt) (sense:Id3) (m:List Int):Pt:=
 let sources:=visible x seen p 3
 if sources.length=0∨qB m 1 4=1 then
  let from_:=600000+400*qB m 2 60
  let p1:=qV p {jI with k:=3,name:=names3.getD (jG m 3 3) [],text:= [97,110,110,97,108,115],a:=from_,b:=from_+300*qB m 4 8}
  qV p1 {jI with k:=4,on:=sense,to:=jp p,n:=1+qB m 5 90,text:=gloss (m.drop 6)}
 else qV p {jI with k:=4,on:=sense,to:=sources.getD (jG m 2 sources.length) default,n:=1+qB m 5 90,text:=gloss (m.drop 6)}
def divided (p:Pt) (entry sense:Id3) (m:List Int):Pt:=
 let p1:=meaning p entry m
 let p2:=meaning p1 entry (m.drop 1)
 qV p2 {jI with k:=16,on:=sense,ids:= [jp p,jp p1],n:=qB m 4 3 - 1}
def lang3:List (List UInt8):= [[102,114],[102,114],[100,101]]
def lab2:List (List UInt8):= [[114,97,114,101],[108,97,119]]
def small (sense other:Id3) (n:Int) (m:List Int):OpP:=
 if n=0∨n=1 then {jI with k:=7,on:=sense,text:=gloss (m.drop 3)}
 else if n=2 then {jI with k:=9,on:=sense,n:=qB m 3 2}
 else if n=3 then {jI with k:=10,on:=sense,n:=1+qB m 3 9}
 else if n=4 then {jI with k:=12,on:=sense,name:=lang3.getD (jG m 3 3) [],text:=gloss (m.drop 4)}
 else if n=5∨n=6 then {jI with k:=14,on:=sense,name:=lab2.getD (jG m 3 2) [],n:=min 1 (qB m 4 4)}
 else if n=7∨n=8 then {jI with k:=15,on:=sense,to:=other,n:=min 1 (qB m 3 5)}
 else if n=9 then {jI with k:=13,on:=sense,to:=other,n:=qB m 3 3}
 else {jI with k:=8,on:=sense,n:=qB m 3 5}
end Go.Proofs.YtpdhandimdibhaaGreatDoor
end
section
namespace Go.Proofs.YtpdhandimdibhaaGreatDoor
open Go Go.Aw
def cls5:List (List UInt8):= [[110],[110],[110],[118],[120]]
def cls2:List (List UInt8):= [[110],[118]]
def yj (p:Pt) (sense other:Id3) (n:Int) (m:List Int):Pt:=qV p (small sense other (n.tmod 11) (m.drop 1))
def step (x:Gs) (seen:List Bool) (p:Pt) (m:List Int):Pt:=
 let entries:=visible x seen p 1
 let senses:=visible x seen p 2
 let n:=qB m 0 24
 if senses.length=0∨n≤5 then
  meaning (qV p {jI with k:=1,name:=cls5.getD (jG m 1 5) [],text:=heads8.getD (jG m 2 8) []}) (jp p) (m.drop 3)
 else
  let entry:=entries.getD (jG m 1 entries.length) default
  let sense:=senses.getD (jG m 1 senses.length) default
  let other:=senses.getD (jG m 2 senses.length) default
  if n=6 then meaning p entry (m.drop 2)
  else if n=7 then meaning p sense (m.drop 2)
  else if n=8∨n=9 then quoted x seen p sense (m.drop 2)
  else if n=10 then divided p entry sense (m.drop 2)
  else if n=11 then (if other=sense then yj p sense other n m else qV p {jI with k:=17,on:=sense,to:=other})
  else if n=12 then
   let l:=splits x seen p
   if l.length=0 then yj p sense other n m else
    let o:=l.getD (jG m 3 l.length) default
    qV p {jI with k:=18,on:=sense,to:=o.on,ids:= [o.ids.getD (jG m 4 o.ids.length) default]}
  else if n=13 then
   if qB m 2 2=0 then qV p {jI with k:=5,on:=entry,text:=heads8.getD (jG m 3 8) []}
   else qV p {jI with k:=6,on:=entry,name:=cls2.getD (jG m 3 2) []}
  else if n=14 then
   let l:=visible x seen p 3
   if l.length=0 then yj p sense other n m else
    let from_:=600000+500*qB m 3 60
    qV p {jI with k:=11,on:=l.getD (jG m 2 l.length) default,a:=from_,b:=from_+99}
  else yj p sense other n m
def kA (x:Gs) (office:Int):Nat→Int
 |0=>-1
 |i+1=>if (x.l.getD i default).o=office then i else kA x office i
def last (x:Gs) (office:Int):Int:=kA x office x.l.length
structure Ns where
 p:Pt
 seen:List Bool
def kP (x:Gs) (seen:List Bool) (k:Nat):List Bool:=(List.range seen.length).map fun i=>if i=k then true else if i<k then seen.getD i false||(x.past.getD k []).getD i false else seen.getD i false
def kU (x:Gs) (o:Int) (m:List Int) (q:Nat) (s:Ns):Ns:=
 let k:=last x q
 if k<0∨((q:Int)≠o∧qB m (1+q) 4=1) then s else
  let pk:=x.l.getD k.toNat default
  let p1:={s.p with day:=max s.p.day pk.day}
  ⟨if (q:Int)=o then {p1 with s:=pk.s+1} else {p1 with needs:=p1.needs++ [⟨q,pk.s⟩]},kP x s.seen k.toNat⟩
def qw (x:Gs) (o:Int) (m:List Int):Nat→Ns
 |0=>⟨{uB with o:=o,s:=1,day:=1},List.replicate x.l.length false⟩
 |q+1=>kU x o m q (qw x o m q)
def j9 (x:Gs) (seen:List Bool) (p:Pt) (m:List Int):Nat→Pt
 |0=>p
 |i+1=>step x seen (j9 x seen p m i) (m.drop (6+13*i))
def next (x:Gs) (offices:Nat) (m:List Int):Gs:=
 let o:=qB m 0 offices
 let s:=qw x o m offices
 let p:=j9 x s.seen {s.p with day:=s.p.day+qB m 4 4} m (1+jG m 5 2)
 ⟨x.l++ [p],x.past++ [s.seen]⟩
def known (l:List Pt) (office seq:Int):Bool:=l.any fun p=>decide (p.o=office)&&decide (p.s=seq)
def ready (l:List Pt) (p:Pt):Bool:=p.needs.all (fun r=>known l r.o r.s)&&(decide (p.s=1)||known l p.o (p.s - 1))
def better (l:List Pt) (out:List Pt) (i:Nat) (best:Int):Bool:=
 let p:=l.getD i default
 ready out p&& !known out p.o p.s&&(decide (best<0)||decide (p.o<(l.getD best.toNat default).o)||(decide (p.o=(l.getD best.toNat default).o)&&decide (p.s<(l.getD best.toNat default).s)))
def jd (l:List Pt) (out:List Pt):Nat→Int
 |0=>-1
 |i+1=>if better l out i (jd l out i)=true then i else jd l out i
def qT (l:List Pt):Nat→List Pt×Bool
 |0=>([],true)
 | n+1=>
  let s:=qT l n
  if s.2=true then (if jd l s.1 l.length<0 then (s.1,false) else (s.1++ [l.getD (jd l s.1 l.length).toNat default],true)) else s
def ordered (l:List Pt):List Pt:=(qT l l.length).1
def qZ (l:List Int) (offices:Nat):Nat→Gs
 |0=>⟨[],[]⟩
 |i+1=>next (qZ l offices i) offices (l.drop (2+32*i))
def patches (l:List Int):List Pt:=ordered (qZ l (2+jG l 1 2) (2+jG l 0 8)).l
end Go.Proofs.YtpdhandimdibhaaGreatDoor
end
section
namespace Go.Proofs.YtpdhandimdibhaaGreatDoor
open Go Go.Aw
def strs (l:List (List UInt8)):List (List D):=l.map fun s=>[.str s]
theorem qK {l:List (List UInt8)}:(strs l).length=l.length:=by simp [strs]
theorem kR {l:List (List UInt8)} {i:Nat} (h:i<l.length):(strs l).getD i []= [.str (l.getD i [])]:=by simp [strs,h]
theorem Kk {l:List (List UInt8)}:∀x∈strs l,x.length=1:=by
 intro x hx
 obtain ⟨t,_,rfl⟩:=List.mem_map.1 hx
 rfl
theorem ug {l:List Int}:∀x∈ints l,x.length=1:=by
 intro x hx
 obtain ⟨t,_,rfl⟩:=List.mem_map.1 hx
 rfl
theorem ku {l:List Int} {n:Nat} {H:AH} {R:D→AH→Prop} (h:R (.slc (ints (l.drop n))) H):ACall Tryz.prog 33 [.slc (ints l),.int .i64 n] H R:=by
 refine b33 fun hf=>?_
 have hbig:=qt
 simp+contextual only [x33,qr,↓u33_s0,↓XP,↓XU,qn,XW1,qa,qb,qc,qd,qe,qf,reduceCtorEq]
 refine fun _=>⟨ug,?_⟩
 rw [List.take_of_length_le (show (ints l).length≤l.length by rw [qr];exact Nat.le_refl _)]
 by_cases hc:(l.length:Int)<(n:Int)
 ·simp only [if_pos hc,Int.toNat_natCast]
  refine ⟨by omega,by omega,?_⟩
  rw [List.drop_of_length_le (show (ints l).length≤l.length by rw [qr];exact Nat.le_refl _)]
  rw [List.drop_of_length_le (show l.length≤n by omega)] at h
  exact h
 ·simp only [if_neg hc,Int.toNat_natCast]
  refine ⟨by omega,by omega,?_⟩
  rw [show List.drop n (ints l)=ints (l.drop n) from List.map_drop.symm]
  exact h
theorem f_core {H:AH} {R:D→AH→Prop} (h:R (.own (strs core4)) H):ACall Tryz.prog 109 [] H R:=by
 refine b109 fun hf=>?_
 simp+contextual only [x109,↓u109_s0,↓XP,↓XU,qn,XW1,qa,qb,qc,qd,qe,qf,reduceCtorEq]
 intros
 exact h
theorem gm {H:AH} {R:D→AH→Prop} (h:R (.own (strs heads8)) H):ACall Tryz.prog 83 [] H R:=by
 refine b83 fun hf=>?_
 simp+contextual only [x83,↓u83_s0,↓XP,↓XU,qn,XW1,qa,qb,qc,qd,qe,qf,reduceCtorEq]
 intros
 exact h
theorem vq {α:Type} {l:List α} {d:α} {p:α→Prop} (h:∀x∈l,p x) (hd:p d) (i:Nat):p (l.getD i d):=by
 rcases Nat.lt_or_ge i l.length with hi|hi
 ·rw [js hi];exact h _ (List.getElem_mem hi)
 ·rw [show l.getD i d=d by simp [List.getD,List.getElem?_eq_none hi]];exact hd
theorem Qt (i:Nat):(words16.getD i []).length≤5:=vq (p:=fun x:List UInt8=>x.length≤5) (by decide) (by decide) i
theorem Wt (i:Nat):(seps3.getD i []).length≤2:=vq (p:=fun x:List UInt8=>x.length≤2) (by decide) (by decide) i
theorem zX {l:List Int}:∀i,(yd l i).length≤5+7*i
 | 0=>by
  have:=Qt (jG l 0 16)
  simp only [yd]
  omega
 | i+1=>by
  have h1:=zX (l:=l) i
  have h2:=Wt (jG l (2+i) 3)
  have h3:=Qt (jG l (4+i) (6+i))
  simp only [yd,List.length_append]
  omega
theorem vR {l:List Int} {H:AH} {R:D→AH→Prop} (h:R (.str (gloss l)) H):ACall Tryz.prog 101 [.slc (ints l)] H R:=by
 refine b101 fun hf=>?_
 have hbig:=qt
 simp+contextual only [x101,↓Qy,↓XP,↓XU,qn,XW1,qa,qb,qc,qd,qe,qf,reduceCtorEq]
 refine f_core ?_
 simp+contextual only [↓Qy,↓XP,↓XU,qn,XW1,qa,qb,qc,qd,qe,qf,reduceCtorEq]
 intros
 refine gm ?_
 simp+contextual only [qK,↓Qy,↓XP,↓XU,qn,XW1,qa,qb,qc,qd,qe,qf,reduceCtorEq]
 have e:strs core4++strs heads8++ [[.str [99,97,116,115]],[.str [97,110,116,115]],[.str [98,101,116,115,116]],[.str [120,121,122]]]=strs words16:=rfl
 have hw:words16.length=16:=rfl
 have e2:(strs core4++strs heads8).length=12:=rfl
 have c8:core4.length=4:=rfl
 have h8:heads8.length=8:=rfl
 rw [e,e2,c8,h8]
 refine fun _=>⟨Kk,Kk,by omega,Kk (l:=core4++heads8),by omega,fun _=>?_⟩
 rw [qK,hw,show ((16:Nat):Int)=(16:Int) from rfl]
 have a0:=qv (l:=l) (i:=0) (most:=16) (by omega)
 have a1:=qv (l:=l) (i:=1) (most:=3) (by omega)
 refine jJ (i:=0) (by omega) ?_
 simp+contextual only [qK,kR (show (qB l 0 16).toNat<words16.length by rw [hw];omega),hw,↓Qy,↓XP,↓XU,qn,XW1,qa,qb,qc,qd,qe,qf,reduceCtorEq]
 refine fun _=>⟨by omega,by omega,fun _=>jJ (i:=1) (by omega) ?_⟩
 simp+contextual only [↓Qy,↓XP,↓XU,qn,XW1,qa,qb,qc,qd,qe,qf,reduceCtorEq]
 obtain ⟨n,hn⟩:∃n:Nat,qB l 1 3=n:=⟨(qB l 1 3).toNat,by omega⟩
 have hn':jG l 1 3=n:=by unfold jG;omega
 rw [hn]
 intros
 refine XW.loopK hm (fun F H'=>∃(i:Nat),i≤n∧Fr 50 [(0,.slc (ints l)),(3,.own (strs words16)),(4,.str (yd l i)),(5,.int .i64 n),(6,.int .i64 i)] F∧H=H') (fun F H=>match F.getD 6 .any with| .int _ n'=>n - n'.toNat|_=>0) ⟨0,by omega,⟨rfl,rfl,rfl,rfl,rfl,rfl,trivial⟩,rfl⟩ ?_
 rintro _ _ ⟨i,hi,hF,rfl⟩ K hN hE hR
 obtain ⟨z,rfl⟩:∃z:Nat→D,_= .slc (ints l)::zz z 1 2 (.own (strs words16):: .str (yd l i):: .int .i64 n:: .int .i64 i::zz z 7 43 []):=hF.lit
 try dsimp only [zz,qb] at*
 clear hF
 by_cases hlt:i<n
 ·have nx:∀F',Fr 50 [(0,.slc (ints l)),(3,.own (strs words16)),(4,.str (yd l (i+1))),(5,.int .i64 n),(6,.int .i64 ((i+1:Nat):Int))] F'→K .normal F' H:=fun F' hF'=>hN _ _ ⟨i+1,hlt,hF',(j7 rfl).symm⟩ (by
   rw [List.getD_eq_getElem?_getD,hF'.2.2.2.2.2.1]
   simp only [List.getD_cons_succ,List.getD_cons_zero,Option.getD_some]
   omega)
  clear hN hE hR
  have w2:IntKind.i64.wrap (2+(i:Int))=((2+i:Nat):Int):=by rw [qJ (by omega) (by omega)];omega
  have w4:IntKind.i64.wrap (4+(i:Int))=((4+i:Nat):Int):=by rw [qJ (by omega) (by omega)];omega
  have w6:IntKind.i64.wrap (6+(i:Int))=6+(i:Int):=qJ (by omega) (by omega)
  have b0:=qv (l:=l) (i:=2+i) (most:=3) (by omega)
  have b1:=qv (l:=l) (i:=4+i) (most:=6+(i:Int)) (by omega)
  simp+contextual only [w2,w4,w6,qp (show i≤big by omega),↓Qy,↓XP,↓XU,qn,XW1,qa,qb,qc,qd,qe,qf,reduceCtorEq]
  have g0:=zX (l:=l) i
  have g2:=Wt (jG l (2+i) 3)
  have g3:=Qt (jG l (4+i) (6+i))
  have hse:([[.str [32]],[.str [44,32]],[.str [32]]]:List (List D))=strs seps3:=rfl
  have hs3:seps3.length=3:=rfl
  have s1:=kR (show (qB l (2+i) 3).toNat<seps3.length by rw [hs3];omega)
  have s2:=kR (show (qB l (4+i) (6+(i:Int))).toNat<words16.length by rw [hw];omega)
  refine ⟨fun _=>⟨_,fun _ _=>jJ (by omega) ⟨rfl,rfl⟩,?_⟩,fun hge=>absurd (by omega) hge⟩
  simp+contextual only [w2,w4,w6,hse,hs3,hw,s1,s2,qK,qp (show i≤big by omega),↓Qy,↓XP,↓XU,qn,XW1,qa,qb,qc,qd,qe,qf,reduceCtorEq]
  refine fun _=>⟨by omega,by omega,fun _=>⟨?_,⟨_,fun _ _=>jJ (by omega) ⟨rfl,rfl⟩,?_⟩⟩⟩
  ·unfold jG at g2
   omega
  simp+contextual only [w2,w4,w6,hse,hs3,hw,s1,s2,qK,qp (show i≤big by omega),↓Qy,↓XP,↓XU,qn,XW1,qa,qb,qc,qd,qe,qf,reduceCtorEq]
  have hu:yd l i++seps3.getD (qB l (2+i) 3).toNat []++words16.getD (qB l (4+i) (6+(i:Int))).toNat []=yd l (i+1):=by
   rw [yd,List.append_assoc]
   rfl
  rw [hu]
  unfold jG at g2 g3
  refine fun _=>⟨by omega,by omega,fun _=>⟨by simp only [List.length_append];omega,nx _ ⟨rfl,rfl,rfl,rfl,rfl,rfl,trivial⟩⟩⟩
 ·have hin:i=n:=by omega
  subst hin
  simp+contextual only [↓Qy,↓XP,↓XU,qn,XW1,qa,qb,qc,qd,qe,qf,reduceCtorEq]
  refine hE _ _ _ ?_
  simp+contextual only [↓Qy,↓XP,↓XU,qn,XW1,qa,qb,qc,qd,qe,qf,reduceCtorEq]
  refine jJ (i:=6) (by omega) ?_
  simp+contextual only [↓Qy,↓XP,↓XU,qn,XW1,qa,qb,qc,qd,qe,qf,reduceCtorEq]
  unfold gloss at h
  rw [hn'] at h
  refine fun _=>⟨fun h18=>?_,fun h18=>?_⟩
  ·rw [if_pos h18] at h
   exact h
  ·rw [if_neg h18] at h
   exact h
end Go.Proofs.YtpdhandimdibhaaGreatDoor
end
section
namespace Go.Proofs.YtpdhandimdibhaaGreatDoor
open Go Go.Aw
def Gs.d (x:Gs):List D:= [.slc (qY x.l),.slc (j5 x.past)]
theorem vW {p:Pt} {kind:Int} {ok:Bool}:∀k,(upto (jZ p kind ok) k).length≤k:=fun k=>by
 have:=vp (f:=jZ p kind ok) (c:=1) (fun k=>by unfold jZ;split<;>simp) k
 omega
theorem J4 {x:Gs} {seen:List Bool} {kind:Int} (ho:∀q∈x.l,q.ops.length≤1000) (i:Nat):(upto (fun i=>jW (x.l.getD i default) kind (seen.getD i false)) i).length≤1000*i:=by
 have:=vp (f:=fun i=>jW (x.l.getD i default) kind (seen.getD i false)) (c:=1000) (fun k=>by
  have h1:=vW (p:=x.l.getD k default) (kind:=kind) (ok:=seen.getD k false) (x.l.getD k default).ops.length
  have h2:(x.l.getD k default).ops.length≤1000:=vq (p:=fun q:Pt=>q.ops.length≤1000) ho (by decide) k
  unfold jW
  omega) i
 omega
theorem uS {x:Gs} {seen:List Bool} {p:Pt} {kind:Int} {H:AH} {R:D→AH→Prop} (hs:x.l.length≤seen.length) (hb:x.l.length≤100) (ho:∀q∈x.l,q.ops.length≤1000) (hp:p.ops.length≤1000) (h:R (.own (qI (visible x seen p kind))) H):ACall Tryz.prog 81 [.agg x.d,.slc (jm seen),.agg p.d,.int .i64 kind] H R:=by
 refine b81 fun hf=>?_
 have hbig:=qt
 have hx:x.d= [.slc (qY x.l),.slc (j5 x.past)]:=rfl
 have hd:=@dE p
 simp+contextual only [x81,hx,hd,qi,qm,↓Zb,↓XP,↓XU,qn,XW1,qa,qb,qc,qd,qe,qf,reduceCtorEq]
 rintro b1 h1 b2 ⟨n12,h2⟩
 simp only [←hx,←hd]
 refine XW.loopK hm (fun F H'=>∃(i:Nat),i≤x.l.length∧Fr 91 [(1,.slc (jm seen)),(3,.int .i64 kind),(4,.ptr b1 0),(6,.ptr b2 0),(9,.own (qI (upto (fun i=>jW (x.l.getD i default) kind (seen.getD i false)) i))),(10,.int .i64 i)] F∧((b2,AO.cells p.d)::(b1,AO.cells x.d)::H)=H') (fun F H=>match F.getD 10 .any with| .int _ n'=>x.l.length - n'.toNat|_=>0) ⟨0,by omega,⟨rfl,rfl,rfl,rfl,rfl,rfl,rfl,trivial⟩,rfl⟩ ?_
 rintro _ _ ⟨i,hi,hF,rfl⟩ K hN hE hR
 obtain ⟨z,rfl⟩:∃z:Nat→D,_=z 0:: .slc (jm seen)::z 2:: .int .i64 kind:: .ptr b1 0::z 5:: .ptr b2 0::zz z 7 2 (.own (qI (upto (fun i=>jW (x.l.getD i default) kind (seen.getD i false)) i)):: .int .i64 i::zz z 11 80 []):=hF.lit
 try dsimp only [zz,qb] at*
 clear hF
 have hv:=J4 (x:=x) (seen:=seen) (kind:=kind) ho i
 by_cases hlt:i<x.l.length
 ·have nx:∀F',Fr 91 [(1,.slc (jm seen)),(3,.int .i64 kind),(4,.ptr b1 0),(6,.ptr b2 0),(9,.own (qI (upto (fun i=>jW (x.l.getD i default) kind (seen.getD i false)) (i+1)))),(10,.int .i64 ((i+1:Nat):Int))] F'→K .normal F' ((b2,AO.cells p.d)::(b1,AO.cells x.d)::H):=fun F' hF'=>hN _ _ ⟨i+1,hlt,hF',(j7 rfl).symm⟩ (by
   rw [List.getD_eq_getElem?_getD,hF'.2.2.2.2.2.2.1]
   simp only [List.getD_cons_succ,List.getD_cons_zero,Option.getD_some]
   omega)
  clear hN hE hR
  have q1:=wK hlt
  have q2:=zr (l:=seen) (i:=i) (by omega)
  have hqo:(x.l.getD i default).ops.length≤1000:=vq (p:=fun q:Pt=>q.ops.length≤1000) ho (by decide) i
  have hun:upto (fun i=>jW (x.l.getD i default) kind (seen.getD i false)) (i+1)=upto (fun i=>jW (x.l.getD i default) kind (seen.getD i false)) i++jW (x.l.getD i default) kind (seen.getD i false):=rfl
  rw [hun] at nx
  generalize upto (fun i=>jW (x.l.getD i default) kind (seen.getD i false)) i=ac at nx hv
  generalize x.l.getD i default=q at q1 hqo nx
  generalize seen.getD i false=ok at q2 nx
  have hq:q.d= [.int .i64 q.o,.int .i64 q.s,.int .i64 q.day,.slc (qM q.needs),.slc (qE q.ops),.str q.sl]:=rfl
  simp+contextual only [hx,hd,qi,qm,qg,qh,n12,qp (show i≤big by omega),q1,q2,hq,↓Zb,↓XP,↓XU,qn,XW1,qa,qb,qc,qd,qe,qf,reduceCtorEq]
  refine fun _=>⟨fun _=>?_,fun hge=>absurd (by omega) hge⟩
  simp only [←hx,←hd]
  refine XW.loopK hm (fun F H'=>∃(k:Nat),k≤q.ops.length∧Fr 91 [(1,.slc (jm seen)),(3,.int .i64 kind),(4,.ptr b1 0),(6,.ptr b2 0),(9,.own (qI (ac++upto (jZ q kind ok) k))),(10,.int .i64 i),(11,.int .i64 k)] F∧((b2,AO.cells p.d)::(b1,AO.cells x.d)::H)=H') (fun F H=>match F.getD 11 .any with| .int _ n'=>q.ops.length - n'.toNat|_=>0) ⟨0,by omega,by rw [upto,List.append_nil];exact ⟨rfl,rfl,rfl,rfl,rfl,rfl,rfl,rfl,trivial⟩,rfl⟩ ?_
  rintro _ _ ⟨k,hk,hF,rfl⟩ K2 hN hE hR
  obtain ⟨z2,rfl⟩:∃z2:Nat→D,_=(let z:=z2; [z 0,.slc (jm seen),z 2,.int .i64 kind,.ptr b1 0,z 5,.ptr b2 0,z 7,z 8,.own (qI (ac++upto (jZ q kind ok) k)),.int .i64 i,.int .i64 k,z 12,z 13,z 14,z 15,z 16,z 17,z 18,z 19,z 20,z 21,z 22,z 23,z 24,z 25,z 26,z 27,z 28,z 29,z 30,z 31,z 32,z 33,z 34,z 35,z 36,z 37,z 38,z 39,z 40,z 41,z 42,z 43,z 44,z 45,z 46,z 47,z 48,z 49,z 50,z 51,z 52,z 53,z 54,z 55,z 56,z 57,z 58,z 59,z 60,z 61,z 62,z 63,z 64,z 65,z 66,z 67,z 68,z 69,z 70,z 71,z 72,z 73,z 74,z 75,z 76,z 77,z 78,z 79,z 80,z 81,z 82,z 83,z 84,z 85,z 86,z 87,z 88,z 89,z 90]):=hF.lit
  clear hF
  have hv3:=vW (p:=q) (kind:=kind) (ok:=ok) k
  by_cases hlk:k<q.ops.length
  ·have nx3:∀F',Fr 91 [(1,.slc (jm seen)),(3,.int .i64 kind),(4,.ptr b1 0),(6,.ptr b2 0),(9,.own (qI (ac++upto (jZ q kind ok) (k+1)))),(10,.int .i64 i),(11,.int .i64 ((k+1:Nat):Int))] F'→K2 .normal F' ((b2,AO.cells p.d)::(b1,AO.cells x.d)::H):=fun F' hF'=>hN _ _ ⟨k+1,hlk,hF',(j7 rfl).symm⟩ (by
    rw [List.getD_eq_getElem?_getD,hF'.2.2.2.2.2.2.2.1]
    simp only [List.getD_cons_succ,List.getD_cons_zero,Option.getD_some]
    omega)
   clear hN hE hR nx
   have q3:=ke hlk
   have hu3:upto (jZ q kind ok) (k+1)=upto (jZ q kind ok) k++jZ q kind ok k:=rfl
   rw [hu3] at nx3
   have ho3:jZ q kind ok k=if ok=true∧(q.ops.getD k default).k=kind then [⟨q.o,q.s,k⟩] else []:=rfl
   rw [ho3] at nx3
   generalize q.ops.getD k default=o at q3 nx3
   have hod:o.d= [.int .i64 o.k,.int .i64 o.on.o,.int .i64 o.on.s,.int .i64 o.on.i,.int .i64 o.to.o,.int .i64 o.to.s,.int .i64 o.to.i,.slc (qI o.ids),.int .i64 o.n,.str o.name,.str o.text,.int .i64 o.a,.int .i64 o.b]:=rfl
   generalize upto (jZ q kind ok) k=ac3 at nx3 hv3
   have hac:(qI (ac++ac3)).length≤200000:=by rw [qk,List.length_append];omega
   rcases ok with _|_
   ·simp+contextual only [hx,hd,qi,qm,qg,qh,n12,qp (show k≤big by omega),q1,q2,hq,q3,jt,↓Zb,↓XP,↓XU,qn,XW1,qa,qb,qc,qd,qe,qf,reduceCtorEq]
    refine fun _=>⟨by omega,fun _=>⟨fun _=>⟨by omega,?_⟩,fun hge=>absurd (by omega) hge⟩⟩
    rw [if_neg (by simp),List.append_nil] at nx3
    exact nx3 _ ⟨rfl,rfl,rfl,rfl,rfl,rfl,rfl,rfl,trivial⟩
   ·simp+contextual only [hx,hd,qi,qm,qg,qh,n12,qp (show k≤big by omega),q1,q2,hq,q3,hod,jt,↓Zb,↓XP,↓XU,qn,XW1,qa,qb,qc,qd,qe,qf,reduceCtorEq]
    refine fun _=>⟨by omega,fun _=>⟨fun _=>⟨by omega,by omega,fun _=>⟨fun hk'=>⟨by omega,fun _=>⟨by omega,fun _=>⟨zV,by omega,?_⟩⟩⟩,fun hk'=>?_⟩⟩,fun hge=>absurd (by omega) hge⟩⟩
    ·rw [if_pos ⟨rfl,hk'⟩,←List.append_assoc,←uL] at nx3
     exact nx3 _ ⟨rfl,rfl,rfl,rfl,rfl,rfl,rfl,rfl,trivial⟩
    ·rw [if_neg (fun hc=>hk' hc.2),List.append_nil] at nx3
     exact nx3 _ ⟨rfl,rfl,rfl,rfl,rfl,rfl,rfl,rfl,trivial⟩
  ·have hik:k=q.ops.length:=by omega
   subst hik
   simp+contextual only [hx,hd,qi,qm,qg,qh,n12,q1,q2,hq,↓Zb,↓XP,↓XU,qn,XW1,qa,qb,qc,qd,qe,qf,reduceCtorEq]
   refine fun _=>⟨by omega,fun _=>hE _ _ _ ?_⟩
   clear hN hE hR
   simp+contextual only [hx,hd,qi,qm,qg,qh,n12,qp (show i≤big by omega),↓Zb,↓XP,↓XU,qn,XW1,qa,qb,qc,qd,qe,qf,reduceCtorEq]
   exact nx _ ⟨rfl,rfl,rfl,rfl,rfl,rfl,rfl,trivial⟩
 ·have hik:i=x.l.length:=by omega
  subst hik
  clear hN
  simp+contextual only [hx,hd,qi,qm,qg,qh,n12,↓Zb,↓XP,↓XU,qn,XW1,qa,qb,qc,qd,qe,qf,reduceCtorEq]
  refine fun _=>hE _ _ _ ?_
  clear hE hR
  have hv0:visible x seen p kind=upto (fun i=>jW (x.l.getD i default) kind (seen.getD i false)) x.l.length++jW p kind true:=rfl
  rw [hv0] at h
  generalize upto (fun i=>jW (x.l.getD i default) kind (seen.getD i false)) x.l.length=ac at h hv ⊢
  simp+contextual only [hx,hd,qi,qm,qg,qh,n12,↓Zb,↓XP,↓XU,qn,XW1,qa,qb,qc,qd,qe,qf,reduceCtorEq]
  simp only [←hx,←hd]
  refine XW.loopK hm (fun F H'=>∃(k:Nat),k≤p.ops.length∧Fr 91 [(3,.int .i64 kind),(6,.ptr b2 0),(9,.own (qI (ac++upto (jZ p kind true) k))),(12,.int .i64 k)] F∧((b2,AO.cells p.d)::(b1,AO.cells x.d)::H)=H') (fun F H=>match F.getD 12 .any with| .int _ n'=>p.ops.length - n'.toNat|_=>0) ⟨0,by omega,by rw [upto,List.append_nil];exact ⟨rfl,rfl,rfl,rfl,rfl,trivial⟩,rfl⟩ ?_
  rintro _ _ ⟨k,hk,hF,rfl⟩ K hN hE hR
  obtain ⟨z,rfl⟩:∃z:Nat→D,_=zz z 0 3 (.int .i64 kind::zz z 4 2 (.ptr b2 0::zz z 7 2 (.own (qI (ac++upto (jZ p kind true) k))::zz z 10 2 (.int .i64 k::zz z 13 78 [])))):=hF.lit
  try dsimp only [zz,qb] at*
  clear hF
  have hv3:=vW (p:=p) (kind:=kind) (ok:=true) k
  by_cases hlk:k<p.ops.length
  ·have nx3:∀F',Fr 91 [(3,.int .i64 kind),(6,.ptr b2 0),(9,.own (qI (ac++upto (jZ p kind true) (k+1)))),(12,.int .i64 ((k+1:Nat):Int))] F'→K .normal F' ((b2,AO.cells p.d)::(b1,AO.cells x.d)::H):=fun F' hF'=>hN _ _ ⟨k+1,hlk,hF',(j7 rfl).symm⟩ (by
    rw [List.getD_eq_getElem?_getD,hF'.2.2.2.2.1]
    simp only [List.getD_cons_succ,List.getD_cons_zero,Option.getD_some]
    omega)
   clear hN hE hR
   have q3:=ke hlk
   have hu3:upto (jZ p kind true) (k+1)=upto (jZ p kind true) k++jZ p kind true k:=rfl
   rw [hu3] at nx3
   have ho3:jZ p kind true k=if true=true∧(p.ops.getD k default).k=kind then [⟨p.o,p.s,k⟩] else []:=rfl
   rw [ho3] at nx3
   generalize p.ops.getD k default=o at q3 nx3
   have hod:o.d= [.int .i64 o.k,.int .i64 o.on.o,.int .i64 o.on.s,.int .i64 o.on.i,.int .i64 o.to.o,.int .i64 o.to.s,.int .i64 o.to.i,.slc (qI o.ids),.int .i64 o.n,.str o.name,.str o.text,.int .i64 o.a,.int .i64 o.b]:=rfl
   generalize upto (jZ p kind true) k=ac3 at nx3 hv3
   have hac:(qI (ac++ac3)).length≤200000:=by rw [qk,List.length_append];omega
   simp+contextual only [hx,hd,qi,qm,qg,qh,n12,qp (show k≤big by omega),q3,hod,↓Zb,↓XP,↓XU,qn,XW1,qa,qb,qc,qd,qe,qf,reduceCtorEq]
   refine fun _=>⟨fun _ _=>⟨fun hk' _ _=>⟨zV,by omega,?_⟩,fun hk'=>?_⟩,fun hge=>absurd (by omega) hge⟩
   ·rw [if_pos ⟨rfl,hk'⟩,←List.append_assoc,←uL] at nx3
    exact nx3 _ ⟨rfl,rfl,rfl,rfl,rfl,trivial⟩
   ·rw [if_neg (fun hc=>hk' hc.2),List.append_nil] at nx3
    exact nx3 _ ⟨rfl,rfl,rfl,rfl,rfl,trivial⟩
  ·have hik:k=p.ops.length:=by omega
   subst hik
   simp+contextual only [hx,hd,qi,qm,qg,qh,n12,↓Zb,↓XP,↓XU,qn,XW1,qa,qb,qc,qd,qe,qf,reduceCtorEq]
   refine fun _=>hE _ _ _ ?_
   clear hN hE hR
   simp+contextual only [hx,hd,qi,qm,qg,qh,n12,↓Zb,↓XP,↓XU,qn,XW1,qa,qb,qc,qd,qe,qf,reduceCtorEq]
   exact h
end Go.Proofs.YtpdhandimdibhaaGreatDoor
end
section
namespace Go.Proofs.YtpdhandimdibhaaGreatDoor
open Go Go.Aw
theorem f_last {x:Gs} {q:Int} {H:AH} {R:D→AH→Prop} (hb:x.l.length≤100) (h:R (.int .i64 (last x q)) H):ACall Tryz.prog 54 [.agg x.d,.int .i64 q] H R:=by
 refine b54 fun hf=>?_
 have hbig:=qt
 have hx:x.d= [.slc (qY x.l),.slc (j5 x.past)]:=rfl
 have w1:IntKind.i64.wrap ((x.l.length:Int) - 1)=(x.l.length:Int) - 1:=qJ (by omega) (by omega)
 simp+contextual only [x54,hx,qm,w1,↓U54,↓XP,↓XU,qn,XW1,qa,qb,qc,qd,qe,qf,reduceCtorEq]
 rintro b1 h1
 simp only [←hx]
 refine fun _=>XW.loopK hm (fun F H'=>∃(j:Nat),j≤x.l.length∧last x q=kA x q j∧Fr 23 [(1,.int .i64 q),(2,.ptr b1 0),(5,.int .i64 ((j:Int) - 1))] F∧((b1,AO.cells x.d)::H)=H') (fun F H=>match F.getD 5 .any with| .int _ n'=>(n'+1).toNat|_=>0) ⟨x.l.length,by omega,rfl,⟨rfl,rfl,rfl,rfl,trivial⟩,rfl⟩ ?_
 rintro _ _ ⟨j,hj,hl,hF,rfl⟩ K hN hE hR
 obtain ⟨z,rfl⟩:∃z:Nat→D,_=z 0:: .int .i64 q:: .ptr b1 0::zz z 3 2 (.int .i64 ((j:Int) - 1)::zz z 6 17 []):=hF.lit
 try dsimp only [zz,qb] at*
 clear hF
 rcases j with _|j
 ·clear hN hR
  have e0:((0:Nat):Int) - 1= -1:=by omega
  have e1:(0≤(-1:Int))=False:=by simp
  simp+contextual only [hx,qm,qg,qh,e0,e1,↓U54,↓XP,↓XU,qn,XW1,qa,qb,qc,qd,qe,qf,reduceCtorEq]
  refine hE _ _ _ ?_
  rw [hl] at h
  simp+contextual only [hx,qm,qg,qh,↓U54,↓XP,↓XU,qn,XW1,qa,qb,qc,qd,qe,qf,reduceCtorEq]
  exact h
 ·have e0:((j+1:Nat):Int) - 1=(j:Int):=by omega
  have nx:(x.l.getD j default).o≠q→∀F',Fr 23 [(1,.int .i64 q),(2,.ptr b1 0),(5,.int .i64 ((j:Int) - 1))] F'→K .normal F' ((b1,AO.cells x.d)::H):=fun hne F' hF'=>hN _ _ ⟨j,by omega,by rw [hl];simp only [kA,if_neg hne],hF',(j7 rfl).symm⟩ (by
   rw [List.getD_eq_getElem?_getD,hF'.2.2.2.1]
   simp only [List.getD_cons_succ,List.getD_cons_zero,Option.getD_some]
   omega)
  rw [e0]
  clear hN hE
  have q1:=wK (l:=x.l) (i:=j) (by omega)
  have hl2:(x.l.getD j default).o=q→last x q=(j:Int):=fun he=>by rw [hl];simp only [kA,if_pos he]
  generalize x.l.getD j default=e at q1 nx hl2
  have hq:e.d= [.int .i64 e.o,.int .i64 e.s,.int .i64 e.day,.slc (qM e.needs),.slc (qE e.ops),.str e.sl]:=rfl
  have w2:IntKind.i64.wrap ((j:Int) - 1)=(j:Int) - 1:=qJ (by omega) (by omega)
  simp+contextual only [hx,qm,qg,qh,q1,hq,w2,↓U54,↓XP,↓XU,qn,XW1,qa,qb,qc,qd,qe,qf,reduceCtorEq]
  refine fun _=>⟨by omega,fun _=>⟨fun he=>hR _ _ ?_,fun hne=>?_⟩⟩
  ·rw [hl2 he] at h
   simp+contextual only [hx,qm,qg,qh,↓U54,↓XP,↓XU,qn,XW1,qa,qb,qc,qd,qe,qf,reduceCtorEq]
   exact h
  ·simp only [←hx]
   exact nx hne _ ⟨rfl,rfl,rfl,rfl,trivial⟩
def vj (l:List Pt) (o s:Int) (i:Nat):Bool:=(l.take i).any fun p=>decide (p.o=o)&&decide (p.s=s)
theorem Kf {l:List Pt} {o s:Int} {i:Nat} (h:i<l.length):vj l o s (i+1)=(vj l o s i||(decide ((l.getD i default).o=o)&&decide ((l.getD i default).s=s))):=by
 unfold vj
 rw [List.take_add_one,List.any_append]
 simp [h]
theorem JE {l:List Pt} {o s:Int} {H:AH} {R:D→AH→Prop} (h:R (.bool (known l o s)) H):ACall Tryz.prog 57 [.slc (qY l),.int .i64 o,.int .i64 s] H R:=by
 refine b57 fun hf=>?_
 have hbig:=qt
 have hlen:l.length≤big:=by have:=hf.1;simpa only [fact,qm] using this
 simp+contextual only [x57,↓U57,↓XP,↓XU,qn,XW1,qa,qb,qc,qd,qe,qf,reduceCtorEq]
 refine XW.loopK hm (fun F H'=>∃(i:Nat),i≤l.length∧vj l o s i=false∧Fr 30 [(0,.slc (qY l)),(1,.int .i64 o),(2,.int .i64 s),(7,.int .i64 i)] F∧H=H') (fun F H=>match F.getD 7 .any with| .int _ n'=>l.length - n'.toNat|_=>0) ⟨0,by omega,rfl,⟨rfl,rfl,rfl,rfl,rfl,trivial⟩,rfl⟩ ?_
 rintro _ _ ⟨i,hi,hk,hF,rfl⟩ K hN hE hR
 obtain ⟨z,rfl⟩:∃z:Nat→D,_= .slc (qY l):: .int .i64 o:: .int .i64 s::zz z 3 4 (.int .i64 i::zz z 8 22 []):=hF.lit
 try dsimp only [zz,qb] at*
 clear hF
 by_cases hlt:i<l.length
 ·have hk1:=Kf (o:=o) (s:=s) hlt
  rw [hk,Bool.false_or] at hk1
  have nx:vj l o s (i+1)=false→∀F',Fr 30 [(0,.slc (qY l)),(1,.int .i64 o),(2,.int .i64 s),(7,.int .i64 ((i+1:Nat):Int))] F'→K .normal F' H:=fun hk F' hF'=>hN _ _ ⟨i+1,hlt,hk,hF',(j7 rfl).symm⟩ (by
   rw [List.getD_eq_getElem?_getD,hF'.2.2.2.2.1]
   simp only [List.getD_cons_succ,List.getD_cons_zero,Option.getD_some]
   omega)
  have hkt:vj l o s (i+1)=true→known l o s=true:=fun h=>by
   unfold vj at h
   unfold known
   rw [List.any_eq_true] at h ⊢
   obtain ⟨x,h1,h2⟩:=h
   exact ⟨x,List.mem_of_mem_take h1,h2⟩
  rw [hk1] at nx hkt
  clear hN hE
  have q1:=wK hlt
  generalize l.getD i default=e at q1 nx hkt
  have hq:e.d= [.int .i64 e.o,.int .i64 e.s,.int .i64 e.day,.slc (qM e.needs),.slc (qE e.ops),.str e.sl]:=rfl
  simp+contextual only [qm,qg,qh,q1,hq,qp (show i≤big by omega),↓U57,↓XP,↓XU,qn,XW1,qa,qb,qc,qd,qe,qf,reduceCtorEq]
  refine fun _=>⟨fun _ _=>⟨fun ho _=>⟨fun hs=>hR _ _ ?_,fun hs=>?_⟩,fun ho=>?_⟩,fun hge=>absurd (by omega) hge⟩
  ·rw [hkt (by simp [ho,hs])] at h
   simp+contextual only [qm,qg,qh,↓U57,↓XP,↓XU,qn,XW1,qa,qb,qc,qd,qe,qf,reduceCtorEq]
   exact h
  ·exact nx (by simp [hs]) _ ⟨rfl,rfl,rfl,rfl,rfl,trivial⟩
  ·exact nx (by simp [ho]) _ ⟨rfl,rfl,rfl,rfl,rfl,trivial⟩
 ·have hik:i=l.length:=by omega
  subst hik
  clear hN
  simp+contextual only [qm,qg,qh,↓U57,↓XP,↓XU,qn,XW1,qa,qb,qc,qd,qe,qf,reduceCtorEq]
  refine fun _=>hE _ _ _ ?_
  rw [show known l o s=false by unfold vj at hk;rw [List.take_length] at hk;exact hk] at h
  simp+contextual only [qm,qg,qh,↓U57,↓XP,↓XU,qn,XW1,qa,qb,qc,qd,qe,qf,reduceCtorEq]
  exact h
def vf (l:List Pt) (p:Pt) (i:Nat):Bool:=(p.needs.take i).all fun r=>known l r.o r.s
theorem Jw {l:List Pt} {p:Pt} {i:Nat} (h:i<p.needs.length):vf l p (i+1)=(vf l p i&&known l (p.needs.getD i default).o (p.needs.getD i default).s):=by
 unfold vf
 rw [List.take_add_one,List.all_append]
 simp [h]
theorem f_ready {l:List Pt} {p:Pt} {H:AH} {R:D→AH→Prop} (hp:0≤p.s) (hp':p.s≤1000000) (hn:p.needs.length≤1000000) (h:R (.bool (ready l p)) H):ACall Tryz.prog 56 [.slc (qY l),.agg p.d] H R:=by
 refine b56 fun hf=>?_
 have hbig:=qt
 have hd:=@dE p
 have wm:IntKind.i64.wrap (p.s - 1)=p.s - 1:=qJ (by omega) (by omega)
 simp+contextual only [x56,hd,↓U56,↓XP,↓XU,qn,XW1,qa,qb,qc,qd,qe,qf,reduceCtorEq]
 rintro b1 h1
 simp only [←hd]
 refine XW.loopK hm (fun F H'=>∃(i:Nat),i≤p.needs.length∧vf l p i=true∧Fr 40 [(0,.slc (qY l)),(3,.ptr b1 0),(5,.int .i64 i)] F∧((b1,AO.cells p.d)::H)=H') (fun F H=>match F.getD 5 .any with| .int _ n'=>p.needs.length - n'.toNat|_=>0) ⟨0,by omega,rfl,⟨rfl,rfl,rfl,rfl,trivial⟩,rfl⟩ ?_
 rintro _ _ ⟨i,hi,hk,hF,rfl⟩ K hN hE hR
 obtain ⟨z,rfl⟩:∃z:Nat→D,_= .slc (qY l)::zz z 1 2 (.ptr b1 0::z 4:: .int .i64 i::zz z 6 34 []):=hF.lit
 try dsimp only [zz,qb] at*
 clear hF
 by_cases hlt:i<p.needs.length
 ·have hk1:=Jw (l:=l) hlt
  rw [hk,Bool.true_and] at hk1
  have nx:vf l p (i+1)=true→∀F',Fr 40 [(0,.slc (qY l)),(3,.ptr b1 0),(5,.int .i64 ((i+1:Nat):Int))] F'→K .normal F' ((b1,AO.cells p.d)::H):=fun hk F' hF'=>hN _ _ ⟨i+1,hlt,hk,hF',(j7 rfl).symm⟩ (by
   rw [List.getD_eq_getElem?_getD,hF'.2.2.2.1]
   simp only [List.getD_cons_succ,List.getD_cons_zero,Option.getD_some]
   omega)
  have hkt:vf l p (i+1)=false→ready l p=false:=fun h=>by
   unfold vf at h
   unfold ready
   rw [Bool.and_eq_false_iff]
   left
   rw [List.all_eq_false] at h ⊢
   obtain ⟨x,h1,h2⟩:=h
   exact ⟨x,List.mem_of_mem_take h1,h2⟩
  rw [hk1] at nx hkt
  clear hN hE
  have q1:=uv hlt
  generalize p.needs.getD i default=e at q1 nx hkt
  have hq:e.d= [.int .i64 e.o,.int .i64 e.s]:=rfl
  simp+contextual only [hd,ql,qg,qh,q1,hq,qp (show i≤big by omega),↓U56,↓XP,↓XU,qn,XW1,qa,qb,qc,qd,qe,qf,reduceCtorEq]
  refine fun _=>⟨fun _ _ _=>⟨_,fun _ _=>JE ⟨rfl,rfl⟩,?_⟩,fun hge=>absurd (by omega) hge⟩
  rcases hkk:known l e.o e.s with _|_
  ·rw [hkt hkk] at h
   simp+contextual only [hd,ql,qg,qh,↓U56,↓XP,↓XU,qn,XW1,qa,qb,qc,qd,qe,qf,reduceCtorEq]
   refine hR _ _ ?_
   simp+contextual only [hd,ql,qg,qh,↓U56,↓XP,↓XU,qn,XW1,qa,qb,qc,qd,qe,qf,reduceCtorEq]
   exact h
  ·simp+contextual only [hd,ql,qg,qh,qp (show i≤big by omega),↓U56,↓XP,↓XU,qn,XW1,qa,qb,qc,qd,qe,qf,reduceCtorEq]
   simp only [←hd]
   exact nx hkk _ ⟨rfl,rfl,rfl,rfl,trivial⟩
 ·have hik:i=p.needs.length:=by omega
  subst hik
  clear hN
  simp+contextual only [hd,ql,qg,qh,↓U56,↓XP,↓XU,qn,XW1,qa,qb,qc,qd,qe,qf,reduceCtorEq]
  refine fun _=>hE _ _ _ ?_
  have hr:ready l p=(decide (p.s=1)||known l p.o (p.s - 1)):=by
   unfold vf at hk
   rw [List.take_length] at hk
   unfold ready
   rw [hk,Bool.true_and]
  rw [hr] at h
  simp+contextual only [hd,ql,qg,qh,wm,↓U56,↓XP,↓XU,qn,XW1,qa,qb,qc,qd,qe,qf,reduceCtorEq]
  refine fun _=>⟨fun h1=>?_,fun h1 _=>JE ?_⟩
  ·simp only [h1,decide_true,Bool.true_or] at h
   exact h
  ·simp only [h1,decide_false,Bool.false_or] at h
   simp+contextual only [hd,ql,qg,qh,↓U56,↓XP,↓XU,qn,XW1,qa,qb,qc,qd,qe,qf,reduceCtorEq]
   exact h
end Go.Proofs.YtpdhandimdibhaaGreatDoor
end
section
namespace Go.Proofs.YtpdhandimdibhaaGreatDoor
open Go Go.Aw
def yf (seen past:List Bool) (i:Nat):List Bool:=(List.range seen.length).map fun j=>if j<i then seen.getD j false||past.getD j false else seen.getD j false
theorem Jn {seen past:List Bool} {i:Nat}:(yf seen past i).length=seen.length:=by simp [yf]
theorem Wq {seen past:List Bool}:yf seen past 0=seen:=by
 refine List.ext_getElem (by simp [yf]) fun j h1 h2=>?_
 simp [yf,h2]
theorem Vx {seen past:List Bool} {i:Nat} (h:i<seen.length):(yf seen past i).getD i false=seen.getD i false:=by
 simp [yf,h]
theorem YD {seen past:List Bool} {i:Nat} (h:i<seen.length):(yf seen past i).set i (seen.getD i false||past.getD i false)=yf seen past (i+1):=by
 refine List.ext_getElem (by simp [yf]) fun j h1 h2=>?_
 rw [List.getElem_set]
 simp only [yf,List.getElem_map,List.getElem_range]
 split
 ·rename_i e;subst e;rw [if_pos (by omega)]
 ·rename_i e
  by_cases hj:j<i
  ·rw [if_pos hj,if_pos (by omega)]
  ·rw [if_neg hj,if_neg (by omega)]
theorem Vy {x:Gs} {seen:List Bool} {k:Nat} (h:k<seen.length):(yf seen (x.past.getD k []) k).set k true=kP x seen k:=by
 refine List.ext_getElem (by simp [yf,kP]) fun j h1 h2=>?_
 rw [List.getElem_set]
 simp only [yf,kP,List.getElem_map,List.getElem_range]
 split
 ·rename_i e;subst e;rw [if_pos rfl]
 ·rename_i e;rw [if_neg (Ne.symm e)]
theorem zh {x:Gs} {seen:List Bool} {k:Nat}:(kP x seen k).length=seen.length:=by simp [kP]
theorem bl_get {l:List Bool} {i:Nat} (h:i<l.length):(l.map D.bool)[i]?=some (.bool (l.getD i false)):=by simp [h]
theorem yW {l:List Bool} {i:Nat} {b:Bool}:(l.map D.bool).set i (.bool b)=(l.set i b).map D.bool:=List.map_set.symm
theorem yG {x:Gs} {q:Int}:∀i,-1≤kA x q i∧kA x q i<i
 |0=>⟨by simp [kA],by simp [kA]⟩
 | i+1=>by
  have:=yG (x:=x) (q:=q) i
  unfold kA
  split
  ·omega
  ·omega
def Pt.dn (p:Pt):List D:= [.int .i64 p.o,.int .i64 p.s,.int .i64 p.day,.own (qM p.needs),.slc [],.str []]
structure Nx (b3 b6 b8 b9:Nat):Prop where
 n39:b3≠b9
 n38:b3≠b8
 n36:b3≠b6
 n89:b8≠b9
 n69:b6≠b9
 n68:b6≠b8
theorem n_inner {x:Gs} {offices n k b3 b6 b8 b9:Nat} {o q:Int} {m:List Int} {seen:List Bool} {pc:List D} {c6:AO} {H:AH} {Q:AQ} {F:List D} (nx:Nx b3 b6 b8 b9) (hk:k<x.l.length) (hb:x.l.length≤100) (hn:n=x.l.length) (hs:seen.length=n) (hp:x.past.length=x.l.length) (hpk:(x.past.getD k []).length=k)
  (hF:Fr 139 [(1,.int .i64 offices),(2,.slc (ints m)),(3,.ptr b3 0),(6,.ptr b6 0),(7,.int .i64 o),(8,.ptr b8 0),(9,.hsl b9 n),(10,.int .i64 q),(11,.int .i64 (k:Int)),(12,.int .i64 0)] F) (hE:∀F',Fr 139 [(1,.int .i64 offices),(2,.slc (ints m)),(3,.ptr b3 0),(6,.ptr b6 0),(7,.int .i64 o),(8,.ptr b8 0),(9,.hsl b9 n),(10,.int .i64 q),(11,.int .i64 (k:Int))] F'→Q (.exit 2) F' ((b9,.cells ((yf seen (x.past.getD k []) k).map D.bool))::(b8,AO.cells pc)::(b6,c6)::(b3,AO.cells [.own (qY x.l),.own (j5 x.past)])::H)):
  XW Tryz.prog x32_L2 F ((b9,.cells (seen.map D.bool))::(b8,AO.cells pc)::(b6,c6)::(b3,AO.cells [.own (qY x.l),.own (j5 x.past)])::H) Q:=by
 have hbig:=qt
 obtain ⟨n39,n38,n36,n89,n69,n68⟩:=nx
 refine XW.loopK hm (fun F H'=>∃(i:Nat),i≤k∧Fr 139 [(1,.int .i64 offices),(2,.slc (ints m)),(3,.ptr b3 0),(6,.ptr b6 0),(7,.int .i64 o),(8,.ptr b8 0),(9,.hsl b9 n),(10,.int .i64 q),(11,.int .i64 (k:Int)),(12,.int .i64 i)] F∧(b9,AO.cells ((yf seen (x.past.getD k []) i).map D.bool))::(b8,AO.cells pc)::(b6,c6)::(b3,AO.cells [.own (qY x.l),.own (j5 x.past)])::H=H') (fun F H=>match F.getD 12 .any with| .int _ n'=>k - n'.toNat|_=>0) ⟨0,by omega,hF,by rw [Wq]⟩ ?_
 rintro _ _ ⟨i,hi,hF,rfl⟩ K hN hE' hR
 obtain ⟨z,rfl⟩:∃z:Nat→D,_=z 0:: .int .i64 offices:: .slc (ints m):: .ptr b3 0::zz z 4 2 (.ptr b6 0:: .int .i64 o:: .ptr b8 0:: .hsl b9 n:: .int .i64 q:: .int .i64 (k:Int):: .int .i64 i::zz z 13 126 []):=hF.lit
 try dsimp only [zz,qb] at*
 clear hF
 by_cases hlt:i<k
 ·have nx:∀F',Fr 139 [(1,.int .i64 offices),(2,.slc (ints m)),(3,.ptr b3 0),(6,.ptr b6 0),(7,.int .i64 o),(8,.ptr b8 0),(9,.hsl b9 n),(10,.int .i64 q),(11,.int .i64 (k:Int)),(12,.int .i64 ((i+1:Nat):Int))] F'→K .normal F' ((b9,.cells ((yf seen (x.past.getD k []) (i+1)).map D.bool))::(b8,AO.cells pc)::(b6,c6)::(b3,AO.cells [.own (qY x.l),.own (j5 x.past)])::H):=fun F' hF'=>hN _ _ ⟨i+1,hlt,hF',(j7 rfl).symm⟩ (by
   rw [List.getD_eq_getElem?_getD,hF'.2.2.2.2.2.2.2.2.2.2.1]
   simp only [List.getD_cons_succ,List.getD_cons_zero,Option.getD_some]
   omega)
  clear hN hE' hR hE
  have hl9:=Jn (seen:=seen) (past:=x.past.getD k []) (i:=i)
  rw [←YD (by omega)] at nx
  have q1:=bl_get (l:=yf seen (x.past.getD k []) i) (i:=i) (by omega)
  rw [Vx (by omega)] at q1
  have q2:=Zu (l:=x.past) (i:=k) (by omega)
  have q3:=zr (l:=x.past.getD k []) (i:=i) (by omega)
  have hw:(yf seen (x.past.getD k []) i).length=n:=by omega
  generalize yf seen (x.past.getD k []) i=s9 at q1 nx hl9 hw ⊢
  generalize (x.past.getD k []).getD i false=pb at q3 nx
  generalize seen.getD i false=sb at q1 nx
  rcases sb with _|_
  ·simp+contextual only [Nat.mul_one,yW,kj,jt,qg,qh,n39,n38,n36,n89,n69,n68,q1,q2,q3,oF,qp (show i≤big by omega),↓zb,↓XP,↓XU,qn,XW1,qa,qb,qc,qd,qe,qf,reduceCtorEq]
   rw [Bool.false_or] at nx
   exact ⟨fun _=>⟨by omega,fun _=>⟨by omega,fun _=>⟨by omega,by omega,by omega,nx _ ⟨rfl,rfl,rfl,rfl,rfl,rfl,rfl,rfl,rfl,rfl,rfl,trivial⟩⟩⟩⟩,fun hge=>absurd (by omega) hge⟩
  ·simp+contextual only [Nat.mul_one,yW,kj,jt,qg,qh,n39,n38,n36,n89,n69,n68,q1,q2,q3,oF,qp (show i≤big by omega),↓zb,↓XP,↓XU,qn,XW1,qa,qb,qc,qd,qe,qf,reduceCtorEq]
   rw [Bool.true_or] at nx
   exact ⟨fun _=>⟨by omega,by omega,by omega,nx _ ⟨rfl,rfl,rfl,rfl,rfl,rfl,rfl,rfl,rfl,rfl,rfl,trivial⟩⟩,fun hge=>absurd (by omega) hge⟩
 ·have hik:i=k:=by omega
  subst hik
  clear hN
  simp+contextual only [Nat.mul_one,yW,kj,jt,qg,qh,n39,n38,n36,n89,n69,n68,oF,↓zb,↓XP,↓XU,qn,XW1,qa,qb,qc,qd,qe,qf,reduceCtorEq]
  exact hE' _ _ _ (hE _ ⟨rfl,rfl,rfl,rfl,rfl,rfl,rfl,rfl,rfl,rfl,trivial⟩)
end Go.Proofs.YtpdhandimdibhaaGreatDoor
end
section
namespace Go.Proofs.YtpdhandimdibhaaGreatDoor
open Go Go.Aw
theorem kn {x:Gs} {o:Int} {m:List Int}:∀q,(qw x o m q).p.needs.length≤q∧(qw x o m q).p.ops= []∧(qw x o m q).p.sl= []∧(qw x o m q).seen.length=x.l.length
 |0=>by simp [qw,uB]
 | q+1=>by
  obtain ⟨h1,h2,h3,h4⟩:=kn (x:=x) (o:=o) (m:=m) q
  simp only [qw]
  generalize qw x o m q=s at h1 h2 h3 h4 ⊢
  unfold kU
  simp only []
  split
  ·exact ⟨by omega,h2,h3,h4⟩
  ·split
   ·exact ⟨by simp only [];omega,h2,h3,by rw [zh];exact h4⟩
   ·exact ⟨by simp only [List.length_append,List.length_cons,List.length_nil];omega,h2,h3,by rw [zh];exact h4⟩
theorem n_mark {x:Gs} {offices n q k b3 b6 b8 b9:Nat} {o:Int} {m:List Int} {seen:List Bool} {p:Pt} {c6:AO} {H:AH} {Q:AQ} {F:List D} (nx:Nx b3 b6 b8 b9) (hof:offices≤10) (hb:x.l.length≤100) (hn:n=x.l.length) (hs:seen.length=n) (hk:k<x.l.length) (hq:q≤10) (hne:p.needs.length≤10) (hxs:∀p∈x.l,0≤p.s∧p.s≤1000)
  (hfr:qu H b8=none)
  (hF:Fr 139 [(1,.int .i64 offices),(2,.slc (ints m)),(3,.ptr b3 0),(6,.ptr b6 0),(7,.int .i64 o),(8,.ptr b8 0),(9,.hsl b9 n),(10,.int .i64 (q:Int)),(11,.int .i64 (k:Int))] F) (hE:∀p2,p2=(let pk:=x.l.getD k default;let p1:={p with day:=max p.day pk.day};if (q:Int)=o then {p1 with s:=pk.s+1} else {p1 with needs:=p1.needs++ [⟨q,pk.s⟩]})→∀F',Fr 139 [(1,.int .i64 offices),(2,.slc (ints m)),(3,.ptr b3 0),(6,.ptr b6 0),(7,.int .i64 o),(8,.ptr b8 0),(9,.hsl b9 n),(10,.int .i64 (q:Int)),(11,.int .i64 (k:Int))] F'→Q .normal F' ((b9,AO.cells ((kP x seen k).map D.bool))::(b8,AO.cells p2.dn)::(b6,c6)::(b3,AO.cells [.own (qY x.l),.own (j5 x.past)])::H)):
  xcode Tryz.prog x32_s7 F ((b9,AO.cells ((yf seen (x.past.getD k []) k).map D.bool))::(b8,AO.cells p.dn)::(b6,c6)::(b3,AO.cells [.own (qY x.l),.own (j5 x.past)])::H) Q:=by
 have hbig:=qt
 obtain ⟨n39,n38,n36,n89,n69,n68⟩:=nx
 obtain ⟨z,rfl⟩:∃z:Nat→D,_=z 0:: .int .i64 offices:: .slc (ints m):: .ptr b3 0::zz z 4 2 (.ptr b6 0:: .int .i64 o:: .ptr b8 0:: .hsl b9 n:: .int .i64 (q:Int):: .int .i64 (k:Int)::zz z 12 127 []):=hF.lit
 try dsimp only [zz,qb] at*
 clear hF
 have q1:=wK hk
 obtain ⟨e1,e2⟩:=hxs (x.l.getD k default) (by rw [js hk];exact List.getElem_mem hk)
 rw [←Vy (by omega)] at hE
 have hl9:=Jn (seen:=seen) (past:=x.past.getD k []) (i:=k)
 generalize yf seen (x.past.getD k []) k=s9 at hE hl9 ⊢
 generalize x.l.getD k default=e at q1 hE e1 e2
 have hd:=@dE e
 have hdn:p.dn= [.int .i64 p.o,.int .i64 p.s,.int .i64 p.day,.own (qM p.needs),.slc [],.str []]:=rfl
 have hmx:(if e.day>p.day then e.day else p.day)=max p.day e.day:=by rw [Int.max_def];split<;>split<;>omega
 have ws:IntKind.i64.wrap (e.s+1)=e.s+1:=qJ (by omega) (by omega)
 by_cases hqo:(q:Int)=o
 ·subst hqo
  simp only [if_true] at hE
  simp+contextual only [Nat.mul_one,yW,qm,kj,jt,ql,qg,qh,jK,n39,n38,n36,n89,n69,n68,oF,q1,hd,hdn,hmx,ws,↓zb,↓XP,↓XU,qn,XW1,qa,qb,qc,qd,qe,qf,reduceCtorEq]
  exact ⟨by omega,by omega,fun _ _=>⟨by omega,fun _=>⟨by omega,by omega,fun _=>⟨by omega,hE _ rfl _ ⟨rfl,rfl,rfl,rfl,rfl,rfl,rfl,rfl,rfl,rfl,trivial⟩⟩⟩⟩⟩
 ·simp only [if_neg hqo] at hE
  simp+contextual only [Nat.mul_one,yW,qm,kj,jt,ql,qg,qh,jK,n39,n38,n36,n89,n69,n68,oF,q1,hd,hdn,hmx,ws,hqo,hfr,↓zb,↓XP,↓XU,qn,XW1,qa,qb,qc,qd,qe,qf,reduceCtorEq]
  refine ⟨by omega,by omega,fun _ _=>⟨by omega,fun _=>⟨by omega,by rw [qg (Ne.symm n68),qg (Ne.symm n38)];exact .inl hfr,by omega,fun _=>⟨zJ,by omega,by omega,?_⟩⟩⟩⟩
  have hh:=fun F'=>hE _ rfl F'
  simp only [Pt.dn,←Y7] at hh
  exact hh _ ⟨rfl,rfl,rfl,rfl,rfl,rfl,rfl,rfl,rfl,rfl,trivial⟩
theorem n_outer {x:Gs} {offices n b3 b6 b8 b9:Nat} {o:Int} {m:List Int} {c6:AO} {H:AH} {Q:AQ} {F:List D} (nx:Nx b3 b6 b8 b9) (hof:offices≤10) (hb:x.l.length≤100) (hn:n=x.l.length) (hp:x.past.length=x.l.length) (hpk:∀k,k<x.l.length→(x.past.getD k []).length=k) (hxs:∀p∈x.l,0≤p.s∧p.s≤1000)
  (hfr:qu H b8=none) (hF:Fr 139 [(1,.int .i64 offices),(2,.slc (ints m)),(3,.ptr b3 0),(6,.ptr b6 0),(7,.int .i64 o),(8,.ptr b8 0),(9,.hsl b9 n),(10,.int .i64 0)] F) (hE:∀F',Fr 139 [(1,.int .i64 offices),(2,.slc (ints m)),(3,.ptr b3 0),(6,.ptr b6 0),(7,.int .i64 o),(8,.ptr b8 0),(9,.hsl b9 n)] F'→∀s,s=qw x o m offices→Q (.exit 0) F' ((b9,AO.cells (s.seen.map D.bool))::(b8,AO.cells s.p.dn)::(b6,c6)::(b3,AO.cells [.own (qY x.l),.own (j5 x.past)])::H)):
  ∀s,s=qw x o m 0→XW Tryz.prog x32_L11 F ((b9,AO.cells (s.seen.map D.bool))::(b8,AO.cells s.p.dn)::(b6,c6)::(b3,AO.cells [.own (qY x.l),.own (j5 x.past)])::H) Q:=by
 intro s0 hs0
 have hbig:=qt
 have nx0:=nx
 obtain ⟨n39,n38,n36,n89,n69,n68⟩:=nx
 refine XW.loopK hm (fun F H'=>∃(q:Nat) (s:Ns),q≤offices∧s=qw x o m q∧Fr 139 [(1,.int .i64 offices),(2,.slc (ints m)),(3,.ptr b3 0),(6,.ptr b6 0),(7,.int .i64 o),(8,.ptr b8 0),(9,.hsl b9 n),(10,.int .i64 (q:Int))] F∧((b9,AO.cells (s.seen.map D.bool))::(b8,AO.cells s.p.dn)::(b6,c6)::(b3,AO.cells [.own (qY x.l),.own (j5 x.past)])::H)=H') (fun F H=>match F.getD 10 .any with| .int _ n'=>offices - n'.toNat|_=>0) ⟨0,s0,by omega,hs0,hF,rfl⟩ ?_
 clear hF hs0 s0
 rintro _ _ ⟨q,s,hq,hs,hF,rfl⟩ K hN hE' hR
 obtain ⟨z,rfl⟩:∃z:Nat→D,_=z 0:: .int .i64 offices:: .slc (ints m):: .ptr b3 0::zz z 4 2 (.ptr b6 0:: .int .i64 o:: .ptr b8 0:: .hsl b9 n:: .int .i64 (q:Int)::zz z 11 128 []):=hF.lit
 try dsimp only [zz,qb] at*
 clear hF hR
 by_cases hlt:q<offices
 ·have nx:∀F' s2,s2=kU x o m q s→Fr 139 [(1,.int .i64 offices),(2,.slc (ints m)),(3,.ptr b3 0),(6,.ptr b6 0),(7,.int .i64 o),(8,.ptr b8 0),(9,.hsl b9 n),(10,.int .i64 ((q+1:Nat):Int))] F'→K .normal F' ((b9,AO.cells (s2.seen.map D.bool))::(b8,AO.cells s2.p.dn)::(b6,c6)::(b3,AO.cells [.own (qY x.l),.own (j5 x.past)])::H):=fun F' s2 h2 hF'=>hN _ _ ⟨q+1,s2,hlt,by rw [h2,hs];rfl,hF',(j7 rfl).symm⟩ (by
   rw [List.getD_eq_getElem?_getD,hF'.2.2.2.2.2.2.2.2.1]
   simp only [List.getD_cons_succ,List.getD_cons_zero,Option.getD_some]
   omega)
  clear hN hE' hE
  obtain ⟨g1,g2,g3,g4⟩:=kn (x:=x) (o:=o) (m:=m) q
  rw [←hs] at g1 g2 g3 g4
  clear hs
  obtain ⟨r1,r2⟩:=yG (x:=x) (q:=q) x.l.length
  have hx:x.d= [.slc (qY x.l),.slc (j5 x.past)]:=rfl
  have wq:IntKind.i64.wrap (1+(q:Int))=((1+q:Nat):Int):=by rw [qJ (by omega) (by omega)];omega
  have a0:=qv (l:=m) (i:=1+q) (most:=4) (by omega)
  have k1:∀j:Nat,((j:Int)<0)=False:=fun j=>by simp
  simp+contextual only [Nat.mul_one,yW,qm,kj,jt,ql,qg,qh,jK,n39,n38,n36,n89,n69,n68,oF,↓zb,↓XP,↓XU,qn,XW1,qa,qb,qc,qd,qe,qf,reduceCtorEq]
  refine ⟨fun _=>f_last (x:=x) hb ?_,fun hge=>absurd (by omega) hge⟩
  by_cases hk0:last x q<0
  ·simp+contextual only [Nat.mul_one,yW,qm,kj,jt,ql,qg,qh,jK,n39,n38,n36,n89,n69,n68,oF,hk0,qp (show q≤big by omega),↓zb,↓XP,↓XU,qn,XW1,qa,qb,qc,qd,qe,qf,reduceCtorEq]
   refine fun _=>nx _ s ?_ ⟨rfl,rfl,rfl,rfl,rfl,rfl,rfl,rfl,rfl,trivial⟩
   unfold kU
   simp only [if_pos (Or.inl hk0)]
  ·obtain ⟨k,hk⟩:∃k:Nat,last x q=k:=⟨(last x q).toNat,by omega⟩
   have hkl:k<x.l.length:=by unfold last at hk;omega
   have hgo:((q:Int)≠o→¬qB m (1+q) 4=1)→∀p2,p2=(let pk:=x.l.getD k default;let p1:={s.p with day:=max s.p.day pk.day};if (q:Int)=o then {p1 with s:=pk.s+1} else {p1 with needs:=p1.needs++ [⟨q,pk.s⟩]})→kU x o m q s=⟨p2,kP x s.seen k⟩:=by
    rintro h1 p2 rfl
    unfold kU
    simp only [hk,Int.toNat_natCast]
    rw [if_neg (fun h=>h.elim (by omega) (fun h=>h1 h.1 h.2))]
   have go:((q:Int)≠o→¬qB m (1+q) 4=1)→∀F',Fr 139 [(1,.int .i64 offices),(2,.slc (ints m)),(3,.ptr b3 0),(6,.ptr b6 0),(7,.int .i64 o),(8,.ptr b8 0),(9,.hsl b9 n),(10,.int .i64 (q:Int)),(11,.int .i64 (k:Int)),(12,.int .i64 0)] F'→XW Tryz.prog x32_L2 F' ((b9,AO.cells (s.seen.map D.bool))::(b8,AO.cells s.p.dn)::(b6,c6)::(b3,AO.cells [.own (qY x.l),.own (j5 x.past)])::H) (yI 2 (Wl Tryz.prog x32_s7 (yI 1 (Wl Tryz.prog x32_s9 K)))):=fun hc F' hF'=>by
    refine n_inner nx0 hkl hb hn (by omega) hp (hpk k hkl) hF' (fun F'' hF''=>?_)
    simp only [Yh,G6,beq_self_eq_true,UK]
    refine n_mark nx0 hof hb hn (by omega) hkl (by omega) (by omega) hxs hfr hF'' (fun p2 hp2 F3 hF3=>?_)
    obtain ⟨z,rfl⟩:∃z:Nat→D,_=z 0:: .int .i64 offices:: .slc (ints m):: .ptr b3 0::zz z 4 2 (.ptr b6 0:: .int .i64 o:: .ptr b8 0:: .hsl b9 n:: .int .i64 (q:Int):: .int .i64 (k:Int)::zz z 12 127 []):=hF3.lit
    try dsimp only [zz,qb] at*
    simp+contextual only [Nat.mul_one,yW,qm,kj,jt,ql,qg,qh,jK,n39,n38,n36,n89,n69,n68,oF,qp (show q≤big by omega),↓zb,↓XP,↓XU,qn,XW1,qa,qb,qc,qd,qe,qf,reduceCtorEq]
    exact nx _ ⟨p2,kP x s.seen k⟩ (hgo hc p2 hp2).symm ⟨rfl,rfl,rfl,rfl,rfl,rfl,rfl,rfl,rfl,trivial⟩
   rw [hk]
   by_cases hqo:(q:Int)=o
   ·subst hqo
    simp+contextual only [Nat.mul_one,yW,qm,kj,jt,ql,qg,qh,jK,n39,n38,n36,n89,n69,n68,oF,k1,↓zb,↓XP,↓XU,qn,XW1,qa,qb,qc,qd,qe,qf,reduceCtorEq]
    exact fun _=>go (fun h=>(h rfl).elim) _ ⟨rfl,rfl,rfl,rfl,rfl,rfl,rfl,rfl,rfl,rfl,rfl,trivial⟩
   ·simp+contextual only [Nat.mul_one,yW,qm,kj,jt,ql,qg,qh,jK,n39,n38,n36,n89,n69,n68,oF,k1,hqo,wq,↓zb,↓XP,↓XU,qn,XW1,qa,qb,qc,qd,qe,qf,reduceCtorEq]
    refine fun _=>jJ (i:=1+q) (by omega) ?_
    by_cases ha:qB m (1+q) 4=1
    ·simp+contextual only [Nat.mul_one,yW,qm,kj,jt,ql,qg,qh,jK,n39,n38,n36,n89,n69,n68,oF,ha,qp (show q≤big by omega),↓zb,↓XP,↓XU,qn,XW1,qa,qb,qc,qd,qe,qf,reduceCtorEq]
     refine fun _=>nx _ s ?_ ⟨rfl,rfl,rfl,rfl,rfl,rfl,rfl,rfl,rfl,trivial⟩
     unfold kU
     simp only [if_pos (Or.inr (And.intro hqo ha))]
    ·simp+contextual only [Nat.mul_one,yW,qm,kj,jt,ql,qg,qh,jK,n39,n38,n36,n89,n69,n68,oF,ha,k1,↓zb,↓XP,↓XU,qn,XW1,qa,qb,qc,qd,qe,qf,reduceCtorEq]
     exact fun _=>go (fun _=>ha) _ ⟨rfl,rfl,rfl,rfl,rfl,rfl,rfl,rfl,rfl,rfl,rfl,trivial⟩
 ·have hik:q=offices:=by omega
  subst hik
  clear hN
  simp+contextual only [Nat.mul_one,yW,qm,kj,jt,ql,qg,qh,jK,n39,n38,n36,n89,n69,n68,oF,↓zb,↓XP,↓XU,qn,XW1,qa,qb,qc,qd,qe,qf,reduceCtorEq]
  exact hE' _ _ _ (hE _ ⟨rfl,rfl,rfl,rfl,rfl,rfl,rfl,rfl,trivial⟩ s hs)
end Go.Proofs.YtpdhandimdibhaaGreatDoor
end
