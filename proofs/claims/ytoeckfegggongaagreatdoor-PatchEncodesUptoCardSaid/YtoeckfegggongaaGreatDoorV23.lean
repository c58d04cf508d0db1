/- A part of the proof of what the last text says: Gp2, Gf4, Gn1, Gn3, Gn4, Gi1. Conditions: those in each theorem. -/
import Derived.Test.YtoeckfegggongaaGreatDoorV22
set_option linter.unusedVariables false
set_option linter.unusedSimpArgs false
set_option maxRecDepth 100000
set_option maxHeartbeats 16000000
open Nat renaming reduceSub → qa,reduceAdd → qb,reduceMul → qc,reduceEqDiff → qd,reduceLeDiff → qe,reduceBEq → qf
section
namespace Go.Proofs.YtoeckfegggongaaGreatDoor
open Go Go.Aw
def cls5 : List (List UInt8) := [[110],[110],[110],[118],[120]]
def cls2 : List (List UInt8) := [[110],[118]]
def yd (p : Pt) (sense other : Id3) (n : Int) (m : List Int) : Pt := j6 p (small sense other (n.tmod 11) (m.drop 1))
def step (x : Gs) (seen : List Bool) (p : Pt) (m : List Int) : Pt :=
 let entries := visible x seen p 1
 let senses := visible x seen p 2
 let n := qE m 0 24
 if senses.length = 0 ∨ n ≤ 5 then
  meaning (j6 p { op0 with k := 1,name := cls5.getD (jC m 1 5) [],text := heads8.getD (jC m 2 8) [] }) (jv p) (m.drop 3)
 else
  let entry := entries.getD (jC m 1 entries.length) default
  let sense := senses.getD (jC m 1 senses.length) default
  let other := senses.getD (jC m 2 senses.length) default
  if n = 6 then meaning p entry (m.drop 2)
  else if n = 7 then meaning p sense (m.drop 2)
  else if n = 8 ∨ n = 9 then quoted x seen p sense (m.drop 2)
  else if n = 10 then divided p entry sense (m.drop 2)
  else if n = 11 then (if other = sense then yd p sense other n m else j6 p { op0 with k := 17,on := sense,to := other })
  else if n = 12 then
   let l := splits x seen p
   if l.length = 0 then yd p sense other n m else
    let o := l.getD (jC m 3 l.length) default
    j6 p { op0 with k := 18,on := sense,to := o.on,ids := [o.ids.getD (jC m 4 o.ids.length) default] }
  else if n = 13 then
   if qE m 2 2 = 0 then j6 p { op0 with k := 5,on := entry,text := heads8.getD (jC m 3 8) [] }
   else j6 p { op0 with k := 6,on := entry,name := cls2.getD (jC m 3 2) [] }
  else if n = 14 then
   let l := visible x seen p 3
   if l.length = 0 then yd p sense other n m else
    let from_ := 600000 + 500 * qE m 3 60
    j6 p { op0 with k := 11,on := l.getD (jC m 2 l.length) default,a := from_,b := from_ + 99 }
  else yd p sense other n m
def kr (x : Gs) (office : Int) : Nat → Int
 | 0=>-1
 | i + 1=>if (x.l.getD i default).o = office then i else kr x office i
def last (x : Gs) (office : Int) : Int := kr x office x.l.length
structure Ns where
 p : Pt
 seen : List Bool
def kH (x : Gs) (seen : List Bool) (k : Nat) : List Bool := (List.range seen.length).map fun i=>if i = k then true else if i < k then seen.getD i false || (x.past.getD k []).getD i false else seen.getD i false
def kJ (x : Gs) (o : Int) (m : List Int) (q : Nat) (s : Ns) : Ns :=
 let k := last x q
 if k < 0 ∨ ((q : Int) ≠ o ∧ qE m (1 + q) 4 = 1) then s else
  let pk := x.l.getD k.toNat default
  let p1 := { s.p with day := max s.p.day pk.day }
  ⟨if (q : Int) = o then { p1 with s := pk.s + 1 } else { p1 with needs := p1.needs ++ [⟨q,pk.s⟩] },kH x s.seen k.toNat⟩
def qB (x : Gs) (o : Int) (m : List Int) : Nat → Ns
 | 0=>⟨{ pt0 with o := o,s := 1,day := 1 },List.replicate x.l.length false⟩
 | q + 1=>kJ x o m q (qB x o m q)
def jg (x : Gs) (seen : List Bool) (p : Pt) (m : List Int) : Nat → Pt
 | 0=>p
 | i + 1=>step x seen (jg x seen p m i) (m.drop (6 + 13 * i))
def next (x : Gs) (offices : Nat) (m : List Int) : Gs :=
 let o := qE m 0 offices
 let s := qB x o m offices
 let p := jg x s.seen { s.p with day := s.p.day + qE m 4 4 } m (1 + jC m 5 2)
 ⟨x.l ++ [p],x.past ++ [s.seen]⟩
def known (l : List Pt) (office seq : Int) : Bool := l.any fun p=>decide (p.o = office) && decide (p.s = seq)
def ready (l : List Pt) (p : Pt) : Bool := p.needs.all (fun r=>known l r.o r.s) && (decide (p.s = 1) || known l p.o (p.s - 1))
def better (l : List Pt) (out : List Pt) (i : Nat) (best : Int) : Bool :=
 let p := l.getD i default
 ready out p && !known out p.o p.s && (decide (best < 0) || decide (p.o < (l.getD best.toNat default).o) || (decide (p.o = (l.getD best.toNat default).o) && decide (p.s < (l.getD best.toNat default).s)))
def jj (l : List Pt) (out : List Pt) : Nat → Int
 | 0=>-1
 | i + 1=>if better l out i (jj l out i) = true then i else jj l out i
def j5 (l : List Pt) : Nat → List Pt × Bool
 | 0=>([],true)
 | n + 1 =>
  let s := j5 l n
  if s.2 = true then (if jj l s.1 l.length < 0 then (s.1,false) else (s.1 ++ [l.getD (jj l s.1 l.length).toNat default],true)) else s
def ordered (l : List Pt) : List Pt := (j5 l l.length).1
def ja (l : List Int) (offices : Nat) : Nat → Gs
 | 0=>⟨[],[]⟩
 | i + 1=>next (ja l offices i) offices (l.drop (2 + 32 * i))
def patches (l : List Int) : List Pt := ordered (ja l (2 + jC l 1 2) (2 + jC l 0 8)).l
end Go.Proofs.YtoeckfegggongaaGreatDoor
end
section
namespace Go.Proofs.YtoeckfegggongaaGreatDoor
open Go Go.Aw
def Gs.d (x : Gs) : List D := [.slc (j8 x.l),.slc (je x.past)]
theorem vz {p : Pt} {kind : Int} {ok : Bool} : ∀ k,(upto (jX p kind ok) k).length ≤ k := fun k=>by
 have := vV (f := jX p kind ok) (c := 1) (fun k=>by unfold jX; split <;> simp) k
 omega
theorem Ql {x : Gs} {seen : List Bool} {kind : Int} (ho : ∀ q ∈ x.l,q.ops.length ≤ 1000) (i : Nat) : (upto (fun i=>jY (x.l.getD i default) kind (seen.getD i false)) i).length ≤ 1000 * i := by
 have := vV (f := fun i=>jY (x.l.getD i default) kind (seen.getD i false)) (c := 1000) (fun k=>by
  have h1 := vz (p := x.l.getD k default) (kind := kind) (ok := seen.getD k false) (x.l.getD k default).ops.length
  have h2 : (x.l.getD k default).ops.length ≤ 1000 := vk (p := fun q : Pt=>q.ops.length ≤ 1000) ho (by decide) k
  unfold jY
  omega) i
 omega
theorem ug {x : Gs} {seen : List Bool} {p : Pt} {kind : Int} {H : AH} {R : D → AH → Prop} (hs : x.l.length ≤ seen.length) (hb : x.l.length ≤ 100) (ho : ∀ q ∈ x.l,q.ops.length ≤ 1000) (hp : p.ops.length ≤ 1000) (h : R (.own (qV (visible x seen p kind))) H) : ACall Tryz.prog 82 [.agg x.d,.slc (jt seen),.agg p.d,.int .i64 kind] H R := by
 refine b82 fun hf=>?_
 have hbig := qt
 have hx : x.d = [.slc (j8 x.l),.slc (je x.past)] := rfl
 have hd := @dE p
 simp +contextual only [x82,hx,hd,qj,qo,↓Uu,↓XP,qm,XW1,qa,qb,qc,qd,qe,qf,reduceCtorEq]
 rintro b1 h1 b2 ⟨n12,h2⟩
 simp only [← hx,← hd]
 refine XW.loopK hm (fun F H'=>∃ (i : Nat),i ≤ x.l.length ∧ Fr 91 [(1,.slc (jt seen)),(3,.int .i64 kind),(4,.ptr b1 0),(6,.ptr b2 0),(9,.own (qV (upto (fun i=>jY (x.l.getD i default) kind (seen.getD i false)) i))),(10,.int .i64 i)] F ∧ ((b2,AO.cells p.d) :: (b1,AO.cells x.d) :: H) = H') (fun F H=>match F.getD 10 .any with | .int _ n'=>x.l.length - n'.toNat | _=>0) ⟨0,by omega,⟨rfl,rfl,rfl,rfl,rfl,rfl,rfl,trivial⟩,rfl⟩ ?_
 rintro _ _ ⟨i,hi,hF,rfl⟩ K hN hE hR
 obtain ⟨z,rfl⟩ : ∃ z : Nat → D,_ = z 0 :: .slc (jt seen) :: z 2 :: .int .i64 kind :: .ptr b1 0 :: z 5 :: .ptr b2 0 :: zz z 7 2 (.own (qV (upto (fun i=>jY (x.l.getD i default) kind (seen.getD i false)) i)) :: .int .i64 i :: zz z 11 80 []) := hF.lit
 try dsimp only [zz,qb] at *
 clear hF
 have hv := Ql (x := x) (seen := seen) (kind := kind) ho i
 by_cases hlt : i < x.l.length
 ·have nx : ∀ F',Fr 91 [(1,.slc (jt seen)),(3,.int .i64 kind),(4,.ptr b1 0),(6,.ptr b2 0),(9,.own (qV (upto (fun i=>jY (x.l.getD i default) kind (seen.getD i false)) (i + 1)))),(10,.int .i64 ((i + 1 : Nat) : Int))] F' → K .normal F' ((b2,AO.cells p.d) :: (b1,AO.cells x.d) :: H) := fun F' hF'=>hN _ _ ⟨i + 1,hlt,hF',(j9 rfl).symm⟩ (by
   rw [List.getD_eq_getElem?_getD,hF'.2.2.2.2.2.2.1]
   simp only [List.getD_cons_succ,List.getD_cons_zero,Option.getD_some]
   omega)
  clear hN hE hR
  have q1 := wW hlt
  have q2 := oV (l := seen) (i := i) (by omega)
  have hqo : (x.l.getD i default).ops.length ≤ 1000 := vk (p := fun q : Pt=>q.ops.length ≤ 1000) ho (by decide) i
  have hun : upto (fun i=>jY (x.l.getD i default) kind (seen.getD i false)) (i + 1) = upto (fun i=>jY (x.l.getD i default) kind (seen.getD i false)) i ++ jY (x.l.getD i default) kind (seen.getD i false) := rfl
  rw [hun] at nx
  generalize upto (fun i=>jY (x.l.getD i default) kind (seen.getD i false)) i = ac at nx hv
  generalize x.l.getD i default = q at q1 hqo nx
  generalize seen.getD i false = ok at q2 nx
  have hq : q.d = [.int .i64 q.o,.int .i64 q.s,.int .i64 q.day,.slc (qO q.needs),.slc (qM q.ops),.str q.sl] := rfl
  simp +contextual only [hx,hd,qj,qo,qg,qi,n12,qp (show i ≤ big by omega),q1,q2,hq,↓Uu,↓XP,qm,XW1,qa,qb,qc,qd,qe,qf,reduceCtorEq]
  refine fun _=>⟨fun _=>?_,fun hge=>absurd (by omega) hge⟩
  simp only [← hx,← hd]
  refine XW.loopK hm (fun F H'=>∃ (k : Nat),k ≤ q.ops.length ∧ Fr 91 [(1,.slc (jt seen)),(3,.int .i64 kind),(4,.ptr b1 0),(6,.ptr b2 0),(9,.own (qV (ac ++ upto (jX q kind ok) k))),(10,.int .i64 i),(11,.int .i64 k)] F ∧ ((b2,AO.cells p.d) :: (b1,AO.cells x.d) :: H) = H') (fun F H=>match F.getD 11 .any with | .int _ n'=>q.ops.length - n'.toNat | _=>0) ⟨0,by omega,by rw [upto,List.append_nil]; exact ⟨rfl,rfl,rfl,rfl,rfl,rfl,rfl,rfl,trivial⟩,rfl⟩ ?_
  rintro _ _ ⟨k,hk,hF,rfl⟩ K2 hN hE hR
  obtain ⟨z2,rfl⟩ : ∃ z2 : Nat → D,_ = (let z := z2; [z 0,.slc (jt seen),z 2,.int .i64 kind,.ptr b1 0,z 5,.ptr b2 0,z 7,z 8,.own (qV (ac ++ upto (jX q kind ok) k)),.int .i64 i,.int .i64 k,z 12,z 13,z 14,z 15,z 16,z 17,z 18,z 19,z 20,z 21,z 22,z 23,z 24,z 25,z 26,z 27,z 28,z 29,z 30,z 31,z 32,z 33,z 34,z 35,z 36,z 37,z 38,z 39,z 40,z 41,z 42,z 43,z 44,z 45,z 46,z 47,z 48,z 49,z 50,z 51,z 52,z 53,z 54,z 55,z 56,z 57,z 58,z 59,z 60,z 61,z 62,z 63,z 64,z 65,z 66,z 67,z 68,z 69,z 70,z 71,z 72,z 73,z 74,z 75,z 76,z 77,z 78,z 79,z 80,z 81,z 82,z 83,z 84,z 85,z 86,z 87,z 88,z 89,z 90]) := hF.lit
  clear hF
  have hv3 := vz (p := q) (kind := kind) (ok := ok) k
  by_cases hlk : k < q.ops.length
  ·have nx3 : ∀ F',Fr 91 [(1,.slc (jt seen)),(3,.int .i64 kind),(4,.ptr b1 0),(6,.ptr b2 0),(9,.own (qV (ac ++ upto (jX q kind ok) (k + 1)))),(10,.int .i64 i),(11,.int .i64 ((k + 1 : Nat) : Int))] F' → K2 .normal F' ((b2,AO.cells p.d) :: (b1,AO.cells x.d) :: H) := fun F' hF'=>hN _ _ ⟨k + 1,hlk,hF',(j9 rfl).symm⟩ (by
    rw [List.getD_eq_getElem?_getD,hF'.2.2.2.2.2.2.2.1]
    simp only [List.getD_cons_succ,List.getD_cons_zero,Option.getD_some]
    omega)
   clear hN hE hR nx
   have q3 := kB hlk
   have hu3 : upto (jX q kind ok) (k + 1) = upto (jX q kind ok) k ++ jX q kind ok k := rfl
   rw [hu3] at nx3
   have ho3 : jX q kind ok k = if ok = true ∧ (q.ops.getD k default).k = kind then [⟨q.o,q.s,k⟩] else [] := rfl
   rw [ho3] at nx3
   generalize q.ops.getD k default = o at q3 nx3
   have hod : o.d = [.int .i64 o.k,.int .i64 o.on.o,.int .i64 o.on.s,.int .i64 o.on.i,.int .i64 o.to.o,.int .i64 o.to.s,.int .i64 o.to.i,.slc (qV o.ids),.int .i64 o.n,.str o.name,.str o.text,.int .i64 o.a,.int .i64 o.b] := rfl
   generalize upto (jX q kind ok) k = ac3 at nx3 hv3
   have hac : (qV (ac ++ ac3)).length ≤ 200000 := by rw [qk,List.length_append]; omega
   rcases ok with _ | _
   ·simp +contextual only [hx,hd,qj,qo,qg,qi,n12,qp (show k ≤ big by omega),q1,q2,hq,q3,jw,↓Uu,↓XP,qm,XW1,qa,qb,qc,qd,qe,qf,reduceCtorEq]
    refine fun _=>⟨by omega,fun _=>⟨fun _=>⟨by omega,?_⟩,fun hge=>absurd (by omega) hge⟩⟩
    rw [if_neg (by simp),List.append_nil] at nx3
    exact nx3 _ ⟨rfl,rfl,rfl,rfl,rfl,rfl,rfl,rfl,trivial⟩
   ·simp +contextual only [hx,hd,qj,qo,qg,qi,n12,qp (show k ≤ big by omega),q1,q2,hq,q3,hod,jw,↓Uu,↓XP,qm,XW1,qa,qb,qc,qd,qe,qf,reduceCtorEq]
    refine fun _=>⟨by omega,fun _=>⟨fun _=>⟨by omega,by omega,fun _=>⟨fun hk'=>⟨by omega,fun _=>⟨by omega,fun _=>⟨K3,by omega,?_⟩⟩⟩,fun hk'=>?_⟩⟩,fun hge=>absurd (by omega) hge⟩⟩
    ·rw [if_pos ⟨rfl,hk'⟩,← List.append_assoc,← zT] at nx3
     exact nx3 _ ⟨rfl,rfl,rfl,rfl,rfl,rfl,rfl,rfl,trivial⟩
    ·rw [if_neg (fun hc=>hk' hc.2),List.append_nil] at nx3
     exact nx3 _ ⟨rfl,rfl,rfl,rfl,rfl,rfl,rfl,rfl,trivial⟩
  ·have hik : k = q.ops.length := by omega
   subst hik
   simp +contextual only [hx,hd,qj,qo,qg,qi,n12,q1,q2,hq,↓Uu,↓XP,qm,XW1,qa,qb,qc,qd,qe,qf,reduceCtorEq]
   refine fun _=>⟨by omega,fun _=>hE _ _ _ ?_⟩
   clear hN hE hR
   simp +contextual only [hx,hd,qj,qo,qg,qi,n12,qp (show i ≤ big by omega),↓Uu,↓XP,qm,XW1,qa,qb,qc,qd,qe,qf,reduceCtorEq]
   exact nx _ ⟨rfl,rfl,rfl,rfl,rfl,rfl,rfl,trivial⟩
 ·have hik : i = x.l.length := by omega
  subst hik
  clear hN
  simp +contextual only [hx,hd,qj,qo,qg,qi,n12,↓Uu,↓XP,qm,XW1,qa,qb,qc,qd,qe,qf,reduceCtorEq]
  refine fun _=>hE _ _ _ ?_
  clear hE hR
  have hv0 : visible x seen p kind = upto (fun i=>jY (x.l.getD i default) kind (seen.getD i false)) x.l.length ++ jY p kind true := rfl
  rw [hv0] at h
  generalize upto (fun i=>jY (x.l.getD i default) kind (seen.getD i false)) x.l.length = ac at h hv ⊢
  simp +contextual only [hx,hd,qj,qo,qg,qi,n12,↓Uu,↓XP,qm,XW1,qa,qb,qc,qd,qe,qf,reduceCtorEq]
  simp only [← hx,← hd]
  refine XW.loopK hm (fun F H'=>∃ (k : Nat),k ≤ p.ops.length ∧ Fr 91 [(3,.int .i64 kind),(6,.ptr b2 0),(9,.own (qV (ac ++ upto (jX p kind true) k))),(12,.int .i64 k)] F ∧ ((b2,AO.cells p.d) :: (b1,AO.cells x.d) :: H) = H') (fun F H=>match F.getD 12 .any with | .int _ n'=>p.ops.length - n'.toNat | _=>0) ⟨0,by omega,by rw [upto,List.append_nil]; exact ⟨rfl,rfl,rfl,rfl,rfl,trivial⟩,rfl⟩ ?_
  rintro _ _ ⟨k,hk,hF,rfl⟩ K hN hE hR
  obtain ⟨z,rfl⟩ : ∃ z : Nat → D,_ = zz z 0 3 (.int .i64 kind :: zz z 4 2 (.ptr b2 0 :: zz z 7 2 (.own (qV (ac ++ upto (jX p kind true) k)) :: zz z 10 2 (.int .i64 k :: zz z 13 78 [])))) := hF.lit
  try dsimp only [zz,qb] at *
  clear hF
  have hv3 := vz (p := p) (kind := kind) (ok := true) k
  by_cases hlk : k < p.ops.length
  ·have nx3 : ∀ F',Fr 91 [(3,.int .i64 kind),(6,.ptr b2 0),(9,.own (qV (ac ++ upto (jX p kind true) (k + 1)))),(12,.int .i64 ((k + 1 : Nat) : Int))] F' → K .normal F' ((b2,AO.cells p.d) :: (b1,AO.cells x.d) :: H) := fun F' hF'=>hN _ _ ⟨k + 1,hlk,hF',(j9 rfl).symm⟩ (by
    rw [List.getD_eq_getElem?_getD,hF'.2.2.2.2.1]
    simp only [List.getD_cons_succ,List.getD_cons_zero,Option.getD_some]
    omega)
   clear hN hE hR
   have q3 := kB hlk
   have hu3 : upto (jX p kind true) (k + 1) = upto (jX p kind true) k ++ jX p kind true k := rfl
   rw [hu3] at nx3
   have ho3 : jX p kind true k = if true = true ∧ (p.ops.getD k default).k = kind then [⟨p.o,p.s,k⟩] else [] := rfl
   rw [ho3] at nx3
   generalize p.ops.getD k default = o at q3 nx3
   have hod : o.d = [.int .i64 o.k,.int .i64 o.on.o,.int .i64 o.on.s,.int .i64 o.on.i,.int .i64 o.to.o,.int .i64 o.to.s,.int .i64 o.to.i,.slc (qV o.ids),.int .i64 o.n,.str o.name,.str o.text,.int .i64 o.a,.int .i64 o.b] := rfl
   generalize upto (jX p kind true) k = ac3 at nx3 hv3
   have hac : (qV (ac ++ ac3)).length ≤ 200000 := by rw [qk,List.length_append]; omega
   simp +contextual only [hx,hd,qj,qo,qg,qi,n12,qp (show k ≤ big by omega),q3,hod,↓Uu,↓XP,qm,XW1,qa,qb,qc,qd,qe,qf,reduceCtorEq]
   refine fun _=>⟨fun _ _=>⟨fun hk' _ _=>⟨K3,by omega,?_⟩,fun hk'=>?_⟩,fun hge=>absurd (by omega) hge⟩
   ·rw [if_pos ⟨rfl,hk'⟩,← List.append_assoc,← zT] at nx3
    exact nx3 _ ⟨rfl,rfl,rfl,rfl,rfl,trivial⟩
   ·rw [if_neg (fun hc=>hk' hc.2),List.append_nil] at nx3
    exact nx3 _ ⟨rfl,rfl,rfl,rfl,rfl,trivial⟩
  ·have hik : k = p.ops.length := by omega
   subst hik
   simp +contextual only [hx,hd,qj,qo,qg,qi,n12,↓Uu,↓XP,qm,XW1,qa,qb,qc,qd,qe,qf,reduceCtorEq]
   refine fun _=>hE _ _ _ ?_
   clear hN hE hR
   simp +contextual only [hx,hd,qj,qo,qg,qi,n12,↓Uu,↓XP,qm,XW1,qa,qb,qc,qd,qe,qf,reduceCtorEq]
   exact h
end Go.Proofs.YtoeckfegggongaaGreatDoor
end
section
namespace Go.Proofs.YtoeckfegggongaaGreatDoor
open Go Go.Aw
theorem f_last {x : Gs} {q : Int} {H : AH} {R : D → AH → Prop} (hb : x.l.length ≤ 100) (h : R (.int .i64 (last x q)) H) : ACall Tryz.prog 72 [.agg x.d,.int .i64 q] H R := by
 refine b72 fun hf=>?_
 have hbig := qt
 have hx : x.d = [.slc (j8 x.l),.slc (je x.past)] := rfl
 have w1 : IntKind.i64.wrap ((x.l.length : Int) - 1) = (x.l.length : Int) - 1 := qw (by omega) (by omega)
 simp +contextual only [x72,hx,qo,w1,↓U72,↓XP,qm,XW1,qa,qb,qc,qd,qe,qf,reduceCtorEq]
 rintro b1 h1
 simp only [← hx]
 refine fun _=>XW.loopK hm (fun F H'=>∃ (j : Nat),j ≤ x.l.length ∧ last x q = kr x q j ∧ Fr 23 [(1,.int .i64 q),(2,.ptr b1 0),(5,.int .i64 ((j : Int) - 1))] F ∧ ((b1,AO.cells x.d) :: H) = H') (fun F H=>match F.getD 5 .any with | .int _ n'=>(n' + 1).toNat | _=>0) ⟨x.l.length,by omega,rfl,⟨rfl,rfl,rfl,rfl,trivial⟩,rfl⟩ ?_
 rintro _ _ ⟨j,hj,hl,hF,rfl⟩ K hN hE hR
 obtain ⟨z,rfl⟩ : ∃ z : Nat → D,_ = z 0 :: .int .i64 q :: .ptr b1 0 :: zz z 3 2 (.int .i64 ((j : Int) - 1) :: zz z 6 17 []) := hF.lit
 try dsimp only [zz,qb] at *
 clear hF
 rcases j with _ | j
 ·clear hN hR
  have e0 : ((0 : Nat) : Int) - 1 = -1 := by omega
  have e1 : (0 ≤ (-1 : Int)) = False := by simp
  simp +contextual only [hx,qo,qg,qi,e0,e1,↓U72,↓XP,qm,XW1,qa,qb,qc,qd,qe,qf,reduceCtorEq]
  refine hE _ _ _ ?_
  rw [hl] at h
  simp +contextual only [hx,qo,qg,qi,↓U72,↓XP,qm,XW1,qa,qb,qc,qd,qe,qf,reduceCtorEq]
  exact h
 ·have e0 : ((j + 1 : Nat) : Int) - 1 = (j : Int) := by omega
  have nx : (x.l.getD j default).o ≠ q → ∀ F',Fr 23 [(1,.int .i64 q),(2,.ptr b1 0),(5,.int .i64 ((j : Int) - 1))] F' → K .normal F' ((b1,AO.cells x.d) :: H) := fun hne F' hF'=>hN _ _ ⟨j,by omega,by rw [hl]; simp only [kr,if_neg hne],hF',(j9 rfl).symm⟩ (by
   rw [List.getD_eq_getElem?_getD,hF'.2.2.2.1]
   simp only [List.getD_cons_succ,List.getD_cons_zero,Option.getD_some]
   omega)
  rw [e0]
  clear hN hE
  have q1 := wW (l := x.l) (i := j) (by omega)
  have hl2 : (x.l.getD j default).o = q → last x q = (j : Int) := fun he=>by rw [hl]; simp only [kr,if_pos he]
  generalize x.l.getD j default = e at q1 nx hl2
  have hq : e.d = [.int .i64 e.o,.int .i64 e.s,.int .i64 e.day,.slc (qO e.needs),.slc (qM e.ops),.str e.sl] := rfl
  have w2 : IntKind.i64.wrap ((j : Int) - 1) = (j : Int) - 1 := qw (by omega) (by omega)
  simp +contextual only [hx,qo,qg,qi,q1,hq,w2,↓U72,↓XP,qm,XW1,qa,qb,qc,qd,qe,qf,reduceCtorEq]
  refine fun _=>⟨by omega,fun _=>⟨fun he=>hR _ _ ?_,fun hne=>?_⟩⟩
  ·rw [hl2 he] at h
   simp +contextual only [hx,qo,qg,qi,↓U72,↓XP,qm,XW1,qa,qb,qc,qd,qe,qf,reduceCtorEq]
   exact h
  ·simp only [← hx]
   exact nx hne _ ⟨rfl,rfl,rfl,rfl,trivial⟩
def wR (l : List Pt) (o s : Int) (i : Nat) : Bool := (l.take i).any fun p=>decide (p.o = o) && decide (p.s = s)
theorem Jq {l : List Pt} {o s : Int} {i : Nat} (h : i < l.length) : wR l o s (i + 1) = (wR l o s i || (decide ((l.getD i default).o = o) && decide ((l.getD i default).s = s))) := by
 unfold wR
 rw [List.take_add_one,List.any_append]
 simp [h]
theorem QP {l : List Pt} {o s : Int} {H : AH} {R : D → AH → Prop} (h : R (.bool (known l o s)) H) : ACall Tryz.prog 75 [.slc (j8 l),.int .i64 o,.int .i64 s] H R := by
 refine b75 fun hf=>?_
 have hbig := qt
 have hlen : l.length ≤ big := by have := hf.1; simpa only [fact,qo] using this
 simp +contextual only [x75,↓U75,↓XP,qm,XW1,qa,qb,qc,qd,qe,qf,reduceCtorEq]
 refine XW.loopK hm (fun F H'=>∃ (i : Nat),i ≤ l.length ∧ wR l o s i = false ∧ Fr 30 [(0,.slc (j8 l)),(1,.int .i64 o),(2,.int .i64 s),(7,.int .i64 i)] F ∧ H = H') (fun F H=>match F.getD 7 .any with | .int _ n'=>l.length - n'.toNat | _=>0) ⟨0,by omega,rfl,⟨rfl,rfl,rfl,rfl,rfl,trivial⟩,rfl⟩ ?_
 rintro _ _ ⟨i,hi,hk,hF,rfl⟩ K hN hE hR
 obtain ⟨z,rfl⟩ : ∃ z : Nat → D,_ = .slc (j8 l) :: .int .i64 o :: .int .i64 s :: zz z 3 4 (.int .i64 i :: zz z 8 22 []) := hF.lit
 try dsimp only [zz,qb] at *
 clear hF
 by_cases hlt : i < l.length
 ·have hk1 := Jq (o := o) (s := s) hlt
  rw [hk,Bool.false_or] at hk1
  have nx : wR l o s (i + 1) = false → ∀ F',Fr 30 [(0,.slc (j8 l)),(1,.int .i64 o),(2,.int .i64 s),(7,.int .i64 ((i + 1 : Nat) : Int))] F' → K .normal F' H := fun hk F' hF'=>hN _ _ ⟨i + 1,hlt,hk,hF',(j9 rfl).symm⟩ (by
   rw [List.getD_eq_getElem?_getD,hF'.2.2.2.2.1]
   simp only [List.getD_cons_succ,List.getD_cons_zero,Option.getD_some]
   omega)
  have hkt : wR l o s (i + 1) = true → known l o s = true := fun h=>by
   unfold wR at h
   unfold known
   rw [List.any_eq_true] at h ⊢
   obtain ⟨x,h1,h2⟩ := h
   exact ⟨x,List.mem_of_mem_take h1,h2⟩
  rw [hk1] at nx hkt
  clear hN hE
  have q1 := wW hlt
  generalize l.getD i default = e at q1 nx hkt
  have hq : e.d = [.int .i64 e.o,.int .i64 e.s,.int .i64 e.day,.slc (qO e.needs),.slc (qM e.ops),.str e.sl] := rfl
  simp +contextual only [qo,qg,qi,q1,hq,qp (show i ≤ big by omega),↓U75,↓XP,qm,XW1,qa,qb,qc,qd,qe,qf,reduceCtorEq]
  refine fun _=>⟨fun _ _=>⟨fun ho _=>⟨fun hs=>hR _ _ ?_,fun hs=>?_⟩,fun ho=>?_⟩,fun hge=>absurd (by omega) hge⟩
  ·rw [hkt (by simp [ho,hs])] at h
   simp +contextual only [qo,qg,qi,↓U75,↓XP,qm,XW1,qa,qb,qc,qd,qe,qf,reduceCtorEq]
   exact h
  ·exact nx (by simp [hs]) _ ⟨rfl,rfl,rfl,rfl,rfl,trivial⟩
  ·exact nx (by simp [ho]) _ ⟨rfl,rfl,rfl,rfl,rfl,trivial⟩
 ·have hik : i = l.length := by omega
  subst hik
  clear hN
  simp +contextual only [qo,qg,qi,↓U75,↓XP,qm,XW1,qa,qb,qc,qd,qe,qf,reduceCtorEq]
  refine fun _=>hE _ _ _ ?_
  rw [show known l o s = false by unfold wR at hk; rw [List.take_length] at hk; exact hk] at h
  simp +contextual only [qo,qg,qi,↓U75,↓XP,qm,XW1,qa,qb,qc,qd,qe,qf,reduceCtorEq]
  exact h
def wU (l : List Pt) (p : Pt) (i : Nat) : Bool := (p.needs.take i).all fun r=>known l r.o r.s
theorem QS {l : List Pt} {p : Pt} {i : Nat} (h : i < p.needs.length) : wU l p (i + 1) = (wU l p i && known l (p.needs.getD i default).o (p.needs.getD i default).s) := by
 unfold wU
 rw [List.take_add_one,List.all_append]
 simp [h]
theorem f_ready {l : List Pt} {p : Pt} {H : AH} {R : D → AH → Prop} (hp : 0 ≤ p.s) (hp' : p.s ≤ 1000000) (hn : p.needs.length ≤ 1000000) (h : R (.bool (ready l p)) H) : ACall Tryz.prog 74 [.slc (j8 l),.agg p.d] H R := by
 refine b74 fun hf=>?_
 have hbig := qt
 have hd := @dE p
 have wm : IntKind.i64.wrap (p.s - 1) = p.s - 1 := qw (by omega) (by omega)
 simp +contextual only [x74,hd,↓U74,↓XP,qm,XW1,qa,qb,qc,qd,qe,qf,reduceCtorEq]
 rintro b1 h1
 simp only [← hd]
 refine XW.loopK hm (fun F H'=>∃ (i : Nat),i ≤ p.needs.length ∧ wU l p i = true ∧ Fr 40 [(0,.slc (j8 l)),(3,.ptr b1 0),(5,.int .i64 i)] F ∧ ((b1,AO.cells p.d) :: H) = H') (fun F H=>match F.getD 5 .any with | .int _ n'=>p.needs.length - n'.toNat | _=>0) ⟨0,by omega,rfl,⟨rfl,rfl,rfl,rfl,trivial⟩,rfl⟩ ?_
 rintro _ _ ⟨i,hi,hk,hF,rfl⟩ K hN hE hR
 obtain ⟨z,rfl⟩ : ∃ z : Nat → D,_ = .slc (j8 l) :: zz z 1 2 (.ptr b1 0 :: z 4 :: .int .i64 i :: zz z 6 34 []) := hF.lit
 try dsimp only [zz,qb] at *
 clear hF
 by_cases hlt : i < p.needs.length
 ·have hk1 := QS (l := l) hlt
  rw [hk,Bool.true_and] at hk1
  have nx : wU l p (i + 1) = true → ∀ F',Fr 40 [(0,.slc (j8 l)),(3,.ptr b1 0),(5,.int .i64 ((i + 1 : Nat) : Int))] F' → K .normal F' ((b1,AO.cells p.d) :: H) := fun hk F' hF'=>hN _ _ ⟨i + 1,hlt,hk,hF',(j9 rfl).symm⟩ (by
   rw [List.getD_eq_getElem?_getD,hF'.2.2.2.1]
   simp only [List.getD_cons_succ,List.getD_cons_zero,Option.getD_some]
   omega)
  have hkt : wU l p (i + 1) = false → ready l p = false := fun h=>by
   unfold wU at h
   unfold ready
   rw [Bool.and_eq_false_iff]
   left
   rw [List.all_eq_false] at h ⊢
   obtain ⟨x,h1,h2⟩ := h
   exact ⟨x,List.mem_of_mem_take h1,h2⟩
  rw [hk1] at nx hkt
  clear hN hE
  have q1 := yZ hlt
  generalize p.needs.getD i default = e at q1 nx hkt
  have hq : e.d = [.int .i64 e.o,.int .i64 e.s] := rfl
  simp +contextual only [hd,ql,qg,qi,q1,hq,qp (show i ≤ big by omega),↓U74,↓XP,qm,XW1,qa,qb,qc,qd,qe,qf,reduceCtorEq]
  refine fun _=>⟨fun _ _ _=>⟨_,QP ⟨rfl,rfl⟩,?_⟩,fun hge=>absurd (by omega) hge⟩
  rcases hkk : known l e.o e.s with _ | _
  ·rw [hkt hkk] at h
   simp +contextual only [hd,ql,qg,qi,↓U74,↓XP,qm,XW1,qa,qb,qc,qd,qe,qf,reduceCtorEq]
   refine hR _ _ ?_
   simp +contextual only [hd,ql,qg,qi,↓U74,↓XP,qm,XW1,qa,qb,qc,qd,qe,qf,reduceCtorEq]
   exact h
  ·simp +contextual only [hd,ql,qg,qi,qp (show i ≤ big by omega),↓U74,↓XP,qm,XW1,qa,qb,qc,qd,qe,qf,reduceCtorEq]
   simp only [← hd]
   exact nx hkk _ ⟨rfl,rfl,rfl,rfl,trivial⟩
 ·have hik : i = p.needs.length := by omega
  subst hik
  clear hN
  simp +contextual only [hd,ql,qg,qi,↓U74,↓XP,qm,XW1,qa,qb,qc,qd,qe,qf,reduceCtorEq]
  refine fun _=>hE _ _ _ ?_
  have hr : ready l p = (decide (p.s = 1) || known l p.o (p.s - 1)) := by
   unfold wU at hk
   rw [List.take_length] at hk
   unfold ready
   rw [hk,Bool.true_and]
  rw [hr] at h
  simp +contextual only [hd,ql,qg,qi,wm,↓U74,↓XP,qm,XW1,qa,qb,qc,qd,qe,qf,reduceCtorEq]
  refine fun _=>⟨fun h1=>?_,fun h1 _=>QP ?_⟩
  ·simp only [h1,decide_true,Bool.true_or] at h
   exact h
  ·simp only [h1,decide_false,Bool.false_or] at h
   simp +contextual only [hd,ql,qg,qi,↓U74,↓XP,qm,XW1,qa,qb,qc,qd,qe,qf,reduceCtorEq]
   exact h
end Go.Proofs.YtoeckfegggongaaGreatDoor
end
section
namespace Go.Proofs.YtoeckfegggongaaGreatDoor
open Go Go.Aw
def y7 (seen past : List Bool) (i : Nat) : List Bool := (List.range seen.length).map fun j=>if j < i then seen.getD j false || past.getD j false else seen.getD j false
theorem QL {seen past : List Bool} {i : Nat} : (y7 seen past i).length = seen.length := by simp [y7]
theorem KO {seen past : List Bool} : y7 seen past 0 = seen := by
 refine List.ext_getElem (by simp [y7]) fun j h1 h2=>?_
 simp [y7,h2]
theorem Wr {seen past : List Bool} {i : Nat} (h : i < seen.length) : (y7 seen past i).getD i false = seen.getD i false := by
 simp [y7,h]
theorem Y4 {seen past : List Bool} {i : Nat} (h : i < seen.length) : (y7 seen past i).set i (seen.getD i false || past.getD i false) = y7 seen past (i + 1) := by
 refine List.ext_getElem (by simp [y7]) fun j h1 h2=>?_
 rw [List.getElem_set]
 simp only [y7,List.getElem_map,List.getElem_range]
 split
 ·rename_i e; subst e; rw [if_pos (by omega)]
 ·rename_i e
  by_cases hj : j < i
  ·rw [if_pos hj,if_pos (by omega)]
  ·rw [if_neg hj,if_neg (by omega)]
theorem W9 {x : Gs} {seen : List Bool} {k : Nat} (h : k < seen.length) : (y7 seen (x.past.getD k []) k).set k true = kH x seen k := by
 refine List.ext_getElem (by simp [y7,kH]) fun j h1 h2=>?_
 rw [List.getElem_set]
 simp only [y7,kH,List.getElem_map,List.getElem_range]
 split
 ·rename_i e; subst e; rw [if_pos rfl]
 ·rename_i e; rw [if_neg (Ne.symm e)]
theorem oa {x : Gs} {seen : List Bool} {k : Nat} : (kH x seen k).length = seen.length := by simp [kH]
theorem bl_get {l : List Bool} {i : Nat} (h : i < l.length) : (l.map D.bool)[i]? = some (.bool (l.getD i false)) := by simp [h]
theorem yH {l : List Bool} {i : Nat} {b : Bool} : (l.map D.bool).set i (.bool b) = (l.set i b).map D.bool := List.map_set.symm
theorem yz {x : Gs} {q : Int} : ∀ i,-1 ≤ kr x q i ∧ kr x q i < i
 | 0=>⟨by simp [kr],by simp [kr]⟩
 | i + 1=>by
  have := yz (x := x) (q := q) i
  unfold kr
  split
  ·omega
  ·omega
def Pt.dn (p : Pt) : List D := [.int .i64 p.o,.int .i64 p.s,.int .i64 p.day,.own (qO p.needs),.slc [],.str []]
structure Nx (b3 b6 b8 b9 : Nat) : Prop where
 n39 : b3 ≠ b9
 n38 : b3 ≠ b8
 n36 : b3 ≠ b6
 n89 : b8 ≠ b9
 n69 : b6 ≠ b9
 n68 : b6 ≠ b8
theorem n_inner {x : Gs} {offices n k b3 b6 b8 b9 : Nat} {o q : Int} {m : List Int} {seen : List Bool} {pc : List D} {c6 : AO} {H : AH} {Q : AQ} {F : List D} (nx : Nx b3 b6 b8 b9) (hk : k < x.l.length) (hb : x.l.length ≤ 100) (hn : n = x.l.length) (hs : seen.length = n) (hp : x.past.length = x.l.length) (hpk : (x.past.getD k []).length = k)
  (hF : Fr 139 [(1,.int .i64 offices),(2,.slc (ints m)),(3,.ptr b3 0),(6,.ptr b6 0),(7,.int .i64 o),(8,.ptr b8 0),(9,.hsl b9 n),(10,.int .i64 q),(11,.int .i64 (k : Int)),(12,.int .i64 0)] F) (hE : ∀ F',Fr 139 [(1,.int .i64 offices),(2,.slc (ints m)),(3,.ptr b3 0),(6,.ptr b6 0),(7,.int .i64 o),(8,.ptr b8 0),(9,.hsl b9 n),(10,.int .i64 q),(11,.int .i64 (k : Int))] F' → Q (.exit 2) F' ((b9,.cells ((y7 seen (x.past.getD k []) k).map D.bool)) :: (b8,AO.cells pc) :: (b6,c6) :: (b3,AO.cells [.own (j8 x.l),.own (je x.past)]) :: H)) :
  XW Tryz.prog x43_L2 F ((b9,.cells (seen.map D.bool)) :: (b8,AO.cells pc) :: (b6,c6) :: (b3,AO.cells [.own (j8 x.l),.own (je x.past)]) :: H) Q := by
 have hbig := qt
 obtain ⟨n39,n38,n36,n89,n69,n68⟩ := nx
 refine XW.loopK hm (fun F H'=>∃ (i : Nat),i ≤ k ∧ Fr 139 [(1,.int .i64 offices),(2,.slc (ints m)),(3,.ptr b3 0),(6,.ptr b6 0),(7,.int .i64 o),(8,.ptr b8 0),(9,.hsl b9 n),(10,.int .i64 q),(11,.int .i64 (k : Int)),(12,.int .i64 i)] F ∧ (b9,AO.cells ((y7 seen (x.past.getD k []) i).map D.bool)) :: (b8,AO.cells pc) :: (b6,c6) :: (b3,AO.cells [.own (j8 x.l),.own (je x.past)]) :: H = H') (fun F H=>match F.getD 12 .any with | .int _ n'=>k - n'.toNat | _=>0) ⟨0,by omega,hF,by rw [KO]⟩ ?_
 rintro _ _ ⟨i,hi,hF,rfl⟩ K hN hE' hR
 obtain ⟨z,rfl⟩ : ∃ z : Nat → D,_ = z 0 :: .int .i64 offices :: .slc (ints m) :: .ptr b3 0 :: zz z 4 2 (.ptr b6 0 :: .int .i64 o :: .ptr b8 0 :: .hsl b9 n :: .int .i64 q :: .int .i64 (k : Int) :: .int .i64 i :: zz z 13 126 []) := hF.lit
 try dsimp only [zz,qb] at *
 clear hF
 by_cases hlt : i < k
 ·have nx : ∀ F',Fr 139 [(1,.int .i64 offices),(2,.slc (ints m)),(3,.ptr b3 0),(6,.ptr b6 0),(7,.int .i64 o),(8,.ptr b8 0),(9,.hsl b9 n),(10,.int .i64 q),(11,.int .i64 (k : Int)),(12,.int .i64 ((i + 1 : Nat) : Int))] F' → K .normal F' ((b9,.cells ((y7 seen (x.past.getD k []) (i + 1)).map D.bool)) :: (b8,AO.cells pc) :: (b6,c6) :: (b3,AO.cells [.own (j8 x.l),.own (je x.past)]) :: H) := fun F' hF'=>hN _ _ ⟨i + 1,hlt,hF',(j9 rfl).symm⟩ (by
   rw [List.getD_eq_getElem?_getD,hF'.2.2.2.2.2.2.2.2.2.2.1]
   simp only [List.getD_cons_succ,List.getD_cons_zero,Option.getD_some]
   omega)
  clear hN hE' hR hE
  have hl9 := QL (seen := seen) (past := x.past.getD k []) (i := i)
  rw [← Y4 (by omega)] at nx
  have q1 := bl_get (l := y7 seen (x.past.getD k []) i) (i := i) (by omega)
  rw [Wr (by omega)] at q1
  have q2 := Uc (l := x.past) (i := k) (by omega)
  have q3 := oV (l := x.past.getD k []) (i := i) (by omega)
  have hw : (y7 seen (x.past.getD k []) i).length = n := by omega
  generalize y7 seen (x.past.getD k []) i = s9 at q1 nx hl9 hw ⊢
  generalize (x.past.getD k []).getD i false = pb at q3 nx
  generalize seen.getD i false = sb at q1 nx
  rcases sb with _ | _
  ·simp +contextual only [Nat.mul_one,yH,kj,jw,qg,qi,n39,n38,n36,n89,n69,n68,q1,q2,q3,uS,qp (show i ≤ big by omega),↓uT,↓XP,qm,XW1,qa,qb,qc,qd,qe,qf,reduceCtorEq]
   rw [Bool.false_or] at nx
   exact ⟨fun _=>⟨by omega,fun _=>⟨by omega,fun _=>⟨by omega,by omega,by omega,nx _ ⟨rfl,rfl,rfl,rfl,rfl,rfl,rfl,rfl,rfl,rfl,rfl,trivial⟩⟩⟩⟩,fun hge=>absurd (by omega) hge⟩
  ·simp +contextual only [Nat.mul_one,yH,kj,jw,qg,qi,n39,n38,n36,n89,n69,n68,q1,q2,q3,uS,qp (show i ≤ big by omega),↓uT,↓XP,qm,XW1,qa,qb,qc,qd,qe,qf,reduceCtorEq]
   rw [Bool.true_or] at nx
   exact ⟨fun _=>⟨by omega,by omega,by omega,nx _ ⟨rfl,rfl,rfl,rfl,rfl,rfl,rfl,rfl,rfl,rfl,rfl,trivial⟩⟩,fun hge=>absurd (by omega) hge⟩
 ·have hik : i = k := by omega
  subst hik
  clear hN
  simp +contextual only [Nat.mul_one,yH,kj,jw,qg,qi,n39,n38,n36,n89,n69,n68,uS,↓uT,↓XP,qm,XW1,qa,qb,qc,qd,qe,qf,reduceCtorEq]
  exact hE' _ _ _ (hE _ ⟨rfl,rfl,rfl,rfl,rfl,rfl,rfl,rfl,rfl,rfl,trivial⟩)
end Go.Proofs.YtoeckfegggongaaGreatDoor
end
section
namespace Go.Proofs.YtoeckfegggongaaGreatDoor
open Go Go.Aw
theorem kn {x : Gs} {o : Int} {m : List Int} : ∀ q,(qB x o m q).p.needs.length ≤ q ∧ (qB x o m q).p.ops = [] ∧ (qB x o m q).p.sl = [] ∧ (qB x o m q).seen.length = x.l.length
 | 0=>by simp [qB,pt0]
 | q + 1=>by
  obtain ⟨h1,h2,h3,h4⟩ := kn (x := x) (o := o) (m := m) q
  simp only [qB]
  generalize qB x o m q = s at h1 h2 h3 h4 ⊢
  unfold kJ
  simp only []
  split
  ·exact ⟨by omega,h2,h3,h4⟩
  ·split
   ·exact ⟨by simp only []; omega,h2,h3,by rw [oa]; exact h4⟩
   ·exact ⟨by simp only [List.length_append,List.length_cons,List.length_nil]; omega,h2,h3,by rw [oa]; exact h4⟩
theorem n_mark {x : Gs} {offices n q k b3 b6 b8 b9 : Nat} {o : Int} {m : List Int} {seen : List Bool} {p : Pt} {c6 : AO} {H : AH} {Q : AQ} {F : List D} (nx : Nx b3 b6 b8 b9) (hof : offices ≤ 10) (hb : x.l.length ≤ 100) (hn : n = x.l.length) (hs : seen.length = n) (hk : k < x.l.length) (hq : q ≤ 10) (hne : p.needs.length ≤ 10) (hxs : ∀ p ∈ x.l,0 ≤ p.s ∧ p.s ≤ 1000)
  (hfr : qK H b8 = none)
  (hF : Fr 139 [(1,.int .i64 offices),(2,.slc (ints m)),(3,.ptr b3 0),(6,.ptr b6 0),(7,.int .i64 o),(8,.ptr b8 0),(9,.hsl b9 n),(10,.int .i64 (q : Int)),(11,.int .i64 (k : Int))] F) (hE : ∀ p2,p2 = (let pk := x.l.getD k default; let p1 := { p with day := max p.day pk.day }; if (q : Int) = o then { p1 with s := pk.s + 1 } else { p1 with needs := p1.needs ++ [⟨q,pk.s⟩] }) → ∀ F',Fr 139 [(1,.int .i64 offices),(2,.slc (ints m)),(3,.ptr b3 0),(6,.ptr b6 0),(7,.int .i64 o),(8,.ptr b8 0),(9,.hsl b9 n),(10,.int .i64 (q : Int)),(11,.int .i64 (k : Int))] F' → Q .normal F' ((b9,AO.cells ((kH x seen k).map D.bool)) :: (b8,AO.cells p2.dn) :: (b6,c6) :: (b3,AO.cells [.own (j8 x.l),.own (je x.past)]) :: H)) :
  xcode Tryz.prog x43_s7 F ((b9,AO.cells ((y7 seen (x.past.getD k []) k).map D.bool)) :: (b8,AO.cells p.dn) :: (b6,c6) :: (b3,AO.cells [.own (j8 x.l),.own (je x.past)]) :: H) Q := by
 have hbig := qt
 obtain ⟨n39,n38,n36,n89,n69,n68⟩ := nx
 obtain ⟨z,rfl⟩ : ∃ z : Nat → D,_ = z 0 :: .int .i64 offices :: .slc (ints m) :: .ptr b3 0 :: zz z 4 2 (.ptr b6 0 :: .int .i64 o :: .ptr b8 0 :: .hsl b9 n :: .int .i64 (q : Int) :: .int .i64 (k : Int) :: zz z 12 127 []) := hF.lit
 try dsimp only [zz,qb] at *
 clear hF
 have q1 := wW hk
 obtain ⟨e1,e2⟩ := hxs (x.l.getD k default) (by rw [jk hk]; exact List.getElem_mem hk)
 rw [← W9 (by omega)] at hE
 have hl9 := QL (seen := seen) (past := x.past.getD k []) (i := k)
 generalize y7 seen (x.past.getD k []) k = s9 at hE hl9 ⊢
 generalize x.l.getD k default = e at q1 hE e1 e2
 have hd := @dE e
 have hdn : p.dn = [.int .i64 p.o,.int .i64 p.s,.int .i64 p.day,.own (qO p.needs),.slc [],.str []] := rfl
 have hmx : (if e.day > p.day then e.day else p.day) = max p.day e.day := by rw [Int.max_def]; split <;> split <;> omega
 have ws : IntKind.i64.wrap (e.s + 1) = e.s + 1 := qw (by omega) (by omega)
 by_cases hqo : (q : Int) = o
 ·subst hqo
  simp only [if_true] at hE
  simp +contextual only [Nat.mul_one,yH,qo,kj,jw,ql,qg,qi,kv,n39,n38,n36,n89,n69,n68,uS,q1,hd,hdn,hmx,ws,↓uT,↓XP,qm,XW1,qa,qb,qc,qd,qe,qf,reduceCtorEq]
  exact ⟨by omega,by omega,fun _ _=>⟨by omega,fun _=>⟨by omega,by omega,fun _=>⟨by omega,hE _ rfl _ ⟨rfl,rfl,rfl,rfl,rfl,rfl,rfl,rfl,rfl,rfl,trivial⟩⟩⟩⟩⟩
 ·simp only [if_neg hqo] at hE
  simp +contextual only [Nat.mul_one,yH,qo,kj,jw,ql,qg,qi,kv,n39,n38,n36,n89,n69,n68,uS,q1,hd,hdn,hmx,ws,hqo,hfr,↓uT,↓XP,qm,XW1,qa,qb,qc,qd,qe,qf,reduceCtorEq]
  refine ⟨by omega,by omega,fun _ _=>⟨by omega,fun _=>⟨by omega,by rw [qg (Ne.symm n68),qg (Ne.symm n38)]; exact hfr,by omega,fun _=>⟨uD,by omega,by omega,?_⟩⟩⟩⟩
  have hh := fun F'=>hE _ rfl F'
  simp only [Pt.dn,← gC] at hh
  exact hh _ ⟨rfl,rfl,rfl,rfl,rfl,rfl,rfl,rfl,rfl,rfl,trivial⟩
theorem n_outer {x : Gs} {offices n b3 b6 b8 b9 : Nat} {o : Int} {m : List Int} {c6 : AO} {H : AH} {Q : AQ} {F : List D} (nx : Nx b3 b6 b8 b9) (hof : offices ≤ 10) (hb : x.l.length ≤ 100) (hn : n = x.l.length) (hp : x.past.length = x.l.length) (hpk : ∀ k,k < x.l.length → (x.past.getD k []).length = k) (hxs : ∀ p ∈ x.l,0 ≤ p.s ∧ p.s ≤ 1000)
  (hfr : qK H b8 = none) (hF : Fr 139 [(1,.int .i64 offices),(2,.slc (ints m)),(3,.ptr b3 0),(6,.ptr b6 0),(7,.int .i64 o),(8,.ptr b8 0),(9,.hsl b9 n),(10,.int .i64 0)] F) (hE : ∀ F',Fr 139 [(1,.int .i64 offices),(2,.slc (ints m)),(3,.ptr b3 0),(6,.ptr b6 0),(7,.int .i64 o),(8,.ptr b8 0),(9,.hsl b9 n)] F' → ∀ s,s = qB x o m offices → Q (.exit 0) F' ((b9,AO.cells (s.seen.map D.bool)) :: (b8,AO.cells s.p.dn) :: (b6,c6) :: (b3,AO.cells [.own (j8 x.l),.own (je x.past)]) :: H)) :
  ∀ s,s = qB x o m 0 → XW Tryz.prog x43_L11 F ((b9,AO.cells (s.seen.map D.bool)) :: (b8,AO.cells s.p.dn) :: (b6,c6) :: (b3,AO.cells [.own (j8 x.l),.own (je x.past)]) :: H) Q := by
 intro s0 hs0
 have hbig := qt
 have nx0 := nx
 obtain ⟨n39,n38,n36,n89,n69,n68⟩ := nx
 refine XW.loopK hm (fun F H'=>∃ (q : Nat) (s : Ns),q ≤ offices ∧ s = qB x o m q ∧ Fr 139 [(1,.int .i64 offices),(2,.slc (ints m)),(3,.ptr b3 0),(6,.ptr b6 0),(7,.int .i64 o),(8,.ptr b8 0),(9,.hsl b9 n),(10,.int .i64 (q : Int))] F ∧ ((b9,AO.cells (s.seen.map D.bool)) :: (b8,AO.cells s.p.dn) :: (b6,c6) :: (b3,AO.cells [.own (j8 x.l),.own (je x.past)]) :: H) = H') (fun F H=>match F.getD 10 .any with | .int _ n'=>offices - n'.toNat | _=>0) ⟨0,s0,by omega,hs0,hF,rfl⟩ ?_
 clear hF hs0 s0
 rintro _ _ ⟨q,s,hq,hs,hF,rfl⟩ K hN hE' hR
 obtain ⟨z,rfl⟩ : ∃ z : Nat → D,_ = z 0 :: .int .i64 offices :: .slc (ints m) :: .ptr b3 0 :: zz z 4 2 (.ptr b6 0 :: .int .i64 o :: .ptr b8 0 :: .hsl b9 n :: .int .i64 (q : Int) :: zz z 11 128 []) := hF.lit
 try dsimp only [zz,qb] at *
 clear hF hR
 by_cases hlt : q < offices
 ·have nx : ∀ F' s2,s2 = kJ x o m q s → Fr 139 [(1,.int .i64 offices),(2,.slc (ints m)),(3,.ptr b3 0),(6,.ptr b6 0),(7,.int .i64 o),(8,.ptr b8 0),(9,.hsl b9 n),(10,.int .i64 ((q + 1 : Nat) : Int))] F' → K .normal F' ((b9,AO.cells (s2.seen.map D.bool)) :: (b8,AO.cells s2.p.dn) :: (b6,c6) :: (b3,AO.cells [.own (j8 x.l),.own (je x.past)]) :: H) := fun F' s2 h2 hF'=>hN _ _ ⟨q + 1,s2,hlt,by rw [h2,hs]; rfl,hF',(j9 rfl).symm⟩ (by
   rw [List.getD_eq_getElem?_getD,hF'.2.2.2.2.2.2.2.2.1]
   simp only [List.getD_cons_succ,List.getD_cons_zero,Option.getD_some]
   omega)
  clear hN hE' hE
  obtain ⟨g1,g2,g3,g4⟩ := kn (x := x) (o := o) (m := m) q
  rw [← hs] at g1 g2 g3 g4
  clear hs
  obtain ⟨r1,r2⟩ := yz (x := x) (q := q) x.l.length
  have hx : x.d = [.slc (j8 x.l),.slc (je x.past)] := rfl
  have wq : IntKind.i64.wrap (1 + (q : Int)) = ((1 + q : Nat) : Int) := by rw [qw (by omega) (by omega)]; omega
  have a0 := qz (l := m) (i := 1 + q) (most := 4) (by omega)
  have k1 : ∀ j : Nat,((j : Int) < 0) = False := fun j=>by simp
  simp +contextual only [Nat.mul_one,yH,qo,kj,jw,ql,qg,qi,kv,n39,n38,n36,n89,n69,n68,uS,↓uT,↓XP,qm,XW1,qa,qb,qc,qd,qe,qf,reduceCtorEq]
  refine ⟨fun _=>f_last (x := x) hb ?_,fun hge=>absurd (by omega) hge⟩
  by_cases hk0 : last x q < 0
  ·simp +contextual only [Nat.mul_one,yH,qo,kj,jw,ql,qg,qi,kv,n39,n38,n36,n89,n69,n68,uS,hk0,qp (show q ≤ big by omega),↓uT,↓XP,qm,XW1,qa,qb,qc,qd,qe,qf,reduceCtorEq]
   refine fun _=>nx _ s ?_ ⟨rfl,rfl,rfl,rfl,rfl,rfl,rfl,rfl,rfl,trivial⟩
   unfold kJ
   simp only [if_pos (Or.inl hk0)]
  ·obtain ⟨k,hk⟩ : ∃ k : Nat,last x q = k := ⟨(last x q).toNat,by omega⟩
   have hkl : k < x.l.length := by unfold last at hk; omega
   have hgo : ((q : Int) ≠ o → ¬ qE m (1 + q) 4 = 1) → ∀ p2,p2 = (let pk := x.l.getD k default; let p1 := { s.p with day := max s.p.day pk.day }; if (q : Int) = o then { p1 with s := pk.s + 1 } else { p1 with needs := p1.needs ++ [⟨q,pk.s⟩] }) → kJ x o m q s = ⟨p2,kH x s.seen k⟩ := by
    rintro h1 p2 rfl
    unfold kJ
    simp only [hk,Int.toNat_natCast]
    rw [if_neg (fun h=>h.elim (by omega) (fun h=>h1 h.1 h.2))]
   have go : ((q : Int) ≠ o → ¬ qE m (1 + q) 4 = 1) → ∀ F',Fr 139 [(1,.int .i64 offices),(2,.slc (ints m)),(3,.ptr b3 0),(6,.ptr b6 0),(7,.int .i64 o),(8,.ptr b8 0),(9,.hsl b9 n),(10,.int .i64 (q : Int)),(11,.int .i64 (k : Int)),(12,.int .i64 0)] F' → XW Tryz.prog x43_L2 F' ((b9,AO.cells (s.seen.map D.bool)) :: (b8,AO.cells s.p.dn) :: (b6,c6) :: (b3,AO.cells [.own (j8 x.l),.own (je x.past)]) :: H) (kT 2 (Jh Tryz.prog x43_s7 (kT 1 (Jh Tryz.prog x43_s9 K)))) := fun hc F' hF'=>by
    refine n_inner nx0 hkl hb hn (by omega) hp (hpk k hkl) hF' (fun F'' hF''=>?_)
    simp only [K6,VL,beq_self_eq_true,VZ]
    refine n_mark nx0 hof hb hn (by omega) hkl (by omega) (by omega) hxs hfr hF'' (fun p2 hp2 F3 hF3=>?_)
    obtain ⟨z,rfl⟩ : ∃ z : Nat → D,_ = z 0 :: .int .i64 offices :: .slc (ints m) :: .ptr b3 0 :: zz z 4 2 (.ptr b6 0 :: .int .i64 o :: .ptr b8 0 :: .hsl b9 n :: .int .i64 (q : Int) :: .int .i64 (k : Int) :: zz z 12 127 []) := hF3.lit
    try dsimp only [zz,qb] at *
    simp +contextual only [Nat.mul_one,yH,qo,kj,jw,ql,qg,qi,kv,n39,n38,n36,n89,n69,n68,uS,qp (show q ≤ big by omega),↓uT,↓XP,qm,XW1,qa,qb,qc,qd,qe,qf,reduceCtorEq]
    exact nx _ ⟨p2,kH x s.seen k⟩ (hgo hc p2 hp2).symm ⟨rfl,rfl,rfl,rfl,rfl,rfl,rfl,rfl,rfl,trivial⟩
   rw [hk]
   by_cases hqo : (q : Int) = o
   ·subst hqo
    simp +contextual only [Nat.mul_one,yH,qo,kj,jw,ql,qg,qi,kv,n39,n38,n36,n89,n69,n68,uS,k1,↓uT,↓XP,qm,XW1,qa,qb,qc,qd,qe,qf,reduceCtorEq]
    exact fun _=>go (fun h=>(h rfl).elim) _ ⟨rfl,rfl,rfl,rfl,rfl,rfl,rfl,rfl,rfl,rfl,rfl,trivial⟩
   ·simp +contextual only [Nat.mul_one,yH,qo,kj,jw,ql,qg,qi,kv,n39,n38,n36,n89,n69,n68,uS,k1,hqo,wq,↓uT,↓XP,qm,XW1,qa,qb,qc,qd,qe,qf,reduceCtorEq]
    refine fun _=>jL (i := 1 + q) (by omega) ?_
    by_cases ha : qE m (1 + q) 4 = 1
    ·simp +contextual only [Nat.mul_one,yH,qo,kj,jw,ql,qg,qi,kv,n39,n38,n36,n89,n69,n68,uS,ha,qp (show q ≤ big by omega),↓uT,↓XP,qm,XW1,qa,qb,qc,qd,qe,qf,reduceCtorEq]
     refine fun _=>nx _ s ?_ ⟨rfl,rfl,rfl,rfl,rfl,rfl,rfl,rfl,rfl,trivial⟩
     unfold kJ
     simp only [if_pos (Or.inr (And.intro hqo ha))]
    ·simp +contextual only [Nat.mul_one,yH,qo,kj,jw,ql,qg,qi,kv,n39,n38,n36,n89,n69,n68,uS,ha,k1,↓uT,↓XP,qm,XW1,qa,qb,qc,qd,qe,qf,reduceCtorEq]
     exact fun _=>go (fun _=>ha) _ ⟨rfl,rfl,rfl,rfl,rfl,rfl,rfl,rfl,rfl,rfl,rfl,trivial⟩
 ·have hik : q = offices := by omega
  subst hik
  clear hN
  simp +contextual only [Nat.mul_one,yH,qo,kj,jw,ql,qg,qi,kv,n39,n38,n36,n89,n69,n68,uS,↓uT,↓XP,qm,XW1,qa,qb,qc,qd,qe,qf,reduceCtorEq]
  exact hE' _ _ _ (hE _ ⟨rfl,rfl,rfl,rfl,rfl,rfl,rfl,rfl,trivial⟩ s hs)
end Go.Proofs.YtoeckfegggongaaGreatDoor
end
section
namespace Go.Proofs.YtoeckfegggongaaGreatDoor
open Go Go.Aw
def K8 (o : OpP) : Prop := o.k = 16 → o.ids.length = 2
structure More (p p' : Pt) (c : Nat) (more : List OpP) : Prop where
 eq : p' = { p with ops := p.ops ++ more }
 len : more.length ≤ c
 ok : ∀ o ∈ more,K8 o
theorem More.refl (p : Pt) : More p p 0 [] := ⟨by simp,by simp,by simp⟩
theorem More.trans {p p' p'' : Pt} {c c' : Nat} {a b : List OpP} (h : More p p' c a) (g : More p' p'' c' b) : More p p'' (c + c') (a ++ b) := by
 refine ⟨?_,by have := h.len; have := g.len; rw [List.length_append]; omega,fun o ho=>(List.mem_append.1 ho).elim (h.ok o) (g.ok o)⟩
 rw [g.eq,h.eq]
 simp only [List.append_assoc]
theorem More.le {p p' : Pt} {c c' : Nat} {a : List OpP} (h : More p p' c a) (hc : c ≤ c') : More p p' c' a := ⟨h.eq,Nat.le_trans h.len hc,h.ok⟩
theorem More.one (p : Pt) {o : OpP} (h : K8 o) : More p (j6 p o) 1 [o] := ⟨rfl,by simp,fun x hx=>by rw [List.mem_singleton.1 hx]; exact h⟩
theorem kz {o : OpP} (h : o.k ≠ 16) : K8 o := fun h'=>(h h').elim
theorem yr (p : Pt) (on : Id3) (m : List Int) : ∃ more,More p (meaning p on m) 3 more := by
 unfold meaning
 simp only []
 have h1 := (More.one p (o := { op0 with k := 2,on := on,n := qE m 2 5 }) (kz (by simp))).trans (More.one _ (o := { op0 with k := 7,on := jv p,text := gloss (m.drop 3) }) (kz (by simp)))
 split
 ·exact ⟨_,h1.le (by omega)⟩
 ·exact ⟨_,h1.trans (More.one _ (kz (by simp)))⟩
theorem Ke (x : Gs) (seen : List Bool) (p : Pt) (sense : Id3) (m : List Int) : ∃ more,More p (quoted x seen p sense m) 2 more := by
 unfold quoted
 simp only []
 split
 ·exact ⟨_,(More.one p (kz (by simp))).trans (More.one _ (kz (by simp)))⟩
 ·exact ⟨_,(More.one p (kz (by simp))).le (by omega)⟩
theorem Jn (p : Pt) (entry sense : Id3) (m : List Int) : ∃ more,More p (divided p entry sense m) 7 more := by
 unfold divided
 simp only []
 obtain ⟨a,h1⟩ := yr p entry m
 obtain ⟨b,h2⟩ := yr (meaning p entry m) entry (m.drop 1)
 exact ⟨_,(h1.trans h2).trans (More.one _ (fun _=>rfl))⟩
theorem UG {sense other : Id3} {n : Int} {m : List Int} : K8 (small sense other n m) := by
 refine kz ?_
 unfold small
 repeat' split
 all_goals simp
theorem uk (p : Pt) (sense other : Id3) (n : Int) (m : List Int) : ∃ more,More p (yd p sense other n m) 1 more := ⟨_,More.one p UG⟩
theorem Qj (x : Gs) (seen : List Bool) (p : Pt) (m : List Int) : ∃ more,More p (step x seen p m) 7 more ∧ ((visible x seen p 2).length = 0 → ∃ o ∈ more,o.k = 1) := by
 have one : (visible x seen p 2).length ≠ 0 → ∀ {p' : Pt} {c : Nat},(∃ more,More p p' c more) → c ≤ 7 → ∃ more,More p p' 7 more ∧ ((visible x seen p 2).length = 0 → ∃ o ∈ more,o.k = 1) := fun hv p' c ⟨more,h⟩ hc=>⟨more,h.le hc,fun h=>(hv h).elim⟩
 have w : ∀ {o : OpP},o.k ≠ 16 → ∃ more,More p (j6 p o) 1 more := fun h=>⟨_,More.one p (kz h)⟩
 unfold step
 dsimp only
 by_cases c0 : (visible x seen p 2).length = 0 ∨ qE m 0 24 ≤ 5
 ·rw [if_pos c0]
  obtain ⟨b,h2⟩ := yr (j6 p { op0 with k := 1,name := cls5.getD (jC m 1 5) [],text := heads8.getD (jC m 2 8) [] }) (jv p) (m.drop 3)
  exact ⟨_,((More.one p (kz (by show (1 : Int) ≠ 16; decide))).trans h2).le (by omega),fun _=>⟨_,List.mem_append_left _ (List.mem_singleton.2 rfl),rfl⟩⟩
 ·rw [if_neg c0]
  refine one (fun h=>c0 (.inl h)) (c := 7) ?_ (by omega)
  have le : ∀ {p' : Pt} {c : Nat},(∃ more,More p p' c more) → c ≤ 7 → ∃ more,More p p' 7 more := fun ⟨more,h⟩ hc=>⟨more,h.le hc⟩
  generalize (visible x seen p 1).getD _ _ = entry
  generalize (visible x seen p 2).getD (jC m 1 _) _ = sense
  generalize (visible x seen p 2).getD (jC m 2 _) _ = other
  generalize qE m 0 24 = n
  by_cases c1 : n = 6
  ·rw [if_pos c1]; exact le (yr _ _ _) (by omega)
  rw [if_neg c1]
  by_cases c2 : n = 7
  ·rw [if_pos c2]; exact le (yr _ _ _) (by omega)
  rw [if_neg c2]
  by_cases c3 : n = 8 ∨ n = 9
  ·rw [if_pos c3]; exact le (Ke _ _ _ _ _) (by omega)
  rw [if_neg c3]
  by_cases c4 : n = 10
  ·rw [if_pos c4]; exact le (Jn _ _ _ _) (by omega)
  rw [if_neg c4]
  by_cases c5 : n = 11
  ·rw [if_pos c5]
   by_cases d1 : other = sense
   ·rw [if_pos d1]; exact le (uk _ _ _ _ _) (by omega)
   ·rw [if_neg d1]; exact le (w (by show (17 : Int) ≠ 16; decide)) (by omega)
  rw [if_neg c5]
  by_cases c6 : n = 12
  ·rw [if_pos c6]
   by_cases d1 : (splits x seen p).length = 0
   ·rw [if_pos d1]; exact le (uk _ _ _ _ _) (by omega)
   ·rw [if_neg d1]; exact le (w (by show (18 : Int) ≠ 16; decide)) (by omega)
  rw [if_neg c6]
  by_cases c7 : n = 13
  ·rw [if_pos c7]
   by_cases d1 : qE m 2 2 = 0
   ·rw [if_pos d1]; exact le (w (by show (5 : Int) ≠ 16; decide)) (by omega)
   ·rw [if_neg d1]; exact le (w (by show (6 : Int) ≠ 16; decide)) (by omega)
  rw [if_neg c7]
  by_cases c8 : n = 14
  ·rw [if_pos c8]
   by_cases d1 : (visible x seen p 3).length = 0
   ·rw [if_pos d1]; exact le (uk _ _ _ _ _) (by omega)
   ·rw [if_neg d1]; exact le (w (by show (11 : Int) ≠ 16; decide)) (by omega)
  rw [if_neg c8]
  exact le (uk _ _ _ _ _) (by omega)
theorem mem_visOne {p : Pt} {kind : Int} {ok : Bool} {i : Id3} : i ∈ jY p kind ok ↔ ok = true ∧ ∃ k,k < p.ops.length ∧ (p.ops.getD k default).k = kind ∧ i = ⟨p.o,p.s,k⟩ := by
 unfold jY
 rw [upto_mem]
 constructor
 ·rintro ⟨k,hk,h⟩
  unfold jX at h
  split at h
  ·rename_i hc
   exact ⟨hc.1,k,hk,hc.2,List.mem_singleton.1 h⟩
  ·cases h
 ·rintro ⟨h1,k,hk,h2,h3⟩
  refine ⟨k,hk,?_⟩
  unfold jX
  rw [if_pos ⟨h1,h2⟩,h3]
  exact List.mem_singleton.2 rfl
theorem vis_one {p : Pt} {kind : Int} : (jY p kind true).length ≠ 0 ↔ ∃ o ∈ p.ops,o.k = kind := by
 constructor
 ·intro h
  obtain ⟨i,hi⟩ := List.exists_mem_of_length_pos (Nat.pos_of_ne_zero h)
  obtain ⟨_,k,hk,h2,_⟩ := mem_visOne.1 hi
  exact ⟨p.ops.getD k default,by rw [jk hk]; exact List.getElem_mem hk,h2⟩
 ·rintro ⟨o,ho,h2⟩ h
  obtain ⟨k,hk,rfl⟩ := List.mem_iff_getElem.1 ho
  have := List.eq_nil_of_length_eq_zero h ▸ (mem_visOne (p := p) (kind := kind) (ok := true) (i := ⟨p.o,p.s,k⟩)).2 ⟨rfl,k,hk,by rw [jk hk]; exact h2,rfl⟩
  cases this
theorem vis_ne {x : Gs} {seen : List Bool} {p : Pt} {kind : Int} : (visible x seen p kind).length ≠ 0 ↔ (∃ i,i < x.l.length ∧ seen.getD i false = true ∧ ∃ o ∈ (x.l.getD i default).ops,o.k = kind) ∨ ∃ o ∈ p.ops,o.k = kind := by
 unfold visible
 rw [List.length_append,← vis_one]
 constructor
 ·intro h
  by_cases hp : (jY p kind true).length = 0
  ·left
   obtain ⟨i,hi⟩ := List.exists_mem_of_length_pos (l := upto (fun i=>jY (x.l.getD i default) kind (seen.getD i false)) x.l.length) (by omega)
   obtain ⟨j,hj,h2⟩ := upto_mem.1 hi
   obtain ⟨h3,k,hk,h4,_⟩ := mem_visOne.1 h2
   exact ⟨j,hj,h3,(x.l.getD j default).ops.getD k default,by rw [jk hk]; exact List.getElem_mem hk,h4⟩
  ·exact .inr hp
 ·rintro (⟨i,hi,hs,o,ho,h2⟩ | h)
  ·obtain ⟨k,hk,rfl⟩ := List.mem_iff_getElem.1 ho
   have : (⟨(x.l.getD i default).o,(x.l.getD i default).s,k⟩ : Id3) ∈ upto (fun i=>jY (x.l.getD i default) kind (seen.getD i false)) x.l.length := upto_mem.2 ⟨i,hi,mem_visOne.2 ⟨hs,k,hk,by rw [jk hk]; exact h2,rfl⟩⟩
   have := List.length_pos_of_mem this
   omega
  ·omega
def Cl (x : Gs) (seen : List Bool) (n : Nat) : Prop := ∀ i,i < n → seen.getD i false = true → ∀ j,j < i → (x.past.getD i []).getD j false = true → seen.getD j false = true
structure GInv (x : Gs) : Prop where
 np : x.past.length = x.l.length
 pk : ∀ k,k < x.l.length → (x.past.getD k []).length = k
 sq : ∀ p ∈ x.l,0 ≤ p.s ∧ p.s ≤ x.l.length
 op : ∀ p ∈ x.l,p.ops.length ≤ 14
 dy : ∀ p ∈ x.l,1 ≤ p.day ∧ p.day ≤ 1 + 4 * x.l.length
 ne : ∀ p ∈ x.l,p.needs.length ≤ 10
 spl : ∀ p ∈ x.l,∀ o ∈ p.ops,K8 o
 ent : ∀ i,i < x.l.length → (∃ o ∈ (x.l.getD i default).ops,o.k = 2) → ∃ j,(j = i ∨ (j < i ∧ (x.past.getD i []).getD j false = true)) ∧ ∃ o ∈ (x.l.getD j default).ops,o.k = 1
 cl : ∀ k,k < x.l.length → Cl x (x.past.getD k []) k
theorem GInv.nil : GInv ⟨[],[]⟩ := ⟨rfl,by simp,by simp,by simp,by simp,by simp,by simp,by simp,by simp⟩
theorem QZ {x : Gs} {seen : List Bool} {k i : Nat} (h : i < seen.length) : (kH x seen k).getD i false = if i = k then true else if i < k then seen.getD i false || (x.past.getD k []).getD i false else seen.getD i false := by
 simp [kH,h]
theorem cl_with {x : Gs} (hx : GInv x) {seen : List Bool} (hl : seen.length = x.l.length) {k : Nat} (hk : k < x.l.length) (h : Cl x seen x.l.length) : Cl x (kH x seen k) x.l.length := by
 intro i hi h1 j hj h2
 rw [QZ (by omega)] at h1 ⊢
 by_cases hjk : j = k
 ·rw [if_pos hjk]
 ·rw [if_neg hjk]
  by_cases hik : i = k
  ·subst hik
   rw [if_pos hj,h2,Bool.or_true]
  ·rw [if_neg hik] at h1
   by_cases hik' : i < k
   ·rw [if_pos hik',Bool.or_eq_true] at h1
    rw [if_pos (by omega),Bool.or_eq_true]
    rcases h1 with h1 | h1
    ·exact .inl (h i hi h1 j hj h2)
    ·exact .inr (hx.cl k hk i hik' h1 j hj h2)
   ·rw [if_neg hik'] at h1
    have := h i hi h1 j hj h2
    split
    ·rw [this,Bool.true_or]
    ·exact this
theorem yU {x : Gs} (hx : GInv x) {o : Int} {m : List Int} : ∀ q,Cl x (qB x o m q).seen x.l.length ∧ 0 ≤ (qB x o m q).p.s ∧ (qB x o m q).p.s ≤ x.l.length + 1 ∧ 1 ≤ (qB x o m q).p.day ∧ (qB x o m q).p.day ≤ 1 + 4 * x.l.length
 | 0=>by
  refine ⟨fun i hi h1=>?_,by simp only [qB]; omega,by simp only [qB]; omega,by simp only [qB]; omega,by simp only [qB]; omega⟩
  simp only [qB] at h1
  rw [List.getD_eq_getElem?_getD,List.getElem?_replicate] at h1
  split at h1 <;> cases h1
 | q + 1=>by
  obtain ⟨h1,h2,h3,h5,h6⟩ := yU hx (o := o) (m := m) q
  obtain ⟨_,_,_,h4⟩ := kn (x := x) (o := o) (m := m) q
  obtain ⟨r1,r2⟩ := yz (x := x) (q := q) x.l.length
  simp only [qB]
  generalize qB x o m q = s at h1 h2 h3 h4 h5 h6 ⊢
  unfold kJ
  simp only []
  split
  ·exact ⟨h1,h2,h3,h5,h6⟩
  ·rename_i hc
   have hk : (last x q).toNat < x.l.length := by
    unfold last at hc ⊢
    have : ¬ kr x q x.l.length < 0 := fun h=>hc (.inl h)
    omega
   have hd := hx.dy (x.l.getD (last x q).toNat default) (by rw [jk hk]; exact List.getElem_mem hk)
   have hs := hx.sq (x.l.getD (last x q).toNat default) (by rw [jk hk]; exact List.getElem_mem hk)
   refine ⟨cl_with hx h4 hk h1,?_⟩
   split
   ·exact ⟨by simp only []; omega,by simp only []; omega,by simp only []; omega,by simp only []; omega⟩
   ·exact ⟨h2,h3,by simp only []; omega,by simp only []; omega⟩
def VOk (x : Gs) (seen : List Bool) (p : Pt) : Prop := (visible x seen p 2).length ≠ 0 → (visible x seen p 1).length ≠ 0
theorem VOk.step {x : Gs} {seen : List Bool} {p : Pt} (h : VOk x seen p) (m : List Int) : VOk x seen (step x seen p m) := by
 obtain ⟨more,h1,h2⟩ := Qj x seen p m
 generalize Go.Proofs.YtoeckfegggongaaGreatDoor.step x seen p m = p' at h1 ⊢
 intro _
 by_cases hv : (visible x seen p 2).length = 0
 ·obtain ⟨o,ho,hk⟩ := h2 hv
  exact vis_ne.2 (.inr ⟨o,by rw [h1.eq]; exact List.mem_append_right _ ho,hk⟩)
 ·rcases vis_ne.1 (h hv) with h3 | ⟨o,ho,hk⟩
  ·exact vis_ne.2 (.inl h3)
  ·exact vis_ne.2 (.inr ⟨o,by rw [h1.eq]; exact List.mem_append_left _ ho,hk⟩)
theorem VOk.base {x : Gs} (hx : GInv x) {seen : List Bool} (hc : Cl x seen x.l.length) {p : Pt} (hp : p.ops = []) : VOk x seen p := by
 intro h
 rcases vis_ne.1 h with ⟨i,hi,hs,o,ho,hk⟩ | ⟨o,ho,_⟩
 ·obtain ⟨j,hj,h1⟩ := hx.ent i hi ⟨o,ho,hk⟩
  rcases hj with rfl | ⟨hj,h2⟩
  ·exact vis_ne.2 (.inl ⟨j,hi,hs,h1⟩)
  ·exact vis_ne.2 (.inl ⟨j,by omega,hc i hi hs j hj h2,h1⟩)
 ·rw [hp] at ho; cases ho
theorem wB {x : Gs} {seen : List Bool} {p : Pt} {m : List Int} (hp : p.ops = []) (hv : VOk x seen p) : ∀ i,∃ more,More p (jg x seen p m i) (7 * i) more ∧ VOk x seen (jg x seen p m i)
 | 0=>⟨[],More.refl p,hv⟩
 | i + 1=>by
  obtain ⟨a,h1,h2⟩ := wB (m := m) hp hv i
  obtain ⟨b,h3,_⟩ := Qj x seen (jg x seen p m i) (m.drop (6 + 13 * i))
  exact ⟨_,(h1.trans h3).le (by omega),h2.step _⟩
theorem Ww {x : Gs} (hx : GInv x) {seen : List Bool} {p : Pt} (hp : ∀ o ∈ p.ops,K8 o) : ∀ o ∈ splits x seen p,o.ids.length = 2 := by
 have one : ∀ {q : Pt} {ok : Bool},(∀ o ∈ q.ops,K8 o) → ∀ o ∈ kw q ok,o.ids.length = 2 := by
  intro q ok hq o ho
  unfold kw at ho
  obtain ⟨k,hk,h⟩ := upto_mem.1 ho
  unfold jW at h
  split at h
  ·rename_i hc
   rw [List.mem_singleton.1 h]
   exact hq _ (by rw [jk hk]; exact List.getElem_mem hk) hc.2
  ·cases h
 intro o ho
 unfold splits at ho
 rcases List.mem_append.1 ho with h | h
 ·obtain ⟨i,hi,h⟩ := upto_mem.1 h
  exact one (hx.spl _ (by rw [jk hi]; exact List.getElem_mem hi)) o h
 ·exact one hp o h
theorem Qq {x : Gs} (hx : GInv x) {offices : Nat} (hof : offices ≤ 10) {m : List Int} : ∃ more,More { (qB x (qE m 0 offices) m offices).p with day := (qB x (qE m 0 offices) m offices).p.day + qE m 4 4 } (jg x (qB x (qE m 0 offices) m offices).seen { (qB x (qE m 0 offices) m offices).p with day := (qB x (qE m 0 offices) m offices).p.day + qE m 4 4 } m (1 + jC m 5 2)) 14 more ∧
  VOk x (qB x (qE m 0 offices) m offices).seen (jg x (qB x (qE m 0 offices) m offices).seen { (qB x (qE m 0 offices) m offices).p with day := (qB x (qE m 0 offices) m offices).p.day + qE m 4 4 } m (1 + jC m 5 2)) := by
 obtain ⟨h1,h2,h3,h5,h6⟩ := yU hx (o := qE m 0 offices) (m := m) offices
 obtain ⟨g1,g2,g3,g4⟩ := kn (x := x) (o := qE m 0 offices) (m := m) offices
 generalize qB x (qE m 0 offices) m offices = s at h1 h2 h3 g1 g2 g3 g4 ⊢
 have a5 := qz (l := m) (i := 5) (most := 2) (by omega)
 have hn : 7 * (1 + jC m 5 2) ≤ 14 := by unfold jC; omega
 obtain ⟨more,e1,e2⟩ := wB (x := x) (seen := s.seen) (p := { s.p with day := s.p.day + qE m 4 4 }) (m := m) g2 (VOk.base hx h1 g2) (1 + jC m 5 2)
 exact ⟨more,e1.le hn,e2⟩
theorem jU {α : Type} {l : List α} {a d : α} {i : Nat} (h : i < l.length) : (l ++ [a]).getD i d = l.getD i d := by
 simp [List.getD_eq_getElem?_getD,List.getElem?_append_left h]
theorem wL {α : Type} {l : List α} {a d : α} {i : Nat} (h : i = l.length) : (l ++ [a]).getD i d = a := by
 subst h; simp
theorem GInv.next {x : Gs} (hx : GInv x) {offices : Nat} (hof : offices ≤ 10) (m : List Int) : GInv (next x offices m) := by
 obtain ⟨more,e1,e2⟩ := Qq hx hof (m := m)
 obtain ⟨h1,h2,h3,h5,h6⟩ := yU hx (o := qE m 0 offices) (m := m) offices
 obtain ⟨g1,g2,g3,g4⟩ := kn (x := x) (o := qE m 0 offices) (m := m) offices
 unfold Go.Proofs.YtoeckfegggongaaGreatDoor.next
 simp only []
 generalize jg x _ _ m _ = p at e1 e2 ⊢
 generalize qB x (qE m 0 offices) m offices = s at h1 h2 h3 h5 h6 g1 g2 g3 g4 e1 e2 ⊢
 have a4 := qz (l := m) (i := 4) (most := 4) (by omega)
 have pd : p.day = s.p.day + qE m 4 4 := by rw [e1.eq]
 have hps : p.s = s.p.s ∧ p.needs = s.p.needs ∧ p.ops = more := by rw [e1.eq]; exact ⟨rfl,rfl,by simp only [g2,List.nil_append]⟩
 obtain ⟨p1,p2,p3⟩ := hps
 have hlen := e1.len
 have mem : ∀ {P : Pt → Prop},(∀ q ∈ x.l,P q) → P p → ∀ q ∈ x.l ++ [p],P q := fun hq hp q hm=>(List.mem_append.1 hm).elim (hq q) (fun h=>by rw [List.mem_singleton.1 h]; exact hp)
 refine ⟨by simp [hx.np],fun k hk=>?_,?_,mem hx.op (by rw [p3]; omega),?_,mem hx.ne (by rw [p2]; omega),mem hx.spl (by rw [p3]; exact e1.ok),fun i hi=>?_,fun k hk=>?_⟩
 ·simp only [List.length_append,List.length_cons,List.length_nil] at hk
  by_cases h : k < x.l.length
  ·rw [jU (by rw [hx.np]; exact h)]; exact hx.pk k h
  ·have hkn : k = x.past.length := by rw [hx.np]; omega
   rw [wL hkn,g4,hkn,hx.np]
 ·refine mem (fun q hq=>?_) ?_
  ·have := hx.sq q hq
   simp only [List.length_append,List.length_cons,List.length_nil]
   omega
  ·simp only [List.length_append,List.length_cons,List.length_nil]
   omega
 ·refine mem (fun q hq=>?_) ?_
  ·have := hx.dy q hq
   simp only [List.length_append,List.length_cons,List.length_nil]
   omega
  ·simp only [List.length_append,List.length_cons,List.length_nil]
   omega
 ·simp only [List.length_append,List.length_cons,List.length_nil] at hi
  by_cases h : i < x.l.length
  ·rw [jU h,jU (by rw [hx.np]; exact h)]
   intro he
   obtain ⟨j,hj,h4⟩ := hx.ent i h he
   refine ⟨j,hj,?_⟩
   rw [jU (by rcases hj with rfl | hj <;> omega)]
   exact h4
  ·have hin : i = x.l.length := by omega
   subst hin
   rw [wL rfl,wL hx.np.symm]
   intro he
   rcases vis_ne.1 (e2 (vis_ne.2 (.inr he))) with ⟨j,hj,hs,h4⟩ | h4
   ·exact ⟨j,.inr ⟨hj,hs⟩,by rw [jU hj]; exact h4⟩
   ·exact ⟨_,.inl rfl,by rw [wL rfl]; exact h4⟩
 ·simp only [List.length_append,List.length_cons,List.length_nil] at hk
  intro i hi h4 j hj h5
  simp only at h4 h5 ⊢
  by_cases h : k < x.l.length
  ·rw [jU (by rw [hx.np]; exact h)] at h4 ⊢
   rw [jU (by rw [hx.np]; omega)] at h5
   exact hx.cl k h i hi h4 j hj h5
  ·have hkn : k = x.l.length := by omega
   subst hkn
   rw [wL hx.np.symm] at h4 ⊢
   rw [jU (by rw [hx.np]; exact hi)] at h5
   exact h1 i hi h4 j hj h5
end Go.Proofs.YtoeckfegggongaaGreatDoor
end
