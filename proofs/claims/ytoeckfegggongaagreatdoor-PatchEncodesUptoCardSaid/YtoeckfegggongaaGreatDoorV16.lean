/- A part of the proof of what the last text says: Gw3, Gm3, Gw4, Gm4, Gm5, Gv1. Conditions: those in each theorem. -/
import Derived.Test.YtoeckfegggongaaGreatDoorV15
set_option linter.unusedVariables false
set_option linter.unusedSimpArgs false
set_option maxRecDepth 100000
set_option maxHeartbeats 16000000
open Nat renaming reduceSub → qa,reduceAdd → qb,reduceMul → qc,reduceEqDiff → qd,reduceLeDiff → qe,reduceBEq → qf
section
namespace Go.Proofs.YtoeckfegggongaaGreatDoor
open Go Go.Aw
def yR (x : Id3) : List Int := [x.o,x.s,x.i]
def jE (o : OpP) : List Int := [o.k] ++ yR o.on ++ yR o.to ++ [o.n,o.a,o.b]
def qX (o : OpP) : List UInt8 := qN (jE o) ++ qN (o.ids.flatMap yR) ++ jF [o.name,o.text]
def qT (l : List Rf) : List Int := l.flatMap fun r=>[r.o,r.s]
def ji (p : Pt) : List UInt8 := qN [p.o,p.s,p.day] ++ qN (qT p.needs) ++ qy p.ops.length ++ p.ops.flatMap qX ++ qH p.sl
structure Fit (p : Pt) : Prop where
 ops : p.ops.length ≤ 1000
 needs : p.needs.length ≤ 3000000
 ids : ∀ o ∈ p.ops,o.ids.length ≤ 3000000
 name : ∀ o ∈ p.ops,o.name.length ≤ 3000000
 text : ∀ o ∈ p.ops,o.text.length ≤ 3000000
 sl : p.sl.length ≤ 3000000
theorem wH {a b : List Int} : ints a ++ ints b = ints (a ++ b) := by simp [ints]
theorem vA {α : Type} {l : List α} {f : α → List Int} {i : Nat} {d : α} (h : i < l.length) : (l.take (i + 1)).flatMap f = (l.take i).flatMap f ++ f (l.getD i d) := by
 rw [List.take_add_one,List.flatMap_append]
 simp [h]
theorem jS {l : List Rf} : (qT l).length = 2 * l.length := by
 induction l with
 | nil=>rfl
 | cons x r ih=>simp only [qT,List.flatMap_cons,List.length_append,List.length_cons,List.length_nil] at ih ⊢; omega
theorem kx {l : List Id3} : (l.flatMap yR).length = 3 * l.length := by
 induction l with
 | nil=>rfl
 | cons x r ih=>simp only [List.flatMap_cons,List.length_append,yR,List.length_cons,List.length_nil] at ih ⊢; omega
theorem n_needs {p : Pt} {acc : D} {b1 : Nat} {H : AH} {Q : AQ} {F : List D} (hp : Fit p) (hF : Fr 123 [(1,.ptr b1 0),(3,acc),(4,.own []),(5,.int .i64 0)] F) (hE : ∀ F',Fr 123 [(1,.ptr b1 0),(3,acc),(4,.own (ints (qT p.needs)))] F' → Q (.exit 0) F' ((b1,AO.cells p.d) :: H)) : XW Tryz.prog x14_L2 F ((b1,AO.cells p.d) :: H) Q := by
 have hbig := qt
 have hpn := hp.needs
 have hd := @dE p
 refine XW.loopK Go.Proofs.YtoeckfegggongaaGreatDoor.hm (fun F H'=>∃ (i : Nat),i ≤ p.needs.length ∧ Fr 123 [(1,.ptr b1 0),(3,acc),(4,.own (ints (qT (p.needs.take i)))),(5,.int .i64 i)] F ∧ ((b1,AO.cells p.d) :: H) = H') (fun F H=>match F.getD 5 .any with | .int _ n'=>p.needs.length - n'.toNat | _=>0) ⟨0,by omega,hF,rfl⟩ ?_
 rintro _ _ ⟨i,hi,hF,rfl⟩ K hN hE' hR
 obtain ⟨z,rfl⟩ : ∃ z : Nat → D,_ = z 0 :: .ptr b1 0 :: z 2 :: acc :: .own (ints (qT (p.needs.take i))) :: .int .i64 i :: zz z 6 117 [] := hF.lit
 try dsimp only [zz,qb] at *
 clear hF hR
 by_cases hlt : i < p.needs.length
 ·have nx : ∀ F',Fr 123 [(1,.ptr b1 0),(3,acc),(4,.own (ints (qT (p.needs.take i) ++ [(p.needs.getD i default).o,(p.needs.getD i default).s]))),(5,.int .i64 ((i + 1 : Nat) : Int))] F' → K .normal F' ((b1,AO.cells p.d) :: H) := fun F' hF'=>hN _ _ ⟨i + 1,hlt,by rw [show qT (p.needs.take (i + 1)) = qT (p.needs.take i) ++ [(p.needs.getD i default).o,(p.needs.getD i default).s] from vA (d := default) hlt]; exact hF',(j9 rfl).symm⟩ (by
   rw [List.getD_eq_getElem?_getD,hF'.2.2.2.2.1]
   simp only [List.getD_cons_succ,List.getD_cons_zero,Option.getD_some]
   omega)
  clear hN hE hE'
  have q1 := yZ hlt
  have hl : (qT (p.needs.take i)).length ≤ 6000000 := by rw [jS,List.length_take]; omega
  generalize qT (p.needs.take i) = ac at nx hl ⊢
  generalize p.needs.getD i default = e at q1 nx
  have he : e.d = [.int .i64 e.o,.int .i64 e.s] := rfl
  simp +contextual only [Qd,ql,qn,hd,q1,he,qp (show i ≤ big by omega),↓Qx,↓XP,qm,XW1,qa,qb,qc,qd,qe,qf,reduceCtorEq]
  refine fun _=>⟨fun _ _ _=>⟨wb,by omega,?_⟩,fun hge=>absurd (by omega) hge⟩
  rw [← wH] at nx
  exact nx _ ⟨rfl,rfl,rfl,rfl,rfl,trivial⟩
 ·have hik : i = p.needs.length := by omega
  subst hik
  clear hN
  simp +contextual only [Qd,ql,qn,hd,↓Qx,↓XP,qm,XW1,qa,qb,qc,qd,qe,qf,reduceCtorEq]
  rw [List.take_length]
  exact fun _=>hE' _ _ _ (hE _ ⟨rfl,rfl,rfl,rfl,trivial⟩)
theorem n_ids {o : OpP} {p1 acc l8 : D} {q : Int} {b7 : Nat} {H : AH} {Q : AQ} {F : List D} (ho : o.ids.length ≤ 3000000) (hF : Fr 123 [(1,p1),(3,acc),(6,.int .i64 q),(7,.ptr b7 0),(8,l8),(9,.own []),(10,.int .i64 0)] F) (hE : ∀ F',Fr 123 [(1,p1),(3,acc),(6,.int .i64 q),(7,.ptr b7 0),(8,l8),(9,.own (ints (o.ids.flatMap yR)))] F' → Q (.exit 4) F' ((b7,AO.cells o.d) :: H)) : XW Tryz.prog x14_L5 F ((b7,AO.cells o.d) :: H) Q := by
 have hbig := qt
 have hod : o.d = [.int .i64 o.k,.int .i64 o.on.o,.int .i64 o.on.s,.int .i64 o.on.i,.int .i64 o.to.o,.int .i64 o.to.s,.int .i64 o.to.i,.slc (qV o.ids),.int .i64 o.n,.str o.name,.str o.text,.int .i64 o.a,.int .i64 o.b] := rfl
 refine XW.loopK Go.Proofs.YtoeckfegggongaaGreatDoor.hm (fun F H'=>∃ (i : Nat),i ≤ o.ids.length ∧ Fr 123 [(1,p1),(3,acc),(6,.int .i64 q),(7,.ptr b7 0),(8,l8),(9,.own (ints ((o.ids.take i).flatMap yR))),(10,.int .i64 i)] F ∧ ((b7,AO.cells o.d) :: H) = H') (fun F H=>match F.getD 10 .any with | .int _ n'=>o.ids.length - n'.toNat | _=>0) ⟨0,by omega,hF,rfl⟩ ?_
 rintro _ _ ⟨i,hi,hF,rfl⟩ K hN hE' hR
 obtain ⟨z,rfl⟩ : ∃ z : Nat → D,_ = z 0 :: p1 :: z 2 :: acc :: zz z 4 2 (.int .i64 q :: .ptr b7 0 :: l8 :: .own (ints ((o.ids.take i).flatMap yR)) :: .int .i64 i :: zz z 11 112 []) := hF.lit
 try dsimp only [zz,qb] at *
 clear hF hR
 by_cases hlt : i < o.ids.length
 ·have nx : ∀ F',Fr 123 [(1,p1),(3,acc),(6,.int .i64 q),(7,.ptr b7 0),(8,l8),(9,.own (ints ((o.ids.take i).flatMap yR ++ yR (o.ids.getD i default)))),(10,.int .i64 ((i + 1 : Nat) : Int))] F' → K .normal F' ((b7,AO.cells o.d) :: H) := fun F' hF'=>hN _ _ ⟨i + 1,hlt,by rw [vA (d := default) hlt]; exact hF',(j9 rfl).symm⟩ (by
   rw [List.getD_eq_getElem?_getD,hF'.2.2.2.2.2.2.2.1]
   simp only [List.getD_cons_succ,List.getD_cons_zero,Option.getD_some]
   omega)
  clear hN hE hE'
  have q1 := kX hlt
  have hl : ((o.ids.take i).flatMap yR).length ≤ 9000000 := by rw [kx,List.length_take]; omega
  generalize (o.ids.take i).flatMap yR = ac at nx hl ⊢
  generalize o.ids.getD i default = e at q1 nx
  have he : e.d = [.int .i64 e.o,.int .i64 e.s,.int .i64 e.i] := rfl
  simp +contextual only [Qd,qk,qn,hod,q1,he,qp (show i ≤ big by omega),↓Qx,↓XP,qm,XW1,qa,qb,qc,qd,qe,qf,reduceCtorEq]
  refine fun _=>⟨fun _=>J8 (x := e) ?_,fun hge=>absurd (by omega) hge⟩
  have h3 : [e.o,e.s,e.i].length = 3 := rfl
  simp +contextual only [Qd,qk,qn,hod,q1,he,h3,qp (show i ≤ big by omega),↓Qx,↓XP,qm,XW1,qa,qb,qc,qd,qe,qf,reduceCtorEq]
  rw [← wH] at nx
  exact fun _=>⟨wb,wb,by omega,nx _ ⟨rfl,rfl,rfl,rfl,rfl,rfl,rfl,rfl,trivial⟩⟩
 ·have hik : i = o.ids.length := by omega
  subst hik
  clear hN
  simp +contextual only [Qd,qk,qn,hod,↓Qx,↓XP,qm,XW1,qa,qb,qc,qd,qe,qf,reduceCtorEq]
  rw [List.take_length]
  exact fun _=>hE' _ _ _ (hE _ ⟨rfl,rfl,rfl,rfl,rfl,rfl,rfl,trivial⟩)
end Go.Proofs.YtoeckfegggongaaGreatDoor
end
section
namespace Go.Proofs.YtoeckfegggongaaGreatDoor
open Go Go.Aw
theorem f_id {x : Id3} {b : Nat} {xs : List Int} {H : AH} {R : D → AH → Prop} (hl : xs.length ≤ 30000000) (hbH : qK H b = none) (h : R (.tup []) ((b,.cells [.own (ints (xs ++ yR x))]) :: H)) : ACall Tryz.prog 59 [.ptr b 0,.agg x.d] ((b,.cells [.own (ints xs)]) :: H) R := by
 refine b59 fun hf=>?_
 have hbig := qt
 have hd : x.d = [.int .i64 x.o,.int .i64 x.s,.int .i64 x.i] := rfl
 simp +contextual only [x59,hd,↓Jd,↓XP,qm,XW1,qa,qb,qc,qd,qe,qf,reduceCtorEq]
 intro b1 hb
 have hb0 := Ne.symm hb.1
 have hn := jh (H := H) hb.2
 simp +contextual only [x59,hd,hb.1,hb0,kv hb.1,qg hb.1,qg hb0,qi,not_false_eq_true,wH,qn,↓Jd,↓XP,qm,XW1,qa,qb,qc,qd,qe,qf,reduceCtorEq]
 refine ⟨hbH,fun _ _ _=>⟨wb,by omega,?_⟩⟩
 rw [← wH] at h
 exact h
theorem f_id2 {x : Id3} {b c : Nat} {o : AO} {xs : List Int} {H : AH} {R : D → AH → Prop} (hl : xs.length ≤ 30000000) (hcb : b ≠ c) (hbH : qK H b = none) (h : R (.tup []) ((c,o) :: (b,.cells [.own (ints (xs ++ yR x))]) :: H)) : ACall Tryz.prog 59 [.ptr b 0,.agg x.d] ((c,o) :: (b,.cells [.own (ints xs)]) :: H) R := by
 refine b59 fun hf=>?_
 have hbig := qt
 have hd : x.d = [.int .i64 x.o,.int .i64 x.s,.int .i64 x.i] := rfl
 simp +contextual only [x59,hd,hcb,qg hcb,kv hcb,qi,not_false_eq_true,↓Jd,↓XP,qm,XW1,qa,qb,qc,qd,qe,qf,reduceCtorEq]
 intro b1 hb
 have hb0 := Ne.symm hb.2.1
 have hn := jh (H := H) hb.2.2
 simp +contextual only [x59,hd,hb.1,hb0,hcb,Ne.symm hb.1,kv hb.2.1,kv hcb,qg hcb,qg hb.2.1,qg (Ne.symm hb.1),qg hb0,qi hb.2.1,qi hcb,not_false_eq_true,wH,qn,↓Jd,↓XP,qm,XW1,qa,qb,qc,qd,qe,qf,reduceCtorEq]
 refine ⟨hbH,fun _ _ _=>⟨wb,by omega,?_⟩⟩
 rw [← wH] at h
 exact h
theorem f_each {fi : Nat} {ids : List Id3} {b : Nat} {xs : List Int} {H : AH} {R : D → AH → Prop} (hfi : fi = 59) (hi : ids.length ≤ 3000000) (hl : xs.length ≤ 10000000) (hbH : qK H b = none) (h : R (.tup []) ((b,.cells [.own (ints (xs ++ ids.flatMap yR))]) :: H)) : ACall Tryz.prog 60 [.slc (qV ids),.fn fi [.tup [],.ptr b 0]] ((b,.cells [.own (ints xs)]) :: H) R := by
 refine b60 fun hf=>?_
 have hbig := qt
 simp +contextual only [x60,qk,↓U60,↓XP,qm,XW1,qa,qb,qc,qd,qe,qf,reduceCtorEq]
 refine fun _=>XW.loopK Go.Proofs.YtoeckfegggongaaGreatDoor.hm (fun F H'=>∃ (i : Nat),i ≤ ids.length ∧ Fr 16 [(1,.fn fi [.tup [],.ptr b 0]),(6,.slc (qV ids)),(7,.int .i64 ids.length),(8,.int .i64 i)] F ∧ ((b,AO.cells [.own (ints (xs ++ (ids.take i).flatMap yR))]) :: H) = H') (fun F H=>match F.getD 8 .any with | .int _ n'=>ids.length - n'.toNat | _=>0) ⟨0,by omega,⟨rfl,rfl,rfl,rfl,rfl,trivial⟩,by simp⟩ ?_
 rintro _ _ ⟨i,hi',hF,rfl⟩ K hN hE' hR
 obtain ⟨z,rfl⟩ : ∃ z : Nat → D,_ = z 0 :: .fn fi [.tup [],.ptr b 0] :: zz z 2 4 (.slc (qV ids) :: .int .i64 ids.length :: .int .i64 i :: zz z 9 7 []) := hF.lit
 try dsimp only [zz,qb] at *
 clear hF hR
 by_cases hlt : i < ids.length
 ·have nx : ∀ F' H',back ((b,AO.cells [.own (ints (xs ++ (ids.take i).flatMap yR))]) :: H).length H' = ((b,AO.cells [.own (ints ((xs ++ (ids.take i).flatMap yR) ++ yR (ids.getD i default)))]) :: H) → Fr 16 [(1,.fn fi [.tup [],.ptr b 0]),(6,.slc (qV ids)),(7,.int .i64 ids.length),(8,.int .i64 ((i + 1 : Nat) : Int))] F' → K .normal F' H' := fun F' H' hH hF'=>hN _ _ ⟨i + 1,hlt,hF',by rw [vA (d := default) hlt,← List.append_assoc]; exact hH.symm⟩ (by
   rw [List.getD_eq_getElem?_getD,hF'.2.2.2.2.1]
   simp only [List.getD_cons_succ,List.getD_cons_zero,Option.getD_some]
   omega)
  clear hN hE'
  have q1 := kX hlt
  have hl2 : (xs ++ (ids.take i).flatMap yR).length ≤ 20000000 := by rw [List.length_append,kx,List.length_take]; omega
  generalize xs ++ (ids.take i).flatMap yR = ac at nx hl2 ⊢
  generalize ids.getD i default = e at q1 nx
  have he : e.d = [.int .i64 e.o,.int .i64 e.s,.int .i64 e.i] := rfl
  simp +contextual only [x60,qk,hlt,Int.ofNat_lt,q1,he,qp (show i ≤ big by omega),↓U60,↓XP,qm,XW1,qa,qb,qc,qd,qe,qf,reduceCtorEq]
  intro b5 hb
  rw [hfi]
  refine f_id2 (x := e) (by omega) hb.1 hbH ?_
  rw [← hfi]
  simp +contextual only [x60,qk,qp (show i ≤ big by omega),↓U60,↓XP,qm,XW1,qa,qb,qc,qd,qe,qf,reduceCtorEq]
  exact nx _ _ (yB rfl) ⟨rfl,rfl,rfl,rfl,rfl,trivial⟩
 ·have hik : i = ids.length := by omega
  subst hik
  clear hN
  simp +contextual only [x60,qk,↓U60,↓XP,qm,XW1,qa,qb,qc,qd,qe,qf,reduceCtorEq]
  rw [List.take_length]
  refine hE' _ _ _ ?_
  simp +contextual only [x60,qk,↓U60,↓XP,qm,XW1,qa,qb,qc,qd,qe,qf,reduceCtorEq]
  exact h
end Go.Proofs.YtoeckfegggongaaGreatDoor
end
section
namespace Go.Proofs.YtoeckfegggongaaGreatDoor
open Go Go.Aw
theorem JK {l : List (List UInt8)} (h : ∀ x ∈ l,x.length ≤ 3000000) : (jF l).length ≤ (9 + 3000000) * l.length + (qy l.length).length := by
 have := ve h (by omega)
 rw [jF,List.length_append]
 omega
theorem n_ops {p : Pt} {pre : List UInt8} {b1 : Nat} {H : AH} {Q : AQ} {F : List D} (hp : Fit p) (hpre : pre.length ≤ 100000000) (hF : Fr 123 [(1,.ptr b1 0),(3,.own (pre.map qr)),(6,.int .i64 0)] F) (hE : (pre ++ p.ops.flatMap qX).length ≤ 1000000000000 → ∀ F',Fr 123 [(1,.ptr b1 0),(3,.own ((pre ++ p.ops.flatMap qX).map qr))] F' → Q (.exit 2) F' ((b1,AO.cells p.d) :: H)) : XW Tryz.prog x14_L16 F ((b1,AO.cells p.d) :: H) Q := by
 have hbig := qt
 have hpo := hp.ops
 have hd := @dE p
 refine XW.loopK Go.Proofs.YtoeckfegggongaaGreatDoor.hm (fun F H'=>∃ (i : Nat),i ≤ p.ops.length ∧ (pre ++ (p.ops.take i).flatMap qX).length ≤ 100000000 + 100000000 * i ∧ Fr 123 [(1,.ptr b1 0),(3,.own ((pre ++ (p.ops.take i).flatMap qX).map qr)),(6,.int .i64 (i : Int))] F ∧ ((b1,AO.cells p.d) :: H) = H') (fun F H=>match F.getD 6 .any with | .int _ n'=>p.ops.length - n'.toNat | _=>0) ⟨0,by omega,by simpa using hpre,by simpa using hF,rfl⟩ ?_
 clear hF
 rintro _ _ ⟨i,hi,hln,hF,rfl⟩ K hN hE' hR
 obtain ⟨z,rfl⟩ : ∃ z : Nat → D,_ = z 0 :: .ptr b1 0 :: z 2 :: .own ((pre ++ (p.ops.take i).flatMap qX).map qr) :: zz z 4 2 (.int .i64 (i : Int) :: zz z 7 116 []) := hF.lit
 try dsimp only [zz,qb] at *
 clear hF hR
 by_cases hlt : i < p.ops.length
 ·have nx : (qX (p.ops.getD i default)).length ≤ 100000000 → ∀ F' H',back ((b1,AO.cells p.d) :: H).length H' = ((b1,AO.cells p.d) :: H) → Fr 123 [(1,.ptr b1 0),(3,.own ((pre ++ (p.ops.take i).flatMap qX ++ qX (p.ops.getD i default)).map qr)),(6,.int .i64 ((i + 1 : Nat) : Int))] F' → K .normal F' H' := fun hl F' H' hH hF'=>hN _ _ ⟨i + 1,hlt,by
    rw [yp (d := default) hlt,← List.append_assoc,List.length_append]
    omega,by rw [yp (d := default) hlt,← List.append_assoc]; exact hF',hH.symm⟩ (by
   rw [List.getD_eq_getElem?_getD,hF'.2.2.2.1]
   simp only [List.getD_cons_succ,List.getD_cons_zero,Option.getD_some]
   omega)
  clear hN hE hE'
  have q1 := kB hlt
  have hm : p.ops.getD i default ∈ p.ops := by rw [jk hlt]; exact List.getElem_mem hlt
  have o1 := hp.ids _ hm
  have o2 := hp.name _ hm
  have o3 := hp.text _ hm
  generalize pre ++ (p.ops.take i).flatMap qX = ac at nx hln ⊢
  generalize p.ops.getD i default = o at q1 nx o1 o2 o3
  have hod : o.d = [.int .i64 o.k,.int .i64 o.on.o,.int .i64 o.on.s,.int .i64 o.on.i,.int .i64 o.to.o,.int .i64 o.to.s,.int .i64 o.to.i,.slc (qV o.ids),.int .i64 o.n,.str o.name,.str o.text,.int .i64 o.a,.int .i64 o.b] := rfl
  simp +contextual only [Qd,qj,qn,hd,qh,q1,hod,↓Qx,↓XP,qm,XW1,qa,qb,qc,qd,qe,qf,reduceCtorEq]
  refine fun _=>⟨fun _ b7 hb _=>J8 (x := o.on) ?_,fun hge=>absurd (by omega) hge⟩
  obtain ⟨n17,h7⟩ := hb
  simp +contextual only [Qd,qj,qn,hd,qh,hod,n17,qg,qi,ints,↓Qx,↓XP,qm,XW1,qa,qb,qc,qd,qe,qf,reduceCtorEq]
  refine fun _=>J8 (x := o.to) ?_
  simp +contextual only [Qd,qj,qn,hd,qh,hod,n17,qg,qi,ints,↓Qx,↓XP,qm,XW1,qa,qb,qc,qd,qe,qf,reduceCtorEq]
  refine fun _ _ _ _=>n_ids (o := o) (p1 := .ptr b1 0) (acc := .own (ac.map qr)) (l8 := .own (ints (jE o))) (q := i) (b7 := b7) o1 ⟨rfl,rfl,rfl,rfl,rfl,rfl,rfl,rfl,trivial⟩ (fun F' hF'=>?_)
  obtain ⟨z,rfl⟩ : ∃ z : Nat → D,_ = z 0 :: .ptr b1 0 :: z 2 :: .own (ac.map qr) :: zz z 4 2 (.int .i64 (i : Int) :: .ptr b7 0 :: .own (ints (jE o)) :: .own (ints (o.ids.flatMap yR)) :: zz z 10 113 []) := hF'.lit
  try dsimp only [zz,qb] at *
  clear hF'
  have l10 : (jE o).length = 10 := rfl
  have l3 := kx (l := o.ids)
  simp +contextual only [Qd,qj,qn,hd,qh,hod,n17,qg,qi,↓Qx,↓XP,qm,XW1,qa,qb,qc,qd,qe,qf,reduceCtorEq]
  refine zY (by omega) fun k1=>?_
  simp +contextual only [Qd,qj,qn,hd,qh,hod,n17,qg,qi,↓Qx,↓XP,qm,XW1,qa,qb,qc,qd,qe,qf,reduceCtorEq]
  refine fun _=>⟨qC,qC,by omega,zY (by omega) fun k2=>?_⟩
  simp +contextual only [Qd,qj,qn,hd,qh,hod,n17,qg,qi,← List.map_append,List.length_append,↓Qx,↓XP,qm,XW1,qa,qb,qc,qd,qe,qf,reduceCtorEq]
  refine fun _=>⟨qC,qC,by omega,?_⟩
  have hb3 : ∀ x ∈ [o.name,o.text],x.length ≤ 3000000 := by
   intro x hx
   simp only [List.mem_cons,List.not_mem_nil,or_false] at hx
   rcases hx with rfl | rfl
   ·exact o2
   ·exact o3
  have k3 := JK hb3
  have k4 := kC (n := [o.name,o.text].length) (by simp)
  refine fun _ _=>KI (l := [o.name,o.text]) (by simp) hb3 ?_
  simp +contextual only [Qd,qj,qn,hd,qh,hod,n17,qg,qi,← List.map_append,List.length_append,qp (show i ≤ big by omega),↓Qx,↓XP,qm,XW1,qa,qb,qc,qd,qe,qf,reduceCtorEq]
  have e2 : ([o.name,o.text] : List (List UInt8)).length = 2 := rfl
  rw [e2] at k3 k4
  refine fun _=>⟨qC,qC,by omega,nx ?_ _ _ (yB rfl) ?_⟩
  ·simp only [qX,List.length_append]
   omega
  ·rw [show ac ++ qX o = ac ++ qN (jE o) ++ qN (o.ids.flatMap yR) ++ jF [o.name,o.text] by simp only [qX,List.append_assoc]]
   exact ⟨rfl,rfl,rfl,rfl,trivial⟩
 ·have hik : i = p.ops.length := by omega
  subst hik
  clear hN
  simp +contextual only [Qd,qj,qn,hd,qh,↓Qx,↓XP,qm,XW1,qa,qb,qc,qd,qe,qf,reduceCtorEq]
  rw [List.take_length] at hln ⊢
  simp only [← hd]
  exact fun _=>hE' _ _ _ (hE (by omega) _ ⟨rfl,rfl,rfl,trivial⟩)
theorem Ji {p : Pt} {H : AH} {R : D → AH → Prop} (hp : Fit p) (h : (ji p).length ≤ 2000000000000 → R (.own ((ji p).map qr)) H) : ACall Tryz.prog 14 [.agg p.d] H R := by
 refine b14 fun hf=>?_
 have hbig := qt
 have hpo := hp.ops
 have hpn := hp.needs
 have hps := hp.sl
 have hd := @dE p
 simp +contextual only [Qd,qj,qn,hd,qh,← List.map_append,List.length_append,↓Qx,↓XP,qm,XW1,qa,qb,qc,qd,qe,qf,reduceCtorEq]
 refine fun b1 h1 _ _ _=>zY (l := [p.o,p.s,p.day]) (by simp) fun k1=>?_
 have e3 : ([p.o,p.s,p.day] : List Int).length = 3 := rfl
 rw [e3] at k1
 have hk := fun c=>(c : Prop)
 simp +contextual only [Qd,qj,qn,hd,qh,← List.map_append,List.length_append,↓Qx,↓XP,qm,XW1,qa,qb,qc,qd,qe,qf,reduceCtorEq]
 simp only [← hd]
 obtain ⟨pre,hpre⟩ : ∃ pre,qN [p.o,p.s,p.day] = pre := ⟨_,rfl⟩
 have henc : ji p = pre ++ qN (qT p.needs) ++ qy p.ops.length ++ p.ops.flatMap qX ++ qH p.sl := by rw [← hpre]; rfl
 rw [henc] at h
 rw [hpre] at k1 ⊢
 refine fun _=>n_needs (p := p) (acc := .own (pre.map qr)) hp ⟨rfl,rfl,rfl,rfl,rfl,trivial⟩ (fun F' hF'=>?_)
 obtain ⟨z,rfl⟩ : ∃ z : Nat → D,_ = z 0 :: .ptr b1 0 :: z 2 :: .own (pre.map qr) :: .own (ints (qT p.needs)) :: zz z 5 118 [] := hF'.lit
 try dsimp only [zz,qb] at *
 clear hF'
 have l2 := jS (l := p.needs)
 simp +contextual only [Qd,qj,qn,hd,qh,← List.map_append,List.length_append,↓Qx,↓XP,qm,XW1,qa,qb,qc,qd,qe,qf,reduceCtorEq]
 refine zY (by omega) fun k2=>?_
 simp +contextual only [Qd,qj,qn,hd,qh,← List.map_append,List.length_append,↓Qx,↓XP,qm,XW1,qa,qb,qc,qd,qe,qf,reduceCtorEq]
 have k3 := kC (n := p.ops.length) (by omega)
 refine fun _=>⟨qC,qC,by omega,fun _=>uE fun _=>?_⟩
 simp +contextual only [Qd,qj,qn,hd,qh,← List.map_append,List.length_append,↓Qx,↓XP,qm,XW1,qa,qb,qc,qd,qe,qf,reduceCtorEq]
 simp only [← hd]
 refine fun _=>⟨qC,qC,by omega,?_⟩
 obtain ⟨pre2,hp2⟩ : ∃ pre2,pre ++ qN (qT p.needs) ++ qy p.ops.length = pre2 := ⟨_,rfl⟩
 have hl2 : pre2.length ≤ 100000000 := by rw [← hp2]; simp only [List.length_append]; omega
 rw [hp2] at h ⊢
 refine n_ops (p := p) (pre := pre2) hp hl2 ⟨rfl,rfl,rfl,rfl,trivial⟩ (fun k5 F' hF'=>?_)
 obtain ⟨z,rfl⟩ : ∃ z : Nat → D,_ = z 0 :: .ptr b1 0 :: z 2 :: .own ((pre2 ++ p.ops.flatMap qX).map qr) :: zz z 4 119 [] := hF'.lit
 try dsimp only [zz,qb] at *
 clear hF'
 simp only [List.length_append] at k5
 simp +contextual only [Qd,qj,qn,hd,qh,← List.map_append,List.length_append,↓Qx,↓XP,qm,XW1,qa,qb,qc,qd,qe,qf,reduceCtorEq]
 have k6 := kC (n := p.sl.length) (by omega)
 refine fun _=>Jy (by omega) ?_
 have k7 : (qH p.sl).length ≤ 9 + 3000000 := by simp only [qH,List.length_append]; omega
 simp +contextual only [Qd,qj,qn,hd,qh,← List.map_append,List.length_append,↓Qx,↓XP,qm,XW1,qa,qb,qc,qd,qe,qf,reduceCtorEq]
 exact fun _=>⟨qC,qC,by omega,h (by simp only [List.length_append]; omega)⟩
end Go.Proofs.YtoeckfegggongaaGreatDoor
end
section
namespace Go.Proofs.YtoeckfegggongaaGreatDoor
open Go Go.Aw
theorem m_needs {p : Pt} {acc : D} {b1 : Nat} {H : AH} {Q : AQ} {F : List D} (hp : p.needs.length ≤ 3000000) (hF : Fr 99 [(1,.ptr b1 0),(3,acc),(4,.own []),(20,.slc (qO p.needs)),(21,.int .i64 p.needs.length),(22,.int .i64 0)] F) (hE : ∀ F',Fr 99 [(1,.ptr b1 0),(3,acc),(4,.own (ints (qT p.needs)))] F' → Q (.exit 0) F' ((b1,AO.cells p.d) :: H)) : XW Tryz.prog x27_L2 F ((b1,AO.cells p.d) :: H) Q := by
 have hbig := qt
 refine XW.loopK Go.Proofs.YtoeckfegggongaaGreatDoor.hm (fun F H'=>∃ (i : Nat),i ≤ p.needs.length ∧ Fr 99 [(1,.ptr b1 0),(3,acc),(4,.own (ints (qT (p.needs.take i)))),(20,.slc (qO p.needs)),(21,.int .i64 p.needs.length),(22,.int .i64 i)] F ∧ ((b1,AO.cells p.d) :: H) = H') (fun F H=>match F.getD 22 .any with | .int _ n'=>p.needs.length - n'.toNat | _=>0) ⟨0,by omega,hF,rfl⟩ ?_
 rintro _ _ ⟨i,hi,hF,rfl⟩ K hN hE' hR
 obtain ⟨z,rfl⟩ : ∃ z : Nat → D,_ = z 0 :: .ptr b1 0 :: z 2 :: acc :: .own (ints (qT (p.needs.take i))) :: zz z 5 15 (.slc (qO p.needs) :: .int .i64 p.needs.length :: .int .i64 i :: zz z 23 76 []) := hF.lit
 try dsimp only [zz,qb] at *
 clear hF hR
 by_cases hlt : i < p.needs.length
 ·have nx : ∀ F' H',back ((b1,AO.cells p.d) :: H).length H' = ((b1,AO.cells p.d) :: H) → Fr 99 [(1,.ptr b1 0),(3,acc),(4,.own (ints (qT (p.needs.take i) ++ [(p.needs.getD i default).o,(p.needs.getD i default).s]))),(20,.slc (qO p.needs)),(21,.int .i64 p.needs.length),(22,.int .i64 ((i + 1 : Nat) : Int))] F' → K .normal F' H' := fun F' H' hH hF'=>hN _ _ ⟨i + 1,hlt,by rw [show qT (p.needs.take (i + 1)) = qT (p.needs.take i) ++ [(p.needs.getD i default).o,(p.needs.getD i default).s] from vA (d := default) hlt]; exact hF',hH.symm⟩ (by
   rw [List.getD_eq_getElem?_getD,hF'.2.2.2.2.2.2.1]
   simp only [List.getD_cons_succ,List.getD_cons_zero,Option.getD_some]
   omega)
  clear hN hE hE'
  have q1 := yZ hlt
  have hl : (qT (p.needs.take i)).length ≤ 6000000 := by rw [jS,List.length_take]; omega
  generalize qT (p.needs.take i) = ac at nx hl ⊢
  generalize p.needs.getD i default = e at q1 nx
  have he : e.d = [.int .i64 e.o,.int .i64 e.s] := rfl
  simp +contextual only [Qe,ql,qn,hlt,Int.ofNat_lt,q1,he,qp (show i ≤ big by omega),↓QB,↓XP,qm,XW1,qa,qb,qc,qd,qe,qf,reduceCtorEq]
  refine fun b6 _ _ _=>⟨wb,by omega,?_⟩
  rw [← wH] at nx
  exact nx _ _ (yB rfl) ⟨rfl,rfl,rfl,rfl,rfl,rfl,rfl,trivial⟩
 ·have hik : i = p.needs.length := by omega
  subst hik
  clear hN
  simp +contextual only [Qe,ql,qn,↓QB,↓XP,qm,XW1,qa,qb,qc,qd,qe,qf,reduceCtorEq]
  rw [List.take_length]
  exact hE' _ _ _ (hE _ ⟨rfl,rfl,rfl,rfl,trivial⟩)
theorem m_op {o : OpP} {ac : List UInt8} {p1 c45 c46 : D} {b8 : Nat} {q : Int} {H : AH} {Q : AQ} {F : List D} (o1 : o.ids.length ≤ 3000000) (o2 : o.name.length ≤ 3000000) (o3 : o.text.length ≤ 3000000) (hln : ac.length ≤ 1000000000000) (hF : Fr 99 [(1,p1),(3,.own (ac.map qr)),(8,.ptr b8 0),(45,c45),(46,c46),(47,.int .i64 q)] F)
  (hE : (qX o).length ≤ 100000000 → ∀ F' H',(∃ pre,H' = pre ++ ((b8,AO.cells o.d) :: H)) → Fr 99 [(1,p1),(3,.own ((ac ++ qX o).map qr)),(45,c45),(46,c46),(47,.int .i64 q)] F' → Q .normal F' H') : xcode Tryz.prog x27_s9 F ((b8,AO.cells o.d) :: H) Q := by
 have hbig := qt
 obtain ⟨z,rfl⟩ : ∃ z : Nat → D,_ = z 0 :: p1 :: z 2 :: .own (ac.map qr) :: zz z 4 4 (.ptr b8 0 :: zz z 9 36 (c45 :: c46 :: .int .i64 q :: zz z 48 51 [])) := hF.lit
 try dsimp only [zz,qb] at *
 have hod : o.d = [.int .i64 o.k,.int .i64 o.on.o,.int .i64 o.on.s,.int .i64 o.on.i,.int .i64 o.to.o,.int .i64 o.to.s,.int .i64 o.to.i,.slc (qV o.ids),.int .i64 o.n,.str o.name,.str o.text,.int .i64 o.a,.int .i64 o.b] := rfl
 simp +contextual only [Qe,qk,qn,qh,hod,↓QB,↓XP,qm,XW1,qa,qb,qc,qd,qe,qf,reduceCtorEq]
 refine fun _=>⟨by decide,fun br cap hr b9 hb9=>?_⟩
 rw [uG]
 refine Gz.take (j := 0) rfl (fun _=>jV) ?_
 have e1 : jr ((br,.room cap [[D.int .i64 o.k]]) :: (b8,AO.cells o.d) :: H) br [[D.int .i64 o.k]] = ((b8,AO.cells o.d) :: H) := by simp [jr,jB]
 rw [hod] at e1
 simp +contextual only [Qe,qk,qn,qh,e1,hod,↓QB,↓XP,qm,XW1,qa,qb,qc,qd,qe,qf,reduceCtorEq]
 clear e1 hF
 obtain ⟨_,h89,h9⟩ := hb9
 obtain ⟨_,h8r⟩ := hr
 have hn9 : qK ((b8,AO.cells o.d) :: H) b9 = none := jh ⟨Ne.symm h89,h9⟩
 rw [hod] at hn9
 simp +contextual only [Qe,qk,qn,qh,hod,qg h89,↓QB,↓XP,qm,XW1,qa,qb,qc,qd,qe,qf,reduceCtorEq]
 refine f_id (x := o.on) (xs := [o.k]) (by simp) hn9 ?_
 simp +contextual only [Qe,qk,qn,qh,hod,qg h89,↓QB,↓XP,qm,XW1,qa,qb,qc,qd,qe,qf,reduceCtorEq]
 refine f_id (x := o.to) (xs := [o.k] ++ yR o.on) (by simp [yR]) hn9 ?_
 simp +contextual only [Qe,qk,qn,qh,hod,qg h89,↓QB,↓XP,qm,XW1,qa,qb,qc,qd,qe,qf,reduceCtorEq]
 refine fun _ _ _=>⟨wb,by simp [yR],?_⟩
 rw [show ints (o.k :: (yR o.on ++ yR o.to)) ++ [[D.int .i64 o.n],[D.int .i64 o.a],[D.int .i64 o.b]] = ints (jE o) from rfl]
 have l10 : (jE o).length = 10 := rfl
 have l3 := kx (l := o.ids)
 refine zC (by omega) fun k1=>?_
 simp +contextual only [Qe,qk,qn,qh,hod,qg h89,↓QB,↓XP,qm,XW1,qa,qb,qc,qd,qe,qf,reduceCtorEq]
 refine fun _=>⟨qC,qC,by omega,fun b10 hb10=>?_⟩
 obtain ⟨h910,h810,h10⟩ := hb10
 have hn10 : qK ((b9,AO.cells [.slc (ints (o.k :: (yR o.on ++ yR o.to)))]) :: (b8,AO.cells o.d) :: H) b10 = none := jh ⟨Ne.symm h910,Ne.symm h810,h10⟩
 rw [hod] at hn10
 refine fun _=>f_each (ids := o.ids) (xs := []) rfl o1 (by simp) hn10 ?_
 rw [List.nil_append]
 simp +contextual only [Qe,qk,qn,qh,hod,qg h89,qg h810,↓QB,↓XP,qm,XW1,qa,qb,qc,qd,qe,qf,reduceCtorEq]
 refine fun _=>zC (l := o.ids.flatMap yR) (by omega) fun k2=>?_
 simp +contextual only [Qe,qk,qn,qh,hod,qg h89,qg h810,qg h910,← List.map_append,List.length_append,↓QB,↓XP,qm,XW1,qa,qb,qc,qd,qe,qf,reduceCtorEq]
 refine fun _=>⟨qC,qC,by omega,?_⟩
 have hb3 : ∀ x ∈ [o.name,o.text],x.length ≤ 3000000 := by
  intro x hx
  simp only [List.mem_cons,List.not_mem_nil,or_false] at hx
  rcases hx with rfl | rfl
  ·exact o2
  ·exact o3
 have k3 := JK hb3
 have k4 := kC (n := [o.name,o.text].length) (by simp)
 refine fun _ _=>KF (l := [o.name,o.text]) (by simp) hb3 ?_
 simp +contextual only [Qe,qk,qn,qh,hod,qg h89,← List.map_append,List.length_append,↓QB,↓XP,qm,XW1,qa,qb,qc,qd,qe,qf,reduceCtorEq]
 have e2 : ([o.name,o.text] : List (List UInt8)).length = 2 := rfl
 rw [e2] at k3 k4
 refine fun _=>⟨qC,qC,by omega,hE ?_ _ _ ⟨[(b10,_),(b9,_)],rfl⟩ ?_⟩
 ·simp only [qX,List.length_append]
  omega
 ·rw [show ac ++ qX o = ac ++ qN (jE o) ++ qN (o.ids.flatMap yR) ++ jF [o.name,o.text] by simp only [qX,List.append_assoc]]
  exact ⟨rfl,rfl,rfl,rfl,rfl,rfl,trivial⟩
end Go.Proofs.YtoeckfegggongaaGreatDoor
end
section
namespace Go.Proofs.YtoeckfegggongaaGreatDoor
open Go Go.Aw
theorem V2 {A H : AH} : back H.length (A ++ H) = H := by simp [back]
theorem m_ops {p : Pt} {pre : List UInt8} {b1 : Nat} {H : AH} {Q : AQ} {F : List D} (hp : Fit p) (hpre : pre.length ≤ 100000000) (hF : Fr 99 [(1,.ptr b1 0),(3,.own (pre.map qr)),(45,.slc (qM p.ops)),(46,.int .i64 p.ops.length),(47,.int .i64 0)] F) (hE : (pre ++ p.ops.flatMap qX).length ≤ 1000000000000 → ∀ F',Fr 99 [(1,.ptr b1 0),(3,.own ((pre ++ p.ops.flatMap qX).map qr))] F' → Q (.exit 2) F' ((b1,AO.cells p.d) :: H)) : XW Tryz.prog x27_L11 F ((b1,AO.cells p.d) :: H) Q := by
 have hbig := qt
 have hpo := hp.ops
 refine XW.loopK Go.Proofs.YtoeckfegggongaaGreatDoor.hm (fun F H'=>∃ (i : Nat),i ≤ p.ops.length ∧ (pre ++ (p.ops.take i).flatMap qX).length ≤ 100000000 + 100000000 * i ∧ Fr 99 [(1,.ptr b1 0),(3,.own ((pre ++ (p.ops.take i).flatMap qX).map qr)),(45,.slc (qM p.ops)),(46,.int .i64 p.ops.length),(47,.int .i64 (i : Int))] F ∧ ((b1,AO.cells p.d) :: H) = H') (fun F H=>match F.getD 47 .any with | .int _ n'=>p.ops.length - n'.toNat | _=>0) ⟨0,by omega,by simpa using hpre,by simpa using hF,rfl⟩ ?_
 clear hF
 rintro _ _ ⟨i,hi,hln,hF,rfl⟩ K hN hE' hR
 obtain ⟨z,rfl⟩ : ∃ z : Nat → D,_ = z 0 :: .ptr b1 0 :: z 2 :: .own ((pre ++ (p.ops.take i).flatMap qX).map qr) :: zz z 4 41 (.slc (qM p.ops) :: .int .i64 p.ops.length :: .int .i64 (i : Int) :: zz z 48 51 []) := hF.lit
 try dsimp only [zz,qb] at *
 clear hF hR
 by_cases hlt : i < p.ops.length
 ·have nx : (qX (p.ops.getD i default)).length ≤ 100000000 → ∀ F' H',back ((b1,AO.cells p.d) :: H).length H' = ((b1,AO.cells p.d) :: H) → Fr 99 [(1,.ptr b1 0),(3,.own ((pre ++ (p.ops.take i).flatMap qX ++ qX (p.ops.getD i default)).map qr)),(45,.slc (qM p.ops)),(46,.int .i64 p.ops.length),(47,.int .i64 ((i + 1 : Nat) : Int))] F' → K .normal F' H' := fun hl F' H' hH hF'=>hN _ _ ⟨i + 1,hlt,by
    rw [yp (d := default) hlt,← List.append_assoc,List.length_append]
    omega,by rw [yp (d := default) hlt,← List.append_assoc]; exact hF',hH.symm⟩ (by
   rw [List.getD_eq_getElem?_getD,hF'.2.2.2.2.2.1]
   simp only [List.getD_cons_succ,List.getD_cons_zero,Option.getD_some]
   omega)
  clear hN hE hE'
  have q1 := kB hlt
  have hm : p.ops.getD i default ∈ p.ops := by rw [jk hlt]; exact List.getElem_mem hlt
  have o1 := hp.ids _ hm
  have o2 := hp.name _ hm
  have o3 := hp.text _ hm
  generalize pre ++ (p.ops.take i).flatMap qX = ac at nx hln ⊢
  generalize p.ops.getD i default = o at q1 nx o1 o2 o3
  have hod : o.d = [.int .i64 o.k,.int .i64 o.on.o,.int .i64 o.on.s,.int .i64 o.on.i,.int .i64 o.to.o,.int .i64 o.to.s,.int .i64 o.to.i,.slc (qV o.ids),.int .i64 o.n,.str o.name,.str o.text,.int .i64 o.a,.int .i64 o.b] := rfl
  simp +contextual only [x27_L11,Yq,YW,qj,hlt,Int.ofNat_lt,q1,hod,↓XP,qm,XW1,qa,qb,qc,qd,qe,qf,reduceCtorEq]
  refine fun b8 hb=>m_op (o := o) (ac := ac) (q := i) (b8 := b8) (p1 := .ptr b1 0) o1 o2 o3 (by omega) ⟨rfl,rfl,rfl,rfl,rfl,rfl,rfl,trivial⟩ fun hl F' H' hpre' hF'=>?_
  obtain ⟨pr,rfl⟩ := hpre'
  obtain ⟨z,rfl⟩ : ∃ z : Nat → D,_ = z 0 :: .ptr b1 0 :: z 2 :: .own ((ac ++ qX o).map qr) :: zz z 4 41 (.slc (qM p.ops) :: .int .i64 p.ops.length :: .int .i64 (i : Int) :: zz z 48 51 []) := hF'.lit
  try dsimp only [zz,qb] at *
  clear hF'
  simp +contextual only [Qe,qj,qn,qh,qp (show i ≤ big by omega),↓QB,↓XP,qm,XW1,qa,qb,qc,qd,qe,qf,reduceCtorEq]
  refine nx hl _ _ ?_ ⟨rfl,rfl,rfl,rfl,rfl,rfl,trivial⟩
  rw [show pr ++ (b8,AO.cells o.d) :: (b1,AO.cells p.d) :: H = (pr ++ [(b8,AO.cells o.d)]) ++ (b1,AO.cells p.d) :: H by simp]
  exact V2
 ·have hik : i = p.ops.length := by omega
  subst hik
  clear hN
  simp +contextual only [Qe,qj,qn,qh,↓QB,↓XP,qm,XW1,qa,qb,qc,qd,qe,qf,reduceCtorEq]
  rw [List.take_length] at hln ⊢
  exact hE' _ _ _ (hE (by omega) _ ⟨rfl,rfl,rfl,trivial⟩)
theorem f_enc {p : Pt} {H : AH} {R : D → AH → Prop} (hp : Fit p) (h : (ji p).length ≤ 2000000000000 → R (.own ((ji p).map qr)) H) : ACall Tryz.prog 27 [.agg p.d] H R := by
 refine b27 fun hf=>?_
 have hbig := qt
 have hpo := hp.ops
 have hpn := hp.needs
 have hps := hp.sl
 have hd := @dE p
 simp +contextual only [Qe,ql,qj,qn,qh,← List.map_append,List.length_append,hd,↓QB,↓XP,qm,XW1,qa,qb,qc,qd,qe,qf,reduceCtorEq]
 refine fun b1 h1 _ _ _=>zC (l := [p.o,p.s,p.day]) (by simp) fun k1=>?_
 have e3 : ([p.o,p.s,p.day] : List Int).length = 3 := rfl
 rw [e3] at k1
 simp +contextual only [Qe,ql,qj,qn,qh,← List.map_append,List.length_append,hd,↓QB,↓XP,qm,XW1,qa,qb,qc,qd,qe,qf,reduceCtorEq]
 simp only [← hd]
 obtain ⟨pre,hpre⟩ : ∃ pre,qN [p.o,p.s,p.day] = pre := ⟨_,rfl⟩
 have henc : ji p = pre ++ qN (qT p.needs) ++ qy p.ops.length ++ p.ops.flatMap qX ++ qH p.sl := by rw [← hpre]; rfl
 rw [henc] at h
 rw [hpre] at k1 ⊢
 refine fun _ _=>m_needs (p := p) (acc := .own (pre.map qr)) hpn ⟨rfl,rfl,rfl,rfl,rfl,rfl,rfl,trivial⟩ (fun F' hF'=>?_)
 obtain ⟨z,rfl⟩ : ∃ z : Nat → D,_ = z 0 :: .ptr b1 0 :: z 2 :: .own (pre.map qr) :: .own (ints (qT p.needs)) :: zz z 5 94 [] := hF'.lit
 try dsimp only [zz,qb] at *
 clear hF'
 have l2 := jS (l := p.needs)
 simp +contextual only [Qe,ql,qj,qn,qh,← List.map_append,List.length_append,hd,↓QB,↓XP,qm,XW1,qa,qb,qc,qd,qe,qf,reduceCtorEq]
 refine zC (l := qT p.needs) (by omega) fun k2=>?_
 simp +contextual only [Qe,ql,qj,qn,qh,← List.map_append,List.length_append,hd,↓QB,↓XP,qm,XW1,qa,qb,qc,qd,qe,qf,reduceCtorEq]
 have k3 := kC (n := p.ops.length) (by omega)
 refine fun _=>⟨qC,qC,by omega,?_⟩
 refine fun _=>gU fun _=>?_
 simp +contextual only [Qe,ql,qj,qn,qh,← List.map_append,List.length_append,hd,↓QB,↓XP,qm,XW1,qa,qb,qc,qd,qe,qf,reduceCtorEq]
 simp only [← hd]
 refine fun _=>⟨qC,qC,by omega,?_⟩
 obtain ⟨pre2,hp2⟩ : ∃ pre2,pre ++ qN (qT p.needs) ++ qy p.ops.length = pre2 := ⟨_,rfl⟩
 have hl2 : pre2.length ≤ 100000000 := by rw [← hp2]; simp only [List.length_append]; omega
 rw [hp2] at h ⊢
 refine fun _=>m_ops (p := p) (pre := pre2) hp hl2 ⟨rfl,rfl,rfl,rfl,rfl,rfl,trivial⟩ (fun k5 F' hF'=>?_)
 obtain ⟨z,rfl⟩ : ∃ z : Nat → D,_ = z 0 :: .ptr b1 0 :: z 2 :: .own ((pre2 ++ p.ops.flatMap qX).map qr) :: zz z 4 95 [] := hF'.lit
 try dsimp only [zz,qb] at *
 clear hF'
 simp only [List.length_append] at k5
 simp +contextual only [Qe,ql,qj,qn,qh,← List.map_append,List.length_append,hd,↓QB,↓XP,qm,XW1,qa,qb,qc,qd,qe,qf,reduceCtorEq]
 have k6 := kC (n := p.sl.length) (by omega)
 refine fun _=>Km (s := p.sl) (by omega) ?_
 have k7 : (qH p.sl).length ≤ 9 + 3000000 := by simp only [qH,List.length_append]; omega
 simp +contextual only [Qe,ql,qj,qn,qh,← List.map_append,List.length_append,hd,↓QB,↓XP,qm,XW1,qa,qb,qc,qd,qe,qf,reduceCtorEq]
 exact fun _=>⟨qC,qC,by omega,h (by simp only [List.length_append]; omega)⟩
theorem oB {l : List UInt8} : ∀ x ∈ l.map qr,oR x := by
 intro x hx
 obtain ⟨t,_,rfl⟩ := List.mem_map.1 hx
 have := t.toNat_lt
 exact ⟨by omega,by omega⟩
theorem zG {l : List UInt8} : (l.map qr).map unbyte = l := by
 rw [List.map_map]
 refine (List.map_congr_left fun x _=>?_).trans (List.map_id l)
 simp [qr,unbyte]
theorem f_msg {p : Pt} {H : AH} {R : D → AH → Prop} (hp : Fit p) (h : R (.str (ji { p with sl := [] })) H) : ACall Tryz.prog 23 [.agg p.d] H R := by
 refine b23 fun hf=>?_
 have hbig := qt
 have hd := @dE p
 simp +contextual only [x23,qh,hd,↓Vr,↓XP,qm,XW1,qa,qb,qc,qd,qe,qf,reduceCtorEq]
 refine fun b1 h1=>f_enc (p := { p with sl := [] }) ⟨hp.ops,hp.needs,hp.ids,hp.name,hp.text,by simp⟩ fun k=>?_
 simp +contextual only [x23,qh,hd,↓Vr,↓XP,qm,XW1,qa,qb,qc,qd,qe,qf,reduceCtorEq]
 refine fun _=>⟨oB,?_⟩
 rw [zG]
 exact h
end Go.Proofs.YtoeckfegggongaaGreatDoor
end
section
namespace Go.Proofs.YtoeckfegggongaaGreatDoor
open Go Go.Aw
def jq (x : Id3) : Prop := 0 ≤ x.o ∧ x.o ≤ 7 ∧ 1 ≤ x.s ∧ x.s ≤ 16 ∧ 0 ≤ x.i ∧ x.i ≤ 15
instance (x : Id3) : Decidable (jq x) := by unfold jq; exact inferInstance
def kA (a b : Int) : Prop := 1 ≤ a ∧ a ≤ b ∧ b ≤ 1022679
instance (a b : Int) : Decidable (kA a b) := by unfold kA; exact inferInstance
def uses (k : Int) : List UInt8 :=
 if k = 1 then [65,88] else if k = 2 ∨ k = 8 ∨ k = 10 ∨ k = 9 then [79,78] else if k = 3 then [65,88,83] else if k = 4 then [79,84,78,88]
 else if k = 5 ∨ k = 7 then [79,88] else if k = 6 then [79,65] else if k = 11 then [79,83] else if k = 12 then [79,65,88] else if k = 13 ∨ k = 15 then [79,84,78]
 else if k = 14 then [79,65,78] else if k = 16 then [79,73,78] else if k = 17 then [79,84] else if k = 18 then [79,84,73] else []
def yl (k : Int) : Int := if k = 16 then -1 else 0
def kD (o : OpP) : Int := if o.k = 9 ∨ o.k = 14 ∨ o.k = 15 then 1 else if o.k = 13 then 1023 else if o.k = 16 then o.ids.length - 1 else 1048576
def yA (o : OpP) : Prop := yl o.k ≤ o.n ∧ o.n ≤ kD o
instance (o : OpP) : Decidable (yA o) := by unfold yA; exact inferInstance
def vW (o : OpP) : Prop := (∀ x ∈ o.ids,jq x ∧ (o.k = 16 → x ≠ o.on)) ∧ o.ids.Nodup ∧ (o.k = 18 → o.ids.length = 1) ∧ (o.k ≠ 18 → 2 ≤ o.ids.length ∧ o.ids.length ≤ 4)
instance (o : OpP) : Decidable (vW o) := by unfold vW; exact inferInstance
theorem Yp {x : Id3} {H : AH} {R : D → AH → Prop} (h : R (.bool (decide (jq x))) H) : ACall Tryz.prog 52 [.agg x.d] H R := by
 refine b52 fun hf=>?_
 have hd : x.d = [.int .i64 x.o,.int .i64 x.s,.int .i64 x.i] := rfl
 have hk : ∀ b,decide (jq x) = b → R (.bool b) H := fun b hb=>hb ▸ h
 simp +contextual only [x52,hd,↓u52_s0,↓XP,qm,XW1,qa,qb,qc,qd,qe,qf,reduceCtorEq]
 intro b1 h1
 repeat' (first | apply And.intro | intro _)
 all_goals first
  | exact hk _ (decide_eq_true (by unfold jq; omega))
  | exact hk _ (decide_eq_false (by unfold jq; omega))
  | exact hk _ (decide_eq_decide.2 (by unfold jq; omega))
  | skip
theorem f_rSpan {a b : Int} {H : AH} {R : D → AH → Prop} (h : R (.bool (decide (kA a b))) H) : ACall Tryz.prog 55 [.agg [.int .i64 a,.int .i64 b]] H R := by
 refine b55 fun hf=>?_
 have hk : ∀ c,decide (kA a b) = c → R (.bool c) H := fun b hb=>hb ▸ h
 simp +contextual only [x55,↓u55_s0,↓XP,qm,XW1,qa,qb,qc,qd,qe,qf,reduceCtorEq]
 intro b1 h1
 repeat' (first | apply And.intro | intro _)
 all_goals first
  | exact hk _ (decide_eq_true (by unfold kA; omega))
  | exact hk _ (decide_eq_false (by unfold kA; omega))
  | exact hk _ (decide_eq_decide.2 (by unfold kA; omega))
  | skip
theorem f_rUses {k : Int} {H : AH} {R : D → AH → Prop} (h : R (.str (uses k)) H) : ACall Tryz.prog 50 [.int .i64 k] H R := by
 refine b50 fun hf=>?_
 have hk : ∀ s,uses k = s → R (.str s) H := fun b hb=>hb ▸ h
 simp +contextual only [x50,↓U50,↓XP,qm,XW1,qa,qb,qc,qd,qe,qf,reduceCtorEq]
 repeat' (first | apply And.intro | intro _)
 all_goals first
  | exact hk _ (by unfold uses; simp [*])
  | skip
theorem uI {s : List UInt8} {c : UInt8} {H : AH} {R : D → AH → Prop} (h : R (.bool (decide (c ∈ s))) H) : ACall Tryz.prog 51 [.str s,.int .u8 (c.toNat : Int)] H R := by
 refine b51 fun hf=>?_
 have hbig := qt
 have hlen : s.length ≤ big := hf.1
 have hk : ∀ b,decide (c ∈ s) = b → R (.bool b) H := fun b hb=>hb ▸ h
 simp +contextual only [x51,↓U51,↓XP,qm,XW1,qa,qb,qc,qd,qe,qf,reduceCtorEq]
 refine XW.loopK Go.Proofs.YtoeckfegggongaaGreatDoor.hm (fun F H'=>∃ (i : Nat),i ≤ s.length ∧ c ∉ s.take i ∧ Fr 17 [(0,.str s),(1,.int .u8 (c.toNat : Int)),(5,.int .i64 i)] F ∧ H = H') (fun F H=>match F.getD 5 .any with | .int _ n'=>s.length - n'.toNat | _=>0) ⟨0,by omega,by simp,⟨rfl,rfl,rfl,rfl,trivial⟩,rfl⟩ ?_
 rintro _ _ ⟨i,hi,hn,hF,rfl⟩ K hN hE hR
 obtain ⟨z,rfl⟩ : ∃ z : Nat → D,_ = .str s :: .int .u8 (c.toNat : Int) :: zz z 2 3 (.int .i64 i :: zz z 6 11 []) := hF.lit
 try dsimp only [zz,qb] at *
 clear hF
 by_cases hlt : i < s.length
 ·have nx : c ∉ s.take (i + 1) → ∀ F',Fr 17 [(0,.str s),(1,.int .u8 (c.toNat : Int)),(5,.int .i64 ((i + 1 : Nat) : Int))] F' → K .normal F' H := fun hn F' hF'=>hN _ _ ⟨i + 1,hlt,hn,hF',(j9 rfl).symm⟩ (by
   rw [List.getD_eq_getElem?_getD,hF'.2.2.2.1]
   simp only [List.getD_cons_succ,List.getD_cons_zero,Option.getD_some]
   omega)
  clear hN hE
  have hmem : s.getD i 0 ∈ s := by rw [jk hlt]; exact List.getElem_mem hlt
  have hnt : s.getD i 0 ≠ c → c ∉ s.take (i + 1) := fun hne hm=>by
   rw [List.take_add_one] at hm
   rcases List.mem_append.1 hm with hm | hm
   ·exact hn hm
   ·simp [hlt] at hm
    exact hne (by simp [hlt,hm])
  generalize hd : s.getD i 0 = d at hmem hnt
  have heq : (((d.toNat : Nat) : Int) = ((c.toNat : Nat) : Int)) = (d = c) := by
   apply propext
   constructor
   ·intro h; exact UInt8.toNat_inj.1 (by omega)
   ·intro h; rw [h]
  simp +contextual only [x51,hd,heq,qp (show i ≤ big by omega),↓U51,↓XP,qm,XW1,qa,qb,qc,qd,qe,qf,reduceCtorEq]
  refine fun _=>⟨fun _=>⟨fun he=>hR _ _ ?_,fun he=>nx (hnt he) _ ⟨rfl,rfl,rfl,rfl,trivial⟩⟩,fun hge=>absurd (by omega) hge⟩
  simp +contextual only [x51,↓U51,↓XP,qm,XW1,qa,qb,qc,qd,qe,qf,reduceCtorEq]
  exact hk _ (decide_eq_true (he ▸ hmem))
 ·have hik : i = s.length := by omega
  subst hik
  clear hN
  rw [List.take_length] at hn
  simp +contextual only [x51,↓U51,↓XP,qm,XW1,qa,qb,qc,qd,qe,qf,reduceCtorEq]
  refine fun _=>hE _ _ _ ?_
  simp +contextual only [x51,↓U51,↓XP,qm,XW1,qa,qb,qc,qd,qe,qf,reduceCtorEq]
  exact hk _ (decide_eq_false hn)
theorem f_rNum {o : OpP} {H : AH} {R : D → AH → Prop} (h : R (.bool (decide (yA o))) H) : ACall Tryz.prog 53 [.agg o.d] H R := by
 refine b53 fun hf=>?_
 have hbig := qt
 have hod : o.d = [.int .i64 o.k,.int .i64 o.on.o,.int .i64 o.on.s,.int .i64 o.on.i,.int .i64 o.to.o,.int .i64 o.to.s,.int .i64 o.to.i,.slc (qV o.ids),.int .i64 o.n,.str o.name,.str o.text,.int .i64 o.a,.int .i64 o.b] := rfl
 have hk : ∀ b,decide (yA o) = b → R (.bool b) H := fun b hb=>hb ▸ h
 have w1 : o.ids.length ≤ big → IntKind.i64.wrap ((o.ids.length : Int) - 1) = (o.ids.length : Int) - 1 := fun h=>qw (by omega) (by omega)
 simp +contextual only [x53,hod,qk,w1,↓U53,↓XP,qm,XW1,qa,qb,qc,qd,qe,qf,reduceCtorEq]
 repeat' (first | apply And.intro | intro _)
 all_goals first
  | exact hk _ (decide_eq_decide.2 (by simp [yA,yl,kD, *]))
  | exact hk _ (decide_eq_false (by simp [yA,yl,kD, *]; omega))
  | exact hk _ (decide_eq_false (by simp [yA,yl,kD, *]))
  | skip
theorem vH {l : List Id3} {i : Nat} (h : i < l.length) : (l.take (i + 1)).Nodup ↔ (l.take i).Nodup ∧ l.getD i default ∉ l.take i := by
 rw [List.take_add_one,show l[i]?.toList = [l.getD i default] by simp [h],List.nodup_append]
 constructor
 ·rintro ⟨h1,_,h3⟩
  exact ⟨h1,fun hm=>h3 _ hm _ (List.mem_singleton.2 rfl) rfl⟩
 ·rintro ⟨h1,h2⟩
  exact ⟨h1,by simp,fun a ha b hb e=>h2 (by rw [List.mem_singleton] at hb; rw [← hb,← e]; exact ha)⟩
theorem JT {o : OpP} {H : AH} {R : D → AH → Prop} (h : R (.bool (decide (vW o))) H) : ACall Tryz.prog 54 [.agg o.d] H R := by
 refine b54 fun hf=>?_
 have hbig := qt
 have hod : o.d = [.int .i64 o.k,.int .i64 o.on.o,.int .i64 o.on.s,.int .i64 o.on.i,.int .i64 o.to.o,.int .i64 o.to.s,.int .i64 o.to.i,.slc (qV o.ids),.int .i64 o.n,.str o.name,.str o.text,.int .i64 o.a,.int .i64 o.b] := rfl
 have hk : ∀ b,decide (vW o) = b → R (.bool b) H := fun b hb=>hb ▸ h
 clear h
 simp +contextual only [Kd,qk,hod,↓Kr,↓XP,qm,XW1,qa,qb,qc,qd,qe,qf,reduceCtorEq]
 intro b1 h1
 simp only [← hod]
 refine XW.loopK Go.Proofs.YtoeckfegggongaaGreatDoor.hm (fun F H'=>∃ (i : Nat),i ≤ o.ids.length ∧ (∀ x ∈ o.ids.take i,jq x ∧ (o.k = 16 → x ≠ o.on)) ∧ (o.ids.take i).Nodup ∧ Fr 67 [(1,.ptr b1 0),(3,.int .i64 i)] F ∧ ((b1,AO.cells o.d) :: H) = H') (fun F H=>match F.getD 3 .any with | .int _ n'=>o.ids.length - n'.toNat | _=>0) ⟨0,by omega,by simp,by simp,⟨rfl,rfl,rfl,trivial⟩,rfl⟩ ?_
 rintro _ _ ⟨i,hi,hv,hn,hF,rfl⟩ K hN hE hR
 obtain ⟨z,rfl⟩ : ∃ z : Nat → D,_ = z 0 :: .ptr b1 0 :: z 2 :: .int .i64 i :: zz z 4 63 [] := hF.lit
 try dsimp only [zz,qb] at *
 clear hF
 by_cases hlt : i < o.ids.length
 ·have nx : (jq (o.ids.getD i default) ∧ (o.k = 16 → o.ids.getD i default ≠ o.on)) → o.ids.getD i default ∉ o.ids.take i → ∀ F',Fr 67 [(1,.ptr b1 0),(3,.int .i64 ((i + 1 : Nat) : Int))] F' → K .normal F' ((b1,AO.cells o.d) :: H) := fun h1 h2 F' hF'=>hN _ _ ⟨i + 1,hlt,fun x hx=>by
    rw [List.take_add_one] at hx
    rcases List.mem_append.1 hx with hx | hx
    ·exact hv x hx
    ·simp [hlt] at hx
     have : x = o.ids.getD i default := by simp [hlt,hx]
     rw [this]; exact h1,(vH hlt).2 ⟨hn,h2⟩,hF',(j9 rfl).symm⟩ (by
   rw [List.getD_eq_getElem?_getD,hF'.2.2.1]
   simp only [List.getD_cons_succ,List.getD_cons_zero,Option.getD_some]
   omega)
  clear hN hE
  have q1 := kX hlt
  have hm : o.ids.getD i default ∈ o.ids := by rw [jk hlt]; exact List.getElem_mem hlt
  generalize hxe : o.ids.getD i default = x at q1 nx hm
  have hxd : x.d = [.int .i64 x.o,.int .i64 x.s,.int .i64 x.i] := rfl
  simp +contextual only [Kd,qk,hod,q1,hxd,↓Kr,↓XP,qm,XW1,qa,qb,qc,qd,qe,qf,reduceCtorEq]
  refine fun _=>⟨fun _=>⟨_,Yp (x := x) ⟨rfl,rfl⟩,?_⟩,fun hge=>absurd (by omega) hge⟩
  have hdc : ∀ y : Id3,(decide (x.o = y.o) && (decide (x.s = y.s) && decide (x.i = y.i))) = decide (x = y) := fun y=>by
   cases x; cases y; simp
  have inner : (jq x ∧ (o.k = 16 → x ≠ o.on)) → ∀ F',Fr 67 [(1,.ptr b1 0),(3,.int .i64 i),(4,.int .i64 0)] F' → XW Tryz.prog x54_L2 F' ((b1,AO.cells o.d) :: H) (kT 2 (kT 1 (Jh Tryz.prog x54_s3 K))) := fun hg F' hF'=>by
   refine XW.loopK Go.Proofs.YtoeckfegggongaaGreatDoor.hm (fun F H'=>∃ (k : Nat),k ≤ i ∧ x ∉ o.ids.take k ∧ Fr 67 [(1,.ptr b1 0),(3,.int .i64 i),(4,.int .i64 k)] F ∧ ((b1,AO.cells o.d) :: H) = H') (fun F H=>match F.getD 4 .any with | .int _ n'=>i - n'.toNat | _=>0) ⟨0,by omega,by simp,hF',rfl⟩ ?_
   rintro _ _ ⟨k,hki,hnk,hF,rfl⟩ K2 hN2 hE2 hR2
   obtain ⟨z2,rfl⟩ : ∃ z2 : Nat → D,_ = (let z := z2; [z 0,.ptr b1 0,z 2,.int .i64 i,.int .i64 k,z 5,z 6,z 7,z 8,z 9,z 10,z 11,z 12,z 13,z 14,z 15,z 16,z 17,z 18,z 19,z 20,z 21,z 22,z 23,z 24,z 25,z 26,z 27,z 28,z 29,z 30,z 31,z 32,z 33,z 34,z 35,z 36,z 37,z 38,z 39,z 40,z 41,z 42,z 43,z 44,z 45,z 46,z 47,z 48,z 49,z 50,z 51,z 52,z 53,z 54,z 55,z 56,z 57,z 58,z 59,z 60,z 61,z 62,z 63,z 64,z 65,z 66]) := hF.lit
   clear hF hF'
   by_cases hlk : k < i
   ·have nx2 : x ≠ o.ids.getD k default → ∀ F',Fr 67 [(1,.ptr b1 0),(3,.int .i64 i),(4,.int .i64 ((k + 1 : Nat) : Int))] F' → K2 .normal F' ((b1,AO.cells o.d) :: H) := fun h1 F' hF'=>hN2 _ _ ⟨k + 1,hlk,fun hx=>by
      rw [List.take_add_one] at hx
      rcases List.mem_append.1 hx with hx | hx
      ·exact hnk hx
      ·simp [show k < o.ids.length by omega] at hx
       exact h1 (by simp [show k < o.ids.length by omega,hx]),hF',(j9 rfl).symm⟩ (by
     rw [List.getD_eq_getElem?_getD,hF'.2.2.2.1]
     simp only [List.getD_cons_succ,List.getD_cons_zero,Option.getD_some]
     omega)
    have q2 := kX (l := o.ids) (i := k) (by omega)
    have hny : o.ids.getD k default = x → ¬ vW o := fun he ho=>by
     have h2 := (ho.2.1).sublist (List.take_sublist (i + 1) o.ids)
     exact ((vH hlt).1 h2).2 (by
      rw [hxe,← he,jk (show k < o.ids.length by omega)]
      exact List.mem_take_iff_getElem.2 ⟨k,by omega,rfl⟩)
    generalize o.ids.getD k default = y at nx2 q2 hny
    have hyd : y.d = [.int .i64 y.o,.int .i64 y.s,.int .i64 y.i] := rfl
    have hdy : (decide (y.o = x.o) && (decide (y.s = x.s) && decide (y.i = x.i))) = decide (y = x) := by
     cases x; cases y; simp
    have hlt' : (k : Int) < (i : Int) := by omega
    by_cases hyx : y = x
    ·simp +contextual only [Kd,qk,hod,q1,q2,hxd,hyd,hdy,hyx,hlt',↓Kr,↓XP,qm,XW1,qa,qb,qc,qd,qe,qf,reduceCtorEq]
     refine fun _=>⟨by omega,by omega,hR2 _ _ ?_⟩
     simp +contextual only [Kd,qk,hod,↓Kr,↓XP,qm,XW1,qa,qb,qc,qd,qe,qf,reduceCtorEq]
     refine hR _ _ ?_
     simp +contextual only [Kd,qk,hod,↓Kr,↓XP,qm,XW1,qa,qb,qc,qd,qe,qf,reduceCtorEq]
     exact hk _ (decide_eq_false (hny hyx))
    ·simp +contextual only [Kd,qk,hod,q1,q2,hxd,hyd,hdy,hyx,hlt',qp (show k ≤ big by omega),↓Kr,↓XP,qm,XW1,qa,qb,qc,qd,qe,qf,reduceCtorEq]
     simp only [← hod]
     exact fun _=>⟨by omega,by omega,nx2 (Ne.symm hyx) _ ⟨rfl,rfl,rfl,rfl,trivial⟩⟩
   ·have hik : k = i := by omega
    subst hik
    clear hN2
    simp +contextual only [Kd,qk,hod,↓Kr,↓XP,qm,XW1,qa,qb,qc,qd,qe,qf,reduceCtorEq]
    refine hE2 _ _ _ ?_
    simp +contextual only [Kd,qk,hod,qp (show k ≤ big by omega),↓Kr,↓XP,qm,XW1,qa,qb,qc,qd,qe,qf,reduceCtorEq]
    simp only [← hod]
    exact nx hg hnk _ ⟨rfl,rfl,rfl,trivial⟩
  by_cases hok : jq x
  ·by_cases hk16 : o.k = 16
   ·have hk16' : (o.k = 16) = True := eq_true hk16
    by_cases hxo : x = o.on
    ·have hxo' : (x = o.on) = True := eq_true hxo
     simp +contextual only [Kd,qk,hod,q1,hxd,hok,hk16',hdc,hxo',↓Kr,↓XP,qm,XW1,qa,qb,qc,qd,qe,qf,reduceCtorEq]
     refine fun _ _=>⟨by omega,hR _ _ ?_⟩
     simp +contextual only [Kd,qk,hod,↓Kr,↓XP,qm,XW1,qa,qb,qc,qd,qe,qf,reduceCtorEq]
     exact hk _ (decide_eq_false (fun hh=>(hh.1 x hm).2 hk16 hxo))
    ·simp +contextual only [Kd,qk,hod,q1,hxd,hok,hk16',hdc,hxo,↓Kr,↓XP,qm,XW1,qa,qb,qc,qd,qe,qf,reduceCtorEq]
     simp only [← hod]
     exact fun _ _=>⟨by omega,inner ⟨hok,fun _=>hxo⟩ _ ⟨rfl,rfl,rfl,rfl,trivial⟩⟩
   ·have hk16' : (o.k = 16) = False := eq_false hk16
    simp +contextual only [Kd,qk,hod,q1,hxd,hok,hk16',↓Kr,↓XP,qm,XW1,qa,qb,qc,qd,qe,qf,reduceCtorEq]
    simp only [← hod]
    exact fun _=>inner ⟨hok,fun h=>(hk16 h).elim⟩ _ ⟨rfl,rfl,rfl,rfl,trivial⟩
  ·simp +contextual only [Kd,qk,hod,q1,hxd,hok,↓Kr,↓XP,qm,XW1,qa,qb,qc,qd,qe,qf,reduceCtorEq]
   refine hR _ _ ?_
   simp +contextual only [Kd,qk,hod,↓Kr,↓XP,qm,XW1,qa,qb,qc,qd,qe,qf,reduceCtorEq]
   exact hk _ (decide_eq_false (fun hh=>hok (hh.1 x hm).1))
 ·have hik : i = o.ids.length := by omega
  subst hik
  clear hN
  rw [List.take_length] at hn hv
  simp +contextual only [Kd,qk,hod,↓Kr,↓XP,qm,XW1,qa,qb,qc,qd,qe,qf,reduceCtorEq]
  refine fun _=>hE _ _ _ ?_
  have hk18 : ∀ {c : Int},(o.k = c) = (o.k = c) := rfl
  simp +contextual only [Kd,qk,hod,↓Kr,↓XP,qm,XW1,qa,qb,qc,qd,qe,qf,reduceCtorEq]
  have c1 : ((o.ids.length : Int) = 1) = (o.ids.length = 1) := by apply propext; omega
  have c2 : (2 ≤ (o.ids.length : Int)) = (2 ≤ o.ids.length) := by apply propext; omega
  have c3 : ((o.ids.length : Int) ≤ 4) = (o.ids.length ≤ 4) := by apply propext; omega
  refine fun _=>⟨fun e _=>?_,fun e _=>⟨fun e2=>?_,fun e2=>?_⟩⟩
  ·exact hk _ (decide_eq_decide.2 ⟨fun h=>by have := h.2.2.1 e; omega,fun h=>⟨hv,hn,fun _=>by omega,fun h=>(h e).elim⟩⟩)
  ·exact hk _ (decide_eq_decide.2 ⟨fun h=>by have := h.2.2.2 e; omega,fun h=>⟨hv,hn,fun h=>(e h).elim,fun _=>by omega⟩⟩)
  ·exact hk _ (decide_eq_false (fun h=>by have := h.2.2.2 e; omega))
end Go.Proofs.YtoeckfegggongaaGreatDoor
end
