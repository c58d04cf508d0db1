/- A part of the proof of what the last text says: Gm6, Gr0, XcD, XcF, Gr1. Conditions: those in each theorem. -/
import Derived.Test.YtoeckfegggongaaGreatDoorV18
set_option linter.unusedVariables false
set_option linter.unusedSimpArgs false
set_option maxRecDepth 100000
set_option maxHeartbeats 16000000
open Nat renaming reduceSub → qa,reduceAdd → qb,reduceMul → qc,reduceEqDiff → qd,reduceLeDiff → qe,reduceBEq → qf
section
namespace Go.Proofs.YtoeckfegggongaaGreatDoor
open Go Go.Aw
open Classical in
theorem gW {p : Pt} {H : AH} {R : D → AH → Prop} (hp : Fit p) (h : R (.int .i64 (jK p)) H) : ACall Tryz.prog 7 [.agg p.d] H R := by
 refine b7 fun hf=>?_
 have hbig := qt
 have hd := @dE p
 have hk : ∀ b,jK p = b → R (.int .i64 b) H := fun b hb=>hb ▸ h
 clear h
 simp +contextual only [x7,hd,ql,qj,↓U7,↓XP,qm,XW1,qa,qb,qc,qd,qe,qf,reduceCtorEq]
 refine fun b1 h1 _ _=>uA ?_
 by_cases hh : ¬ y8 p
 ·have h5 := hk 5 (by unfold jK; rw [if_pos hh])
  unfold y8 at hh
  by_cases hn : yI p.o p.s
  ·simp +contextual only [x7,hd,ql,qj,decide_eq_true hn,↓U7,↓XP,qm,XW1,qa,qb,qc,qd,qe,qf,reduceCtorEq]
   unfold yI at hn
   refine fun _=>yw ?_
   simp +contextual only [x7,hd,ql,qj,decide_eq_false (show ¬ (1 ≤ p.day ∧ p.day ≤ 1048576) by omega),↓U7,↓XP,qm,XW1,qa,qb,qc,qd,qe,qf,reduceCtorEq]
   exact h5
  ·simp +contextual only [x7,hd,ql,qj,decide_eq_false hn,↓U7,↓XP,qm,XW1,qa,qb,qc,qd,qe,qf,reduceCtorEq]
   exact h5
 have hh : y8 p := Classical.not_not.1 hh
 have hn : yI p.o p.s := ⟨hh.1,hh.2.1,hh.2.2.1,hh.2.2.2.1⟩
 simp +contextual only [x7,hd,ql,qj,decide_eq_true hn,↓U7,↓XP,qm,XW1,qa,qb,qc,qd,qe,qf,reduceCtorEq]
 refine fun _=>yw ?_
 simp +contextual only [x7,hd,ql,qj,decide_eq_true (show 1 ≤ p.day ∧ p.day ≤ 1048576 from hh.2.2.2.2),↓U7,↓XP,qm,XW1,qa,qb,qc,qd,qe,qf,reduceCtorEq]
 have k4 : 8 < p.needs.length ∨ 16 < p.ops.length → R (.int .i64 4) H := fun hl=>hk 4 (by unfold jK; rw [if_neg (fun h=>h hh),if_pos hl])
 refine fun _=>⟨fun c=>k4 (by omega),fun c1 _=>⟨fun c=>k4 (by omega),fun c2=>⟨fun c=>hk 1 (by unfold jK; rw [if_neg (fun h=>h hh),if_neg (by omega),if_pos (List.eq_nil_of_length_eq_zero (by omega))]),fun c3=>?_⟩⟩⟩
 have hl : ¬ (8 < p.needs.length ∨ 16 < p.ops.length) := by omega
 have hne : p.ops ≠ [] := fun e=>c3 (by rw [e]; rfl)
 have hk2 : ∀ b,(if ¬ wu p then (1 : Int) else if ¬ vR p then 1 else if 6800 < (ji (bare p)).length then 4 else 0) = b → R (.int .i64 b) H := fun b hb=>hk b (by
  unfold jK
  rw [if_neg (fun h=>h hh),if_neg hl,if_neg hne]
  exact hb)
 clear hk k4
 simp only [← hd]
 refine XW.loopK Go.Proofs.YtoeckfegggongaaGreatDoor.hm (fun F H'=>∃ (i : Nat),i ≤ p.needs.length ∧ (∀ j,j < i → kM p j) ∧ Fr 86 [(1,.ptr b1 0),(34,.slc (qO p.needs)),(35,.int .i64 p.needs.length),(36,.int .i64 i)] F ∧ ((b1,AO.cells p.d) :: H) = H') (fun F H=>match F.getD 36 .any with | .int _ n'=>p.needs.length - n'.toNat | _=>0) ⟨0,by omega,by omega,⟨rfl,rfl,rfl,rfl,rfl,trivial⟩,rfl⟩ ?_
 rintro _ _ ⟨i,hi,hv,hF,rfl⟩ K hN hE hR
 obtain ⟨z,rfl⟩ : ∃ z : Nat → D,_ = z 0 :: .ptr b1 0 :: zz z 2 32 (.slc (qO p.needs) :: .int .i64 p.needs.length :: .int .i64 i :: zz z 37 49 []) := hF.lit
 try dsimp only [zz,qb] at *
 clear hF
 by_cases hlt : i < p.needs.length
 ·have nx : kM p i → ∀ F' H',back ((b1,AO.cells p.d) :: H).length H' = ((b1,AO.cells p.d) :: H) → Fr 86 [(1,.ptr b1 0),(34,.slc (qO p.needs)),(35,.int .i64 p.needs.length),(36,.int .i64 ((i + 1 : Nat) : Int))] F' → K .normal F' H' := fun h1 F' H' hH hF'=>hN _ _ ⟨i + 1,hlt,fun j hj=>by
    by_cases e : j = i
    ·rw [e]; exact h1
    ·exact hv j (by omega),hF',hH.symm⟩ (by
   rw [List.getD_eq_getElem?_getD,hF'.2.2.2.2.1]
   simp only [List.getD_cons_succ,List.getD_cons_zero,Option.getD_some]
   omega)
  have hno : ¬ kM p i → R (.int .i64 1) H := fun h1=>hk2 1 (by rw [if_pos (fun h=>h1 (h i hlt))])
  clear hN hE
  have q1 := yZ hlt
  have q0 : 0 < i → (qO p.needs).getD (i - 1) [] = (p.needs.getD (i - 1) default).d := fun h=>yZ (by omega)
  unfold kM at nx hno
  generalize p.needs.getD i default = r at q1 nx hno
  generalize p.needs.getD (i - 1) default = t at q0 nx hno
  have hr : r.d = [.int .i64 r.o,.int .i64 r.s] := rfl
  have ht : t.d = [.int .i64 t.o,.int .i64 t.s] := rfl
  have w1 : 0 < i → IntKind.i64.wrap ((i : Int) - 1) = ((i - 1 : Nat) : Int) := fun h=>by rw [qw (by omega) (by omega)]; omega
  simp +contextual only [x7,hd,ql,qj,hlt,Int.ofNat_lt,q1,hr,qp (show i ≤ big by omega),↓U7,↓XP,qm,XW1,qa,qb,qc,qd,qe,qf,reduceCtorEq]
  rintro b4 ⟨n14,h4⟩ _ _
  refine ⟨_,uA ⟨rfl,rfl⟩,?_⟩
  by_cases k1 : yI r.o r.s
  ·have k1' := k1
   unfold yI at k1'
   by_cases k2 : r.o = p.o
   ·have k1p : yI p.o r.s := k2 ▸ k1
    simp +contextual only [x7,hd,ql,qj,decide_eq_true k1,n14,qg n14,decide_eq_true k2,k2,decide_eq_true k1p,↓U7,↓XP,qm,XW1,qa,qb,qc,qd,qe,qf,reduceCtorEq]
    intros
    refine hR _ _ ?_
    simp +contextual only [x7,hd,ql,qj,↓U7,↓XP,qm,XW1,qa,qb,qc,qd,qe,qf,reduceCtorEq]
    exact hno (by omega)
   by_cases hi0 : 0 < i
   ·have q0' := q0 hi0
    have w1' := w1 hi0
    by_cases c6 : r.o ≤ t.o
    ·simp +contextual only [x7,hd,ql,qj,decide_eq_true k1,n14,qg n14,decide_eq_false k2,eq_false k2,q0',ht,w1',(eq_true (by omega) : ((0 : Int) < (i : Int)) = True),(eq_true c6),↓U7,↓XP,qm,XW1,qa,qb,qc,qd,qe,qf,reduceCtorEq]
     intros
     refine ⟨by omega,fun _=>hR _ _ ?_⟩
     simp +contextual only [x7,hd,ql,qj,↓U7,↓XP,qm,XW1,qa,qb,qc,qd,qe,qf,reduceCtorEq]
     exact hno (by omega)
    ·simp +contextual only [x7,hd,ql,qj,decide_eq_true k1,n14,qg n14,decide_eq_false k2,eq_false k2,q0',ht,w1',(eq_true (by omega) : ((0 : Int) < (i : Int)) = True),(eq_false c6),qp (show i ≤ big by omega),↓U7,↓XP,qm,XW1,qa,qb,qc,qd,qe,qf,reduceCtorEq]
     intros
     exact ⟨by omega,fun _=>nx (by omega) _ _ (yB rfl) ⟨rfl,rfl,rfl,rfl,rfl,trivial⟩⟩
   ·simp +contextual only [x7,hd,ql,qj,decide_eq_true k1,n14,qg n14,decide_eq_false k2,eq_false k2,(eq_false (by omega) : ((0 : Int) < (i : Int)) = False),qp (show i ≤ big by omega),↓U7,↓XP,qm,XW1,qa,qb,qc,qd,qe,qf,reduceCtorEq]
    intros
    exact nx (by omega) _ _ (yB rfl) ⟨rfl,rfl,rfl,rfl,rfl,trivial⟩
  ·simp +contextual only [x7,hd,ql,qj,decide_eq_false k1,↓U7,↓XP,qm,XW1,qa,qb,qc,qd,qe,qf,reduceCtorEq]
   refine hR _ _ ?_
   simp +contextual only [x7,hd,ql,qj,↓U7,↓XP,qm,XW1,qa,qb,qc,qd,qe,qf,reduceCtorEq]
   unfold yI at k1
   exact hno (by omega)
 ·have hik : i = p.needs.length := by omega
  subst hik
  clear hN
  have hon : wu p := hv
  have hk3 : ∀ b,(if ¬ vR p then (1 : Int) else if 6800 < (ji (bare p)).length then 4 else 0) = b → R (.int .i64 b) H := fun b hb=>hk2 b (by rw [if_neg (fun h=>h hon)]; exact hb)
  clear hk2 hv
  simp +contextual only [x7,hd,ql,qj,↓U7,↓XP,qm,XW1,qa,qb,qc,qd,qe,qf,reduceCtorEq]
  refine hE _ _ _ ?_
  clear hE hR
  simp +contextual only [x7,hd,ql,qj,↓U7,↓XP,qm,XW1,qa,qb,qc,qd,qe,qf,reduceCtorEq]
  simp only [← hd]
  refine fun _=>XW.loopK Go.Proofs.YtoeckfegggongaaGreatDoor.hm (fun F H'=>∃ (i : Nat),i ≤ p.ops.length ∧ (∀ o ∈ p.ops.take i,vi o) ∧ Fr 86 [(1,.ptr b1 0),(72,.slc (qM p.ops)),(73,.int .i64 p.ops.length),(74,.int .i64 i)] F ∧ ((b1,AO.cells p.d) :: H) = H') (fun F H=>match F.getD 74 .any with | .int _ n'=>p.ops.length - n'.toNat | _=>0) ⟨0,by omega,by simp,⟨rfl,rfl,rfl,rfl,rfl,trivial⟩,rfl⟩ ?_
  rintro _ _ ⟨i,hi,hv,hF,rfl⟩ K hN hE hR
  obtain ⟨z,rfl⟩ : ∃ z : Nat → D,_ = z 0 :: .ptr b1 0 :: zz z 2 70 (.slc (qM p.ops) :: .int .i64 p.ops.length :: .int .i64 i :: zz z 75 11 []) := hF.lit
  try dsimp only [zz,qb] at *
  clear hF
  by_cases hlt : i < p.ops.length
  ·have nx : vi (p.ops.getD i default) → ∀ F' H',back ((b1,AO.cells p.d) :: H).length H' = ((b1,AO.cells p.d) :: H) → Fr 86 [(1,.ptr b1 0),(72,.slc (qM p.ops)),(73,.int .i64 p.ops.length),(74,.int .i64 ((i + 1 : Nat) : Int))] F' → K .normal F' H' := fun h1 F' H' hH hF'=>hN _ _ ⟨i + 1,hlt,fun o ho=>by
     rw [List.take_add_one] at ho
     rcases List.mem_append.1 ho with ho | ho
     ·exact hv o ho
     ·simp [hlt] at ho
      have : o = p.ops.getD i default := by simp [hlt,ho]
      rw [this]; exact h1,hF',hH.symm⟩ (by
    rw [List.getD_eq_getElem?_getD,hF'.2.2.2.2.1]
    simp only [List.getD_cons_succ,List.getD_cons_zero,Option.getD_some]
    omega)
   have hm : p.ops.getD i default ∈ p.ops := by rw [jk hlt]; exact List.getElem_mem hlt
   have hno : ¬ vi (p.ops.getD i default) → R (.int .i64 1) H := fun h1=>hk3 1 (by rw [if_pos (fun h=>h1 (h _ hm))])
   clear hN hE hk3
   have q1 := kB hlt
   generalize p.ops.getD i default = o at q1 nx hno
   have hod : o.d = [.int .i64 o.k,.int .i64 o.on.o,.int .i64 o.on.s,.int .i64 o.on.i,.int .i64 o.to.o,.int .i64 o.to.s,.int .i64 o.to.i,.slc (qV o.ids),.int .i64 o.n,.str o.name,.str o.text,.int .i64 o.a,.int .i64 o.b] := rfl
   simp +contextual only [x7,hd,ql,qj,hlt,Int.ofNat_lt,q1,hod,↓U7,↓XP,qm,XW1,qa,qb,qc,qd,qe,qf,reduceCtorEq]
   refine fun b6 hb6=>f_valid (o := o) ?_
   by_cases ho : vi o
   ·simp +contextual only [x7,hd,ql,qj,ho,qp (show i ≤ big by omega),↓U7,↓XP,qm,XW1,qa,qb,qc,qd,qe,qf,reduceCtorEq]
    simp only [← hd]
    exact nx ho _ _ (yB rfl) ⟨rfl,rfl,rfl,rfl,rfl,trivial⟩
   ·simp +contextual only [x7,hd,ql,qj,ho,↓U7,↓XP,qm,XW1,qa,qb,qc,qd,qe,qf,reduceCtorEq]
    refine hR _ _ ?_
    simp +contextual only [x7,hd,ql,qj,↓U7,↓XP,qm,XW1,qa,qb,qc,qd,qe,qf,reduceCtorEq]
    exact hno ho
  ·have hik : i = p.ops.length := by omega
   subst hik
   clear hN
   rw [List.take_length] at hv
   have hoo : vR p := hv
   simp +contextual only [x7,hd,ql,qj,↓U7,↓XP,qm,XW1,qa,qb,qc,qd,qe,qf,reduceCtorEq]
   refine hE _ _ _ ?_
   clear hE hR
   simp +contextual only [x7,hd,ql,qj,↓U7,↓XP,qm,XW1,qa,qb,qc,qd,qe,qf,reduceCtorEq]
   refine f_msg hp ?_
   simp +contextual only [x7,hd,ql,qj,↓U7,↓XP,qm,XW1,qa,qb,qc,qd,qe,qf,reduceCtorEq]
   refine fun _=>⟨fun c=>hk3 4 ?_,fun c=>hk3 0 ?_⟩
   ·exact (if_neg (fun h=>h hoo)).trans (if_pos (Int.ofNat_lt.1 c))
   ·exact (if_neg (fun h=>h hoo)).trans (if_neg (fun h=>c (Int.ofNat_lt.2 h)))
noncomputable def v7 (p : Pt) : Int := if jK p ≠ 0 then jK p else if 1200 < p.sl.length then 4 else 0
theorem oW {p : Pt} {H : AH} {R : D → AH → Prop} (hp : Fit p) (h : R (.tup [if v7 p = 0 then .own ((ji p).map qr) else .own [],.int .i64 (v7 p)]) H) : ACall Tryz.prog 11 [.agg p.d] H R := by
 refine WG fun hf=>?_
 have hbig := qt
 have hd := @dE p
 simp +contextual only [x11,hd,↓U11,↓XP,qm,XW1,qa,qb,qc,qd,qe,qf,reduceCtorEq]
 refine fun b1 h1=>gW hp ?_
 by_cases c1 : jK p = 0
 ·have e0 : v7 p = if 1200 < p.sl.length then 4 else 0 := by unfold v7; rw [if_neg (fun h=>h c1)]
  simp +contextual only [x11,hd,c1,↓U11,↓XP,qm,XW1,qa,qb,qc,qd,qe,qf,reduceCtorEq]
  by_cases c2 : 1200 < p.sl.length
  ·rw [if_pos c2] at e0
   simp +contextual only [x11,hd,c2,(eq_true (by omega) : ((1200 : Int) < (p.sl.length : Int)) = True),↓U11,↓XP,qm,XW1,qa,qb,qc,qd,qe,qf,reduceCtorEq]
   rw [e0,if_neg (by decide)] at h
   exact fun _ _=>h
  ·rw [if_neg c2] at e0
   simp +contextual only [x11,hd,c2,(eq_false (by omega) : ((1200 : Int) < (p.sl.length : Int)) = False),↓U11,↓XP,qm,XW1,qa,qb,qc,qd,qe,qf,reduceCtorEq]
   refine fun _ _=>f_enc hp fun _=>?_
   simp +contextual only [x11,hd,↓U11,↓XP,qm,XW1,qa,qb,qc,qd,qe,qf,reduceCtorEq]
   rw [e0,if_pos rfl] at h
   exact fun _=>h
 ·have e0 : v7 p = jK p := by unfold v7; rw [if_pos c1]
  simp +contextual only [x11,hd,eq_false c1,↓U11,↓XP,qm,XW1,qa,qb,qc,qd,qe,qf,reduceCtorEq]
  rw [e0,if_neg c1] at h
  exact fun _=>h
end Go.Proofs.YtoeckfegggongaaGreatDoor
end
section
namespace Go.Proofs.YtoeckfegggongaaGreatDoor
open Go Go.Aw
def val (L : List UInt8) : Nat := L.foldl (fun a d=>256 * a + d.toNat) 0
theorem vY {L : List UInt8} {d : UInt8} : val (L ++ [d]) = 256 * val L + d.toNat := by simp [val]
theorem JV : ∀ (m : Nat),val (digs m).reverse = m
 | m=>by
  by_cases h : m = 0
  ·subst h; rw [k9]; rfl
  ·rw [yh h,List.reverse_cons,vY,JV (m / 256),UInt8.toNat_ofNat']
   omega
theorem WZ : ∀ (L : List UInt8) (a : Nat),L.foldl (fun a d=>256 * a + d.toNat) a < 256 ^ L.length * (a + 1)
 | [],a=>by simp
 | d :: r,a=>by
  have h1 := WZ r (256 * a + d.toNat)
  have h2 := d.toNat_lt
  simp only [List.foldl_cons,List.length_cons]
  refine Nat.lt_of_lt_of_le h1 ?_
  rw [Nat.pow_succ,Nat.mul_assoc]
  exact Nat.mul_le_mul_left _ (by omega)
theorem Ug (L : List UInt8) : val L < 256 ^ L.length := by
 have := WZ L 0
 simpa [val] using this
theorem QC : ∀ (m : Nat) (d : UInt8) (r : List UInt8),(digs m).reverse = d :: r → d ≠ 0
 | m,d,r,h=>by
  by_cases hm : m = 0
  ·subst hm; rw [k9] at h; simp at h
  ·rw [yh hm,List.reverse_cons] at h
   by_cases h2 : m / 256 = 0
   ·rw [h2,k9] at h
    simp only [List.reverse_nil,List.nil_append,List.cons.injEq] at h
    rw [← h.1]
    intro e
    have := congrArg UInt8.toNat e
    rw [UInt8.toNat_ofNat'] at this
    simp at this
    omega
   ·cases hr : (digs (m / 256)).reverse with
    | nil=>
     rw [yh h2] at hr
     simp at hr
    | cons a t =>
     rw [hr] at h
     simp only [List.cons_append,List.cons.injEq] at h
     have := QC (m / 256) a t hr
     rw [← h.1]
     exact this
theorem Je {f : Bool} {x : UInt8} : qQ f (qQ f x) = x := by
 cases f with
 | false=>rfl
 | true =>
  simp only [qQ,if_true]
  apply UInt8.toNat_inj.1
  have := x.toNat_lt
  rw [UInt8.toNat_sub_of_le _ _ (by rw [UInt8.le_iff_toNat_le,UInt8.toNat_sub_of_le _ _ (by rw [UInt8.le_iff_toNat_le]; simp; omega)]; simp),UInt8.toNat_sub_of_le _ _ (by rw [UInt8.le_iff_toNat_le]; simp; omega)]
  simp
  omega
def qD (c : UInt8) : Nat := if c.toNat < 128 then 127 - c.toNat else c.toNat - 128
def turned (c : UInt8) : Bool := decide (c.toNat < 128)
def body (c : UInt8) (r : List UInt8) : List UInt8 := (r.take (qD c)).map (qQ (turned c))
def qA : List UInt8 → Int × Nat × Int
 | []=>(0,0,3)
 | c :: r =>
  if 8 < qD c then (0,0,2) else if r.length < qD c then (0,0,3) else if 0 < qD c ∧ qQ (turned c) (r.getD 0 0) = 0 then (0,0,2)
  else if 9223372036854775808 ≤ val (body c r) then (0,0,2)
  else (if turned c = true then -1 - (val (body c r) : Int) else (val (body c r) : Int),qD c + 1,0)
theorem oc {m : Int} {rest : List UInt8} (hm : wC .i64 m) : qA (qy m ++ rest) = (m,(qy m).length,0) := by
 have hl := zD hm
 have hg := QX hm
 obtain ⟨g,hgd⟩ : ∃ g,mag m = g := ⟨_,rfl⟩
 have hv := JV g
 have hh := QC g
 rw [hgd] at hl hg
 obtain ⟨c,hc⟩ : ∃ c,UInt8.ofNat (if m < 0 then 127 - (digs g).length else 128 + (digs g).length) = c := ⟨_,rfl⟩
 have hcn : c.toNat = if m < 0 then 127 - (digs g).length else 128 + (digs g).length := by
  rw [← hc,UInt8.toNat_ofNat']
  split <;> omega
 have ht : qD c = (digs g).length := by
  unfold qD
  rw [hcn]
  split <;> split <;> omega
 have hf : turned c = decide (m < 0) := by
  unfold turned
  rw [hcn]
  apply decide_eq_decide.2
  split <;> omega
 have he : qy m = c :: (digs g).reverse.map (qQ (decide (m < 0))) := by rw [qy,hgd,hc]
 have hlen : (qy m).length = (digs g).length + 1 := by rw [he]; simp
 have hb : body c ((digs g).reverse.map (qQ (decide (m < 0))) ++ rest) = (digs g).reverse := by
  unfold body
  rw [ht,hf,List.take_append_of_le_length (by simp),List.take_of_length_le (by simp),List.map_map]
  refine (List.map_congr_left fun x _=>?_).trans (List.map_id _)
  exact Je
 rw [hlen,he,List.cons_append]
 unfold qA
 dsimp only
 rw [hb,hv,ht,hf,if_neg (by omega),if_neg (by simp),if_neg ?_,if_neg (by omega)]
 ·have : m = if m < 0 then -1 - (g : Int) else (g : Int) := by
   rw [← hgd]
   unfold mag
   split <;> omega
  simp only [decide_eq_true_eq]
  rw [← this]
 ·rintro ⟨h1,h2⟩
  cases hr : (digs g).reverse with
  | nil=>
   have := congrArg List.length hr
   simp at this
   rw [this] at h1
   simp at h1
  | cons a t =>
   rw [hr] at h2
   simp only [List.map_cons,List.cons_append,List.getD_cons_zero] at h2
   rw [Je] at h2
   exact hh a t hr h2
theorem vJ {b : List UInt8} : (qA b).2.1 ≤ b.length := by
 unfold qA
 split
 ·simp
 ·next c r =>
  split
  ·simp
  ·split
   ·simp
   ·split
    ·simp
    ·split
     ·simp
     ·simp; omega
end Go.Proofs.YtoeckfegggongaaGreatDoor
end
section
namespace Go.Proofs.YtoeckfegggongaaGreatDoor
open Go.Xs
open Go Go.Aw
def x5_s0 : XC := (.seq (.reg [m 5 8,m 1 9,m 5 10,e 34 10 11,a (k 15 #[(t 9),(t 11)] #[3,3]) 12,j 34 8 12 13,b (.load 26 (t 13)) 14,w 26 4 14]) .ret)
def x5_s1 : XC := (.seq (.reg [m 0 6,b (k 19 #[(t 6)] #[22]) 7,n 7 5]) x5_s0)
def V5 := PLift.up (aI (@unf _ _ x5_s0.eq_1) (@unf _ _ x5_s1.eq_1))
theorem U5 : type_of% V5.down := V5.down
def x5 : XC := (.seq (.reg [a (.alloc 26) 4]) x5_s1)
theorem b5 : Bt 5 15 x5 [(.cell 4 26)] := bt Tryz.func5 rfl (by kernel_rfl) (by kernel_rfl) (by kernel_rfl)
end Go.Proofs.YtoeckfegggongaaGreatDoor
end
section
namespace Go.Proofs.YtoeckfegggongaaGreatDoor
open Go.Xs
open Go Go.Aw
def x10_s0 : XC := (.cond (t 8) (.seq (.reg [m 0 9,m 1 10,b (.slice 9 (t 9) .none (.some (t 10)) .none) 11,n 11 4]) .ret) .skip)
def x10_s1 : XC := (.seq (.seq (.reg [m 0 5,e 9 5 6,m 1 7,a (.binOp .gtr 3 (t 6) (t 7) 3) 8]) x10_s0) (.seq (.reg [b (.move (t 0)) 12,n 12 4]) .ret))
def V10 := PLift.up (aI (@unf _ _ x10_s0.eq_1) (@unf _ _ x10_s1.eq_1))
theorem U10 : type_of% V10.down := V10.down
def x10 : XC := (.seq (.reg [a (.assign (.const (.string ⟨#[]⟩))) 4]) x10_s1)
theorem b10 : Bt 10 13 x10 [(.tmp 4)] := bt Tryz.func10 rfl (by kernel_rfl) (by kernel_rfl) (by kernel_rfl)
def x12_s0 : XC := (.cond (t 8) (.seq (.reg [b (.move (t 4)) 9,a (.assign (.const (.slice .none 0 0))) 2,n 9 3]) .ret) .skip)
def x12_s1 : XC := (.seq (.reg [l 26 1 14,b (k 14 #[(t 14)] #[26]) 15,n 15 2,a (.assign (i 0)) 3]) .ret)
def x12_s2 : XC := (.seq (.seq (.reg [f 26 1 5 10,l 9 10 11,e 9 11 12,a (.binOp .gtr 3 (t 12) (i 1200) 3) 13]) (.cond (t 13) (.seq (.reg [a (.assign (.const (.slice .none 0 0))) 2,a (.assign (i 4)) 3]) .ret) .skip)) x12_s1)
def x12_s3 : XC := (.seq (.reg [l 26 1 5,b (k 8 #[(t 5)] #[26]) 6,n 6 4]) (.seq (.seq (.reg [m 4 7,a (.binOp .neq 29 (t 7) (i 0) 29) 8]) x12_s0) x12_s2))
def V12 := PLift.up (aI (aI (@unf _ _ x12_s0.eq_1) (@unf _ _ x12_s1.eq_1)) (aI (@unf _ _ x12_s2.eq_1) (@unf _ _ x12_s3.eq_1)))
theorem U12 : type_of% V12.down := V12.down
def x12 : XC := (.seq (.reg [a (.box 26 (t 0)) 1,a (.assign (.const (.slice .none 0 0))) 2,a (.assign (i 0)) 3]) x12_s3)
theorem WI : Bt 12 16 x12 [(.tmp 2),(.tmp 3)] := bt Tryz.func12 rfl (by kernel_rfl) (by kernel_rfl) (by kernel_rfl)
def x17_s0 : XC := (.cond (t 14) (.seq (.reg [b (.build 26 #[]) 15,w 26 2 15,a (.assign (i 2)) 3]) .ret) .skip)
def x17_s1 : XC := (.cond (t 28) (.seq (.reg [b (.build 26 #[]) 29,w 26 2 29,a (.assign (i 2)) 3]) .ret) .skip)
def x17_s2 : XC := (.seq (.reg [b (.load 26 (t 4)) 30,w 26 2 30,a (.assign (i 0)) 3]) .ret)
def x17_s3 : XC := (.seq (.seq (.reg [m 7 21,a (.binOp .neq 29 (t 21) (i 0) 29) 22,m 22 23,g (.move (t 0)) 24 23 false,g (.move (t 6)) 25 23 false,g (k 13 #[(t 24),(t 25)] #[35,35]) 26 23 false,g (.unOp .not 4 (t 26)) 27 23 false,a (.pick (t 23) (.const (.bool true)) (t 27)) 28]) x17_s1) x17_s2)
def x17_s4 : XC := (.seq (.reg [l 26 4 17,a (k 12 #[(t 17)] #[26]) 18,m 18 16,b (.extract (t 16) 0) 19,b (.extract (t 16) 1) 20,n 19 6,n 20 7]) x17_s3)
def x17_s5 : XC := (.seq (.reg [m 0 9,a (k 40 #[(t 9)] #[35]) 10,m 10 8,b (.extract (t 8) 0) 11,b (.extract (t 8) 1) 12,a (.alloc 26) 4,w 26 4 11,n 12 5]) (.seq (.seq (.reg [m 5 13,a (.unOp .not 4 (t 13)) 14]) x17_s0) x17_s4))
def V17 := PLift.up (aI (aI (@unf _ _ x17_s0.eq_1) (aI (@unf _ _ x17_s1.eq_1) (@unf _ _ x17_s2.eq_1))) (aI (@unf _ _ x17_s3.eq_1) (aI (@unf _ _ x17_s4.eq_1) (@unf _ _ x17_s5.eq_1))))
theorem U17 : type_of% V17.down := V17.down
def x17 : XC := (.seq (.reg [a (.alloc 26) 2,a (.assign (i 0)) 3]) x17_s5)
theorem b17 : Bt 17 31 x17 [(.cell 2 26),(.tmp 3)] := bt Tryz.func17 rfl (by kernel_rfl) (by kernel_rfl) (by kernel_rfl)
def x40_s0 : XC := (.cond (t 32) (.seq (.reg [b (.build 26 #[]) 33,w 26 2 33,a (.assign (.const (.bool false))) 3]) .ret) .skip)
def x40_s1 : XC := (.cond (t 59) (.seq (.reg [b (.build 26 #[]) 60,w 26 2 60,a (.assign (.const (.bool false))) 3]) .ret) .skip)
def x40_s2 : XC := (.reg [m 11 66,b (.binOp .add 3 (t 66) (i 2) 3) 67,n 67 11])
def x40_s3 : XC := (.seq (.block 1 (.regT [7] [([f 26 7 3 68],c (.load 23 (t 68)) 69,false)] [m 8 70,m 11 71,j 22 70 71 72,l 3 72 73,m 8 74,m 11 75,a (.binOp .add 3 (t 75) (i 1) 3) 76,j 22 74 76 77,l 3 77 78,a (.build 48 #[(0,(t 73)),(1,(t 78))]) 79,a (.buildSlice 23 1 #[(0,(t 79))]) 80,b (.call ⟨(.builtin .append),#[(t 69),(t 80)],#[23,23]⟩) 81,f 26 7 3 82] [w 23 82 81])) x40_s2)
def x40_L4 : XC := (.seq (.seq (.reg [m 11 61,a (.binOp .add 3 (t 61) (i 1) 3) 62,m 8 63,e 22 63 64,a (.binOp .lss 3 (t 62) (t 64) 3) 65]) (.cond (t 65) .skip (.exit 0))) x40_s3)
def x40_s5 : XC := (.cond (t 103) (.seq (.reg [b (.build 26 #[]) 104,w 26 2 104,a (.assign (.const (.bool false))) 3]) .ret) .skip)
def x40_s6 : XC := (.cond (t 121) (.seq (.reg [b (.build 26 #[]) 122,w 26 2 122,a (.assign (.const (.bool false))) 3]) .ret) .skip)
def x40_s7 : XC := (.reg [m 5 129,m 16 130,b (.binOp .add 3 (t 129) (t 130) 3) 131,n 131 5])
def x40_s8 : XC := (.seq (.reg [f 26 7 4 123,c (.load 24 (t 123)) 124,l 55 15 125,a (.buildSlice 24 1 #[(0,(t 125))]) 126,b (.call ⟨(.builtin .append),#[(t 124),(t 126)],#[24,24]⟩) 127,f 26 7 4 128,w 24 128 127]) x40_s7)
def x40_s9 : XC := (.reg [m 14 111,b (.binOp .add 3 (t 111) (i 1) 3) 112,n 112 14])
def x40_s10 : XC := (.seq (.block 3 (.seq (.reg [m 0 114,m 5 115,a (.slice 35 (t 114) (.some (t 115)) .none .none) 116,a (k 69 #[(t 116)] #[35]) 117,m 117 113,b (.extract (t 113) 0) 118,b (.extract (t 113) 1) 119,a (.alloc 55) 15,w 55 15 118,n 119 16]) (.seq (.seq (.reg [m 16 120,a (.binOp .lss 3 (t 120) (i 0) 3) 121]) x40_s6) x40_s8))) x40_s9)
def x40_L11 : XC := (.seq (.seq (.reg [m 14 108,m 12 109,a (.binOp .lss 3 (t 108) (t 109) 3) 110]) (.cond (t 110) .skip (.exit 2))) x40_s10)
def x40_s12 : XC := (.seq (.reg [b (.load 26 (t 7)) 142,m 19 143,a (.binOp .eql 29 (t 143) (i 0) 29) 144,m 144 145,g (.move (t 5)) 146 145 true,g (.move (t 18)) 147 145 true,g (.binOp .add 3 (t 146) (t 147) 3) 148 145 true,g (.move (t 0)) 149 145 true,g (.call ⟨(.builtin .len),#[(t 149)],#[35]⟩) 150 145 true,g (.binOp .eql 3 (t 148) (t 150) 3) 151 145 true,b (.pick (t 145) (t 151) (.const (.bool false))) 152,w 26 2 142,n 152 3]) .ret)
def x40_s13 : XC := (.seq (.reg [b (.move (t 17)) 140,f 26 7 5 141,w 9 141 140]) x40_s12)
def x40_s14 : XC := (.seq (.reg [m 0 133,m 5 134,a (.slice 35 (t 133) (.some (t 134)) .none .none) 135,a (k 70 #[(t 135)] #[35]) 136,m 136 132,b (.extract (t 132) 0) 137,b (.extract (t 132) 1) 138,b (.extract (t 132) 2) 139,n 137 17,n 138 18,n 139 19]) x40_s13)
def x40_s15 : XC := (.seq (.reg [m 5 105,m 9 106,b (.binOp .add 3 (t 105) (t 106) 3) 107,n 107 5]) (.seq (.seq (.reg [a (.assign (i 0)) 14]) (.block 2 (.loop x40_L11))) x40_s14))
def x40_s16 : XC := (.seq (.seq (.reg [m 13 94,a (.binOp .neq 29 (t 94) (i 0) 29) 95,m 95 96,g (.move (t 12)) 97 96 false,g (.binOp .lss 3 (t 97) (i 0) 3) 98 96 false,a (.pick (t 96) (.const (.bool true)) (t 98)) 99,m 99 100,g (.move (t 12)) 101 100 false,g (.binOp .gtr 3 (t 101) (i 16) 3) 102 100 false,a (.pick (t 100) (.const (.bool true)) (t 102)) 103]) x40_s5) x40_s15)
def x40_s17 : XC := (.seq (.reg [m 0 87,m 5 88,a (.slice 35 (t 87) (.some (t 88)) .none .none) 89,a (k 68 #[(t 89)] #[35]) 90,m 90 86,b (.extract (t 86) 0) 91,b (.extract (t 86) 1) 92,b (.extract (t 86) 2) 93,n 91 12,n 92 9,n 93 13]) x40_s16)
def x40_s18 : XC := (.seq (.reg [m 5 83,m 9 84,b (.binOp .add 3 (t 83) (t 84) 3) 85,n 85 5]) x40_s17)
def x40_s19 : XC := (.seq (.seq (.reg [m 10 52,a (.binOp .neq 29 (t 52) (i 0) 29) 53,m 53 54,g (.move (t 8)) 55 54 false,g (.call ⟨(.builtin .len),#[(t 55)],#[22]⟩) 56 54 false,g (.binOp .rem 3 (t 56) (i 2) 3) 57 54 false,g (.binOp .neq 3 (t 57) (i 0) 3) 58 54 false,a (.pick (t 54) (.const (.bool true)) (t 58)) 59]) x40_s1) (.seq (.seq (.reg [a (.assign (i 0)) 11]) (.block 0 (.loop x40_L4))) x40_s18))
def x40_s20 : XC := (.seq (.gh (.reg [m 0 45,m 5 46,a (.slice 35 (t 45) (.some (t 46)) .none .none) 47,a (k 67 #[(t 47)] #[35]) 48,m 48 44,b (.extract (t 44) 0) 49,b (.extract (t 44) 1) 50,b (.extract (t 44) 2) 51,n 49 8,n 50 9,n 51 10])) x40_s19)
def x40_s21 : XC := (.seq (.regT [] [([m 4 34,a (.indexAddr 22 (t 34) (i 0)) 35,l 3 35 36,m 4 37,a (.indexAddr 22 (t 37) (i 1)) 38,l 3 38 39,m 4 40,a (.indexAddr 22 (t 40) (i 2)) 41,l 3 41 42],b (.build 26 #[(0,(t 36)),(1,(t 39)),(2,(t 42))]) 43,false),([],a (.alloc 26) 7,false)] [] [w 26 7 43]) x40_s20)
def x40_s22 : XC := (.seq (.seq (.reg [m 6 26,a (.binOp .neq 29 (t 26) (i 0) 29) 27,m 27 28,g (.move (t 4)) 29 28 false,g (.call ⟨(.builtin .len),#[(t 29)],#[22]⟩) 30 28 false,g (.binOp .neq 3 (t 30) (i 3) 3) 31 28 false,a (.pick (t 28) (.const (.bool true)) (t 31)) 32]) x40_s0) x40_s21)
def x40_s23 : XC := (.seq (.reg [m 0 21,a (k 67 #[(t 21)] #[35]) 22,m 22 20,b (.extract (t 20) 0) 23,b (.extract (t 20) 1) 24,b (.extract (t 20) 2) 25,n 23 4,n 24 5,n 25 6]) x40_s22)
def V40 := PLift.up (aI (aI (aI (aI (@unf _ _ x40_s0.eq_1) (aI (@unf _ _ x40_s1.eq_1) (@unf _ _ x40_s2.eq_1))) (aI (@unf _ _ x40_s3.eq_1) (aI (@unf _ _ x40_L4.eq_1) (@unf _ _ x40_s5.eq_1)))) (aI (aI (@unf _ _ x40_s6.eq_1) (aI (@unf _ _ x40_s7.eq_1) (@unf _ _ x40_s8.eq_1))) (aI (@unf _ _ x40_s9.eq_1) (aI (@unf _ _ x40_s10.eq_1) (@unf _ _ x40_L11.eq_1))))) (aI (aI (aI (@unf _ _ x40_s12.eq_1) (aI (@unf _ _ x40_s13.eq_1) (@unf _ _ x40_s14.eq_1))) (aI (@unf _ _ x40_s15.eq_1) (aI (@unf _ _ x40_s16.eq_1) (@unf _ _ x40_s17.eq_1)))) (aI (aI (@unf _ _ x40_s18.eq_1) (aI (@unf _ _ x40_s19.eq_1) (@unf _ _ x40_s20.eq_1))) (aI (@unf _ _ x40_s21.eq_1) (aI (@unf _ _ x40_s22.eq_1) (@unf _ _ x40_s23.eq_1))))))
theorem gA : type_of% V40.down := V40.down
def zX : XC := (.seq (.reg [a (.alloc 26) 2,a (.assign (.const (.bool false))) 3]) x40_s23)
theorem b40 : Bt 40 153 zX [(.cell 2 26),(.tmp 3)] := bt Tryz.func40 rfl (by kernel_rfl) (by kernel_rfl) (by kernel_rfl)
def x67_s0 : XC := (.cond (t 20) (.seq (.reg [b (.move (t 7)) 21,a (.assign (.const (.slice .none 0 0))) 2,a (.assign (i 0)) 3,n 21 4]) .ret) .skip)
def x67_s1 : XC := (.cond (t 36) (.seq (.reg [b (.move (t 12)) 37,a (.assign (.const (.slice .none 0 0))) 2,a (.assign (i 0)) 3,n 37 4]) .ret) .skip)
def x67_s2 : XC := (.reg [m 6 42,m 11 43,b (.binOp .add 3 (t 42) (t 43) 3) 44,n 44 6])
def x67_s3 : XC := (.seq (.reg [c (.move (t 8)) 38,m 10 39,a (.buildSlice 22 1 #[(0,(t 39))]) 40,b (.call ⟨(.builtin .append),#[(t 38),(t 40)],#[22,22]⟩) 41,n 41 8]) x67_s2)
def x67_s4 : XC := (.reg [m 9 25,b (.binOp .add 3 (t 25) (i 1) 3) 26,n 26 9])
def x67_s5 : XC := (.seq (.block 1 (.seq (.reg [m 0 28,m 6 29,a (.slice 35 (t 28) (.some (t 29)) .none .none) 30,a (k 68 #[(t 30)] #[35]) 31,m 31 27,b (.extract (t 27) 0) 32,b (.extract (t 27) 1) 33,b (.extract (t 27) 2) 34,n 32 10,n 33 11,n 34 12]) (.seq (.seq (.reg [m 12 35,a (.binOp .neq 29 (t 35) (i 0) 29) 36]) x67_s1) x67_s3))) x67_s4)
def x67_L6 : XC := (.seq (.seq (.reg [m 9 22,m 5 23,a (.binOp .lss 3 (t 22) (t 23) 3) 24]) (.cond (t 24) .skip (.exit 0))) x67_s5)
def x67_s7 : XC := (.seq (.reg [b (.move (t 8)) 45,b (.move (t 6)) 46,n 45 2,n 46 3,a (.assign (i 0)) 4]) .ret)
def x67_s8 : XC := (.seq (.reg [a (.assign (.const (.slice .none 0 0))) 8]) (.seq (.seq (.reg [a (.assign (i 0)) 9]) (.block 0 (.loop x67_L6))) x67_s7))
def x67_s9 : XC := (.seq (.reg [m 0 14,a (k 80 #[(t 14),(i 1)] #[35,3]) 15,m 15 13,b (.extract (t 13) 0) 16,b (.extract (t 13) 1) 17,b (.extract (t 13) 2) 18,n 16 5,n 17 6,n 18 7]) (.seq (.seq (.reg [m 7 19,a (.binOp .neq 29 (t 19) (i 0) 29) 20]) x67_s0) x67_s8))
def V67 := PLift.up (aI (aI (aI (@unf _ _ x67_s0.eq_1) (@unf _ _ x67_s1.eq_1)) (aI (@unf _ _ x67_s2.eq_1) (aI (@unf _ _ x67_s3.eq_1) (@unf _ _ x67_s4.eq_1)))) (aI (aI (@unf _ _ x67_s5.eq_1) (@unf _ _ x67_L6.eq_1)) (aI (@unf _ _ x67_s7.eq_1) (aI (@unf _ _ x67_s8.eq_1) (@unf _ _ x67_s9.eq_1)))))
theorem U67 : type_of% V67.down := V67.down
def x67 : XC := (.seq (.reg [a (.assign (.const (.slice .none 0 0))) 2,a (.assign (i 0)) 3,a (.assign (i 0)) 4]) x67_s9)
theorem b67 : Bt 67 47 x67 [(.tmp 2),(.tmp 3),(.tmp 4)] := bt Tryz.func67 rfl (by kernel_rfl) (by kernel_rfl) (by kernel_rfl)
def x68_s0 : XC := (.cond (t 13) (.seq (.reg [a (.assign (i 0)) 2,a (.assign (i 0)) 3,a (.assign (i 3)) 4]) .ret) .skip)
def x68_s1 : XC := (.cond (t 23) (.seq (.reg [a (.assign (i 0)) 2,a (.assign (i 0)) 3,a (.assign (i 2)) 4]) .ret) .skip)
def x68_s2 : XC := (.cond (t 27) (.reg [m 5 28,b (.binOp .sub 3 (i 127) (t 28) 3) 29,n 29 6]) .skip)
def x68_s3 : XC := (.cond (t 34) (.seq (.reg [a (.assign (i 0)) 2,a (.assign (i 0)) 3,a (.assign (i 3)) 4]) .ret) .skip)
def x68_s4 : XC := (.cond (t 46) (.reg [m 9 47,b (.binOp .sub 3 (i 255) (t 47) 3) 48,n 48 9]) .skip)
def x68_s5 : XC := (.cond (t 50) (.seq (.reg [a (.assign (i 0)) 2,a (.assign (i 0)) 3,a (.assign (i 2)) 4]) .ret) .skip)
def x68_s6 : XC := (.reg [m 7 51,a (.binOp .mul 3 (i 256) (t 51) 3) 52,m 9 53,b (.binOp .add 3 (t 52) (t 53) 3) 54,n 54 7])
def x68_s7 : XC := (.seq (.seq (.reg [m 5 45,a (.binOp .lss 3 (t 45) (i 128) 3) 46]) x68_s4) (.seq (.seq (.reg [m 7 49,a (.binOp .gtr 3 (t 49) (i 36028797018963967) 3) 50]) x68_s5) x68_s6))
def x68_s8 : XC := (.reg [m 8 38,b (.binOp .add 3 (t 38) (i 1) 3) 39,n 39 8])
def x68_s9 : XC := (.seq (.block 1 (.seq (.reg [m 0 40,m 8 41,j 35 40 41 42,l 5 42 43,b (.convert 5 3 (t 43)) 44,n 44 9]) x68_s7)) x68_s8)
def x68_L10 : XC := (.seq (.seq (.reg [m 8 35,m 6 36,a (.binOp .leq 3 (t 35) (t 36) 3) 37]) (.cond (t 37) .skip (.exit 0))) x68_s9)
def x68_s11 : XC := (.cond (t 57) (.reg [m 7 58,b (.binOp .sub 3 (i (-1)) (t 58) 3) 59,n 59 10]) .skip)
def x68_s12 : XC := (.cond (t 67) (.seq (.reg [a (.assign (i 0)) 2,a (.assign (i 0)) 3,a (.assign (i 2)) 4]) .ret) .skip)
def x68_s13 : XC := (.seq (.reg [b (.move (t 10)) 68,m 6 69,b (.binOp .add 3 (t 69) (i 1) 3) 70,n 68 2,n 70 3,a (.assign (i 0)) 4]) .ret)
def x68_s14 : XC := (.seq (.seq (.regD [m 10 60,a (k 29 #[(t 60)] #[3]) 61,m 0 62,m 6 63,a (.binOp .add 3 (t 63) (i 1) 3) 64,a (.slice 35 (t 62) .none (.some (t 64)) .none) 65,a (k 13 #[(t 61),(t 65)] #[35,35]) 66,a (.unOp .not 4 (t 66)) 67]) x68_s12) x68_s13)
def x68_s15 : XC := (.seq (.reg [b (.move (t 7)) 55,n 55 10]) (.seq (.seq (.reg [m 5 56,a (.binOp .lss 3 (t 56) (i 128) 3) 57]) x68_s11) x68_s14))
def x68_s16 : XC := (.seq (.reg [a (.assign (i 0)) 7]) (.seq (.seq (.reg [a (.assign (i 1)) 8]) (.block 0 (.loop x68_L10))) x68_s15))
def x68_s17 : XC := (.seq (.seq (.reg [m 0 30,e 35 30 31,m 6 32,a (.binOp .add 3 (t 32) (i 1) 3) 33,a (.binOp .lss 3 (t 31) (t 33) 3) 34]) x68_s3) x68_s16)
def x68_s18 : XC := (.seq (.reg [m 5 24,b (.binOp .sub 3 (t 24) (i 128) 3) 25,n 25 6]) (.seq (.seq (.reg [m 5 26,a (.binOp .lss 3 (t 26) (i 128) 3) 27]) x68_s2) x68_s17))
def x68_s19 : XC := (.seq (.seq (.reg [m 5 18,a (.binOp .lss 3 (t 18) (i 119) 3) 19,m 19 20,g (.move (t 5)) 21 20 false,g (.binOp .gtr 3 (t 21) (i 136) 3) 22 20 false,a (.pick (t 20) (.const (.bool true)) (t 22)) 23]) x68_s1) x68_s18)
def x68_s20 : XC := (.seq (.reg [m 0 14,a (.indexAddr 35 (t 14) (i 0)) 15,l 5 15 16,b (.convert 5 3 (t 16)) 17,n 17 5]) x68_s19)
def x68_s21 : XC := (.seq (.seq (.reg [m 0 11,e 35 11 12,a (.binOp .eql 3 (t 12) (i 0) 3) 13]) x68_s0) x68_s20)
def V68 := PLift.up (aI (aI (aI (aI (@unf _ _ x68_s0.eq_1) (@unf _ _ x68_s1.eq_1)) (aI (@unf _ _ x68_s2.eq_1) (aI (@unf _ _ x68_s3.eq_1) (@unf _ _ x68_s4.eq_1)))) (aI (aI (@unf _ _ x68_s5.eq_1) (aI (@unf _ _ x68_s6.eq_1) (@unf _ _ x68_s7.eq_1))) (aI (@unf _ _ x68_s8.eq_1) (aI (@unf _ _ x68_s9.eq_1) (@unf _ _ x68_L10.eq_1))))) (aI (aI (aI (@unf _ _ x68_s11.eq_1) (@unf _ _ x68_s12.eq_1)) (aI (@unf _ _ x68_s13.eq_1) (aI (@unf _ _ x68_s14.eq_1) (@unf _ _ x68_s15.eq_1)))) (aI (aI (@unf _ _ x68_s16.eq_1) (aI (@unf _ _ x68_s17.eq_1) (@unf _ _ x68_s18.eq_1))) (aI (@unf _ _ x68_s19.eq_1) (aI (@unf _ _ x68_s20.eq_1) (@unf _ _ x68_s21.eq_1))))))
theorem Q9 : type_of% V68.down := V68.down
def Q7 : XC := (.seq (.reg [a (.assign (i 0)) 2,a (.assign (i 0)) 3,a (.assign (i 0)) 4]) x68_s21)
theorem b68 : Bt 68 71 Q7 [(.tmp 2),(.tmp 3),(.tmp 4)] := bt Tryz.func68 rfl (by kernel_rfl) (by kernel_rfl) (by kernel_rfl)
def x69_s0 : XC := (.cond (t 27) (.seq (.reg [b (.build 55 #[]) 28,w 55 2 28,a (.assign (i (-1))) 3]) .ret) .skip)
def x69_s1 : XC := (.cond (t 44) (.seq (.reg [b (.build 55 #[]) 45,w 55 2 45,a (.assign (i (-1))) 3]) .ret) .skip)
def x69_s2 : XC := (.cond (t 62) (.seq (.reg [b (.build 55 #[]) 63,w 55 2 63,a (.assign (i (-1))) 3]) .ret) .skip)
def x69_s3 : XC := (.reg [m 14 109,b (.binOp .add 3 (t 109) (i 3) 3) 110,n 110 14])
def x69_s4 : XC := (.seq (.block 1 (.regT [13] [([f 55 13 3 111],c (.load 51 (t 111)) 112,false)] [m 7 113,m 14 114,j 22 113 114 115,l 3 115 116,m 7 117,m 14 118,a (.binOp .add 3 (t 118) (i 1) 3) 119,j 22 117 119 120,l 3 120 121,m 7 122,m 14 123,a (.binOp .add 3 (t 123) (i 2) 3) 124,j 22 122 124 125,l 3 125 126,a (.build 50 #[(0,(t 116)),(1,(t 121)),(2,(t 126))]) 127,a (.buildSlice 51 1 #[(0,(t 127))]) 128,b (.call ⟨(.builtin .append),#[(t 112),(t 128)],#[51,51]⟩) 129,f 55 13 3 130] [w 51 130 129])) x69_s3)
def x69_L5 : XC := (.seq (.seq (.reg [m 14 104,a (.binOp .add 3 (t 104) (i 2) 3) 105,m 7 106,e 22 106 107,a (.binOp .lss 3 (t 105) (t 107) 3) 108]) (.cond (t 108) .skip (.exit 0))) x69_s4)
def x69_s6 : XC := (.seq (.reg [b (.load 55 (t 13)) 131,m 5 132,m 8 133,a (.binOp .add 3 (t 132) (t 133) 3) 134,m 11 135,b (.binOp .add 3 (t 134) (t 135) 3) 136,w 55 2 131,n 136 3]) .ret)
def x69_s7 : XC := (.seq (.regT [] [([m 4 64,a (.indexAddr 22 (t 64) (i 0)) 65,l 3 65 66,m 4 67,a (.indexAddr 22 (t 67) (i 1)) 68,l 3 68 69,m 4 70,a (.indexAddr 22 (t 70) (i 2)) 71,l 3 71 72,m 4 73,a (.indexAddr 22 (t 73) (i 3)) 74,l 3 74 75,a (.build 50 #[(0,(t 69)),(1,(t 72)),(2,(t 75))]) 76,m 4 77,a (.indexAddr 22 (t 77) (i 4)) 78,l 3 78 79,m 4 80,a (.indexAddr 22 (t 80) (i 5)) 81,l 3 81 82,m 4 83,a (.indexAddr 22 (t 83) (i 6)) 84,l 3 84 85,a (.build 50 #[(0,(t 79)),(1,(t 82)),(2,(t 85))]) 86,m 4 87,a (.indexAddr 22 (t 87) (i 7)) 88,l 3 88 89,m 4 90,a (.indexAddr 22 (t 90) (i 8)) 91,l 3 91 92,m 4 93,a (.indexAddr 22 (t 93) (i 9)) 94,l 3 94 95,a (.build 53 #[(0,(t 92)),(1,(t 95))]) 96,m 10 97,a (.indexAddr 73 (t 97) (i 0)) 98,l 9 98 99,m 10 100,a (.indexAddr 73 (t 100) (i 1)) 101,l 9 101 102],b (.build 55 #[(0,(t 66)),(1,(t 76)),(2,(t 86)),(4,(t 89)),(7,(t 96)),(5,(t 99)),(6,(t 102))]) 103,false),([],a (.alloc 55) 13,false)] [] [w 55 13 103]) (.seq (.seq (.gh (.reg [a (.assign (i 0)) 14])) (.block 0 (.loop x69_L5))) x69_s6))
def x69_s8 : XC := (.seq (.seq (.reg [m 12 56,a (.binOp .neq 29 (t 56) (i 0) 29) 57,m 57 58,g (.move (t 10)) 59 58 false,g (.call ⟨(.builtin .len),#[(t 59)],#[73]⟩) 60 58 false,g (.binOp .neq 3 (t 60) (i 2) 3) 61 58 false,a (.pick (t 58) (.const (.bool true)) (t 61)) 62]) x69_s2) x69_s7)
def x69_s9 : XC := (.seq (.reg [m 0 47,m 5 48,m 8 49,a (.binOp .add 3 (t 48) (t 49) 3) 50,a (.slice 35 (t 47) (.some (t 50)) .none .none) 51,a (k 81 #[(t 51)] #[35]) 52,m 52 46,b (.extract (t 46) 0) 53,b (.extract (t 46) 1) 54,b (.extract (t 46) 2) 55,n 53 10,n 54 11,n 55 12]) x69_s8)
def x69_s10 : XC := (.seq (.seq (.reg [m 9 37,a (.binOp .neq 29 (t 37) (i 0) 29) 38,m 38 39,g (.move (t 7)) 40 39 false,g (.call ⟨(.builtin .len),#[(t 40)],#[22]⟩) 41 39 false,g (.binOp .rem 3 (t 41) (i 3) 3) 42 39 false,g (.binOp .neq 3 (t 42) (i 0) 3) 43 39 false,a (.pick (t 39) (.const (.bool true)) (t 43)) 44]) x69_s1) x69_s9)
def x69_s11 : XC := (.seq (.reg [m 0 30,m 5 31,a (.slice 35 (t 30) (.some (t 31)) .none .none) 32,a (k 67 #[(t 32)] #[35]) 33,m 33 29,b (.extract (t 29) 0) 34,b (.extract (t 29) 1) 35,b (.extract (t 29) 2) 36,n 34 7,n 35 8,n 36 9]) x69_s10)
def x69_s12 : XC := (.seq (.seq (.reg [m 6 21,a (.binOp .neq 29 (t 21) (i 0) 29) 22,m 22 23,g (.move (t 4)) 24 23 false,g (.call ⟨(.builtin .len),#[(t 24)],#[22]⟩) 25 23 false,g (.binOp .neq 3 (t 25) (i 10) 3) 26 23 false,a (.pick (t 23) (.const (.bool true)) (t 26)) 27]) x69_s0) x69_s11)
def x69_s13 : XC := (.seq (.reg [m 0 16,a (k 67 #[(t 16)] #[35]) 17,m 17 15,b (.extract (t 15) 0) 18,b (.extract (t 15) 1) 19,b (.extract (t 15) 2) 20,n 18 4,n 19 5,n 20 6]) x69_s12)
def V69 := PLift.up (aI (aI (aI (@unf _ _ x69_s0.eq_1) (aI (@unf _ _ x69_s1.eq_1) (@unf _ _ x69_s2.eq_1))) (aI (aI (@unf _ _ x69_s3.eq_1) (@unf _ _ x69_s4.eq_1)) (aI (@unf _ _ x69_L5.eq_1) (@unf _ _ x69_s6.eq_1)))) (aI (aI (@unf _ _ x69_s7.eq_1) (aI (@unf _ _ x69_s8.eq_1) (@unf _ _ x69_s9.eq_1))) (aI (aI (@unf _ _ x69_s10.eq_1) (@unf _ _ x69_s11.eq_1)) (aI (@unf _ _ x69_s12.eq_1) (@unf _ _ x69_s13.eq_1)))))
theorem YQ : type_of% V69.down := V69.down
def KB : XC := (.seq (.reg [a (.alloc 55) 2,a (.assign (i 0)) 3]) x69_s13)
theorem b69 : Bt 69 137 KB [(.cell 2 55),(.tmp 3)] := bt Tryz.func69 rfl (by kernel_rfl) (by kernel_rfl) (by kernel_rfl)
def x70_s0 : XC := (.cond (t 15) (.seq (.reg [b (.move (t 7)) 16,a (.assign (.const (.string ⟨#[]⟩))) 2,a (.assign (i 0)) 3,n 16 4]) .ret) .skip)
def x70_s1 : XC := (.seq (.reg [m 0 17,m 6 18,m 6 19,m 5 20,a (.binOp .add 3 (t 19) (t 20) 3) 21,a (.slice 35 (t 17) (.some (t 18)) (.some (t 21)) .none) 22,b (.convert 35 9 (t 22)) 23,m 6 24,m 5 25,b (.binOp .add 3 (t 24) (t 25) 3) 26,n 23 2,n 26 3,a (.assign (i 0)) 4]) .ret)
def x70_s2 : XC := (.seq (.reg [m 0 9,a (k 80 #[(t 9),(i 1)] #[35,3]) 10,m 10 8,b (.extract (t 8) 0) 11,b (.extract (t 8) 1) 12,b (.extract (t 8) 2) 13,n 11 5,n 12 6,n 13 7]) (.seq (.seq (.reg [m 7 14,a (.binOp .neq 29 (t 14) (i 0) 29) 15]) x70_s0) x70_s1))
def V70 := PLift.up (aI (@unf _ _ x70_s0.eq_1) (aI (@unf _ _ x70_s1.eq_1) (@unf _ _ x70_s2.eq_1)))
theorem U70 : type_of% V70.down := V70.down
def x70 : XC := (.seq (.reg [a (.assign (.const (.string ⟨#[]⟩))) 2,a (.assign (i 0)) 3,a (.assign (i 0)) 4]) x70_s2)
theorem b70 : Bt 70 27 x70 [(.tmp 2),(.tmp 3),(.tmp 4)] := bt Tryz.func70 rfl (by kernel_rfl) (by kernel_rfl) (by kernel_rfl)
def x80_s0 : XC := (.cond (t 17) (.seq (.reg [b (.move (t 9)) 18,a (.assign (i 0)) 4,a (.assign (i 0)) 5,n 18 6]) .ret) .skip)
def x80_s1 : XC := (.cond (t 20) (.seq (.reg [a (.assign (i 0)) 4,a (.assign (i 0)) 5,a (.assign (i 2)) 6]) .ret) .skip)
def x80_s2 : XC := (.cond (t 34) (.seq (.reg [a (.assign (i 0)) 4,a (.assign (i 0)) 5,a (.assign (i 3)) 6]) .ret) .skip)
def x80_s3 : XC := (.seq (.reg [b (.move (t 7)) 35,b (.move (t 8)) 36,n 35 4,n 36 5,a (.assign (i 0)) 6]) .ret)
def x80_s4 : XC := (.seq (.seq (.reg [m 7 21,m 0 22,e 35 22 23,a (.binOp .gtr 3 (t 21) (t 23) 3) 24,m 24 25,g (.move (t 7)) 26 25 false,g (.move (t 1)) 27 25 false,g (.binOp .mul 3 (t 26) (t 27) 3) 28 25 false,g (.move (t 0)) 29 25 false,g (.call ⟨(.builtin .len),#[(t 29)],#[35]⟩) 30 25 false,g (.move (t 8)) 31 25 false,g (.binOp .sub 3 (t 30) (t 31) 3) 32 25 false,g (.binOp .gtr 3 (t 28) (t 32) 3) 33 25 false,a (.pick (t 25) (.const (.bool true)) (t 33)) 34]) x80_s2) x80_s3)
def x80_s5 : XC := (.seq (.seq (.reg [m 9 16,a (.binOp .neq 29 (t 16) (i 0) 29) 17]) x80_s0) (.seq (.seq (.reg [m 7 19,a (.binOp .lss 3 (t 19) (i 0) 3) 20]) x80_s1) x80_s4))
def x80_s6 : XC := (.seq (.reg [m 0 11,a (k 68 #[(t 11)] #[35]) 12,m 12 10,b (.extract (t 10) 0) 13,b (.extract (t 10) 1) 14,b (.extract (t 10) 2) 15,n 13 7,n 14 8,n 15 9]) x80_s5)
def V80 := PLift.up (aI (aI (@unf _ _ x80_s0.eq_1) (aI (@unf _ _ x80_s1.eq_1) (@unf _ _ x80_s2.eq_1))) (aI (aI (@unf _ _ x80_s3.eq_1) (@unf _ _ x80_s4.eq_1)) (aI (@unf _ _ x80_s5.eq_1) (@unf _ _ x80_s6.eq_1))))
theorem U80 : type_of% V80.down := V80.down
def x80 : XC := (.seq (.reg [a (.assign (i 0)) 4,a (.assign (i 0)) 5,a (.assign (i 0)) 6]) x80_s6)
theorem b80 : Bt 80 37 x80 [(.tmp 4),(.tmp 5),(.tmp 6)] := bt Tryz.func80 rfl (by kernel_rfl) (by kernel_rfl) (by kernel_rfl)
def x81_s0 : XC := (.cond (t 20) (.seq (.reg [b (.move (t 7)) 21,a (.assign (.const (.slice .none 0 0))) 2,a (.assign (i 0)) 3,n 21 4]) .ret) .skip)
def x81_s1 : XC := (.cond (t 36) (.seq (.reg [b (.move (t 12)) 37,a (.assign (.const (.slice .none 0 0))) 2,a (.assign (i 0)) 3,n 37 4]) .ret) .skip)
def x81_s2 : XC := (.reg [m 6 42,m 11 43,b (.binOp .add 3 (t 42) (t 43) 3) 44,n 44 6])
def x81_s3 : XC := (.seq (.reg [c (.move (t 8)) 38,m 10 39,a (.buildSlice 73 1 #[(0,(t 39))]) 40,b (.call ⟨(.builtin .append),#[(t 38),(t 40)],#[73,73]⟩) 41,n 41 8]) x81_s2)
def x81_s4 : XC := (.reg [m 9 25,b (.binOp .add 3 (t 25) (i 1) 3) 26,n 26 9])
def x81_s5 : XC := (.seq (.block 1 (.seq (.reg [m 0 28,m 6 29,a (.slice 35 (t 28) (.some (t 29)) .none .none) 30,a (k 70 #[(t 30)] #[35]) 31,m 31 27,b (.extract (t 27) 0) 32,b (.extract (t 27) 1) 33,b (.extract (t 27) 2) 34,n 32 10,n 33 11,n 34 12]) (.seq (.seq (.reg [m 12 35,a (.binOp .neq 29 (t 35) (i 0) 29) 36]) x81_s1) x81_s3))) x81_s4)
def x81_L6 : XC := (.seq (.seq (.reg [m 9 22,m 5 23,a (.binOp .lss 3 (t 22) (t 23) 3) 24]) (.cond (t 24) .skip (.exit 0))) x81_s5)
def x81_s7 : XC := (.seq (.reg [b (.move (t 8)) 45,b (.move (t 6)) 46,n 45 2,n 46 3,a (.assign (i 0)) 4]) .ret)
def x81_s8 : XC := (.seq (.reg [a (.assign (.const (.slice .none 0 0))) 8]) (.seq (.seq (.reg [a (.assign (i 0)) 9]) (.block 0 (.loop x81_L6))) x81_s7))
def x81_s9 : XC := (.seq (.reg [m 0 14,a (k 80 #[(t 14),(i 1)] #[35,3]) 15,m 15 13,b (.extract (t 13) 0) 16,b (.extract (t 13) 1) 17,b (.extract (t 13) 2) 18,n 16 5,n 17 6,n 18 7]) (.seq (.seq (.reg [m 7 19,a (.binOp .neq 29 (t 19) (i 0) 29) 20]) x81_s0) x81_s8))
def V81 := PLift.up (aI (aI (aI (@unf _ _ x81_s0.eq_1) (@unf _ _ x81_s1.eq_1)) (aI (@unf _ _ x81_s2.eq_1) (aI (@unf _ _ x81_s3.eq_1) (@unf _ _ x81_s4.eq_1)))) (aI (aI (@unf _ _ x81_s5.eq_1) (@unf _ _ x81_L6.eq_1)) (aI (@unf _ _ x81_s7.eq_1) (aI (@unf _ _ x81_s8.eq_1) (@unf _ _ x81_s9.eq_1)))))
theorem U81 : type_of% V81.down := V81.down
def x81 : XC := (.seq (.reg [a (.assign (.const (.slice .none 0 0))) 2,a (.assign (i 0)) 3,a (.assign (i 0)) 4]) x81_s9)
theorem b81 : Bt 81 47 x81 [(.tmp 2),(.tmp 3),(.tmp 4)] := bt Tryz.func81 rfl (by kernel_rfl) (by kernel_rfl) (by kernel_rfl)
end Go.Proofs.YtoeckfegggongaaGreatDoor
end
section
namespace Go.Proofs.YtoeckfegggongaaGreatDoor
open Go Go.Aw
theorem ww {l : List UInt8} {i : Nat} (h : i < l.length) : (l.map qr).getD i [] = [.int .u8 ((l.getD i 0).toNat : Int)] := by simp [h,qr]
theorem xorB {f : Bool} {c : UInt8} : bits .xor .u8 (c.toNat : Int) (oK f) = ((qQ f c).toNat : Int) := by
 rw [xor8 c.toNat_lt,UInt8.ofNat_toNat]
theorem K5 (c : UInt8) : ((qQ (turned c) c).toNat : Int) - 128 = (qD c : Int) := by
 have := c.toNat_lt
 unfold turned qD
 by_cases h : c.toNat < 128
 ·rw [decide_eq_true h,if_pos h,qQ,if_pos rfl,UInt8.toNat_sub_of_le _ _ (by rw [UInt8.le_iff_toNat_le]; simp; omega)]
  simp
  omega
 ·rw [decide_eq_false h,if_neg h,qQ,if_neg (by simp)]
  omega
theorem shl_or {m x : Nat} (hm : 256 * m + x < 18446744073709551616) (hx : x < 256) : bits .or .u64 (IntKind.u64.wrap ((m : Int) * 2 ^ (min ((8 : Int).toNat) IntKind.u64.bits))) (x : Int) = ((256 * m + x : Nat) : Int) := by
 have e1 : (2 : Int) ^ (min ((8 : Int).toNat) IntKind.u64.bits) = 256 := rfl
 rw [e1,IntKind.wrap_u64,show ((m : Int) * 256) % 18446744073709551616 = ((m * 256 : Nat) : Int) by omega,u64_or_nat _ _ (by omega) (by omega)]
 have := Nat.two_pow_add_eq_or_of_lt (i := 8) (b := x) (by omega) m
 rw [show m * 256 = 2 ^ 8 * m by omega,← this]
theorem w_gl {f : Bool} {k6 : D} {rs : List UInt8} {H : AH} {Q : AQ} {F : List D} (hr : rs.length ≤ 8) (hF : Fr 71 [(5,.int .u8 (oK f)),(6,k6),(7,.int .u64 0),(46,.slc (rs.map qr)),(47,.int .i64 rs.length),(48,.int .i64 0)] F) (hE : ∀ F',Fr 71 [(5,.int .u8 (oK f)),(6,k6),(7,.int .u64 (val (rs.map (qQ f)) : Int))] F' → Q (.exit 1) F' H) : XW Tryz.prog x35_L8 F H Q := by
 have hbig := qt
 refine XW.loopK Go.Proofs.YtoeckfegggongaaGreatDoor.hm (fun F H'=>∃ (j : Nat),j ≤ rs.length ∧ Fr 71 [(5,.int .u8 (oK f)),(6,k6),(7,.int .u64 (val ((rs.take j).map (qQ f)) : Int)),(46,.slc (rs.map qr)),(47,.int .i64 rs.length),(48,.int .i64 j)] F ∧ H = H') (fun F H=>match F.getD 48 .any with | .int _ n'=>rs.length - n'.toNat | _=>0) ⟨0,by omega,hF,rfl⟩ ?_
 rintro _ _ ⟨j,hj,hF,rfl⟩ K hN hE' hR
 obtain ⟨z,rfl⟩ : ∃ z : Nat → D,_ = zz z 0 5 (.int .u8 (oK f) :: k6 :: .int .u64 (val ((rs.take j).map (qQ f)) : Int) :: zz z 8 38 (.slc (rs.map qr) :: .int .i64 rs.length :: .int .i64 j :: zz z 49 22 [])) := hF.lit
 try dsimp only [zz,qb] at *
 clear hF hR
 by_cases hlt : j < rs.length
 ·have nx : ∀ F',Fr 71 [(5,.int .u8 (oK f)),(6,k6),(7,.int .u64 ((256 * val ((rs.take j).map (qQ f)) + (qQ f (rs.getD j 0)).toNat : Nat) : Int)),(46,.slc (rs.map qr)),(47,.int .i64 rs.length),(48,.int .i64 ((j + 1 : Nat) : Int))] F' → K .normal F' H := fun F' hF'=>hN _ _ ⟨j + 1,hlt,by
    have : (rs.take (j + 1)).map (qQ f) = (rs.take j).map (qQ f) ++ [qQ f (rs.getD j 0)] := by
     rw [List.take_add_one,List.map_append]
     simp [hlt]
    rw [this,vY]
    exact hF',(j9 rfl).symm⟩ (by
   rw [List.getD_eq_getElem?_getD,hF'.2.2.2.2.2.2.1]
   simp only [List.getD_cons_succ,List.getD_cons_zero,Option.getD_some]
   omega)
  clear hN hE hE'
  have q1 := ww hlt
  have hv : val ((rs.take j).map (qQ f)) < 256 ^ 7 := Nat.lt_of_lt_of_le (Ug _) (Nat.pow_le_pow_right (by omega) (by simp; omega))
  generalize val ((rs.take j).map (qQ f)) = v at nx hv ⊢
  generalize rs.getD j 0 = c at q1 nx
  have hc := (qQ f c).toNat_lt
  have xb := xorB (f := f) (c := c)
  have w1 := shl_or (m := v) (x := (qQ f c).toNat) (by omega) (by omega)
  have w2 : IntKind.u64.wrap (((qQ f c).toNat : Int)) = ((qQ f c).toNat : Int) := by rw [IntKind.wrap_u64]; omega
  simp +contextual only [Yx,qh,hlt,Int.ofNat_lt,q1,xb,w1,w2,qp (show j ≤ big by omega),↓U35,↓XP,qm,XW1,qa,qb,qc,qd,qe,qf,reduceCtorEq]
  exact fun _=>⟨by decide,nx _ ⟨rfl,rfl,rfl,rfl,rfl,rfl,rfl,trivial⟩⟩
 ·have hik : j = rs.length := by omega
  subst hik
  clear hN
  rw [List.take_length]
  simp +contextual only [Yx,qh,↓U35,↓XP,qm,XW1,qa,qb,qc,qd,qe,qf,reduceCtorEq]
  exact hE' _ _ _ (hE _ ⟨rfl,rfl,rfl,rfl,trivial⟩)
theorem w_gi {c : UInt8} {r : List UInt8} {xs : List (List D)} {H : AH} {F : List D} {R : D → AH → Prop} (hF : Fr 71 [(0,.slc xs),(5,.int .u8 (oK (turned c))),(6,.int .i64 (qD c : Int))] F) (hl : xs.length = r.length + 1) (h1 : ∀ x ∈ xs,x.length = 1) (hL : r.length + 1 ≤ big)
  (q1 : 0 < r.length → xs.getD 1 [] = [.int .u8 ((r.getD 0 0).toNat : Int)]) (hx2 : (xs.take (qD c + 1)).drop 1 = (r.take (qD c)).map qr)
  (hk : ∀ t,qA (c :: r) = t → R (.tup [.int .i64 t.1,.int .i64 (t.2.1 : Int),.int .i64 t.2.2]) H) : xcode Tryz.prog x35_s14 F H (jN Tryz.prog [.tmp 2,.tmp 3,.tmp 4] H.length R) := by
 have hbig := qt
 obtain ⟨z,rfl⟩ : ∃ z : Nat → D,_ = .slc xs :: zz z 1 4 (.int .u8 (oK (turned c)) :: .int .i64 (qD c : Int) :: zz z 7 64 []) := hF.lit
 try dsimp only [zz,qb] at *
 clear hF
 unfold qA at hk
 dsimp only at hk
 unfold body at hk
 have hc := c.toNat_lt
 have tl : qD c ≤ 127 := by unfold qD; split <;> omega
 by_cases c1 : 8 < qD c
 ·simp +contextual only [Yx,qh,show ((8 : Int) < (qD c : Int)) = True from eq_true (by omega),↓U35,↓XP,qm,XW1,qa,qb,qc,qd,qe,qf,reduceCtorEq]
  exact hk _ (by rw [if_pos c1])
 rw [if_neg c1] at hk
 by_cases c2 : r.length < qD c
 ·simp +contextual only [Yx,qh,show ((8 : Int) < (qD c : Int)) = False from eq_false (by omega),hl,show (((r.length + 1 : Nat) : Int) ≤ (qD c : Int)) = True from eq_true (by omega),↓U35,↓XP,qm,XW1,qa,qb,qc,qd,qe,qf,reduceCtorEq]
  exact fun _=>hk _ (by rw [if_pos c2])
 rw [if_neg c2] at hk
 have wk : IntKind.i64.wrap ((qD c : Int) + 1) = ((qD c + 1 : Nat) : Int) := by rw [qw (by omega) (by omega)]; omega
 have tl2 : (r.take (qD c)).length = qD c := by simp; omega
 have fin : ¬ (0 < qD c ∧ qQ (turned c) (r.getD 0 0) = 0) → ∀ F,Fr 71 [(5,.int .u8 (oK (turned c))),(6,.int .i64 (qD c : Int)),(7,.int .u64 0),(46,.slc ((r.take (qD c)).map qr)),(47,.int .i64 (qD c : Int)),(48,.int .i64 0)] F → XW Tryz.prog x35_L8 F H (kT 1 (Jh Tryz.prog x35_s12 (jN Tryz.prog [.tmp 2,.tmp 3,.tmp 4] H.length R))) := by
  intro hno F hF
  rw [if_neg hno] at hk
  refine w_gl (f := turned c) (k6 := .int .i64 (qD c : Int)) (rs := r.take (qD c)) (by omega) (by rw [tl2]; exact hF) fun F' hF'=>?_
  obtain ⟨z,rfl⟩ : ∃ z : Nat → D,_ = zz z 0 5 (.int .u8 (oK (turned c)) :: .int .i64 (qD c : Int) :: .int .u64 (val ((r.take (qD c)).map (qQ (turned c))) : Int) :: zz z 8 63 []) := hF'.lit
  try dsimp only [zz,qb] at *
  clear hF' hF
  have hv := Ug ((r.take (qD c)).map (qQ (turned c)))
  have hv2 : val ((r.take (qD c)).map (qQ (turned c))) < 256 ^ 8 := Nat.lt_of_lt_of_le hv (Nat.pow_le_pow_right (by omega) (by simp; omega))
  generalize val ((r.take (qD c)).map (qQ (turned c))) = v at hk hv2 ⊢
  have e63 : ((v : Int)).fdiv (2 ^ (min ((63 : Int).toNat) IntKind.u64.bits)) = ((v / 9223372036854775808 : Nat) : Int) := by
   rw [show (2 : Int) ^ (min ((63 : Int).toNat) IntKind.u64.bits) = 9223372036854775808 from rfl,Int.fdiv_eq_ediv_of_nonneg _ (by omega)]
   omega
  by_cases c5 : 9223372036854775808 ≤ v
  ·have hz : ((0 : Int) < ((v / 9223372036854775808 : Nat) : Int)) = True := eq_true (by omega)
   simp +contextual only [Yx,qh,e63,hz,↓U35,↓XP,qm,XW1,qa,qb,qc,qd,qe,qf,reduceCtorEq]
   exact ⟨by decide,hk _ (by rw [if_pos c5])⟩
  ·have hz : ((0 : Int) < ((v / 9223372036854775808 : Nat) : Int)) = False := eq_false (by omega)
   rw [if_neg c5] at hk
   cases ht : turned c with
   | true =>
    have ux : bits .xor .u64 (if IntKind.u64.signed = true then -1 else IntKind.u64.max) (v : Int) = ((18446744073709551615 - v : Nat) : Int) := by
     rw [show (if IntKind.u64.signed = true then (-1 : Int) else IntKind.u64.max) = ((18446744073709551615 : Nat) : Int) from rfl,u64_xor_nat _ _ (by omega) (by omega),not64 (by omega)]
    have wv : IntKind.i64.wrap ((18446744073709551615 - v : Nat) : Int) = -1 - (v : Int) := by rw [IntKind.wrap_i64]; omega
    simp +contextual only [Yx,qh,e63,hz,ht,show oK true = 255 from rfl,show ((0 : Int) < 255) = True from eq_true (by omega),ux,wv,wk,↓U35,↓XP,qm,XW1,qa,qb,qc,qd,qe,qf,reduceCtorEq]
    have hk2 := hk _ rfl
    rw [ht] at hk2
    exact ⟨by decide,hk2⟩
   | false =>
    have wv : IntKind.i64.wrap (v : Int) = (v : Int) := by rw [IntKind.wrap_i64]; omega
    simp +contextual only [Yx,qh,e63,hz,ht,show oK false = 0 from rfl,show ((0 : Int) < 0) = False from eq_false (by omega),wv,wk,↓U35,↓XP,qm,XW1,qa,qb,qc,qd,qe,qf,reduceCtorEq]
    have hk2 := hk _ rfl
    rw [ht] at hk2
    exact ⟨by decide,hk2⟩
 have k1 : ((1 : Int) ≤ ((qD c + 1 : Nat) : Int)) = True := eq_true (by omega)
 have k2 : (((qD c + 1 : Nat) : Int) ≤ ((r.length + 1 : Nat) : Int)) = True := eq_true (by omega)
 by_cases c3 : 0 < qD c
 ·have q1' := q1 (by omega)
  have xb := xorB (f := turned c) (c := r.getD 0 0)
  by_cases c4 : qQ (turned c) (r.getD 0 0) = 0
  ·rw [c4,show (((UInt8.toNat 0 : Nat) : Int)) = 0 from rfl] at xb
   simp +contextual only [Yx,qh,show ((8 : Int) < (qD c : Int)) = False from eq_false (by omega),hl,show (((r.length + 1 : Nat) : Int) ≤ (qD c : Int)) = False from eq_false (by omega),show ((0 : Int) < (qD c : Int)) = True from eq_true (by omega),show ((1 : Int)).toNat = 1 from rfl,show ((0 : Int) ≤ 1) = True from eq_true (by omega),q1',xb,show (1 < ((r.length + 1 : Nat) : Int)) = True from eq_true (by omega),↓U35,↓XP,qm,XW1,qa,qb,qc,qd,qe,qf,reduceCtorEq]
   exact fun _ _=>hk _ (by rw [if_pos ⟨c3,c4⟩])
  ·have xz : ((((qQ (turned c) (r.getD 0 0)).toNat : Nat) : Int) = 0) = False := eq_false (fun h=>c4 (UInt8.toNat_inj.1 (by simpa using h)))
   simp +contextual only [Yx,qh,show ((8 : Int) < (qD c : Int)) = False from eq_false (by omega),hl,show (((r.length + 1 : Nat) : Int) ≤ (qD c : Int)) = False from eq_false (by omega),show ((0 : Int) < (qD c : Int)) = True from eq_true (by omega),show ((1 : Int)).toNat = 1 from rfl,show ((0 : Int) ≤ 1) = True from eq_true (by omega),q1',xb,xz,show (1 < ((r.length + 1 : Nat) : Int)) = True from eq_true (by omega),wk,h1,k1,k2,hx2,tl2,↓U35,↓XP,qm,XW1,qa,qb,qc,qd,qe,qf,reduceCtorEq]
   exact fun _ _ _=>fin (fun h=>c4 h.2) _ ⟨rfl,rfl,rfl,rfl,rfl,rfl,rfl,trivial⟩
 ·simp +contextual only [Yx,qh,show ((8 : Int) < (qD c : Int)) = False from eq_false (by omega),hl,show (((r.length + 1 : Nat) : Int) ≤ (qD c : Int)) = False from eq_false (by omega),show ((0 : Int) < (qD c : Int)) = False from eq_false (by omega),show ((1 : Int)).toNat = 1 from rfl,show ((0 : Int) ≤ 1) = True from eq_true (by omega),wk,h1,k1,k2,hx2,tl2,↓U35,↓XP,qm,XW1,qa,qb,qc,qd,qe,qf,reduceCtorEq]
  exact fun _ _=>fin (fun h=>c3 h.1) _ ⟨rfl,rfl,rfl,rfl,rfl,rfl,rfl,trivial⟩
theorem oG {b : List UInt8} {H : AH} {R : D → AH → Prop} (h : R (.tup [.int .i64 (qA b).1,.int .i64 ((qA b).2.1 : Int),.int .i64 (qA b).2.2]) H) : ACall Tryz.prog 35 [.slc (b.map qr)] H R := by
 refine b35 fun hf=>?_
 have hbig := qt
 rcases hb : b with _ | ⟨c,r⟩
 ·subst hb
  simp +contextual only [Yx,x35_s17,zQ,x35_s16,zW,zL,Js,qh,List.length_nil,show ((((0 : Nat) : Int)) = 0) = True from eq_true rfl,↓XP,qm,XW1,qa,qb,qc,qd,qe,qf,reduceCtorEq]
  exact fun _=>h
 have hk : ∀ t,qA (c :: r) = t → R (.tup [.int .i64 t.1,.int .i64 (t.2.1 : Int),.int .i64 t.2.2]) H := fun t ht=>by rw [← ht,← hb]; exact h
 clear h
 have q0 := ww (l := c :: r) (i := 0) (by simp)
 have q1 : 0 < r.length → ((c :: r).map qr).getD 1 [] = [.int .u8 ((r.getD 0 0).toNat : Int)] := fun h=>by rw [ww (by simp; omega)]; rfl
 simp only [List.getD_cons_zero] at q0
 have hl : ((c :: r).map qr).length = r.length + 1 := by simp
 have hx2 : (((c :: r).map qr).take (qD c + 1)).drop 1 = (r.take (qD c)).map qr := by rw [← List.map_take]; rfl
 have h1 : ∀ x ∈ (c :: r).map qr,x.length = 1 := qC
 generalize ((c :: r).map qr) = xs at q0 q1 hl hx2 hf h1 ⊢
 have hz : (((r.length + 1 : Nat) : Int) = 0) = False := eq_false (by omega)
 have hz2 : ((0 : Int) < ((r.length + 1 : Nat) : Int)) = True := eq_true (by omega)
 have h8 := K5 c
 have hc := c.toNat_lt
 have w1 := (qQ (turned c) c).toNat_lt
 have w2 : IntKind.i64.wrap (((qQ (turned c) c).toNat : Int) - 128) = (qD c : Int) := by rw [h8]; unfold qD; exact qw (by split <;> omega) (by split <;> omega)
 have w3 : IntKind.i64.wrap (((qQ (turned c) c).toNat : Int)) = ((qQ (turned c) c).toNat : Int) := qw (by omega) (by omega)
 have xb := xorB (f := turned c) (c := c)
 by_cases c1 : c.toNat < 128
 ·have ft : oK (turned c) = 255 := by rw [turned,decide_eq_true c1]; rfl
  have c1' : ((c.toNat : Int) < 128) = True := eq_true (by omega)
  rw [ft] at xb
  simp +contextual only [Yx,x35_s17,zQ,x35_s16,zW,zL,Js,qh,q0,hl,hz,hz2,c1',xb,w3,w2,Int.reduceToNat,Int.reduceLE,↓XP,qm,XW1,qa,qb,qc,qd,qe,qf,reduceCtorEq]
  refine fun hlb _=>w_gi ⟨rfl,rfl,congrArg (fun x=>some (D.int .u8 x)) ft.symm,rfl,trivial⟩ hl h1 hlb q1 hx2 hk
 ·have ft : oK (turned c) = 0 := by rw [turned,decide_eq_false c1]; rfl
  have c1' : ((c.toNat : Int) < 128) = False := eq_false (by omega)
  rw [ft] at xb
  simp +contextual only [Yx,x35_s17,zQ,x35_s16,zW,zL,Js,qh,q0,hl,hz,hz2,c1',xb,w3,w2,Int.reduceToNat,Int.reduceLE,↓XP,qm,XW1,qa,qb,qc,qd,qe,qf,reduceCtorEq]
  refine fun hlb _=>w_gi ⟨rfl,rfl,congrArg (fun x=>some (D.int .u8 x)) ft.symm,rfl,trivial⟩ hl h1 hlb q1 hx2 hk
end Go.Proofs.YtoeckfegggongaaGreatDoor
end
