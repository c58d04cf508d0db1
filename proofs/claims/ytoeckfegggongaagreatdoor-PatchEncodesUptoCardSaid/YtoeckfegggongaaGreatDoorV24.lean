/- A part of the proof of what the last text says: Gq3, Gq4, Gq5, Gq6, Gs2, Gf5, Gf2, Gf3. Conditions: those in each theorem. -/
import Derived.Test.YtoeckfegggongaaGreatDoorV23
set_option linter.unusedVariables false
set_option linter.unusedSimpArgs false
set_option maxRecDepth 100000
set_option maxHeartbeats 16000000
open Nat renaming reduceSub → qa,reduceAdd → qb,reduceMul → qc,reduceEqDiff → qd,reduceLeDiff → qe,reduceBEq → qf
section
namespace Go.Proofs.YtoeckfegggongaaGreatDoor
open Go Go.Aw
structure TOp (o : OpP) : Prop where
 v : vi o
 ok : K8 o
 tx : o.text.length ≤ 60
theorem t_1 {nm tx : List UInt8} (h1 : 1 ≤ nm.length) (h2 : nm.length ≤ 16) (h3 : tx.length ≤ 60) : TOp { op0 with k := 1,name := nm,text := tx } :=
 ⟨by simp [vi,zy,z9,uX,uK,vM,uses,op0,v9]; omega,kz (by show (1 : Int) ≠ 16; decide),h3⟩
theorem t_2 {on : Id3} {n : Int} (h : jq on) (h1 : 0 ≤ n) (h2 : n ≤ 1000) : TOp { op0 with k := 2,on := on,n := n } :=
 ⟨by simp [vi,zy,z9,uX,uK,vM,uses,op0,v9,h,yA,yl,kD]; omega,kz (by show (2 : Int) ≠ 16; decide),by simp [op0]⟩
theorem t_3 {nm tx : List UInt8} {a b : Int} (h1 : 1 ≤ nm.length) (h2 : nm.length ≤ 16) (h3 : tx.length ≤ 60) (h4 : 1 ≤ a) (h5 : a ≤ b) (h6 : b ≤ 1000000) : TOp { op0 with k := 3,name := nm,text := tx,a := a,b := b } :=
 ⟨by simp [vi,zy,z9,uX,uK,vM,uses,op0,v9,kA]; omega,kz (by show (3 : Int) ≠ 16; decide),h3⟩
theorem t_4 {on to : Id3} {n : Int} {tx : List UInt8} (h : jq on) (h' : jq to) (h1 : 0 ≤ n) (h2 : n ≤ 1000) (h3 : tx.length ≤ 60) : TOp { op0 with k := 4,on := on,to := to,n := n,text := tx } :=
 ⟨by simp [vi,zy,z9,uX,uK,vM,uses,op0,v9,h,h',yA,yl,kD]; omega,kz (by show (4 : Int) ≠ 16; decide),h3⟩
theorem t_5 {on : Id3} {tx : List UInt8} (h : jq on) (h3 : tx.length ≤ 60) : TOp { op0 with k := 5,on := on,text := tx } :=
 ⟨by simp [vi,zy,z9,uX,uK,vM,uses,op0,v9,h]; omega,kz (by show (5 : Int) ≠ 16; decide),h3⟩
theorem t_6 {on : Id3} {nm : List UInt8} (h : jq on) (h1 : 1 ≤ nm.length) (h2 : nm.length ≤ 16) : TOp { op0 with k := 6,on := on,name := nm } :=
 ⟨by simp [vi,zy,z9,uX,uK,vM,uses,op0,v9,h]; omega,kz (by show (6 : Int) ≠ 16; decide),by simp [op0]⟩
theorem t_7 {on : Id3} {tx : List UInt8} (h : jq on) (h3 : tx.length ≤ 60) : TOp { op0 with k := 7,on := on,text := tx } :=
 ⟨by simp [vi,zy,z9,uX,uK,vM,uses,op0,v9,h]; omega,kz (by show (7 : Int) ≠ 16; decide),h3⟩
theorem t_8 {on : Id3} {n : Int} (h : jq on) (h1 : 0 ≤ n) (h2 : n ≤ 1000) : TOp { op0 with k := 8,on := on,n := n } :=
 ⟨by simp [vi,zy,z9,uX,uK,vM,uses,op0,v9,h,yA,yl,kD]; omega,kz (by show (8 : Int) ≠ 16; decide),by simp [op0]⟩
theorem t_9 {on : Id3} {n : Int} (h : jq on) (h1 : 0 ≤ n) (h2 : n ≤ 1) : TOp { op0 with k := 9,on := on,n := n } :=
 ⟨by simp [vi,zy,z9,uX,uK,vM,uses,op0,v9,h,yA,yl,kD]; omega,kz (by show (9 : Int) ≠ 16; decide),by simp [op0]⟩
theorem t_10 {on : Id3} {n : Int} (h : jq on) (h1 : 0 ≤ n) (h2 : n ≤ 1000) : TOp { op0 with k := 10,on := on,n := n } :=
 ⟨by simp [vi,zy,z9,uX,uK,vM,uses,op0,v9,h,yA,yl,kD]; omega,kz (by show (10 : Int) ≠ 16; decide),by simp [op0]⟩
theorem t_11 {on : Id3} {a b : Int} (h : jq on) (h4 : 1 ≤ a) (h5 : a ≤ b) (h6 : b ≤ 1000000) : TOp { op0 with k := 11,on := on,a := a,b := b } :=
 ⟨by simp [vi,zy,z9,uX,uK,vM,uses,op0,v9,h,kA]; omega,kz (by show (11 : Int) ≠ 16; decide),by simp [op0]⟩
theorem t_12 {on : Id3} {nm tx : List UInt8} (h : jq on) (h1 : 1 ≤ nm.length) (h2 : nm.length ≤ 16) (h3 : tx.length ≤ 60) : TOp { op0 with k := 12,on := on,name := nm,text := tx } :=
 ⟨by simp [vi,zy,z9,uX,uK,vM,uses,op0,v9,h]; omega,kz (by show (12 : Int) ≠ 16; decide),h3⟩
theorem t_13 {on to : Id3} {n : Int} (h : jq on) (h' : jq to) (h1 : 0 ≤ n) (h2 : n ≤ 1000) : TOp { op0 with k := 13,on := on,to := to,n := n } :=
 ⟨by simp [vi,zy,z9,uX,uK,vM,uses,op0,v9,h,h',yA,yl,kD]; omega,kz (by show (13 : Int) ≠ 16; decide),by simp [op0]⟩
theorem t_14 {on : Id3} {nm : List UInt8} {n : Int} (h : jq on) (h1 : 1 ≤ nm.length) (h2 : nm.length ≤ 16) (h3 : 0 ≤ n) (h4 : n ≤ 1) : TOp { op0 with k := 14,on := on,name := nm,n := n } :=
 ⟨by simp [vi,zy,z9,uX,uK,vM,uses,op0,v9,h,yA,yl,kD]; omega,kz (by show (14 : Int) ≠ 16; decide),by simp [op0]⟩
theorem t_15 {on to : Id3} {n : Int} (h : jq on) (h' : jq to) (h1 : 0 ≤ n) (h2 : n ≤ 1) : TOp { op0 with k := 15,on := on,to := to,n := n } :=
 ⟨by simp [vi,zy,z9,uX,uK,vM,uses,op0,v9,h,h',yA,yl,kD]; omega,kz (by show (15 : Int) ≠ 16; decide),by simp [op0]⟩
theorem t_16 {on x y : Id3} {n : Int} (h : jq on) (hx : jq x) (hy : jq y) (hxy : x ≠ y) (hox : x ≠ on) (hoy : y ≠ on) (h1 : -1 ≤ n) (h2 : n ≤ 1) : TOp { op0 with k := 16,on := on,ids := [x,y],n := n } :=
 ⟨by simp [vi,zy,z9,uX,uK,vM,uses,op0,v9,h,hx,hy,hxy,hox,hoy,yA,yl,kD,vW]; omega,fun _=>rfl,by simp [op0]⟩
theorem t_17 {on to : Id3} (h : jq on) (h' : jq to) (hne : on ≠ to) : TOp { op0 with k := 17,on := on,to := to } :=
 ⟨by simp [vi,zy,z9,uX,uK,vM,uses,op0,v9,h,h',hne],kz (by show (17 : Int) ≠ 16; decide),by simp [op0]⟩
theorem t_18 {on to x : Id3} (h : jq on) (h' : jq to) (hx : jq x) : TOp { op0 with k := 18,on := on,to := to,ids := [x] } :=
 ⟨by simp [vi,zy,z9,uX,uK,vM,uses,op0,v9,h,h',hx,vW],kz (by show (18 : Int) ≠ 16; decide),by simp [op0]⟩
end Go.Proofs.YtoeckfegggongaaGreatDoor
end
section
namespace Go.Proofs.YtoeckfegggongaaGreatDoor
open Go Go.Aw
theorem wj {l : List (List UInt8)} {i c : Nat} (h : ∀ x ∈ l,x.length ≤ c) : (l.getD i []).length ≤ c := by
 rw [List.getD_eq_getElem?_getD]
 cases e : l[i]? with
 | none=>simp
 | some x=>exact h x (List.mem_of_getElem? e)
theorem oC {l : List (List UInt8)} {i c : Nat} (h : ∀ x ∈ l,c ≤ x.length) (hi : i < l.length) : c ≤ (l.getD i []).length := by
 rw [jk hi]
 exact h _ (List.getElem_mem hi)
theorem kN {α : Type} {l : List α} {i : Nat} {d : α} (hi : i < l.length) : l.getD i d ∈ l := by
 rw [jk hi]
 exact List.getElem_mem hi
theorem w9 {l : List Int} {i n : Nat} (h : 0 < n) : jC l i (n : Int) < n := by
 have := qz (l := l) (i := i) (most := (n : Int)) (by omega)
 unfold jC
 omega
theorem vd {l : List Int} : (gloss l).length ≤ 60 := by
 have go : ∀ i,(kZ l i).length ≤ 5 + 7 * i := by
  intro i
  induction i with
  | zero=>exact wj (by decide)
  | succ i ih =>
   have h1 : (seps3.getD (jC l (2 + i) 3) []).length ≤ 2 := wj (by decide)
   have h2 : (words16.getD (jC l (4 + i) (6 + i)) []).length ≤ 5 := wj (by decide)
   simp only [kZ,List.length_append]
   omega
 unfold gloss
 split
 ·simp
 ·have h1 := go (jC l 1 3)
  have h2 := w9 (l := l) (i := 1) (n := 3) (by omega)
  have h2' : jC l 1 3 < 3 := h2
  omega
def AllT (p : Pt) : Prop := ∀ o ∈ p.ops,TOp o
theorem AllT.with' {p : Pt} {o : OpP} (h : AllT p) (ho : TOp o) : AllT (j6 p o) := by
 intro x hx
 unfold j6 at hx
 rcases List.mem_append.1 hx with hx | hx
 ·exact h x hx
 ·rw [List.mem_singleton.1 hx]; exact ho
theorem Ku {p : Pt} {o : OpP} : (j6 p o).ops.length = p.ops.length + 1 := by simp [j6]
theorem ot {p : Pt} (h : yI p.o p.s) (hl : p.ops.length ≤ 15) : jq (jv p) := by
 unfold yI at h
 unfold jq jv
 dsimp only
 omega
theorem vg {p : Pt} {on : Id3} {m : List Int} (h : AllT p) (ho : yI p.o p.s) (hl : p.ops.length ≤ 12) (hon : jq on) : AllT (meaning p on m) := by
 have a2 := qz (l := m) (i := 2) (most := 5) (by omega)
 unfold meaning
 dsimp only
 have h1 := h.with' (t_2 (on := on) (n := qE m 2 5) hon (by omega) (by omega))
 have hid : jq (jv p) := ot ho (by omega)
 have h2 := h1.with' (t_7 (on := jv p) (tx := gloss (m.drop 3)) hid vd)
 split
 ·exact h2
 ·exact h2.with' (t_9 hid (by omega) (by omega))
structure PC (x : Gs) (p : Pt) : Prop where
 oks : yI p.o p.s
 xs : ∀ q ∈ x.l,yI q.o q.s ∧ q.ops.length ≤ 14 ∧ AllT q ∧ ¬ (q.o = p.o ∧ q.s = p.s)
theorem vis_ok {x : Gs} {p : Pt} {seen : List Bool} {kind : Int} (h : PC x p) (hl : p.ops.length ≤ 16) {y : Id3} (hy : y ∈ visible x seen p kind) : jq y ∧ ∀ j : Int,(p.ops.length : Int) ≤ j → y ≠ ⟨p.o,p.s,j⟩ := by
 unfold visible at hy
 rcases List.mem_append.1 hy with hy | hy
 ·obtain ⟨i,hi,hy⟩ := upto_mem.1 hy
  obtain ⟨_,k,hk,_,rfl⟩ := mem_visOne.1 hy
  have hq := h.xs _ (kN (d := default) hi)
  generalize x.l.getD i default = q at hq hk
  obtain ⟨q1,q2,_,q3⟩ := hq
  unfold yI at q1
  refine ⟨by unfold jq; dsimp only; omega,fun j _ e=>q3 ?_⟩
  simp only [Id3.mk.injEq] at e
  exact ⟨e.1,e.2.1⟩
 ·obtain ⟨_,k,hk,_,rfl⟩ := mem_visOne.1 hy
  have q1 := h.oks
  unfold yI at q1
  refine ⟨by unfold jq; dsimp only; omega,fun j hj e=>?_⟩
  simp only [Id3.mk.injEq] at e
  omega
theorem gO {x : Gs} {p : Pt} {seen : List Bool} {kind : Int} (h : PC x p) (hl : p.ops.length ≤ 16) {m : List Int} {i : Nat} (hn : (visible x seen p kind).length ≠ 0) :
  jq ((visible x seen p kind).getD (jC m i (visible x seen p kind).length) default) ∧ ∀ j : Int,(p.ops.length : Int) ≤ j → (visible x seen p kind).getD (jC m i (visible x seen p kind).length) default ≠ ⟨p.o,p.s,j⟩ :=
 vis_ok h hl (kN (w9 (by omega)))
theorem WR {x : Gs} {seen : List Bool} {p : Pt} {sense : Id3} {m : List Int} (h : AllT p) (hc : PC x p) (hl : p.ops.length ≤ 12) (hs : jq sense) : AllT (quoted x seen p sense m) := by
 have a2 := qz (l := m) (i := 2) (most := 60) (by omega)
 have a4 := qz (l := m) (i := 4) (most := 8) (by omega)
 have a5 := qz (l := m) (i := 5) (most := 90) (by omega)
 unfold quoted
 dsimp only
 split
 ·refine (h.with' (t_3 (oC (by decide) (w9 (n := 3) (by omega))) (Nat.le_trans (wj (c := 5) (by decide)) (by omega)) (by decide) (by omega) (by omega) (by omega))).with' (t_4 hs (ot hc.oks (by omega)) (by omega) (by omega) vd)
 ·rename_i hne
  exact h.with' (t_4 hs (gO hc (by omega) (fun e=>hne (.inl e))).1 (by omega) (by omega) vd)
theorem o0 {p : Pt} {on : Id3} {m : List Int} : p.ops.length + 2 ≤ (meaning p on m).ops.length ∧ (meaning p on m).ops.length ≤ p.ops.length + 3 ∧ (meaning p on m).o = p.o ∧ (meaning p on m).s = p.s := by
 unfold meaning
 dsimp only
 split <;> simp [j6]
theorem YZ {p : Pt} {entry sense : Id3} {m : List Int} (h : AllT p) (ho : yI p.o p.s) (hl : p.ops.length ≤ 7) (he : jq entry) (hs : jq sense) (hn : ∀ j : Int,(p.ops.length : Int) ≤ j → sense ≠ ⟨p.o,p.s,j⟩) : AllT (divided p entry sense m) := by
 have a4 := qz (l := m) (i := 4) (most := 3) (by omega)
 unfold divided
 dsimp only
 obtain ⟨m1,m2,m3,m4⟩ := o0 (p := p) (on := entry) (m := m)
 have h1 := vg (m := m) h ho (by omega) he
 generalize meaning p entry m = p1 at m1 m2 m3 m4 h1 ⊢
 have ho1 : yI p1.o p1.s := by rw [m3,m4]; exact ho
 have h2 := vg (m := m.drop 1) h1 ho1 (by omega) he
 refine h2.with' (t_16 hs (ot ho (by omega)) (ot ho1 (by omega)) ?_ ?_ ?_ (by omega) (by omega))
 ·intro e
  unfold jv at e
  simp only [Id3.mk.injEq] at e
  omega
 ·exact fun e=>hn _ (Int.le_refl _) e.symm
 ·intro e
  refine hn p1.ops.length (by omega) ?_
  rw [← e]
  unfold jv
  rw [m3,m4]
theorem small_T {sense other : Id3} {n : Int} {m : List Int} (hs : jq sense) (ho : jq other) : TOp (small sense other n m) := by
 have a1 := qz (l := m) (i := 3) (most := 2) (by omega)
 have a2 := qz (l := m) (i := 3) (most := 9) (by omega)
 have a3 := qz (l := m) (i := 4) (most := 4) (by omega)
 have a4 := qz (l := m) (i := 3) (most := 5) (by omega)
 have a5 := qz (l := m) (i := 3) (most := 3) (by omega)
 unfold small
 repeat' split
 ·exact t_7 hs vd
 ·exact t_9 hs (by omega) (by omega)
 ·exact t_10 hs (by omega) (by omega)
 ·exact t_12 hs (oC (by decide) (w9 (n := 3) (by omega))) (Nat.le_trans (wj (c := 2) (by decide)) (by omega)) vd
 ·exact t_14 hs (oC (by decide) (w9 (n := 2) (by omega))) (Nat.le_trans (wj (c := 4) (by decide)) (by omega)) (by omega) (by omega)
 ·exact t_15 hs ho (by omega) (by omega)
 ·exact t_13 hs ho (by omega) (by omega)
 ·exact t_8 hs (by omega) (by omega)
theorem spl_ok {x : Gs} {p : Pt} {seen : List Bool} (h : PC x p) (hp : AllT p) {o : OpP} (ho : o ∈ splits x seen p) : TOp o ∧ o.k = 16 := by
 have one : ∀ {q : Pt} {ok : Bool},AllT q → o ∈ kw q ok → TOp o ∧ o.k = 16 := by
  intro q ok hq ho
  unfold kw at ho
  obtain ⟨k,hk,h⟩ := upto_mem.1 ho
  unfold jW at h
  split at h
  ·rename_i hc
   rw [List.mem_singleton.1 h]
   exact ⟨hq _ (kN hk),hc.2⟩
  ·cases h
 unfold splits at ho
 rcases List.mem_append.1 ho with ho | ho
 ·obtain ⟨i,hi,ho⟩ := upto_mem.1 ho
  exact one (h.xs _ (kN (d := default) hi)).2.2.1 ho
 ·exact one hp ho
theorem step_T {x : Gs} {seen : List Bool} {p : Pt} {m : List Int} (h : AllT p) (hc : PC x p) (hv : VOk x seen p) (hl : p.ops.length ≤ 7) : AllT (step x seen p m) := by
 have a0 := qz (l := m) (i := 0) (most := 24) (by omega)
 have a3 := qz (l := m) (i := 3) (most := 60) (by omega)
 have h8 : ∀ i : Nat,(heads8.getD i []).length ≤ 60 := fun i=>Nat.le_trans (wj (c := 4) (by decide)) (by omega)
 unfold step
 dsimp only
 by_cases c0 : (visible x seen p 2).length = 0 ∨ qE m 0 24 ≤ 5
 ·rw [if_pos c0]
  exact vg (h.with' (t_1 (oC (by decide) (w9 (n := 5) (by omega))) (Nat.le_trans (wj (c := 1) (by decide)) (by omega)) (h8 _))) hc.oks (by rw [Ku]; omega) (ot hc.oks (by omega))
 ·rw [if_neg c0]
  have hs0 : (visible x seen p 2).length ≠ 0 := fun e=>c0 (.inl e)
  have he0 := hv hs0
  have hE1 := gO (seen := seen) (kind := 1) (m := m) (i := 1) hc (by omega) he0
  have hS1 := gO (seen := seen) (kind := 2) (m := m) (i := 1) hc (by omega) hs0
  have hS2 := gO (seen := seen) (kind := 2) (m := m) (i := 2) hc (by omega) hs0
  generalize (visible x seen p 1).getD (jC m 1 (visible x seen p 1).length) default = entry at hE1 ⊢
  generalize (visible x seen p 2).getD (jC m 1 (visible x seen p 2).length) default = sense at hS1 ⊢
  generalize (visible x seen p 2).getD (jC m 2 (visible x seen p 2).length) default = other at hS2 ⊢
  have rest : ∀ {n : Int},AllT (yd p sense other n m) := h.with' (small_T hS1.1 hS2.1)
  generalize qE m 0 24 = n
  by_cases c1 : n = 6
  ·rw [if_pos c1]; exact vg h hc.oks (by omega) hE1.1
  rw [if_neg c1]
  by_cases c2 : n = 7
  ·rw [if_pos c2]; exact vg h hc.oks (by omega) hS1.1
  rw [if_neg c2]
  by_cases c3 : n = 8 ∨ n = 9
  ·rw [if_pos c3]; exact WR h hc (by omega) hS1.1
  rw [if_neg c3]
  by_cases c4 : n = 10
  ·rw [if_pos c4]; exact YZ h hc.oks hl hE1.1 hS1.1 hS1.2
  rw [if_neg c4]
  by_cases c5 : n = 11
  ·rw [if_pos c5]
   by_cases d1 : other = sense
   ·rw [if_pos d1]; exact rest
   ·rw [if_neg d1]; exact h.with' (t_17 hS1.1 hS2.1 (fun e=>d1 e.symm))
  rw [if_neg c5]
  by_cases c6 : n = 12
  ·rw [if_pos c6]
   by_cases d1 : (splits x seen p).length = 0
   ·rw [if_pos d1]; exact rest
   ·rw [if_neg d1]
    obtain ⟨w1,w2⟩ := spl_ok hc h (kN (d := default) (i := jC m 3 (splits x seen p).length) (w9 (by omega)))
    generalize (splits x seen p).getD (jC m 3 (splits x seen p).length) default = o at w1 w2 ⊢
    have hol := w1.ok w2
    obtain ⟨v1,v2,v3,v4,v5⟩ := w1.v
    have hon : jq o.on := v1.2.1 (by rw [w2]; decide)
    have hids := (v2.2.2.1 (by rw [w2]; decide)).1
    exact h.with' (t_18 hS1.1 hon (hids _ (kN (w9 (by omega)))).1)
  rw [if_neg c6]
  by_cases c7 : n = 13
  ·rw [if_pos c7]
   by_cases d1 : qE m 2 2 = 0
   ·rw [if_pos d1]; exact h.with' (t_5 hE1.1 (h8 _))
   ·rw [if_neg d1]; exact h.with' (t_6 hE1.1 (oC (by decide) (w9 (n := 2) (by omega))) (Nat.le_trans (wj (c := 1) (by decide)) (by omega)))
  rw [if_neg c7]
  by_cases c8 : n = 14
  ·rw [if_pos c8]
   by_cases d1 : (visible x seen p 3).length = 0
   ·rw [if_pos d1]; exact rest
   ·rw [if_neg d1]; exact h.with' (t_11 (gO hc (by omega) d1).1 (by omega) (by omega) (by omega))
  rw [if_neg c8]
  exact rest
end Go.Proofs.YtoeckfegggongaaGreatDoor
end
section
namespace Go.Proofs.YtoeckfegggongaaGreatDoor
open Go Go.Aw
def NdOk (o b : Int) (l : List Rf) : Prop := ∀ i,i < l.length → 0 ≤ (l.getD i default).o ∧ (l.getD i default).o < b ∧ (l.getD i default).o ≠ o ∧ 1 ≤ (l.getD i default).s ∧ (l.getD i default).s ≤ 16 ∧ (0 < i → (l.getD (i - 1) default).o < (l.getD i default).o)
theorem NdOk.mono {o b b' : Int} {l : List Rf} (h : NdOk o b l) (hb : b ≤ b') : NdOk o b' l := fun i hi=>by
 obtain ⟨h1,h2,h3⟩ := h i hi
 exact ⟨h1,by omega,h3⟩
theorem NdOk.snoc {o : Int} {q : Nat} {s : Int} {l : List Rf} (h : NdOk o q l) (hq : (q : Int) ≠ o) (h1 : 1 ≤ s) (h2 : s ≤ 16) : NdOk o ((q + 1 : Nat) : Int) (l ++ [⟨q,s⟩]) := by
 intro i hi
 rw [List.length_append,List.length_singleton] at hi
 by_cases hl : i < l.length
 ·rw [jU hl]
  obtain ⟨g1,g2,g3,g4,g5,g6⟩ := h i hl
  refine ⟨g1,by omega,g3,g4,g5,fun h0=>?_⟩
  rw [jU (by omega)]
  exact g6 h0
 ·rw [wL (by omega)]
  refine ⟨by simp,by simp; omega,hq,h1,h2,fun h0=>?_⟩
  rw [jU (by omega)]
  exact (h (i - 1) (by omega)).2.1
theorem Qk {x : Gs} {o : Int} : ∀ n : Nat,(0 ≤ kr x o n → (x.l.getD (kr x o n).toNat default).o = o) ∧ ∀ i : Nat,i < n → kr x o n < i → (x.l.getD i default).o ≠ o
 | 0=>⟨fun h=>by simp [kr] at h,fun i hi=>by omega⟩
 | n + 1=>by
  obtain ⟨h1,h2⟩ := Qk (x := x) (o := o) n
  unfold kr
  split
  ·rename_i hc
   refine ⟨fun _=>by simpa using hc,fun i hi hl=>by omega⟩
  ·rename_i hc
   refine ⟨h1,fun i hi hl=>?_⟩
   by_cases e : i = n
   ·rw [e]; exact hc
   ·exact h2 i (by omega) hl
structure QV (q : Pt) : Prop where
 oo : 0 ≤ q.o ∧ q.o ≤ 2
 ss : 1 ≤ q.s
 T : AllT q
 ne : q.ops ≠ []
 nd : NdOk q.o 3 q.needs
 nl : q.needs.length ≤ 3
 sl : q.sl = []
structure GV (x : Gs) : Prop where
 q : ∀ p ∈ x.l,QV p
 u : ∀ i j : Nat,i < j → j < x.l.length → (x.l.getD i default).o = (x.l.getD j default).o → (x.l.getD i default).s < (x.l.getD j default).s
theorem Jv {x : Gs} (hx : GInv x) (hv : GV x) (hn : x.l.length ≤ 15) {o : Int} {m : List Int} : ∀ q : Nat,(qB x o m q).p.o = o ∧ NdOk o q (qB x o m q).p.needs ∧ (qB x o m q).p.s = if o < q ∧ 0 ≤ o ∧ 0 ≤ last x o then (x.l.getD (last x o).toNat default).s + 1 else 1
 | 0=>by
  refine ⟨rfl,fun i hi=>by simp [qB,pt0] at hi,?_⟩
  rw [if_neg (by omega)]
  rfl
 | q + 1=>by
  obtain ⟨h1,h2,h3⟩ := Jv hx hv hn (o := o) (m := m) q
  obtain ⟨r1,r2⟩ := yz (x := x) (q := (q : Int)) x.l.length
  simp only [qB]
  generalize qB x o m q = s at h1 h2 h3 ⊢
  unfold kJ
  dsimp only
  split
  ·rename_i hc
   refine ⟨h1,h2.mono (by omega),?_⟩
   rw [h3]
   by_cases e : (q : Int) = o
   ·subst e
    rw [if_neg (by omega),if_neg (by omega)]
   ·by_cases c : o < (q : Int) ∧ 0 ≤ o ∧ 0 ≤ last x o
    ·rw [if_pos c,if_pos ⟨by omega,c.2⟩]
    ·rw [if_neg c,if_neg (fun d=>c ⟨by omega,d.2⟩)]
  ·rename_i hc
   have hk : 0 ≤ last x q := by omega
   have hkl : (last x q).toNat < x.l.length := by unfold last at *; omega
   have hq := hv.q _ (kN (d := default) hkl)
   have hs := hx.sq _ (kN (d := default) hkl)
   by_cases e : (q : Int) = o
   ·subst e
    rw [if_pos rfl]
    refine ⟨h1,h2.mono (by omega),?_⟩
    rw [if_pos ⟨by omega,by omega,hk⟩]
   ·rw [if_neg e]
    refine ⟨h1,NdOk.snoc h2 e hq.ss (by omega),?_⟩
    dsimp only
    rw [h3]
    by_cases c : o < (q : Int) ∧ 0 ≤ o ∧ 0 ≤ last x o
    ·rw [if_pos c,if_pos ⟨by omega,c.2⟩]
    ·rw [if_neg c,if_neg (fun d=>c ⟨by omega,d.2⟩)]
theorem step_ne {x : Gs} {seen : List Bool} {p : Pt} {m : List Int} : (step x seen p m).ops ≠ [] := by
 have w : ∀ {p : Pt} {o : OpP},(j6 p o).ops ≠ [] := fun {p o}=>by simp [j6]
 have mm : ∀ {p : Pt} {on : Id3} {m : List Int},(meaning p on m).ops ≠ [] := fun {p on m}=>by
  have := o0 (p := p) (on := on) (m := m)
  intro e
  rw [e] at this
  simp at this
 have qq : ∀ {sense : Id3} {m : List Int},(quoted x seen p sense m).ops ≠ [] := fun {sense m}=>by
  unfold quoted
  dsimp only
  split
  ·exact w
  ·exact w
 unfold step
 dsimp only
 by_cases c0 : (visible x seen p 2).length = 0 ∨ qE m 0 24 ≤ 5
 ·rw [if_pos c0]; exact mm
 rw [if_neg c0]
 generalize (visible x seen p 1).getD (jC m 1 (visible x seen p 1).length) default = entry
 generalize (visible x seen p 2).getD (jC m 1 (visible x seen p 2).length) default = sense
 generalize (visible x seen p 2).getD (jC m 2 (visible x seen p 2).length) default = other
 generalize qE m 0 24 = n
 by_cases c1 : n = 6
 ·rw [if_pos c1]; exact mm
 rw [if_neg c1]
 by_cases c2 : n = 7
 ·rw [if_pos c2]; exact mm
 rw [if_neg c2]
 by_cases c3 : n = 8 ∨ n = 9
 ·rw [if_pos c3]; exact qq
 rw [if_neg c3]
 by_cases c4 : n = 10
 ·rw [if_pos c4]; exact w
 rw [if_neg c4]
 by_cases c5 : n = 11
 ·rw [if_pos c5]
  by_cases d1 : other = sense
  ·rw [if_pos d1]; exact w
  ·rw [if_neg d1]; exact w
 rw [if_neg c5]
 by_cases c6 : n = 12
 ·rw [if_pos c6]
  by_cases d1 : (splits x seen p).length = 0
  ·rw [if_pos d1]; exact w
  ·rw [if_neg d1]; exact w
 rw [if_neg c6]
 by_cases c7 : n = 13
 ·rw [if_pos c7]
  by_cases d1 : qE m 2 2 = 0
  ·rw [if_pos d1]; exact w
  ·rw [if_neg d1]; exact w
 rw [if_neg c7]
 by_cases c8 : n = 14
 ·rw [if_pos c8]
  by_cases d1 : (visible x seen p 3).length = 0
  ·rw [if_pos d1]; exact w
  ·rw [if_neg d1]; exact w
 rw [if_neg c8]
 exact w
theorem Ys {x : Gs} {seen : List Bool} {p : Pt} {m : List Int} (hp : p.ops = []) (hv : VOk x seen p) (hc : PC x p) : ∀ i : Nat,i ≤ 2 → AllT (jg x seen p m i)
 | 0,_=>fun o ho=>by
  unfold jg at ho
  rw [hp] at ho
  simp at ho
 | i + 1,hi=>by
  obtain ⟨more,h1,h2⟩ := wB (m := m) hp hv i
  have h3 := Ys hp hv hc i (by omega) (m := m)
  have e := h1.eq
  have hl := h1.len
  unfold jg
  have hlen : (jg x seen p m i).ops.length ≤ 7 := by
   rw [e]
   simp [hp]
   omega
  have hc' : PC x (jg x seen p m i) := by rw [e]; exact ⟨hc.oks,hc.xs⟩
  exact step_T h3 hc' h2 hlen
theorem GV.next {x : Gs} (hx : GInv x) (hv : GV x) (hn : x.l.length ≤ 14) {offices : Nat} (ho : 1 ≤ offices) (ho' : offices ≤ 3) (m : List Int) : GV (next x offices m) := by
 obtain ⟨a1,a2⟩ := qz (l := m) (i := 0) (most := (offices : Int)) (by omega)
 have a5 := w9 (l := m) (i := 5) (n := 2) (by omega)
 have a5' : jC m 5 2 < 2 := a5
 unfold Go.Proofs.YtoeckfegggongaaGreatDoor.next
 dsimp only
 generalize qE m 0 (offices : Int) = o at a1 a2 ⊢
 obtain ⟨h1,h2,h3,h5,h6⟩ := yU hx (o := o) (m := m) offices
 obtain ⟨g1,g2,g3,g4⟩ := kn (x := x) (o := o) (m := m) offices
 obtain ⟨v1,v2,v3⟩ := Jv hx hv (by omega) (o := o) (m := m) offices
 obtain ⟨l1,l2⟩ := Qk (x := x) (o := o) x.l.length
 obtain ⟨r1,r2⟩ := yz (x := x) (q := o) x.l.length
 generalize qB x o m offices = s at h1 h2 h3 h5 h6 g1 g2 g3 g4 v1 v2 v3 ⊢
 have hsl : ∀ i,i < x.l.length → (x.l.getD i default).o = o → (x.l.getD i default).s < s.p.s := by
  intro i hi he
  have hik : ¬ (kr x o x.l.length < i) := fun hc=>l2 i hi hc he
  have hk : 0 ≤ last x o := by unfold last; omega
  rw [v3,if_pos ⟨by omega,a1,hk⟩]
  unfold last
  by_cases e : i = (kr x o x.l.length).toNat
  ·rw [← e]; omega
  ·have := hv.u i (kr x o x.l.length).toNat (by omega) (by omega) (by rw [he,l1 (by omega)])
   omega
 have hs1 : 1 ≤ s.p.s := by
  rw [v3]
  split
  ·rename_i hc
   have := (hv.q _ (kN (d := default) (i := (last x o).toNat) (by unfold last at *; omega))).ss
   omega
  ·omega
 have hc : PC x { s.p with day := s.p.day + qE m 4 4 } := by
  refine ⟨?_,fun q hq=>?_⟩
  ·unfold yI
   dsimp only
   rw [v1]
   omega
  ·have hQ := hv.q q hq
   have hS := hx.sq q hq
   obtain ⟨i,hi,he⟩ := List.getElem_of_mem hq
   refine ⟨?_,hx.op q hq,hQ.T,?_⟩
   ·unfold yI
    have := hQ.oo
    have := hQ.ss
    omega
   ·rintro ⟨e1,e2⟩
    have := hsl i hi (by rw [jk hi,he,e1]; exact v1)
    rw [jk hi,he] at this
    dsimp only at e2
    omega
 have hbase : VOk x s.seen { s.p with day := s.p.day + qE m 4 4 } := VOk.base hx h1 g2
 have hT := Ys (m := m) (p := { s.p with day := s.p.day + qE m 4 4 }) g2 hbase hc (1 + jC m 5 2) (by omega)
 obtain ⟨more,e1,e2⟩ := wB (x := x) (seen := s.seen) (p := { s.p with day := s.p.day + qE m 4 4 }) (m := m) g2 hbase (1 + jC m 5 2)
 have hne : (jg x s.seen { s.p with day := s.p.day + qE m 4 4 } m (1 + jC m 5 2)).ops ≠ [] := by
  rw [Nat.add_comm]
  exact step_ne
 have e3 := e1.eq
 generalize jg x s.seen { s.p with day := s.p.day + qE m 4 4 } m (1 + jC m 5 2) = p at hT hne e3 ⊢
 have po : p.o = o := by rw [e3]; exact v1
 have ps : p.s = s.p.s := by rw [e3]
 have hp : QV p := by
  refine ⟨by rw [po]; omega,by rw [ps]; exact hs1,hT,hne,?_,?_,?_⟩
  ·rw [po,e3]; exact v2.mono (by omega)
  ·rw [e3]; show s.p.needs.length ≤ 3; omega
  ·rw [e3]; exact g3
 refine ⟨fun q hq=>?_,fun i j hij hj he=>?_⟩
 ·rcases List.mem_append.1 hq with hq | hq
  ·exact hv.q q hq
  ·rw [List.mem_singleton.1 hq]; exact hp
 ·dsimp only at hj he ⊢
  rw [List.length_append,List.length_singleton] at hj
  by_cases hjl : j < x.l.length
  ·rw [jU hjl,jU (show i < x.l.length by omega)] at he ⊢
   exact hv.u i j hij hjl he
  ·rw [wL (show j = x.l.length by omega),jU (show i < x.l.length by omega)] at he ⊢
   rw [ps]
   exact hsl i (by omega) (by rw [he,po])
theorem GV.nil : GV ⟨[],[]⟩ := ⟨by simp,by simp⟩
theorem Kg {x : Gs} {offices : Nat} {m : List Int} : (next x offices m).l.length = x.l.length + 1 := by simp [Go.Proofs.YtoeckfegggongaaGreatDoor.next]
theorem Uv (l : List Int) {offices : Nat} (ho : 1 ≤ offices) (ho' : offices ≤ 3) : ∀ i : Nat,i ≤ 9 → GInv (ja l offices i) ∧ GV (ja l offices i) ∧ (ja l offices i).l.length = i
 | 0,_=>⟨GInv.nil,GV.nil,rfl⟩
 | i + 1,hi=>by
  obtain ⟨h1,h2,h3⟩ := Uv l ho ho' i (by omega)
  refine ⟨h1.next (by omega) _,GV.next h1 h2 (by omega) ho ho' _,?_⟩
  unfold ja
  rw [Kg,h3]
end Go.Proofs.YtoeckfegggongaaGreatDoor
end
section
namespace Go.Proofs.YtoeckfegggongaaGreatDoor
open Go Go.Aw
theorem vL {n : Int} (h : sml n) : (qy n).length ≤ 4 := by
 have : (digs (mag n)).length ≤ 3 := oD 3 _ (by unfold sml at h; unfold mag; split <;> omega)
 simp only [qy,List.length_cons,List.length_map,List.length_reverse]
 omega
theorem K7 : ∀ {l : List Int},(∀ x ∈ l,sml x) → (l.flatMap qy).length ≤ 4 * l.length
 | [],_=>by simp
 | x :: r,h=>by
  have h1 := vL (h x (.head _))
  have h2 := K7 (l := r) (fun y hy=>h y (.tail _ hy))
  simp only [List.flatMap_cons,List.length_append,List.length_cons]
  omega
theorem oe {l : List Int} (h : ∀ x ∈ l,sml x) (hl : l.length ≤ 1000) : (qN l).length ≤ 4 + 4 * l.length := by
 have h1 := K7 h
 have h2 := vL (n := (l.length : Int)) (by unfold sml; omega)
 simp only [qN,List.length_append]
 omega
theorem op_sml {o : OpP} (h : TOp o) : (qX o).length ≤ 200 := by
 obtain ⟨h1,h2,h3,h4,h5⟩ := wF h.v
 have h6 := h.tx
 have e1 := oe (l := jE o) h1 (by show (10 : Nat) ≤ 1000; omega)
 have e2 := oe (l := o.ids.flatMap yR) (by
  intro x hx
  obtain ⟨y,hy,hx⟩ := List.mem_flatMap.1 hx
  have := h2 y hy
  simp only [yR,List.mem_cons,List.not_mem_nil,or_false] at hx
  rcases hx with rfl | rfl | rfl
  ·exact this.1
  ·exact this.2.1
  ·exact this.2.2) (by rw [kx]; omega)
 have e3 := vL (n := (o.name.length : Int)) (by unfold sml; omega)
 have e4 := vL (n := (o.text.length : Int)) (by unfold sml; omega)
 have e5 := vL (n := ((2 : Nat) : Int)) (by unfold sml; omega)
 rw [show (jE o).length = 10 from rfl] at e1
 rw [kx] at e2
 simp only [qX,jF,qH,List.length_append,List.flatMap_cons,List.flatMap_nil,List.length_cons,List.length_nil,Nat.zero_add,Nat.reduceAdd] at *
 omega
theorem YT : ∀ {l : List OpP},(∀ o ∈ l,TOp o) → (l.flatMap qX).length ≤ 200 * l.length
 | [],_=>by simp
 | x :: r,h=>by
  have h1 := op_sml (h x (.head _))
  have h2 := YT (l := r) (fun y hy=>h y (.tail _ hy))
  simp only [List.flatMap_cons,List.length_append,List.length_cons]
  omega
structure FV (p : Pt) : Prop where
 v : jK p = 0
 sl : p.sl = []
 fit : Fit p
 ol : p.ops.length ≤ 14
 nl : p.needs.length ≤ 3
 q : QV p
 s : p.s ≤ 16
 dy : 1 ≤ p.day ∧ p.day ≤ 100
theorem fv_of {p : Pt} (h : QV p) (hs : p.s ≤ 16) (hd : 1 ≤ p.day ∧ p.day ≤ 100) (hl : p.ops.length ≤ 14) : FV p := by
 have hnl := h.nl
 have h1 : y8 p := by
  unfold y8
  have := h.oo
  have := h.ss
  omega
 have h2 : wu p := by
  intro i hi
  obtain ⟨g1,g2,g3,g4,g5,g6⟩ := h.nd i hi
  exact ⟨g1,by omega,g3,g4,g5,g6⟩
 have h3 : vR p := fun o ho=>(h.T o ho).v
 have hlen : (ji (bare p)).length ≤ 6800 := by
  have := h.oo
  have := h.ss
  have e1 := oe (l := [p.o,p.s,p.day]) (by
   intro x hx
   simp only [List.mem_cons,List.not_mem_nil,or_false] at hx
   unfold sml
   rcases hx with rfl | rfl | rfl <;> omega) (by simp)
  have e2 := oe (l := qT p.needs) (by
   intro x hx
   obtain ⟨y,hy,hx⟩ := List.mem_flatMap.1 hx
   obtain ⟨i,hi,hy⟩ := List.getElem_of_mem hy
   have hv := h.nd i hi
   rw [jk hi,hy] at hv
   simp only [List.mem_cons,List.not_mem_nil,or_false] at hx
   unfold sml
   rcases hx with rfl | rfl <;> omega) (by rw [jS]; omega)
  have e3 := vL (n := (p.ops.length : Int)) (by unfold sml; omega)
  have e4 := YT h.T
  have e5 := vL (n := ((0 : Nat) : Int)) (by unfold sml; omega)
  rw [jS] at e2
  simp only [ji,bare,qH,List.length_append,List.length_cons,List.length_nil,Nat.zero_add,Nat.reduceAdd] at *
  omega
 refine ⟨?_,h.sl,⟨by omega,by omega,fun o ho=>?_,fun o ho=>?_,fun o ho=>?_,by rw [h.sl]; simp⟩,hl,hnl,h,hs,hd⟩
 ·unfold jK
  rw [if_neg (fun d=>d h1),if_neg (by omega),if_neg h.ne,if_neg (fun d=>d h2),if_neg (fun d=>d h3),if_neg (by omega)]
 ·have := (wF (h.T o ho).v).2.2.1; omega
 ·have := (wF (h.T o ho).v).2.2.2.1; omega
 ·have := (wF (h.T o ho).v).2.2.2.2; omega
theorem gM {l out : List Pt} : ∀ n : Nat,jj l out n < n ∧ -1 ≤ jj l out n
 | 0=>by simp [jj]
 | n + 1=>by
  have := gM (l := l) (out := out) n
  unfold jj
  split <;> omega
theorem zw {l : List Pt} : ∀ n : Nat,∀ p ∈ (j5 l n).1,p ∈ l
 | 0=>by simp [j5]
 | n + 1=>by
  have h := zw (l := l) n
  unfold j5
  dsimp only
  split
  ·split
   ·exact h
   ·rename_i hc
    intro p hp
    rcases List.mem_append.1 hp with hp | hp
    ·exact h p hp
    ·rw [List.mem_singleton.1 hp]
     have := gM (l := l) (out := (j5 l n).1) l.length
     exact kN (by omega)
  ·exact h
theorem Qt {l out : List Pt} {i : Nat} (hr : ready out (l.getD i default) = true) (hk : known out (l.getD i default).o (l.getD i default).s = false) : ∀ n : Nat,i < n → 0 ≤ jj l out n
 | 0,h=>by omega
 | n + 1,h=>by
  unfold jj
  split
  ·omega
  ·rename_i hc
   by_cases e : i = n
   ·subst e
    refine Classical.byContradiction fun hneg=>hc ?_
    unfold better
    dsimp only
    rw [hr,hk]
    simp
    left
    left
    omega
   ·exact Qt hr hk n (by omega)
theorem QR {l : List Pt} {n : Nat} (h : (j5 l n).1 ≠ []) : (j5 l (n + 1)).1 ≠ [] := by
 unfold j5
 dsimp only
 split
 ·split
  ·exact h
  ·simp
 ·exact h
theorem Y9 {l : List Pt} (h0 : 0 < l.length) (h1 : (l.getD 0 default).needs = []) (h2 : (l.getD 0 default).s = 1) : ordered l ≠ [] := by
 have hb : 0 ≤ jj l [] l.length := Qt (i := 0) (by unfold ready; rw [h1,h2]; simp) (by simp [known]) _ h0
 have base : (j5 l 1).1 ≠ [] := by
  have hb' : ¬ (jj l (j5 l 0).1 l.length < 0) := by
   show ¬ (jj l [] l.length < 0)
   omega
  unfold j5
  dsimp only
  rw [if_pos (show (j5 l 0).2 = true from rfl),if_neg hb']
  simp
 have go : ∀ n : Nat,(j5 l (n + 1)).1 ≠ [] := by
  intro n
  induction n with
  | zero=>exact base
  | succ n ih=>exact QR ih
 unfold ordered
 obtain ⟨n,hn⟩ : ∃ n,l.length = n + 1 := ⟨l.length - 1,by omega⟩
 rw [hn]
 exact go n
theorem gn {o : Int} {m : List Int} : ∀ q : Nat,(qB ⟨[],[]⟩ o m q).p = { pt0 with o := o,s := 1,day := 1 }
 | 0=>rfl
 | q + 1=>by
  have h := gn (o := o) (m := m) q
  simp only [qB]
  unfold kJ
  dsimp only
  rw [if_pos (.inl (by simp [last,kr]))]
  exact h
theorem JU (l : List Int) {offices : Nat} : ∀ i : Nat,0 < i → ((ja l offices i).l.getD 0 default).needs = [] ∧ ((ja l offices i).l.getD 0 default).s = 1
 | 0,h=>by omega
 | 1,_=>by
  have hg := GInv.nil
  have e : (ja l offices 1).l = (next ⟨[],[]⟩ offices (l.drop (2 + 32 * 0))).l := rfl
  rw [e]
  unfold Go.Proofs.YtoeckfegggongaaGreatDoor.next
  dsimp only
  have hr := gn (o := qE (l.drop (2 + 32 * 0)) 0 offices) (m := l.drop (2 + 32 * 0)) offices
  obtain ⟨_,g2,_,_⟩ := kn (x := ⟨[],[]⟩) (o := qE (l.drop (2 + 32 * 0)) 0 offices) (m := l.drop (2 + 32 * 0)) offices
  obtain ⟨h1,_⟩ := yU hg (o := qE (l.drop (2 + 32 * 0)) 0 offices) (m := l.drop (2 + 32 * 0)) offices
  generalize qB ⟨[],[]⟩ (qE (l.drop (2 + 32 * 0)) 0 offices) (l.drop (2 + 32 * 0)) offices = s at hr g2 h1 ⊢
  obtain ⟨more,e1,_⟩ := wB (x := ⟨[],[]⟩) (seen := s.seen) (p := { s.p with day := s.p.day + qE (l.drop (2 + 32 * 0)) 4 4 }) (m := l.drop (2 + 32 * 0)) g2 (VOk.base hg h1 g2) (1 + jC (l.drop (2 + 32 * 0)) 5 2)
  have e3 := e1.eq
  generalize jg ⟨[],[]⟩ s.seen { s.p with day := s.p.day + qE (l.drop (2 + 32 * 0)) 4 4 } (l.drop (2 + 32 * 0)) (1 + jC (l.drop (2 + 32 * 0)) 5 2) = p at e3 ⊢
  simp only [List.nil_append,List.getD_cons_zero]
  rw [e3]
  dsimp only
  rw [hr]
  exact ⟨rfl,rfl⟩
 | i + 2,_=>by
  have h := JU l (offices := offices) (i + 1) (by omega)
  have e : (ja l offices (i + 2)).l = (next (ja l offices (i + 1)) offices (l.drop (2 + 32 * (i + 1)))).l := rfl
  rw [e]
  unfold Go.Proofs.YtoeckfegggongaaGreatDoor.next
  dsimp only
  rw [jU ?_]
  ·exact h
  ·have e2 : (ja l offices (i + 1)).l = (next (ja l offices i) offices (l.drop (2 + 32 * i))).l := rfl
   rw [e2,Kg]
   omega
theorem Y8 (l : List Int) : (∀ p ∈ patches l,FV p) ∧ 0 < (patches l).length ∧ (patches l).length ≤ 9 := by
 have a1 := w9 (l := l) (i := 1) (n := 2) (by omega)
 have a1' : jC l 1 2 < 2 := a1
 have a0 := w9 (l := l) (i := 0) (n := 8) (by omega)
 have a0' : jC l 0 8 < 8 := a0
 obtain ⟨h1,h2,h3⟩ := Uv l (offices := 2 + jC l 1 2) (by omega) (by omega) (2 + jC l 0 8) (by omega)
 obtain ⟨f1,f2⟩ := JU l (offices := 2 + jC l 1 2) (2 + jC l 0 8) (by omega)
 unfold patches
 generalize ja l (2 + jC l 1 2) (2 + jC l 0 8) = x at h1 h2 h3 f1 f2 ⊢
 refine ⟨fun p hp=>?_,List.length_pos_iff.2 (Y9 (by omega) f1 f2),?_⟩
 ·have hm := zw _ p hp
  have hs := h1.sq p hm
  have hd := h1.dy p hm
  exact fv_of (h2.q p hm) (by omega) (by omega) (h1.op p hm)
 ·have : ∀ n : Nat,(j5 x.l n).1.length ≤ n := by
   intro n
   induction n with
   | zero=>simp [j5]
   | succ n ih =>
    unfold j5
    dsimp only
    split
    ·split
     ·dsimp only; omega
     ·rw [List.length_append,List.length_singleton]; omega
    ·omega
  have := this x.l.length
  unfold ordered
  omega
end Go.Proofs.YtoeckfegggongaaGreatDoor
end
section
namespace Go.Proofs.YtoeckfegggongaaGreatDoor
open Go Go.Aw
def opL : OpP := ⟨1,v9,v9,[],0,[110],[99,97,116],0,0⟩
def ptL : Pt := ⟨1,1,3,[],[opL],[]⟩
theorem enc_0 : qy 0 = [128] := by
 unfold qy mag
 simp [k9]
theorem Yo {n : Nat} (h0 : 0 < n) (h : n < 256) : qy (n : Int) = [129,UInt8.ofNat n] := by
 unfold qy mag
 have e : digs (n : Int).toNat = [UInt8.ofNat n] := by
  rw [Int.toNat_natCast,yh (by omega),Nat.mod_eq_of_lt h,Nat.div_eq_of_lt h,k9]
 rw [if_neg (by omega),if_neg (by omega),e]
 have : decide ((n : Int) < 0) = false := decide_eq_false (by omega)
 rw [this]
 rfl
theorem enc_1 : qy 1 = [129,1] := Yo (n := 1) (by omega) (by omega)
theorem enc_2 : qy 2 = [129,2] := Yo (n := 2) (by omega) (by omega)
theorem enc_3 : qy 3 = [129,3] := Yo (n := 3) (by omega) (by omega)
theorem enc_10 : qy 10 = [129,10] := Yo (n := 10) (by omega) (by omega)
theorem encL : ji ptL = [129,3,129,1,129,1,129,3,128,129,1,129,10,129,1,128,128,128,128,128,128,128,128,128,128,129,2,129,1,110,129,3,99,97,116,128] := by
 simp [ji,ptL,opL,qN,qX,jF,qH,jE,qT,yR,v9,enc_0,enc_1,enc_2,enc_3,enc_10]
theorem WV : jK ptL = 0 := by
 unfold jK
 have h1 : y8 ptL := by decide
 have h2 : wu ptL := fun i hi=>absurd hi (by simp [ptL])
 have h3 : vR ptL := fun o ho=>by
  have : o = opL := by simpa [ptL] using ho
  subst this
  decide
 have h4 : bare ptL = ptL := rfl
 rw [if_neg (fun d=>d h1),if_neg (by simp [ptL]),if_neg (by simp [ptL]),if_neg (fun d=>d h2),if_neg (fun d=>d h3),h4,encL,if_neg (by decide)]
theorem valid0 : jK pt0 = 5 := by
 unfold jK
 rw [if_pos (by decide)]
theorem goodL : Good ptL := by
 unfold Good v7
 rw [WV,if_neg (by simp),if_neg (by simp [ptL])]
theorem fit0 : Fit pt0 := ⟨by simp [pt0],by simp [pt0],by simp [pt0],by simp [pt0],by simp [pt0],by simp [pt0]⟩
theorem fitL : Fit ptL := ⟨by simp [ptL],by simp [ptL],by simp [ptL,opL],by simp [ptL,opL],by simp [ptL,opL],by simp [ptL]⟩
theorem f_lives {H : AH} {R : D → AH → Prop} (h : R (.bool true) H) : ACall Tryz.prog 9 [] H R := by
 refine b9 fun hf=>?_
 have hbig := qt
 have hop : qM [opL] = [[D.int .i64 1,.int .i64 0,.int .i64 0,.int .i64 0,.int .i64 0,.int .i64 0,.int .i64 0,.slc [],.int .i64 0,.str [110],.str [99,97,116],.int .i64 0,.int .i64 0]] := rfl
 have hd : ptL.d = [D.int .i64 1,.int .i64 1,.int .i64 3,.slc [],.slc (qM [opL]),.str []] := rfl
 obtain ⟨eb,heb⟩ : ∃ eb,ji ptL = eb := ⟨_,rfl⟩
 have hel : eb.length = 36 := by rw [← heb,encL]; rfl
 have het : ((eb.map qr).take 10).drop 0 = ([129,3,129,1,129,1,129,3,128,129] : List UInt8).map qr := by rw [← heb,encL]; rfl
 simp +contextual only [x9,qh,↓U9,↓XP,qm,XW1,qa,qb,qc,qd,qe,qf,reduceCtorEq]
 intro b1 h1
 simp only [← hop]
 refine oW (p := ptL) fitL ?_
 have hg : v7 ptL = 0 := goodL
 rw [hg,if_pos rfl,heb]
 simp +contextual only [x9,qh,↓U9,↓XP,qm,XW1,qa,qb,qc,qd,qe,qf,reduceCtorEq]
 refine fun _ _=>JH (b := eb) (by omega) ?_
 rw [← heb,zx goodL,heb]
 simp +contextual only [x9,qh,hd,↓U9,↓XP,qm,XW1,qa,qb,qc,qd,qe,qf,reduceCtorEq]
 intro _ b4 h4
 have hb1 : kI Tryz.prog 67 1 = some (1,false,1) := by kernel_rfl
 simp +contextual only [x9,qh,hd,hb1,↓U9,↓XP,qm,XW1,qa,qb,qc,qd,qe,qf,reduceCtorEq]
 refine Vm ?_
 simp +contextual only [x9,qh,zR,↓U9,↓XP,qm,XW1,qa,qb,qc,qd,qe,qf,reduceCtorEq]
 intro _ b6 h6
 have n14 : b1 ≠ b4 := h4.1
 have n46 : b4 ≠ b6 := h6.1
 have n16 : b1 ≠ b6 := h6.2.1
 simp +contextual only [x9,qh,qg n14,qg n16,↓U9,↓XP,qm,XW1,qa,qb,qc,qd,qe,qf,reduceCtorEq]
 refine KM (p := ptL) (o := opL) rfl (by decide) (by decide) ?_
 have hid : qV [⟨ptL.o,ptL.s,0⟩] = [[D.int .i64 1,.int .i64 1,.int .i64 0]] := rfl
 rw [hid]
 simp +contextual only [x9,qh,qg n14,qg n16,qg n46,hel,show (((36 : Nat) : Int) = 36) = True from eq_true rfl,↓U9,↓XP,qm,XW1,qa,qb,qc,qd,qe,qf,reduceCtorEq]
 refine fun _ _=>VR (p := ptL) ?_
 simp +contextual only [x9,qh,qg n14,qg n16,qg n46,hel,show (((1 : Nat) : Int) = 1) = True from eq_true rfl,show ((0 : Int) < ((1 : Nat) : Int)) = True from eq_true (by omega),show ((10 : Int) ≤ ((36 : Nat) : Int)) = True from eq_true (by omega),Int.reduceToNat,Int.reduceLE,Int.reduceLT,het,↓U9,↓XP,qm,XW1,qa,qb,qc,qd,qe,qf,reduceCtorEq]
 refine fun _=>⟨qC,vc (a := [129,3,129,1,129,1,129,3,128,129]) (b := [129,3,129,1,129,1,129,3,128,129]) ?_⟩
 rw [decide_eq_true rfl]
 simp +contextual only [x9,qh,qg n14,qg n16,qg n46,↓U9,↓XP,qm,XW1,qa,qb,qc,qd,qe,qf,reduceCtorEq]
 refine gW (p := ptL) fitL ?_
 rw [WV]
 simp +contextual only [x9,qh,qg n14,qg n16,qg n46,↓U9,↓XP,qm,XW1,qa,qb,qc,qd,qe,qf,reduceCtorEq]
 intro _
 refine gW (p := pt0) fit0 ?_
 rw [valid0]
 simp +contextual only [x9,qh,↓U9,↓XP,qm,XW1,qa,qb,qc,qd,qe,qf,reduceCtorEq]
 trace_state
 exact fun _=>h
end Go.Proofs.YtoeckfegggongaaGreatDoor
end
section
namespace Go.Proofs.YtoeckfegggongaaGreatDoor
open Go Go.Aw
theorem vC {p : Pt} {ok : Bool} : ∀ k,(upto (jW p ok) k).length ≤ k := fun k=>by
 have := vV (f := jW p ok) (c := 1) (fun k=>by unfold jW; split <;> simp) k
 omega
theorem QE {x : Gs} {seen : List Bool} (ho : ∀ q ∈ x.l,q.ops.length ≤ 1000) (i : Nat) : (upto (fun i=>kw (x.l.getD i default) (seen.getD i false)) i).length ≤ 1000 * i := by
 have := vV (f := fun i=>kw (x.l.getD i default) (seen.getD i false)) (c := 1000) (fun k=>by
  have h1 := vC (p := x.l.getD k default) (ok := seen.getD k false) (x.l.getD k default).ops.length
  have h2 : (x.l.getD k default).ops.length ≤ 1000 := vk (p := fun q : Pt=>q.ops.length ≤ 1000) ho (by decide) k
  unfold kw
  omega) i
 omega
theorem Vg {x : Gs} {seen : List Bool} {p : Pt} {H : AH} {R : D → AH → Prop} (hs : x.l.length ≤ seen.length) (hb : x.l.length ≤ 100) (ho : ∀ q ∈ x.l,q.ops.length ≤ 1000) (hp : p.ops.length ≤ 1000) (h : R (.own (qM (splits x seen p))) H) : ACall Tryz.prog 88 [.agg x.d,.slc (jt seen),.agg p.d] H R := by
 refine b88 fun hf=>?_
 have hbig := qt
 have hx : x.d = [.slc (j8 x.l),.slc (je x.past)] := rfl
 have hd := @dE p
 simp +contextual only [x88,hx,hd,qj,qo,↓Vv,↓XP,qm,XW1,qa,qb,qc,qd,qe,qf,reduceCtorEq]
 rintro b1 h1 b2 ⟨n12,h2⟩
 simp only [← hx,← hd]
 refine XW.loopK hm (fun F H'=>∃ (i : Nat),i ≤ x.l.length ∧ Fr 81 [(1,.slc (jt seen)),(3,.ptr b1 0),(5,.ptr b2 0),(7,.own (qM (upto (fun i=>kw (x.l.getD i default) (seen.getD i false)) i))),(8,.int .i64 i)] F ∧ ((b2,AO.cells p.d) :: (b1,AO.cells x.d) :: H) = H') (fun F H=>match F.getD 8 .any with | .int _ n'=>x.l.length - n'.toNat | _=>0) ⟨0,by omega,⟨rfl,rfl,rfl,rfl,rfl,rfl,trivial⟩,rfl⟩ ?_
 rintro _ _ ⟨i,hi,hF,rfl⟩ K hN hE hR
 obtain ⟨z,rfl⟩ : ∃ z : Nat → D,_ = z 0 :: .slc (jt seen) :: z 2 :: .ptr b1 0 :: z 4 :: .ptr b2 0 :: z 6 :: .own (qM (upto (fun i=>kw (x.l.getD i default) (seen.getD i false)) i)) :: .int .i64 i :: zz z 9 72 [] := hF.lit
 try dsimp only [zz,qb] at *
 clear hF
 have hv := QE (x := x) (seen := seen) ho i
 by_cases hlt : i < x.l.length
 ·have nx : ∀ F',Fr 81 [(1,.slc (jt seen)),(3,.ptr b1 0),(5,.ptr b2 0),(7,.own (qM (upto (fun i=>kw (x.l.getD i default) (seen.getD i false)) (i + 1)))),(8,.int .i64 ((i + 1 : Nat) : Int))] F' → K .normal F' ((b2,AO.cells p.d) :: (b1,AO.cells x.d) :: H) := fun F' hF'=>hN _ _ ⟨i + 1,hlt,hF',(j9 rfl).symm⟩ (by
   rw [List.getD_eq_getElem?_getD,hF'.2.2.2.2.2.1]
   simp only [List.getD_cons_succ,List.getD_cons_zero,Option.getD_some]
   omega)
  clear hN hE hR
  have q1 := wW hlt
  have q2 := oV (l := seen) (i := i) (by omega)
  have hqo : (x.l.getD i default).ops.length ≤ 1000 := vk (p := fun q : Pt=>q.ops.length ≤ 1000) ho (by decide) i
  have hun : upto (fun i=>kw (x.l.getD i default) (seen.getD i false)) (i + 1) = upto (fun i=>kw (x.l.getD i default) (seen.getD i false)) i ++ kw (x.l.getD i default) (seen.getD i false) := rfl
  rw [hun] at nx
  generalize upto (fun i=>kw (x.l.getD i default) (seen.getD i false)) i = ac at nx hv
  generalize x.l.getD i default = q at q1 hqo nx
  generalize seen.getD i false = ok at q2 nx
  have hq : q.d = [.int .i64 q.o,.int .i64 q.s,.int .i64 q.day,.slc (qO q.needs),.slc (qM q.ops),.str q.sl] := rfl
  simp +contextual only [hx,hd,qj,qo,qg,qi,n12,qp (show i ≤ big by omega),q1,q2,hq,↓Vv,↓XP,qm,XW1,qa,qb,qc,qd,qe,qf,reduceCtorEq]
  refine fun _=>⟨fun _=>?_,fun hge=>absurd (by omega) hge⟩
  simp only [← hx,← hd]
  refine XW.loopK hm (fun F H'=>∃ (k : Nat),k ≤ q.ops.length ∧ Fr 81 [(1,.slc (jt seen)),(3,.ptr b1 0),(5,.ptr b2 0),(7,.own (qM (ac ++ upto (jW q ok) k))),(8,.int .i64 i),(9,.int .i64 k)] F ∧ ((b2,AO.cells p.d) :: (b1,AO.cells x.d) :: H) = H') (fun F H=>match F.getD 9 .any with | .int _ n'=>q.ops.length - n'.toNat | _=>0) ⟨0,by omega,by rw [upto,List.append_nil]; exact ⟨rfl,rfl,rfl,rfl,rfl,rfl,rfl,trivial⟩,rfl⟩ ?_
  rintro _ _ ⟨k,hk,hF,rfl⟩ K2 hN hE hR
  obtain ⟨z2,rfl⟩ : ∃ z2 : Nat → D,_ = (let z := z2; [z 0,.slc (jt seen),z 2,.ptr b1 0,z 4,.ptr b2 0,z 6,.own (qM (ac ++ upto (jW q ok) k)),.int .i64 i,.int .i64 k,z 10,z 11,z 12,z 13,z 14,z 15,z 16,z 17,z 18,z 19,z 20,z 21,z 22,z 23,z 24,z 25,z 26,z 27,z 28,z 29,z 30,z 31,z 32,z 33,z 34,z 35,z 36,z 37,z 38,z 39,z 40,z 41,z 42,z 43,z 44,z 45,z 46,z 47,z 48,z 49,z 50,z 51,z 52,z 53,z 54,z 55,z 56,z 57,z 58,z 59,z 60,z 61,z 62,z 63,z 64,z 65,z 66,z 67,z 68,z 69,z 70,z 71,z 72,z 73,z 74,z 75,z 76,z 77,z 78,z 79,z 80]) := hF.lit
  clear hF
  have hv3 := vC (p := q) (ok := ok) k
  by_cases hlk : k < q.ops.length
  ·have nx3 : ∀ F',Fr 81 [(1,.slc (jt seen)),(3,.ptr b1 0),(5,.ptr b2 0),(7,.own (qM (ac ++ upto (jW q ok) (k + 1)))),(8,.int .i64 i),(9,.int .i64 ((k + 1 : Nat) : Int))] F' → K2 .normal F' ((b2,AO.cells p.d) :: (b1,AO.cells x.d) :: H) := fun F' hF'=>hN _ _ ⟨k + 1,hlk,hF',(j9 rfl).symm⟩ (by
    rw [List.getD_eq_getElem?_getD,hF'.2.2.2.2.2.2.1]
    simp only [List.getD_cons_succ,List.getD_cons_zero,Option.getD_some]
    omega)
   clear hN hE hR nx
   have q3 := kB hlk
   have hu3 : upto (jW q ok) (k + 1) = upto (jW q ok) k ++ jW q ok k := rfl
   rw [hu3] at nx3
   have ho3 : jW q ok k = if ok = true ∧ (q.ops.getD k default).k = 16 then [q.ops.getD k default] else [] := rfl
   rw [ho3] at nx3
   generalize q.ops.getD k default = o at q3 nx3
   have hod : o.d = [.int .i64 o.k,.int .i64 o.on.o,.int .i64 o.on.s,.int .i64 o.on.i,.int .i64 o.to.o,.int .i64 o.to.s,.int .i64 o.to.i,.slc (qV o.ids),.int .i64 o.n,.str o.name,.str o.text,.int .i64 o.a,.int .i64 o.b] := rfl
   generalize upto (jW q ok) k = ac3 at nx3 hv3
   have hac : (ac ++ ac3).length ≤ 200000 := by rw [List.length_append]; omega
   rcases ok with _ | _
   ·simp +contextual only [hx,hd,qj,qo,qg,qi,n12,qp (show k ≤ big by omega),q1,q2,hq,q3,jw,↓Vv,↓XP,qm,XW1,qa,qb,qc,qd,qe,qf,reduceCtorEq]
    refine fun _=>⟨by omega,fun _=>⟨fun _=>⟨by omega,?_⟩,fun hge=>absurd (by omega) hge⟩⟩
    rw [if_neg (by simp),List.append_nil] at nx3
    exact nx3 _ ⟨rfl,rfl,rfl,rfl,rfl,rfl,rfl,trivial⟩
   ·simp +contextual only [hx,hd,qj,qo,qg,qi,n12,qp (show k ≤ big by omega),q1,q2,hq,q3,hod,jw,↓Vv,↓XP,qm,XW1,qa,qb,qc,qd,qe,qf,reduceCtorEq]
    refine fun _=>⟨by omega,fun _=>⟨fun _=>⟨by omega,by omega,fun _=>⟨fun hk'=>⟨by omega,kU,by omega,?_⟩,fun hk'=>?_⟩⟩,fun hge=>absurd (by omega) hge⟩⟩
    ·rw [if_pos ⟨rfl,hk'⟩,← List.append_assoc,← Jp,show qM [o] = [o.d] from rfl,hod,hk'] at nx3
     exact nx3 _ ⟨rfl,rfl,rfl,rfl,rfl,rfl,rfl,trivial⟩
    ·rw [if_neg (fun hc=>hk' hc.2),List.append_nil] at nx3
     exact nx3 _ ⟨rfl,rfl,rfl,rfl,rfl,rfl,rfl,trivial⟩
  ·have hik : k = q.ops.length := by omega
   subst hik
   simp +contextual only [hx,hd,qj,qo,qg,qi,n12,q1,q2,hq,↓Vv,↓XP,qm,XW1,qa,qb,qc,qd,qe,qf,reduceCtorEq]
   refine fun _=>⟨by omega,fun _=>hE _ _ _ ?_⟩
   clear hN hE hR
   simp +contextual only [hx,hd,qj,qo,qg,qi,n12,qp (show i ≤ big by omega),↓Vv,↓XP,qm,XW1,qa,qb,qc,qd,qe,qf,reduceCtorEq]
   exact nx _ ⟨rfl,rfl,rfl,rfl,rfl,rfl,trivial⟩
 ·have hik : i = x.l.length := by omega
  subst hik
  clear hN
  simp +contextual only [hx,hd,qj,qo,qg,qi,n12,↓Vv,↓XP,qm,XW1,qa,qb,qc,qd,qe,qf,reduceCtorEq]
  refine fun _=>hE _ _ _ ?_
  clear hE hR
  have hv0 : splits x seen p = upto (fun i=>kw (x.l.getD i default) (seen.getD i false)) x.l.length ++ kw p true := rfl
  rw [hv0] at h
  generalize upto (fun i=>kw (x.l.getD i default) (seen.getD i false)) x.l.length = ac at h hv ⊢
  simp +contextual only [hx,hd,qj,qo,qg,qi,n12,↓Vv,↓XP,qm,XW1,qa,qb,qc,qd,qe,qf,reduceCtorEq]
  simp only [← hx,← hd]
  refine XW.loopK hm (fun F H'=>∃ (k : Nat),k ≤ p.ops.length ∧ Fr 81 [(5,.ptr b2 0),(7,.own (qM (ac ++ upto (jW p true) k))),(10,.int .i64 k)] F ∧ ((b2,AO.cells p.d) :: (b1,AO.cells x.d) :: H) = H') (fun F H=>match F.getD 10 .any with | .int _ n'=>p.ops.length - n'.toNat | _=>0) ⟨0,by omega,by rw [upto,List.append_nil]; exact ⟨rfl,rfl,rfl,rfl,trivial⟩,rfl⟩ ?_
  rintro _ _ ⟨k,hk,hF,rfl⟩ K hN hE hR
  obtain ⟨z,rfl⟩ : ∃ z : Nat → D,_ = zz z 0 5 (.ptr b2 0 :: z 6 :: .own (qM (ac ++ upto (jW p true) k)) :: zz z 8 2 (.int .i64 k :: zz z 11 70 [])) := hF.lit
  try dsimp only [zz,qb] at *
  clear hF
  have hv3 := vC (p := p) (ok := true) k
  by_cases hlk : k < p.ops.length
  ·have nx3 : ∀ F',Fr 81 [(5,.ptr b2 0),(7,.own (qM (ac ++ upto (jW p true) (k + 1)))),(10,.int .i64 ((k + 1 : Nat) : Int))] F' → K .normal F' ((b2,AO.cells p.d) :: (b1,AO.cells x.d) :: H) := fun F' hF'=>hN _ _ ⟨k + 1,hlk,hF',(j9 rfl).symm⟩ (by
    rw [List.getD_eq_getElem?_getD,hF'.2.2.2.1]
    simp only [List.getD_cons_succ,List.getD_cons_zero,Option.getD_some]
    omega)
   clear hN hE hR
   have q3 := kB hlk
   have hu3 : upto (jW p true) (k + 1) = upto (jW p true) k ++ jW p true k := rfl
   rw [hu3] at nx3
   have ho3 : jW p true k = if true = true ∧ (p.ops.getD k default).k = 16 then [p.ops.getD k default] else [] := rfl
   rw [ho3] at nx3
   generalize p.ops.getD k default = o at q3 nx3
   have hod : o.d = [.int .i64 o.k,.int .i64 o.on.o,.int .i64 o.on.s,.int .i64 o.on.i,.int .i64 o.to.o,.int .i64 o.to.s,.int .i64 o.to.i,.slc (qV o.ids),.int .i64 o.n,.str o.name,.str o.text,.int .i64 o.a,.int .i64 o.b] := rfl
   generalize upto (jW p true) k = ac3 at nx3 hv3
   have hac : (ac ++ ac3).length ≤ 200000 := by rw [List.length_append]; omega
   simp +contextual only [hx,hd,qj,qo,qg,qi,n12,qp (show k ≤ big by omega),q3,hod,↓Vv,↓XP,qm,XW1,qa,qb,qc,qd,qe,qf,reduceCtorEq]
   refine fun _=>⟨fun _ _=>⟨fun hk'=>⟨kU,by omega,?_⟩,fun hk'=>?_⟩,fun hge=>absurd (by omega) hge⟩
   ·rw [if_pos ⟨rfl,hk'⟩,← List.append_assoc,← Jp,show qM [o] = [o.d] from rfl,hod,hk'] at nx3
    exact nx3 _ ⟨rfl,rfl,rfl,rfl,trivial⟩
   ·rw [if_neg (fun hc=>hk' hc.2),List.append_nil] at nx3
    exact nx3 _ ⟨rfl,rfl,rfl,rfl,trivial⟩
  ·have hik : k = p.ops.length := by omega
   subst hik
   simp +contextual only [hx,hd,qj,qo,qg,qi,n12,↓Vv,↓XP,qm,XW1,qa,qb,qc,qd,qe,qf,reduceCtorEq]
   refine fun _=>hE _ _ _ ?_
   clear hN hE hR
   simp +contextual only [hx,hd,qj,qo,qg,qi,n12,↓Vv,↓XP,qm,XW1,qa,qb,qc,qd,qe,qf,reduceCtorEq]
   exact h
end Go.Proofs.YtoeckfegggongaaGreatDoor
end
section
namespace Go.Proofs.YtoeckfegggongaaGreatDoor
open Go Go.Aw
theorem ku {p : Pt} {o : OpP} {H : AH} {R : D → AH → Prop} (hl : p.ops.length ≤ 1000) (h : R (.agg (j6 p o).d) H) : ACall Tryz.prog 83 [.agg p.d,.agg o.d] H R := by
 refine b83 fun hf=>?_
 have hbig := qt
 simp +contextual only [x83,Pt.d,OpP.d,↓U83,↓XP,qm,XW1,qa,qb,qc,qd,qe,qf,reduceCtorEq]
 intro b1 h1 b2 h2 b3 h3
 have e : qM p.ops ++ [[.int .i64 o.k,.int .i64 o.on.o,.int .i64 o.on.s,.int .i64 o.on.i,.int .i64 o.to.o,.int .i64 o.to.s,.int .i64 o.to.i,.slc (qV o.ids),.int .i64 o.n,.str o.name,.str o.text,.int .i64 o.a,.int .i64 o.b]] = qM (p.ops ++ [o]) := by simp [qM,OpP.d]
 refine fun _=>⟨kU,by rw [qj]; omega,kU,by rw [qj]; omega,by omega,?_⟩
 rw [e]
 exact h
theorem wN {p : Pt} {o : OpP} : (j6 p o).ops.length = p.ops.length + 1 := by simp [j6]
theorem wy {p : Pt} {on : Id3} {m : List Int} {H : AH} {R : D → AH → Prop} (hl : p.ops.length ≤ 900) (h : R (.agg (meaning p on m).d) H) : ACall Tryz.prog 85 [.agg p.d,.agg on.d,.slc (ints m)] H R := by
 refine b85 fun hf=>?_
 have hbig := qt
 have hd := @dE p
 have ho : on.d = [.int .i64 on.o,.int .i64 on.s,.int .i64 on.i] := rfl
 simp +contextual only [x85,hd,ho,qj,↓U85,↓XP,qm,XW1,qa,qb,qc,qd,qe,qf,reduceCtorEq]
 rintro b1 h1 b2 ⟨n12,h2⟩ b3 ⟨n23,n13,h3⟩ _ _ _ b4 ⟨n34,n24,n14,h4⟩
 simp +contextual only [hd,ho,qj,qg,qi,n12,n13,n23,n14,n24,n34,↓U85,↓XP,qm,XW1,qa,qb,qc,qd,qe,qf,reduceCtorEq]
 refine ⟨_,jL (i := 2) (by omega) ⟨rfl,rfl⟩,?_⟩
 simp +contextual only [hd,ho,qj,qg,qi,n12,n13,n23,n14,n24,n34,↓U85,↓XP,qm,XW1,qa,qb,qc,qd,qe,qf,reduceCtorEq]
 refine fun _=>⟨_,ku (p := p) (o := { op0 with k := 2,on := on,n := qE m 2 5 }) (by omega) ⟨rfl,rfl⟩,?_⟩
 obtain ⟨p1,hp1⟩ : ∃ q,q = j6 p { op0 with k := 2,on := on,n := qE m 2 5 } := ⟨_,rfl⟩
 have l1 : p1.ops.length = p.ops.length + 1 := by rw [hp1,wN]
 rw [← hp1]
 have hd1 := @dE p1
 simp +contextual only [hd1,hd,ho,qj,qg,qi,n12,n13,n23,n14,n24,n34,↓U85,↓XP,qm,XW1,qa,qb,qc,qd,qe,qf,reduceCtorEq]
 intros
 refine ⟨_,kq (n := 3) ⟨rfl,rfl⟩,?_⟩
 simp +contextual only [hd1,hd,ho,qj,qg,qi,n12,n13,n23,n14,n24,n34,↓U85,↓XP,qm,XW1,qa,qb,qc,qd,qe,qf,reduceCtorEq]
 refine fun _=>⟨_,vI ⟨rfl,rfl⟩,?_⟩
 simp +contextual only [hd1,hd,ho,qj,qg,qi,n12,n13,n23,n14,n24,n34,↓U85,↓XP,qm,XW1,qa,qb,qc,qd,qe,qf,reduceCtorEq]
 refine fun _=>⟨_,ku (p := p1) (o := { op0 with k := 7,on := jv p,text := gloss (m.drop 3) }) (by omega) ⟨rfl,rfl⟩,?_⟩
 obtain ⟨p2,hp2⟩ : ∃ q,q = j6 p1 { op0 with k := 7,on := jv p,text := gloss (m.drop 3) } := ⟨_,rfl⟩
 have l2 : p2.ops.length = p1.ops.length + 1 := by rw [hp2,wN]
 rw [← hp2]
 have hd2 := @dE p2
 simp +contextual only [hd2,hd1,hd,ho,qj,qg,qi,n12,n13,n23,n14,n24,n34,↓U85,↓XP,qm,XW1,qa,qb,qc,qd,qe,qf,reduceCtorEq]
 intros
 refine jL (i := 1) (by omega) ?_
 have hm : meaning p on m = if qE m 1 9 = 5 then p2 else j6 p2 { op0 with k := 9,on := jv p,n := 1 } := by
  unfold meaning
  simp only
  rw [← hp1,← hp2]
 rw [hm] at h
 simp +contextual only [hd2,hd1,hd,ho,qj,qg,qi,n12,n13,n23,n14,n24,n34,↓U85,↓XP,qm,XW1,qa,qb,qc,qd,qe,qf,reduceCtorEq]
 refine fun _=>⟨fun h5=>ku (p := p2) (o := { op0 with k := 9,on := jv p,n := 1 }) (by omega) ?_,fun h5=>?_⟩
 ·rw [if_neg h5] at h
  obtain ⟨p3,hp3⟩ : ∃ q,q = j6 p2 { op0 with k := 9,on := jv p,n := 1 } := ⟨_,rfl⟩
  rw [← hp3] at h ⊢
  have hd3 := @dE p3
  simp +contextual only [hd3,hd2,hd1,hd,ho,qj,qg,qi,n12,n13,n23,n14,n24,n34,↓U85,↓XP,qm,XW1,qa,qb,qc,qd,qe,qf,reduceCtorEq]
  intros
  exact h
 ·rw [if_pos h5] at h
  exact h
end Go.Proofs.YtoeckfegggongaaGreatDoor
end
section
namespace Go.Proofs.YtoeckfegggongaaGreatDoor
open Go Go.Aw
theorem Jj (x : Int) : (if x < 1 then x else 1) = min 1 x := by
 by_cases h : x < 1
 ·rw [if_pos h]; omega
 ·rw [if_neg h]; omega
theorem zU {sense other : Id3} {n : Int} {m : List Int} {H : AH} {R : D → AH → Prop} (h : R (.agg (small sense other n m).d) H) : ACall Tryz.prog 89 [.agg sense.d,.agg other.d,.int .i64 n,.slc (ints m)] H R := by
 refine b89 fun hf=>?_
 have hbig := qt
 have ho : sense.d = [.int .i64 sense.o,.int .i64 sense.s,.int .i64 sense.i] := rfl
 have ho2 : other.d = [.int .i64 other.o,.int .i64 other.s,.int .i64 other.i] := rfl
 simp +contextual only [x89,ho,ho2,↓Jt,↓XP,qm,XW1,qa,qb,qc,qd,qe,qf,reduceCtorEq]
 have r9 := qz (l := m) (i := 3) (most := 9) (by omega)
 have r3 := qz (l := m) (i := 3) (most := 3) (by omega)
 have r2 := qz (l := m) (i := 3) (most := 2) (by omega)
 have e3 : ([[.str [102,114]],[.str [102,114]],[.str [100,101]]] : List (List D)) = strs lang3 := rfl
 have e2 : ([[.str [114,97,114,101]],[.str [108,97,119]]] : List (List D)) = strs lab2 := rfl
 have s3 := kG (show (qE m 3 3).toNat < lang3.length by show _ < 3; omega)
 have s2 := kG (show (qE m 3 2).toNat < lab2.length by show _ < 2; omega)
 have l3 : lang3.length = 3 := rfl
 have l2 : lab2.length = 2 := rfl
 rintro b1 h1 b2 ⟨n12,h2⟩ b3 ⟨n23,n13,h3⟩
 refine ⟨?_,fun c0=>⟨?_,fun c1=>⟨?_,fun c2=>⟨?_,fun c3=>⟨?_,fun c4=>⟨?_,fun c5=>⟨?_,fun c6=>⟨?_,fun c7=>⟨?_,fun c8=>⟨?_,?_⟩⟩⟩⟩⟩⟩⟩⟩⟩⟩
 ·rintro rfl
  refine ⟨_,kq (n := 3) ⟨rfl,rfl⟩,?_⟩
  simp +contextual only [ho,ho2,qg,qi,n12,n13,n23,↓Jt,↓XP,qm,XW1,qa,qb,qc,qd,qe,qf,reduceCtorEq]
  refine fun _=>⟨_,vI ⟨rfl,rfl⟩,?_⟩
  simp +contextual only [ho,ho2,qg,qi,n12,n13,n23,↓Jt,↓XP,qm,XW1,qa,qb,qc,qd,qe,qf,reduceCtorEq]
  intros
  exact h
 ·rintro rfl
  refine ⟨_,kq (n := 3) ⟨rfl,rfl⟩,?_⟩
  simp +contextual only [ho,ho2,qg,qi,n12,n13,n23,↓Jt,↓XP,qm,XW1,qa,qb,qc,qd,qe,qf,reduceCtorEq]
  refine fun _=>⟨_,vI ⟨rfl,rfl⟩,?_⟩
  simp +contextual only [ho,ho2,qg,qi,n12,n13,n23,↓Jt,↓XP,qm,XW1,qa,qb,qc,qd,qe,qf,reduceCtorEq]
  intros
  exact h
 ·rintro rfl
  refine ⟨_,jL (i := 3) (by omega) ⟨rfl,rfl⟩,?_⟩
  simp +contextual only [ho,ho2,qg,qi,n12,n13,n23,↓Jt,↓XP,qm,XW1,qa,qb,qc,qd,qe,qf,reduceCtorEq]
  intros
  exact h
 ·rintro rfl
  refine ⟨_,jL (i := 3) (by omega) ⟨rfl,rfl⟩,?_⟩
  simp +contextual only [ho,ho2,qg,qi,n12,n13,n23,qw (show -9223372036854775808 ≤ 1 + qE m 3 9 by omega) (by omega),↓Jt,↓XP,qm,XW1,qa,qb,qc,qd,qe,qf,reduceCtorEq]
  intros
  exact h
 ·rintro rfl
  refine ⟨_,jL (i := 3) (by omega) ⟨rfl,rfl⟩,?_⟩
  simp +contextual only [ho,ho2,qg,qi,n12,n13,n23,e3,s3,l3,qJ,↓Jt,↓XP,qm,XW1,qa,qb,qc,qd,qe,qf,reduceCtorEq]
  refine fun _=>⟨by omega,by omega,fun _=>?_⟩
  refine ⟨_,kq (n := 4) ⟨rfl,rfl⟩,?_⟩
  simp +contextual only [ho,ho2,qg,qi,n12,n13,n23,e3,s3,l3,qJ,↓Jt,↓XP,qm,XW1,qa,qb,qc,qd,qe,qf,reduceCtorEq]
  refine fun _=>⟨_,vI ⟨rfl,rfl⟩,?_⟩
  simp +contextual only [ho,ho2,qg,qi,n12,n13,n23,e3,s3,l3,qJ,↓Jt,↓XP,qm,XW1,qa,qb,qc,qd,qe,qf,reduceCtorEq]
  intros
  exact h
 ·rintro rfl
  refine ⟨_,jL (i := 3) (by omega) ⟨rfl,rfl⟩,?_⟩
  simp +contextual only [ho,ho2,qg,qi,n12,n13,n23,e2,s2,l2,qJ,↓Jt,↓XP,qm,XW1,qa,qb,qc,qd,qe,qf,reduceCtorEq]
  refine fun _=>⟨by omega,by omega,fun _=>?_⟩
  refine ⟨_,jL (i := 4) (by omega) ⟨rfl,rfl⟩,?_⟩
  simp +contextual only [ho,ho2,qg,qi,n12,n13,n23,e2,s2,l2,qJ,Jj,↓Jt,↓XP,qm,XW1,qa,qb,qc,qd,qe,qf,reduceCtorEq]
  intros
  exact h
 ·rintro rfl
  refine ⟨_,jL (i := 3) (by omega) ⟨rfl,rfl⟩,?_⟩
  simp +contextual only [ho,ho2,qg,qi,n12,n13,n23,e2,s2,l2,qJ,↓Jt,↓XP,qm,XW1,qa,qb,qc,qd,qe,qf,reduceCtorEq]
  refine fun _=>⟨by omega,by omega,fun _=>?_⟩
  refine ⟨_,jL (i := 4) (by omega) ⟨rfl,rfl⟩,?_⟩
  simp +contextual only [ho,ho2,qg,qi,n12,n13,n23,e2,s2,l2,qJ,Jj,↓Jt,↓XP,qm,XW1,qa,qb,qc,qd,qe,qf,reduceCtorEq]
  intros
  exact h
 ·rintro rfl
  refine ⟨_,jL (i := 3) (by omega) ⟨rfl,rfl⟩,?_⟩
  simp +contextual only [ho,ho2,qg,qi,n12,n13,n23,Jj,↓Jt,↓XP,qm,XW1,qa,qb,qc,qd,qe,qf,reduceCtorEq]
  intros
  exact h
 ·rintro rfl
  refine ⟨_,jL (i := 3) (by omega) ⟨rfl,rfl⟩,?_⟩
  simp +contextual only [ho,ho2,qg,qi,n12,n13,n23,Jj,↓Jt,↓XP,qm,XW1,qa,qb,qc,qd,qe,qf,reduceCtorEq]
  intros
  exact h
 ·rintro rfl
  refine ⟨_,jL (i := 3) (by omega) ⟨rfl,rfl⟩,?_⟩
  simp +contextual only [ho,ho2,qg,qi,n12,n13,n23,↓Jt,↓XP,qm,XW1,qa,qb,qc,qd,qe,qf,reduceCtorEq]
  intros
  exact h
 ·intro c9
  have hs : small sense other n m = { op0 with k := 8,on := sense,n := qE m 3 5 } := by
   unfold small
   simp only [c0,c1,c2,c3,c4,c5,c6,c7,c8,c9,or_self,if_false]
  rw [hs] at h
  refine ⟨_,jL (i := 3) (by omega) ⟨rfl,rfl⟩,?_⟩
  simp +contextual only [ho,ho2,qg,qi,n12,n13,n23,↓Jt,↓XP,qm,XW1,qa,qb,qc,qd,qe,qf,reduceCtorEq]
  intros
  exact h
end Go.Proofs.YtoeckfegggongaaGreatDoor
end
