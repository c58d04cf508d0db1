/- A part of the proof of what the last text says: Gp1, Gf1, XcB, Gw1. Conditions: those in each theorem. -/
import Derived.Test.YtoeckfegggongaaGreatDoorV13
set_option linter.unusedVariables false
set_option linter.unusedSimpArgs false
set_option maxRecDepth 100000
set_option maxHeartbeats 16000000
open Nat renaming reduceSub → qa,reduceAdd → qb,reduceMul → qc,reduceEqDiff → qd,reduceLeDiff → qe,reduceBEq → qf
section
namespace Go.Proofs.YtoeckfegggongaaGreatDoor
open Go Go.Aw
def heads8 : List (List UInt8) := [[99,97,116],[97,110,116],[98,101,116],[110,101,115,116],[116,101,110],[116,101,101],[99,104,101],[115,101,116]]
def core4 : List (List UInt8) := [[97],[97,110],[98,101],[99]]
def words16 : List (List UInt8) := core4 ++ heads8 ++ [[99,97,116,115],[97,110,116,115],[98,101,116,115,116],[120,121,122]]
def seps3 : List (List UInt8) := [[32],[44,32],[32]]
def jC (l : List Int) (i : Nat) (most : Int) : Nat := (qE l i most).toNat
def kZ (l : List Int) : Nat → List UInt8
 | 0=>words16.getD (jC l 0 16) []
 | i + 1=>kZ l i ++ (seps3.getD (jC l (2 + i) 3) [] ++ words16.getD (jC l (4 + i) (6 + i)) [])
def gloss (l : List Int) : List UInt8 := if qE l 6 19 = 18 then [] else kZ l (jC l 1 3)
def j6 (p : Pt) (o : OpP) : Pt := { p with ops := p.ops ++ [o] }
def jv (p : Pt) : Id3 := ⟨p.o,p.s,p.ops.length⟩
def meaning (p : Pt) (on : Id3) (m : List Int) : Pt :=
 let p1 := j6 p { op0 with k := 2,on := on,n := qE m 2 5 }
 let p2 := j6 p1 { op0 with k := 7,on := jv p,text := gloss (m.drop 3) }
 if qE m 1 9 = 5 then p2 else j6 p2 { op0 with k := 9,on := jv p,n := 1 }
structure Gs where
 l : List Pt
 past : List (List Bool)
def jX (p : Pt) (kind : Int) (ok : Bool) : Nat → List Id3 := fun k=>if ok = true ∧ (p.ops.getD k default).k = kind then [⟨p.o,p.s,k⟩] else []
def jY (p : Pt) (kind : Int) (ok : Bool) : List Id3 := upto (jX p kind ok) p.ops.length
def visible (x : Gs) (seen : List Bool) (p : Pt) (kind : Int) : List Id3 := upto (fun i=>jY (x.l.getD i default) kind (seen.getD i false)) x.l.length ++ jY p kind true
def jW (p : Pt) (ok : Bool) : Nat → List OpP := fun k=>if ok = true ∧ (p.ops.getD k default).k = 16 then [p.ops.getD k default] else []
def kw (p : Pt) (ok : Bool) : List OpP := upto (jW p ok) p.ops.length
def splits (x : Gs) (seen : List Bool) (p : Pt) : List OpP := upto (fun i=>kw (x.l.getD i default) (seen.getD i false)) x.l.length ++ kw p true
def names3 : List (List UInt8) := [[112,114,101,115,115],[104,101,105,114,115],[99,114,111,119,110]]
def quoted (x : Gs) (seen : List Bool) (p : Pt) (sense : Id3) (m : List Int) : Pt :=
 let sources := visible x seen p 3
 if sources.length = 0 ∨ qE m 1 4 = 1 then
  let from_ := 600000 + 400 * qE m 2 60
  let p1 := j6 p { op0 with k := 3,name := names3.getD (jC m 3 3) [],text := [97,110,110,97,108,115],a := from_,b := from_ + 300 * qE m 4 8 }
  j6 p1 { op0 with k := 4,on := sense,to := jv p,n := 1 + qE m 5 90,text := gloss (m.drop 6) }
 else j6 p { op0 with k := 4,on := sense,to := sources.getD (jC m 2 sources.length) default,n := 1 + qE m 5 90,text := gloss (m.drop 6) }
def divided (p : Pt) (entry sense : Id3) (m : List Int) : Pt :=
 let p1 := meaning p entry m
 let p2 := meaning p1 entry (m.drop 1)
 j6 p2 { op0 with k := 16,on := sense,ids := [jv p,jv p1],n := qE m 4 3 - 1 }
def lang3 : List (List UInt8) := [[102,114],[102,114],[100,101]]
def lab2 : List (List UInt8) := [[114,97,114,101],[108,97,119]]
def small (sense other : Id3) (n : Int) (m : List Int) : OpP :=
 if n = 0 ∨ n = 1 then { op0 with k := 7,on := sense,text := gloss (m.drop 3) }
 else if n = 2 then { op0 with k := 9,on := sense,n := qE m 3 2 }
 else if n = 3 then { op0 with k := 10,on := sense,n := 1 + qE m 3 9 }
 else if n = 4 then { op0 with k := 12,on := sense,name := lang3.getD (jC m 3 3) [],text := gloss (m.drop 4) }
 else if n = 5 ∨ n = 6 then { op0 with k := 14,on := sense,name := lab2.getD (jC m 3 2) [],n := min 1 (qE m 4 4) }
 else if n = 7 ∨ n = 8 then { op0 with k := 15,on := sense,to := other,n := min 1 (qE m 3 5) }
 else if n = 9 then { op0 with k := 13,on := sense,to := other,n := qE m 3 3 }
 else { op0 with k := 8,on := sense,n := qE m 3 5 }
end Go.Proofs.YtoeckfegggongaaGreatDoor
end
section
namespace Go.Proofs.YtoeckfegggongaaGreatDoor
open Go Go.Aw
def strs (l : List (List UInt8)) : List (List D) := l.map fun s=>[.str s]
theorem qJ {l : List (List UInt8)} : (strs l).length = l.length := by simp [strs]
theorem kG {l : List (List UInt8)} {i : Nat} (h : i < l.length) : (strs l).getD i [] = [.str (l.getD i [])] := by simp [strs,h]
theorem Q1 {l : List (List UInt8)} : ∀ x ∈ strs l,x.length = 1 := by
 intro x hx
 obtain ⟨t,_,rfl⟩ := List.mem_map.1 hx
 rfl
theorem wb {l : List Int} : ∀ x ∈ ints l,x.length = 1 := by
 intro x hx
 obtain ⟨t,_,rfl⟩ := List.mem_map.1 hx
 rfl
theorem kq {l : List Int} {n : Nat} {H : AH} {R : D → AH → Prop} (h : R (.slc (ints (l.drop n))) H) : ACall Tryz.prog 44 [.slc (ints l),.int .i64 n] H R := by
 refine b44 fun hf=>?_
 have hbig := qt
 simp +contextual only [x44,qn,↓u44_s0,↓XP,qm,XW1,qa,qb,qc,qd,qe,qf,reduceCtorEq]
 refine fun _=>⟨wb,?_⟩
 rw [List.take_of_length_le (show (ints l).length ≤ l.length by rw [qn]; exact Nat.le_refl _)]
 by_cases hc : (l.length : Int) < (n : Int)
 ·simp only [if_pos hc,Int.toNat_natCast]
  refine ⟨by omega,by omega,?_⟩
  rw [List.drop_of_length_le (show (ints l).length ≤ l.length by rw [qn]; exact Nat.le_refl _)]
  rw [List.drop_of_length_le (show l.length ≤ n by omega)] at h
  exact h
 ·simp only [if_neg hc,Int.toNat_natCast]
  refine ⟨by omega,by omega,?_⟩
  rw [show List.drop n (ints l) = ints (l.drop n) from List.map_drop.symm]
  exact h
theorem f_core {H : AH} {R : D → AH → Prop} (h : R (.own (strs core4)) H) : ACall Tryz.prog 103 [] H R := by
 refine b103 fun hf=>?_
 simp +contextual only [x103,↓u103_s0,↓XP,qm,XW1,qa,qb,qc,qd,qe,qf,reduceCtorEq]
 intros
 exact h
theorem zK {H : AH} {R : D → AH → Prop} (h : R (.own (strs heads8)) H) : ACall Tryz.prog 84 [] H R := by
 refine b84 fun hf=>?_
 simp +contextual only [x84,↓u84_s0,↓XP,qm,XW1,qa,qb,qc,qd,qe,qf,reduceCtorEq]
 intros
 exact h
theorem vk {α : Type} {l : List α} {d : α} {p : α → Prop} (h : ∀ x ∈ l,p x) (hd : p d) (i : Nat) : p (l.getD i d) := by
 rcases Nat.lt_or_ge i l.length with hi | hi
 ·rw [jk hi]; exact h _ (List.getElem_mem hi)
 ·rw [show l.getD i d = d by simp [List.getD,List.getElem?_eq_none hi]]; exact hd
theorem gy (i : Nat) : (words16.getD i []).length ≤ 5 := vk (p := fun x : List UInt8=>x.length ≤ 5) (by decide) (by decide) i
theorem YM (i : Nat) : (seps3.getD i []).length ≤ 2 := vk (p := fun x : List UInt8=>x.length ≤ 2) (by decide) (by decide) i
theorem zb {l : List Int} : ∀ i,(kZ l i).length ≤ 5 + 7 * i
 | 0=>by
  have := gy (jC l 0 16)
  simp only [kZ]
  omega
 | i + 1=>by
  have h1 := zb (l := l) i
  have h2 := YM (jC l (2 + i) 3)
  have h3 := gy (jC l (4 + i) (6 + i))
  simp only [kZ,List.length_append]
  omega
theorem vI {l : List Int} {H : AH} {R : D → AH → Prop} (h : R (.str (gloss l)) H) : ACall Tryz.prog 97 [.slc (ints l)] H R := by
 refine b97 fun hf=>?_
 have hbig := qt
 simp +contextual only [x97,↓WS,↓XP,qm,XW1,qa,qb,qc,qd,qe,qf,reduceCtorEq]
 refine f_core ?_
 simp +contextual only [↓WS,↓XP,qm,XW1,qa,qb,qc,qd,qe,qf,reduceCtorEq]
 intros
 refine zK ?_
 simp +contextual only [qJ,↓WS,↓XP,qm,XW1,qa,qb,qc,qd,qe,qf,reduceCtorEq]
 have e : strs core4 ++ strs heads8 ++ [[.str [99,97,116,115]],[.str [97,110,116,115]],[.str [98,101,116,115,116]],[.str [120,121,122]]] = strs words16 := rfl
 have hw : words16.length = 16 := rfl
 have e2 : (strs core4 ++ strs heads8).length = 12 := rfl
 have c8 : core4.length = 4 := rfl
 have h8 : heads8.length = 8 := rfl
 rw [e,e2,c8,h8]
 refine fun _=>⟨Q1,Q1,by omega,Q1 (l := core4 ++ heads8),by omega,fun _=>?_⟩
 rw [qJ,hw,show ((16 : Nat) : Int) = (16 : Int) from rfl]
 have a0 := qz (l := l) (i := 0) (most := 16) (by omega)
 have a1 := qz (l := l) (i := 1) (most := 3) (by omega)
 refine jL (i := 0) (by omega) ?_
 simp +contextual only [qJ,kG (show (qE l 0 16).toNat < words16.length by rw [hw]; omega),hw,↓WS,↓XP,qm,XW1,qa,qb,qc,qd,qe,qf,reduceCtorEq]
 refine fun _=>⟨by omega,by omega,fun _=>jL (i := 1) (by omega) ?_⟩
 simp +contextual only [↓WS,↓XP,qm,XW1,qa,qb,qc,qd,qe,qf,reduceCtorEq]
 obtain ⟨n,hn⟩ : ∃ n : Nat,qE l 1 3 = n := ⟨(qE l 1 3).toNat,by omega⟩
 have hn' : jC l 1 3 = n := by unfold jC; omega
 rw [hn]
 intros
 refine XW.loopK hm (fun F H'=>∃ (i : Nat),i ≤ n ∧ Fr 50 [(0,.slc (ints l)),(3,.own (strs words16)),(4,.str (kZ l i)),(5,.int .i64 n),(6,.int .i64 i)] F ∧ H = H') (fun F H=>match F.getD 6 .any with | .int _ n'=>n - n'.toNat | _=>0) ⟨0,by omega,⟨rfl,rfl,rfl,rfl,rfl,rfl,trivial⟩,rfl⟩ ?_
 rintro _ _ ⟨i,hi,hF,rfl⟩ K hN hE hR
 obtain ⟨z,rfl⟩ : ∃ z : Nat → D,_ = .slc (ints l) :: zz z 1 2 (.own (strs words16) :: .str (kZ l i) :: .int .i64 n :: .int .i64 i :: zz z 7 43 []) := hF.lit
 try dsimp only [zz,qb] at *
 clear hF
 by_cases hlt : i < n
 ·have nx : ∀ F',Fr 50 [(0,.slc (ints l)),(3,.own (strs words16)),(4,.str (kZ l (i + 1))),(5,.int .i64 n),(6,.int .i64 ((i + 1 : Nat) : Int))] F' → K .normal F' H := fun F' hF'=>hN _ _ ⟨i + 1,hlt,hF',(j9 rfl).symm⟩ (by
   rw [List.getD_eq_getElem?_getD,hF'.2.2.2.2.2.1]
   simp only [List.getD_cons_succ,List.getD_cons_zero,Option.getD_some]
   omega)
  clear hN hE hR
  have w2 : IntKind.i64.wrap (2 + (i : Int)) = ((2 + i : Nat) : Int) := by rw [qw (by omega) (by omega)]; omega
  have w4 : IntKind.i64.wrap (4 + (i : Int)) = ((4 + i : Nat) : Int) := by rw [qw (by omega) (by omega)]; omega
  have w6 : IntKind.i64.wrap (6 + (i : Int)) = 6 + (i : Int) := qw (by omega) (by omega)
  have b0 := qz (l := l) (i := 2 + i) (most := 3) (by omega)
  have b1 := qz (l := l) (i := 4 + i) (most := 6 + (i : Int)) (by omega)
  simp +contextual only [w2,w4,w6,qp (show i ≤ big by omega),↓WS,↓XP,qm,XW1,qa,qb,qc,qd,qe,qf,reduceCtorEq]
  have g0 := zb (l := l) i
  have g2 := YM (jC l (2 + i) 3)
  have g3 := gy (jC l (4 + i) (6 + i))
  have hse : ([[.str [32]],[.str [44,32]],[.str [32]]] : List (List D)) = strs seps3 := rfl
  have hs3 : seps3.length = 3 := rfl
  have s1 := kG (show (qE l (2 + i) 3).toNat < seps3.length by rw [hs3]; omega)
  have s2 := kG (show (qE l (4 + i) (6 + (i : Int))).toNat < words16.length by rw [hw]; omega)
  refine ⟨fun _=>⟨_,jL (by omega) ⟨rfl,rfl⟩,?_⟩,fun hge=>absurd (by omega) hge⟩
  simp +contextual only [w2,w4,w6,hse,hs3,hw,s1,s2,qJ,qp (show i ≤ big by omega),↓WS,↓XP,qm,XW1,qa,qb,qc,qd,qe,qf,reduceCtorEq]
  refine fun _=>⟨by omega,by omega,fun _=>⟨?_,⟨_,jL (by omega) ⟨rfl,rfl⟩,?_⟩⟩⟩
  ·unfold jC at g2
   omega
  simp +contextual only [w2,w4,w6,hse,hs3,hw,s1,s2,qJ,qp (show i ≤ big by omega),↓WS,↓XP,qm,XW1,qa,qb,qc,qd,qe,qf,reduceCtorEq]
  have hu : kZ l i ++ seps3.getD (qE l (2 + i) 3).toNat [] ++ words16.getD (qE l (4 + i) (6 + (i : Int))).toNat [] = kZ l (i + 1) := by
   rw [kZ,List.append_assoc]
   rfl
  rw [hu]
  unfold jC at g2 g3
  refine fun _=>⟨by omega,by omega,fun _=>⟨by simp only [List.length_append]; omega,nx _ ⟨rfl,rfl,rfl,rfl,rfl,rfl,trivial⟩⟩⟩
 ·have hin : i = n := by omega
  subst hin
  simp +contextual only [↓WS,↓XP,qm,XW1,qa,qb,qc,qd,qe,qf,reduceCtorEq]
  refine hE _ _ _ ?_
  simp +contextual only [↓WS,↓XP,qm,XW1,qa,qb,qc,qd,qe,qf,reduceCtorEq]
  refine jL (i := 6) (by omega) ?_
  simp +contextual only [↓WS,↓XP,qm,XW1,qa,qb,qc,qd,qe,qf,reduceCtorEq]
  unfold gloss at h
  rw [hn'] at h
  refine fun _=>⟨fun h18=>?_,fun h18=>?_⟩
  ·rw [if_pos h18] at h
   exact h
  ·rw [if_neg h18] at h
   exact h
end Go.Proofs.YtoeckfegggongaaGreatDoor
end
section
namespace Go.Proofs.YtoeckfegggongaaGreatDoor
open Go.Xs
open Go Go.Aw
def x24_s0 : XC := (.seq (.reg [f 55 1 0 159,l 3 159 160,a (.binOp .neq 3 (t 160) (i 17) 3) 161,m 161 162,g (.fieldAddr 55 (t 1) 1) 163 162 false,g (.load 50 (t 163)) 164 162 false,g (.fieldAddr 55 (t 1) 2) 165 162 false,g (.load 50 (t 165)) 166 162 false,g (.binOp .neq 50 (t 164) (t 166) 50) 167 162 false,b (.pick (t 162) (.const (.bool true)) (t 167)) 168,n 168 2]) .ret)
def x24_s1 : XC := (.seq (.seq (.reg [m 3 134,a (k 51 #[(t 134),(.const (.int .u8 83))] #[9,5]) 135,m 135 136,g (.fieldAddr 55 (t 1) 7) 137 136 true,g (.load 53 (t 137)) 138 136 true,g (k 55 #[(t 138)] #[53]) 139 136 true,g (.unOp .not 4 (t 139)) 140 136 true,a (.pick (t 136) (t 140) (.const (.bool false))) 141,m 141 142,g (.move (t 3)) 143 142 false,g (k 51 #[(t 143),(.const (.int .u8 83))] #[9,5]) 144 142 false,g (.unOp .not 4 (t 144)) 145 142 false,g (.move (t 145)) 146 142 false,g (.fieldAddr 55 (t 1) 7) 147 146 true,g (.fieldAddr 53 (t 147) 0) 148 146 true,g (.load 3 (t 148)) 149 146 true,g (.binOp .neq 3 (t 149) (i 0) 3) 150 146 true,g (.move (t 150)) 151 146 true,g (.fieldAddr 55 (t 1) 7) 152 151 false,g (.fieldAddr 53 (t 152) 1) 153 151 false,g (.load 3 (t 153)) 154 151 false,g (.binOp .neq 3 (t 154) (i 0) 3) 155 151 false,g (.pick (t 151) (.const (.bool true)) (t 155)) 156 146 true,g (.pick (t 146) (t 156) (.const (.bool false))) 157 142 false,a (.pick (t 142) (.const (.bool true)) (t 157)) 158]) (.cond (t 158) (.seq (.reg [a (.assign (.const (.bool false))) 2]) .ret) .skip)) x24_s0)
theorem v6 : type_of% (@unf _ _ x24_s1.eq_1) := unf x24_s1.eq_1
def x24_s2 : XC := (.seq (.seq (.reg [m 3 90,a (k 51 #[(t 90),(.const (.int .u8 65))] #[9,5]) 91,m 91 92,g (.fieldAddr 55 (t 1) 5) 93 92 true,g (.load 9 (t 93)) 94 92 true,g (.call ⟨(.builtin .len),#[(t 94)],#[9]⟩) 95 92 true,g (.binOp .lss 3 (t 95) (i 1) 3) 96 92 true,g (.move (t 96)) 97 92 true,g (.fieldAddr 55 (t 1) 5) 98 97 false,g (.load 9 (t 98)) 99 97 false,g (.call ⟨(.builtin .len),#[(t 99)],#[9]⟩) 100 97 false,g (.binOp .gtr 3 (t 100) (i 16) 3) 101 97 false,g (.pick (t 97) (.const (.bool true)) (t 101)) 102 92 true,a (.pick (t 92) (t 102) (.const (.bool false))) 103,m 103 104,g (.move (t 3)) 105 104 false,g (k 51 #[(t 105),(.const (.int .u8 65))] #[9,5]) 106 104 false,g (.unOp .not 4 (t 106)) 107 104 false,g (.move (t 107)) 108 104 false,g (.fieldAddr 55 (t 1) 5) 109 108 true,g (.load 9 (t 109)) 110 108 true,g (.binOp .neq 9 (t 110) (.const (.string ⟨#[]⟩)) 9) 111 108 true,g (.pick (t 108) (t 111) (.const (.bool false))) 112 104 false,a (.pick (t 104) (.const (.bool true)) (t 112)) 113,m 113 114,g (.move (t 3)) 115 114 false,g (k 51 #[(t 115),(.const (.int .u8 88))] #[9,5]) 116 114 false,g (.move (t 116)) 117 114 false,g (.fieldAddr 55 (t 1) 6) 118 117 true,g (.load 9 (t 118)) 119 117 true,g (.call ⟨(.builtin .len),#[(t 119)],#[9]⟩) 120 117 true,g (.binOp .gtr 3 (t 120) (i 1024) 3) 121 117 true,g (.pick (t 117) (t 121) (.const (.bool false))) 122 114 false,a (.pick (t 114) (.const (.bool true)) (t 122)) 123,m 123 124,g (.move (t 3)) 125 124 false,g (k 51 #[(t 125),(.const (.int .u8 88))] #[9,5]) 126 124 false,g (.unOp .not 4 (t 126)) 127 124 false,g (.move (t 127)) 128 124 false,g (.fieldAddr 55 (t 1) 6) 129 128 true,g (.load 9 (t 129)) 130 128 true,g (.binOp .neq 9 (t 130) (.const (.string ⟨#[]⟩)) 9) 131 128 true,g (.pick (t 128) (t 131) (.const (.bool false))) 132 124 false,a (.pick (t 124) (.const (.bool true)) (t 132)) 133]) (.cond (t 133) (.seq (.reg [a (.assign (.const (.bool false))) 2]) .ret) .skip)) x24_s1)
theorem kp : type_of% (@unf _ _ x24_s2.eq_1) := unf x24_s2.eq_1
def x24_s3 : XC := (.seq (.seq (.reg [m 3 53,a (k 51 #[(t 53),(.const (.int .u8 78))] #[9,5]) 54,m 54 55,g (.load 55 (t 1)) 56 55 true,g (k 53 #[(t 56)] #[55]) 57 55 true,g (.unOp .not 4 (t 57)) 58 55 true,a (.pick (t 55) (t 58) (.const (.bool false))) 59,m 59 60,g (.move (t 3)) 61 60 false,g (k 51 #[(t 61),(.const (.int .u8 78))] #[9,5]) 62 60 false,g (.unOp .not 4 (t 62)) 63 60 false,g (.move (t 63)) 64 60 false,g (.fieldAddr 55 (t 1) 4) 65 64 true,g (.load 3 (t 65)) 66 64 true,g (.binOp .neq 3 (t 66) (i 0) 3) 67 64 true,g (.pick (t 64) (t 67) (.const (.bool false))) 68 60 false,a (.pick (t 60) (.const (.bool true)) (t 68)) 69,m 69 70,g (.move (t 3)) 71 70 false,g (k 51 #[(t 71),(.const (.int .u8 73))] #[9,5]) 72 70 false,g (.move (t 72)) 73 70 false,g (.load 55 (t 1)) 74 73 true,g (k 54 #[(t 74)] #[55]) 75 73 true,g (.unOp .not 4 (t 75)) 76 73 true,g (.pick (t 73) (t 76) (.const (.bool false))) 77 70 false,a (.pick (t 70) (.const (.bool true)) (t 77)) 78,m 78 79,g (.move (t 3)) 80 79 false,g (k 51 #[(t 80),(.const (.int .u8 73))] #[9,5]) 81 79 false,g (.unOp .not 4 (t 81)) 82 79 false,g (.move (t 82)) 83 79 false,g (.fieldAddr 55 (t 1) 3) 84 83 true,g (.load 51 (t 84)) 85 83 true,g (.call ⟨(.builtin .len),#[(t 85)],#[51]⟩) 86 83 true,g (.binOp .gtr 3 (t 86) (i 0) 3) 87 83 true,g (.pick (t 83) (t 87) (.const (.bool false))) 88 79 false,a (.pick (t 79) (.const (.bool true)) (t 88)) 89]) (.cond (t 89) (.seq (.reg [a (.assign (.const (.bool false))) 2]) .ret) .skip)) x24_s2)
theorem jT : type_of% (@unf _ _ x24_s3.eq_1) := unf x24_s3.eq_1
def x24_s4 : XC := (.seq (.seq (.reg [m 3 9,a (.binOp .eql 9 (t 9) (.const (.string ⟨#[]⟩)) 9) 10,m 10 11,g (.move (t 3)) 12 11 false,g (k 51 #[(t 12),(.const (.int .u8 79))] #[9,5]) 13 11 false,g (.move (t 13)) 14 11 false,g (.fieldAddr 55 (t 1) 1) 15 14 true,g (.load 50 (t 15)) 16 14 true,g (k 52 #[(t 16)] #[50]) 17 14 true,g (.unOp .not 4 (t 17)) 18 14 true,g (.pick (t 14) (t 18) (.const (.bool false))) 19 11 false,a (.pick (t 11) (.const (.bool true)) (t 19)) 20,m 20 21,g (.move (t 3)) 22 21 false,g (k 51 #[(t 22),(.const (.int .u8 79))] #[9,5]) 23 21 false,g (.unOp .not 4 (t 23)) 24 21 false,g (.move (t 24)) 25 21 false,g (.fieldAddr 55 (t 1) 1) 26 25 true,g (.load 50 (t 26)) 27 25 true,g (.load 50 (t 4)) 28 25 true,g (.binOp .neq 50 (t 27) (t 28) 50) 29 25 true,g (.pick (t 25) (t 29) (.const (.bool false))) 30 21 false,a (.pick (t 21) (.const (.bool true)) (t 30)) 31,m 31 32,g (.move (t 3)) 33 32 false,g (k 51 #[(t 33),(.const (.int .u8 84))] #[9,5]) 34 32 false,g (.move (t 34)) 35 32 false,g (.fieldAddr 55 (t 1) 2) 36 35 true,g (.load 50 (t 36)) 37 35 true,g (k 52 #[(t 37)] #[50]) 38 35 true,g (.unOp .not 4 (t 38)) 39 35 true,g (.pick (t 35) (t 39) (.const (.bool false))) 40 32 false,a (.pick (t 32) (.const (.bool true)) (t 40)) 41,m 41 42,g (.move (t 3)) 43 42 false,g (k 51 #[(t 43),(.const (.int .u8 84))] #[9,5]) 44 42 false,g (.unOp .not 4 (t 44)) 45 42 false,g (.move (t 45)) 46 42 false,g (.fieldAddr 55 (t 1) 2) 47 46 true,g (.load 50 (t 47)) 48 46 true,g (.load 50 (t 4)) 49 46 true,g (.binOp .neq 50 (t 48) (t 49) 50) 50 46 true,g (.pick (t 46) (t 50) (.const (.bool false))) 51 42 false,a (.pick (t 42) (.const (.bool true)) (t 51)) 52]) (.cond (t 52) (.seq (.reg [a (.assign (.const (.bool false))) 2]) .ret) .skip)) x24_s3)
theorem jO : type_of% (@unf _ _ x24_s4.eq_1) := unf x24_s4.eq_1
def x24_s5 : XC := (.seq (.reg [f 55 1 0 5,l 3 5 6,b (k 50 #[(t 6)] #[3]) 7,n 7 3]) (.seq (.reg [b (.build 50 #[]) 8,a (.alloc 50) 4,w 50 4 8]) x24_s4))
theorem Kx : type_of% (@unf _ _ x24_s5.eq_1) := unf x24_s5.eq_1
def V24 := PLift.up (aI (aI (@unf _ _ x24_s0.eq_1) (aI (@v6) (@kp))) (aI (@jT) (aI (@jO) (@Kx))))
theorem U24 : type_of% V24.down := V24.down
def x24 : XC := (.seq (.reg [a (.box 55 (t 0)) 1,a (.assign (.const (.bool false))) 2]) x24_s5)
theorem b24 : Bt 24 169 x24 [(.tmp 2)] := bt Tryz.func24 rfl (by kernel_rfl) (by kernel_rfl) (by kernel_rfl)
def x50_c0 : XC := (.seq (.reg [b (.binOp .eql 3 (t 3) (i 10) 3) 9,n 9 6]) (.cond (t 6) .skip (.reg [b (.binOp .eql 3 (t 3) (i 9) 3) 10,n 10 6])))
def x50_s1 : XC := (.cond (t 6) .skip (.seq (.reg [b (.binOp .eql 3 (t 3) (i 8) 3) 8,n 8 6]) (.cond (t 6) .skip x50_c0)))
def x50_s2 : XC := (.cond (t 31) (.seq (.reg [a (.assign (.const (.string ⟨#[79,84]⟩))) 2]) .ret) (.seq (.reg [b (.binOp .eql 3 (t 3) (i 18) 3) 34,n 34 33]) (.cond (t 33) (.seq (.reg [a (.assign (.const (.string ⟨#[79,84,73]⟩))) 2]) .ret) .skip)))
def x50_s3 : XC := (.cond (t 29) (.seq (.reg [a (.assign (.const (.string ⟨#[79,73,78]⟩))) 2]) .ret) (.seq (.reg [b (.binOp .eql 3 (t 3) (i 17) 3) 32,n 32 31]) x50_s2))
def x50_s4 : XC := (.cond (t 27) (.seq (.reg [a (.assign (.const (.string ⟨#[79,65,78]⟩))) 2]) .ret) (.seq (.reg [b (.binOp .eql 3 (t 3) (i 16) 3) 30,n 30 29]) x50_s3))
def x50_s5 : XC := (.cond (t 24) (.seq (.reg [a (.assign (.const (.string ⟨#[79,84,78]⟩))) 2]) .ret) (.seq (.reg [b (.binOp .eql 3 (t 3) (i 14) 3) 28,n 28 27]) x50_s4))
def x50_c6 : XC := (.seq (.seq (.reg [b (.binOp .eql 3 (t 3) (i 13) 3) 25,n 25 24]) (.cond (t 24) .skip (.reg [b (.binOp .eql 3 (t 3) (i 15) 3) 26,n 26 24]))) x50_s5)
def x50_s7 : XC := (.cond (t 20) (.seq (.reg [a (.assign (.const (.string ⟨#[79,83]⟩))) 2]) .ret) (.seq (.reg [b (.binOp .eql 3 (t 3) (i 12) 3) 23,n 23 22]) (.cond (t 22) (.seq (.reg [a (.assign (.const (.string ⟨#[79,65,88]⟩))) 2]) .ret) x50_c6)))
def x50_s8 : XC := (.cond (t 18) (.seq (.reg [a (.assign (.const (.string ⟨#[79,65]⟩))) 2]) .ret) (.seq (.reg [b (.binOp .eql 3 (t 3) (i 11) 3) 21,n 21 20]) x50_s7))
def x50_s9 : XC := (.cond (t 15) (.seq (.reg [a (.assign (.const (.string ⟨#[79,88]⟩))) 2]) .ret) (.seq (.reg [b (.binOp .eql 3 (t 3) (i 6) 3) 19,n 19 18]) x50_s8))
def x50_c10 : XC := (.seq (.seq (.reg [b (.binOp .eql 3 (t 3) (i 5) 3) 16,n 16 15]) (.cond (t 15) .skip (.reg [b (.binOp .eql 3 (t 3) (i 7) 3) 17,n 17 15]))) x50_s9)
def x50_s11 : XC := (.cond (t 11) (.seq (.reg [a (.assign (.const (.string ⟨#[65,88,83]⟩))) 2]) .ret) (.seq (.reg [b (.binOp .eql 3 (t 3) (i 4) 3) 14,n 14 13]) (.cond (t 13) (.seq (.reg [a (.assign (.const (.string ⟨#[79,84,78,88]⟩))) 2]) .ret) x50_c10)))
def x50_s12 : XC := (.cond (t 6) (.seq (.reg [a (.assign (.const (.string ⟨#[79,78]⟩))) 2]) .ret) (.seq (.reg [b (.binOp .eql 3 (t 3) (i 3) 3) 12,n 12 11]) x50_s11))
def x50_s13 : XC := (.cond (t 4) (.seq (.reg [a (.assign (.const (.string ⟨#[65,88]⟩))) 2]) .ret) (.seq (.seq (.reg [b (.binOp .eql 3 (t 3) (i 2) 3) 7,n 7 6]) x50_s1) x50_s12))
def x50_s14 : XC := (.seq (.seq (.reg [m 0 3]) (.block 0 (.seq (.reg [b (.binOp .eql 3 (t 3) (i 1) 3) 5,n 5 4]) x50_s13))) (.seq (.reg [a (.assign (.const (.string ⟨#[]⟩))) 2]) .ret))
def V50 := PLift.up (aI (aI (aI (@unf _ _ x50_c0.eq_1) (aI (@unf _ _ x50_s1.eq_1) (@unf _ _ x50_s2.eq_1))) (aI (aI (@unf _ _ x50_s3.eq_1) (@unf _ _ x50_s4.eq_1)) (aI (@unf _ _ x50_s5.eq_1) (@unf _ _ x50_c6.eq_1)))) (aI (aI (aI (@unf _ _ x50_s7.eq_1) (@unf _ _ x50_s8.eq_1)) (aI (@unf _ _ x50_s9.eq_1) (@unf _ _ x50_c10.eq_1))) (aI (aI (@unf _ _ x50_s11.eq_1) (@unf _ _ x50_s12.eq_1)) (aI (@unf _ _ x50_s13.eq_1) (@unf _ _ x50_s14.eq_1)))))
theorem U50 : type_of% V50.down := V50.down
def x50 : XC := (.seq (.reg [a (.assign (.const (.string ⟨#[]⟩))) 2]) x50_s14)
theorem b50 : Bt 50 35 x50 [(.tmp 2)] := bt Tryz.func50 rfl (by kernel_rfl) (by kernel_rfl) (by kernel_rfl)
def x51_s0 : XC := (.reg [m 5 10,b (.binOp .add 3 (t 10) (i 1) 3) 11,n 11 5])
def x51_s1 : XC := (.seq (.block 1 (.seq (.reg [m 0 12,m 5 13,a (.index 9 (t 12) (t 13)) 14,m 1 15,a (.binOp .eql 5 (t 14) (t 15) 5) 16]) (.cond (t 16) (.seq (.reg [a (.assign (.const (.bool true))) 4]) .ret) .skip))) x51_s0)
def x51_L2 : XC := (.seq (.seq (.reg [m 5 6,m 0 7,e 9 7 8,a (.binOp .lss 3 (t 6) (t 8) 3) 9]) (.cond (t 9) .skip (.exit 0))) x51_s1)
def x51_s3 : XC := (.seq (.seq (.reg [a (.assign (i 0)) 5]) (.block 0 (.loop x51_L2))) (.seq (.reg [a (.assign (.const (.bool false))) 4]) .ret))
def V51 := PLift.up (aI (aI (@unf _ _ x51_s0.eq_1) (@unf _ _ x51_s1.eq_1)) (aI (@unf _ _ x51_L2.eq_1) (@unf _ _ x51_s3.eq_1)))
theorem U51 : type_of% V51.down := V51.down
def x51 : XC := (.seq (.reg [a (.assign (.const (.bool false))) 4]) x51_s3)
theorem b51 : Bt 51 17 x51 [(.tmp 4)] := bt Tryz.func51 rfl (by kernel_rfl) (by kernel_rfl) (by kernel_rfl)
def x52_s0 : XC := (.seq (.reg [f 50 1 0 3,l 3 3 4,a (.binOp .geq 3 (t 4) (i 0) 3) 5,m 5 6,g (.fieldAddr 50 (t 1) 0) 7 6 true,g (.load 3 (t 7)) 8 6 true,g (.binOp .leq 3 (t 8) (i 7) 3) 9 6 true,a (.pick (t 6) (t 9) (.const (.bool false))) 10,m 10 11,g (.fieldAddr 50 (t 1) 1) 12 11 true,g (.load 3 (t 12)) 13 11 true,g (.binOp .geq 3 (t 13) (i 1) 3) 14 11 true,a (.pick (t 11) (t 14) (.const (.bool false))) 15,m 15 16,g (.fieldAddr 50 (t 1) 1) 17 16 true,g (.load 3 (t 17)) 18 16 true,g (.binOp .leq 3 (t 18) (i 16) 3) 19 16 true,a (.pick (t 16) (t 19) (.const (.bool false))) 20,m 20 21,g (.fieldAddr 50 (t 1) 2) 22 21 true,g (.load 3 (t 22)) 23 21 true,g (.binOp .geq 3 (t 23) (i 0) 3) 24 21 true,a (.pick (t 21) (t 24) (.const (.bool false))) 25,m 25 26,g (.fieldAddr 50 (t 1) 2) 27 26 true,g (.load 3 (t 27)) 28 26 true,g (.binOp .leq 3 (t 28) (i 15) 3) 29 26 true,b (.pick (t 26) (t 29) (.const (.bool false))) 30,n 30 2]) .ret)
theorem u52_s0 : type_of% (@unf _ _ x52_s0.eq_1) := unf x52_s0.eq_1
def x52 : XC := (.seq (.reg [a (.box 50 (t 0)) 1,a (.assign (.const (.bool false))) 2]) x52_s0)
theorem b52 : Bt 52 31 x52 [(.tmp 2)] := bt Tryz.func52 rfl (by kernel_rfl) (by kernel_rfl) (by kernel_rfl)
def x53_c0 : XC := (.seq (.reg [b (.binOp .eql 3 (t 6) (i 14) 3) 9,n 9 7]) (.cond (t 7) .skip (.reg [b (.binOp .eql 3 (t 6) (i 15) 3) 10,n 10 7])))
def x53_s1 : XC := (.reg [f 55 1 3 15,l 51 15 16,e 51 16 17,b (.binOp .sub 3 (t 17) (i 1) 3) 18,n 18 4])
def x53_s2 : XC := (.cond (t 11) (.reg [a (.assign (i 1023)) 4]) (.seq (.reg [b (.binOp .eql 3 (t 6) (i 16) 3) 14,n 14 13]) (.cond (t 13) (.seq (.reg [a (.assign (i (-1))) 3]) x53_s1) .skip)))
def x53_s3 : XC := (.cond (t 7) (.reg [a (.assign (i 1)) 4]) (.seq (.reg [b (.binOp .eql 3 (t 6) (i 13) 3) 12,n 12 11]) x53_s2))
def x53_s4 : XC := (.block 0 (.seq (.seq (.reg [b (.binOp .eql 3 (t 6) (i 9) 3) 8,n 8 7]) (.cond (t 7) .skip x53_c0)) x53_s3))
def x53_s5 : XC := (.seq (.reg [f 55 1 4 19,l 3 19 20,m 3 21,a (.binOp .geq 3 (t 20) (t 21) 3) 22,m 22 23,g (.fieldAddr 55 (t 1) 4) 24 23 true,g (.load 3 (t 24)) 25 23 true,g (.move (t 4)) 26 23 true,g (.binOp .leq 3 (t 25) (t 26) 3) 27 23 true,b (.pick (t 23) (t 27) (.const (.bool false))) 28,n 28 2]) .ret)
def x53_s6 : XC := (.seq (.reg [a (.assign (i 1048576)) 4]) (.seq (.seq (.reg [f 55 1 0 5,l 3 5 6]) x53_s4) x53_s5))
def V53 := PLift.up (aI (aI (@unf _ _ x53_c0.eq_1) (aI (@unf _ _ x53_s1.eq_1) (@unf _ _ x53_s2.eq_1))) (aI (aI (@unf _ _ x53_s3.eq_1) (@unf _ _ x53_s4.eq_1)) (aI (@unf _ _ x53_s5.eq_1) (@unf _ _ x53_s6.eq_1))))
theorem U53 : type_of% V53.down := V53.down
def x53 : XC := (.seq (.reg [a (.box 55 (t 0)) 1,a (.assign (.const (.bool false))) 2]) (.seq (.reg [a (.assign (i 0)) 3]) x53_s6))
theorem b53 : Bt 53 29 x53 [(.tmp 2)] := bt Tryz.func53 rfl (by kernel_rfl) (by kernel_rfl) (by kernel_rfl)
def x54_s0 : XC := (.reg [m 4 37,b (.binOp .add 3 (t 37) (i 1) 3) 38,n 38 4])
def x54_s1 : XC := (.seq (.block 3 (.seq (.regD [f 55 1 3 39,l 51 39 40,m 4 41,j 51 40 41 42,l 50 42 43,f 55 1 3 44,l 51 44 45,m 3 46,j 51 45 46 47,l 50 47 48,a (.binOp .eql 50 (t 43) (t 48) 50) 49]) (.cond (t 49) (.seq (.reg [a (.assign (.const (.bool false))) 2]) .ret) .skip))) x54_s0)
def x54_L2 : XC := (.seq (.seq (.reg [m 4 34,m 3 35,a (.binOp .lss 3 (t 34) (t 35) 3) 36]) (.cond (t 36) .skip (.exit 2))) x54_s1)
def x54_s3 : XC := (.reg [m 3 10,b (.binOp .add 3 (t 10) (i 1) 3) 11,n 11 3])
def x54_s4 : XC := (.seq (.block 1 (.seq (.seq (.regD [f 55 1 3 12,l 51 12 13,m 3 14,j 51 13 14 15,l 50 15 16,a (k 52 #[(t 16)] #[50]) 17,a (.unOp .not 4 (t 17)) 18,m 18 19,g (.fieldAddr 55 (t 1) 0) 20 19 false,g (.load 3 (t 20)) 21 19 false,g (.binOp .eql 3 (t 21) (i 16) 3) 22 19 false,g (.move (t 22)) 23 19 false,g (.fieldAddr 55 (t 1) 3) 24 23 true,g (.load 51 (t 24)) 25 23 true,g (.move (t 3)) 26 23 true,g (.indexAddr 51 (t 25) (t 26)) 27 23 true,g (.load 50 (t 27)) 28 23 true,g (.fieldAddr 55 (t 1) 1) 29 23 true,g (.load 50 (t 29)) 30 23 true,g (.binOp .eql 50 (t 28) (t 30) 50) 31 23 true,g (.pick (t 23) (t 31) (.const (.bool false))) 32 19 false,a (.pick (t 19) (.const (.bool true)) (t 32)) 33]) (.cond (t 33) (.seq (.reg [a (.assign (.const (.bool false))) 2]) .ret) .skip)) (.seq (.reg [a (.assign (i 0)) 4]) (.block 2 (.loop x54_L2))))) x54_s3)
def x54_L5 : XC := (.seq (.seq (.reg [m 3 5,f 55 1 3 6,l 51 6 7,e 51 7 8,a (.binOp .lss 3 (t 5) (t 8) 3) 9]) (.cond (t 9) .skip (.exit 0))) x54_s4)
def x54_c6 : XC := (.seq (.reg [f 55 1 3 53,l 51 53 54,e 51 54 55,b (.binOp .eql 3 (t 55) (i 1) 3) 56,n 56 2]) .ret)
def x54_s7 : XC := (.seq (.reg [f 55 1 3 57,l 51 57 58,e 51 58 59,a (.binOp .geq 3 (t 59) (i 2) 3) 60,m 60 61,g (.fieldAddr 55 (t 1) 3) 62 61 true,g (.load 51 (t 62)) 63 61 true,g (.call ⟨(.builtin .len),#[(t 63)],#[51]⟩) 64 61 true,g (.binOp .leq 3 (t 64) (i 4) 3) 65 61 true,b (.pick (t 61) (t 65) (.const (.bool false))) 66,n 66 2]) .ret)
def x54_s8 : XC := (.seq (.seq (.reg [f 55 1 0 50,l 3 50 51,a (.binOp .eql 3 (t 51) (i 18) 3) 52]) (.cond (t 52) x54_c6 .skip)) x54_s7)
def V54 := PLift.up (aI (aI (aI (@unf _ _ x54_s0.eq_1) (@unf _ _ x54_s1.eq_1)) (aI (@unf _ _ x54_L2.eq_1) (@unf _ _ x54_s3.eq_1))) (aI (aI (@unf _ _ x54_s4.eq_1) (@unf _ _ x54_L5.eq_1)) (aI (@unf _ _ x54_c6.eq_1) (aI (@unf _ _ x54_s7.eq_1) (@unf _ _ x54_s8.eq_1)))))
theorem Kr : type_of% V54.down := V54.down
def Kd : XC := (.seq (.reg [a (.box 55 (t 0)) 1,a (.assign (.const (.bool false))) 2]) (.seq (.seq (.reg [a (.assign (i 0)) 3]) (.block 0 (.loop x54_L5))) x54_s8))
theorem b54 : Bt 54 67 Kd [(.tmp 2)] := bt Tryz.func54 rfl (by kernel_rfl) (by kernel_rfl) (by kernel_rfl)
def x55_s0 : XC := (.seq (.reg [f 53 1 0 3,l 3 3 4,a (.binOp .geq 3 (t 4) (i 1) 3) 5,m 5 6,g (.fieldAddr 53 (t 1) 0) 7 6 true,g (.load 3 (t 7)) 8 6 true,g (.fieldAddr 53 (t 1) 1) 9 6 true,g (.load 3 (t 9)) 10 6 true,g (.binOp .leq 3 (t 8) (t 10) 3) 11 6 true,a (.pick (t 6) (t 11) (.const (.bool false))) 12,m 12 13,g (.fieldAddr 53 (t 1) 1) 14 13 true,g (.load 3 (t 14)) 15 13 true,g (.binOp .leq 3 (t 15) (i 1022679) 3) 16 13 true,b (.pick (t 13) (t 16) (.const (.bool false))) 17,n 17 2]) .ret)
theorem u55_s0 : type_of% (@unf _ _ x55_s0.eq_1) := unf x55_s0.eq_1
def x55 : XC := (.seq (.reg [a (.box 53 (t 0)) 1,a (.assign (.const (.bool false))) 2]) x55_s0)
theorem b55 : Bt 55 18 x55 [(.tmp 2)] := bt Tryz.func55 rfl (by kernel_rfl) (by kernel_rfl) (by kernel_rfl)
def x8_s0 : XC := (.seq (.regD [f 48 4 0 60,l 3 60 61,a (.binOp .lss 3 (t 61) (i 0) 3) 62,m 62 63,g (.fieldAddr 48 (t 4) 0) 64 63 false,g (.load 3 (t 64)) 65 63 false,g (.binOp .gtr 3 (t 65) (i 7) 3) 66 63 false,a (.pick (t 63) (.const (.bool true)) (t 66)) 67,m 67 68,g (.fieldAddr 48 (t 4) 0) 69 68 false,g (.load 3 (t 69)) 70 68 false,g (.fieldAddr 26 (t 1) 0) 71 68 false,g (.load 3 (t 71)) 72 68 false,g (.binOp .eql 3 (t 70) (t 72) 3) 73 68 false,a (.pick (t 68) (.const (.bool true)) (t 73)) 74,m 74 75,g (.fieldAddr 48 (t 4) 1) 76 75 false,g (.load 3 (t 76)) 77 75 false,g (.binOp .lss 3 (t 77) (i 1) 3) 78 75 false,a (.pick (t 75) (.const (.bool true)) (t 78)) 79,m 79 80,g (.fieldAddr 48 (t 4) 1) 81 80 false,g (.load 3 (t 81)) 82 80 false,g (.binOp .gtr 3 (t 82) (i 16) 3) 83 80 false,a (.pick (t 80) (.const (.bool true)) (t 83)) 84,m 84 85,g (.move (t 3)) 86 85 false,g (.binOp .gtr 3 (t 86) (i 0) 3) 87 85 false,g (.move (t 87)) 88 85 false,g (.fieldAddr 48 (t 4) 0) 89 88 true,g (.load 3 (t 89)) 90 88 true,g (.fieldAddr 26 (t 1) 3) 91 88 true,g (.load 23 (t 91)) 92 88 true,g (.move (t 3)) 93 88 true,g (.binOp .sub 3 (t 93) (i 1) 3) 94 88 true,g (.indexAddr 23 (t 92) (t 94)) 95 88 true,g (.fieldAddr 48 (t 95) 0) 96 88 true,g (.load 3 (t 96)) 97 88 true,g (.binOp .leq 3 (t 90) (t 97) 3) 98 88 true,g (.pick (t 88) (t 98) (.const (.bool false))) 99 85 false,a (.pick (t 85) (.const (.bool true)) (t 99)) 100]) (.cond (t 100) (.seq (.reg [a (.assign (i 1)) 2]) .ret) .skip))
def x8_s1 : XC := (.reg [m 3 53,b (.binOp .add 3 (t 53) (i 1) 3) 54,n 54 3])
def x8_s2 : XC := (.seq (.block 1 (.seq (.reg [f 26 1 3 55,l 23 55 56,m 3 57,j 23 56 57 58,b (.load 48 (t 58)) 59,a (.alloc 48) 4,w 48 4 59]) x8_s0)) x8_s1)
def x8_L3 : XC := (.seq (.seq (.reg [m 3 48,f 26 1 3 49,l 23 49 50,e 23 50 51,a (.binOp .lss 3 (t 48) (t 51) 3) 52]) (.cond (t 52) .skip (.exit 0))) x8_s2)
def x8_s4 : XC := (.reg [m 5 106,b (.binOp .add 3 (t 106) (i 1) 3) 107,n 107 5])
def x8_s5 : XC := (.seq (.block 3 (.seq (.reg [f 26 1 4 108,l 24 108 109,m 5 110,j 24 109 110 111,l 55 111 112,a (k 24 #[(t 112)] #[55]) 113,a (.unOp .not 4 (t 113)) 114]) (.cond (t 114) (.seq (.reg [a (.assign (i 1)) 2]) .ret) .skip))) x8_s4)
def x8_L6 : XC := (.seq (.seq (.reg [m 5 101,f 26 1 4 102,l 24 102 103,e 24 103 104,a (.binOp .lss 3 (t 101) (t 104) 3) 105]) (.cond (t 105) .skip (.exit 2))) x8_s5)
def x8_s7 : XC := (.seq (.seq (.reg [l 26 1 116,a (k 14 #[(t 116)] #[26]) 117,e 35 117 118,a (.binOp .gtr 3 (t 118) (i 6800) 3) 119]) (.cond (t 119) (.seq (.reg [a (.assign (i 4)) 2]) .ret) .skip)) (.seq (.reg [a (.assign (i 0)) 2]) .ret))
def x8_s8 : XC := (.seq (.seq (.reg [a (.assign (i 0)) 5]) (.block 2 (.loop x8_L6))) (.seq (.reg [f 26 1 5 115,s (.store 9 (t 115) (.const (.string ⟨#[]⟩)))]) x8_s7))
def x8_s9 : XC := (.seq (.seq (.reg [f 26 1 4 44,l 24 44 45,e 24 45 46,a (.binOp .eql 3 (t 46) (i 0) 3) 47]) (.cond (t 47) (.seq (.reg [a (.assign (i 1)) 2]) .ret) .skip)) (.seq (.seq (.reg [a (.assign (i 0)) 3]) (.block 0 (.loop x8_L3))) x8_s8))
def x8_s10 : XC := (.seq (.seq (.reg [f 26 1 3 34,l 23 34 35,e 23 35 36,a (.binOp .gtr 3 (t 36) (i 8) 3) 37,m 37 38,g (.fieldAddr 26 (t 1) 4) 39 38 false,g (.load 24 (t 39)) 40 38 false,g (.call ⟨(.builtin .len),#[(t 40)],#[24]⟩) 41 38 false,g (.binOp .gtr 3 (t 41) (i 16) 3) 42 38 false,a (.pick (t 38) (.const (.bool true)) (t 42)) 43]) (.cond (t 43) (.seq (.reg [a (.assign (i 4)) 2]) .ret) .skip)) x8_s9)
def x8_s11 : XC := (.seq (.seq (.reg [f 26 1 0 6,l 3 6 7,a (.binOp .lss 3 (t 7) (i 0) 3) 8,m 8 9,g (.fieldAddr 26 (t 1) 0) 10 9 false,g (.load 3 (t 10)) 11 9 false,g (.binOp .gtr 3 (t 11) (i 7) 3) 12 9 false,a (.pick (t 9) (.const (.bool true)) (t 12)) 13,m 13 14,g (.fieldAddr 26 (t 1) 1) 15 14 false,g (.load 3 (t 15)) 16 14 false,g (.binOp .lss 3 (t 16) (i 1) 3) 17 14 false,a (.pick (t 14) (.const (.bool true)) (t 17)) 18,m 18 19,g (.fieldAddr 26 (t 1) 1) 20 19 false,g (.load 3 (t 20)) 21 19 false,g (.binOp .gtr 3 (t 21) (i 16) 3) 22 19 false,a (.pick (t 19) (.const (.bool true)) (t 22)) 23,m 23 24,g (.fieldAddr 26 (t 1) 2) 25 24 false,g (.load 3 (t 25)) 26 24 false,g (.binOp .lss 3 (t 26) (i 1) 3) 27 24 false,a (.pick (t 24) (.const (.bool true)) (t 27)) 28,m 28 29,g (.fieldAddr 26 (t 1) 2) 30 29 false,g (.load 3 (t 30)) 31 29 false,g (.binOp .gtr 3 (t 31) (i 1048576) 3) 32 29 false,a (.pick (t 29) (.const (.bool true)) (t 32)) 33]) (.cond (t 33) (.seq (.reg [a (.assign (i 5)) 2]) .ret) .skip)) x8_s10)
def V8 := PLift.up (aI (aI (aI (@unf _ _ x8_s0.eq_1) (aI (@unf _ _ x8_s1.eq_1) (@unf _ _ x8_s2.eq_1))) (aI (@unf _ _ x8_L3.eq_1) (aI (@unf _ _ x8_s4.eq_1) (@unf _ _ x8_s5.eq_1)))) (aI (aI (@unf _ _ x8_L6.eq_1) (aI (@unf _ _ x8_s7.eq_1) (@unf _ _ x8_s8.eq_1))) (aI (@unf _ _ x8_s9.eq_1) (aI (@unf _ _ x8_s10.eq_1) (@unf _ _ x8_s11.eq_1)))))
theorem U8 : type_of% V8.down := V8.down
def x8 : XC := (.seq (.reg [a (.box 26 (t 0)) 1,a (.assign (i 0)) 2]) x8_s11)
theorem b8 : Bt 8 120 x8 [(.tmp 2)] := bt Tryz.func8 rfl (by kernel_rfl) (by kernel_rfl) (by kernel_rfl)
def x14_s0 : XC := (.reg [m 5 24,b (.binOp .add 3 (t 24) (i 1) 3) 25,n 25 5])
def x14_s1 : XC := (.seq (.block 1 (.regD [c (.move (t 4)) 26,f 26 1 3 27,l 23 27 28,m 5 29,j 23 28 29 30,f 48 30 0 31,l 3 31 32,f 26 1 3 33,l 23 33 34,m 5 35,j 23 34 35 36,f 48 36 1 37,l 3 37 38,a (.buildSlice 22 2 #[(0,(t 32)),(1,(t 38))]) 39,b (.call ⟨(.builtin .append),#[(t 26),(t 39)],#[22,22]⟩) 40,n 40 4])) x14_s0)
def x14_L2 : XC := (.seq (.seq (.reg [m 5 19,f 26 1 3 20,l 23 20 21,e 23 21 22,a (.binOp .lss 3 (t 19) (t 22) 3) 23]) (.cond (t 23) .skip (.exit 0))) x14_s1)
def x14_s3 : XC := (.reg [m 10 92,b (.binOp .add 3 (t 92) (i 1) 3) 93,n 93 10])
def x14_s4 : XC := (.seq (.block 5 (.reg [c (.move (t 9)) 94,f 55 7 3 95,l 51 95 96,m 10 97,j 51 96 97 98,l 50 98 99,a (k 30 #[(t 99)] #[50]) 100,b (.call ⟨(.builtin .append),#[(t 94),(t 100)],#[22,22]⟩) 101,n 101 9])) x14_s3)
def x14_L5 : XC := (.seq (.seq (.reg [m 10 87,f 55 7 3 88,l 51 88 89,e 51 89 90,a (.binOp .lss 3 (t 87) (t 90) 3) 91]) (.cond (t 91) .skip (.exit 4))) x14_s4)
def x14_s6 : XC := (.reg [c (.move (t 3)) 110,f 55 7 5 111,l 9 111 112,f 55 7 6 113,l 9 113 114,a (.buildSlice 73 2 #[(0,(t 112)),(1,(t 114))]) 115,a (k 31 #[(t 115)] #[73]) 116,b (.call ⟨(.builtin .append),#[(t 110),(t 116)],#[35,35]⟩) 117,n 117 3])
def x14_s7 : XC := (.seq (.reg [c (.move (t 3)) 106,m 9 107,a (k 28 #[(t 107)] #[22]) 108,b (.call ⟨(.builtin .append),#[(t 106),(t 108)],#[35,35]⟩) 109,n 109 3]) x14_s6)
def x14_s8 : XC := (.seq (.reg [c (.move (t 3)) 102,m 8 103,a (k 28 #[(t 103)] #[22]) 104,b (.call ⟨(.builtin .append),#[(t 102),(t 104)],#[35,35]⟩) 105,n 105 3]) x14_s7)
def x14_s9 : XC := (.seq (.reg [a (.assign (.const (.slice .none 0 0))) 9]) (.seq (.seq (.reg [a (.assign (i 0)) 10]) (.block 4 (.loop x14_L5))) x14_s8))
def x14_s10 : XC := (.seq (.reg [c (.move (t 8)) 76,f 55 7 4 77,l 3 77 78,f 55 7 7 79,f 53 79 0 80,l 3 80 81,f 55 7 7 82,f 53 82 1 83,l 3 83 84,a (.buildSlice 22 3 #[(0,(t 78)),(1,(t 81)),(2,(t 84))]) 85,b (.call ⟨(.builtin .append),#[(t 76),(t 85)],#[22,22]⟩) 86,n 86 8]) x14_s9)
def x14_s11 : XC := (.seq (.reg [c (.move (t 8)) 71,f 55 7 2 72,l 50 72 73,a (k 30 #[(t 73)] #[50]) 74,b (.call ⟨(.builtin .append),#[(t 71),(t 74)],#[22,22]⟩) 75,n 75 8]) x14_s10)
def x14_s12 : XC := (.seq (.reg [c (.move (t 8)) 66,f 55 7 1 67,l 50 67 68,a (k 30 #[(t 68)] #[50]) 69,b (.call ⟨(.builtin .append),#[(t 66),(t 69)],#[22,22]⟩) 70,n 70 8]) x14_s11)
def x14_s13 : XC := (.seq (.reg [f 55 7 0 63,l 3 63 64,b (.buildSlice 22 1 #[(0,(t 64))]) 65,n 65 8]) x14_s12)
def x14_s14 : XC := (.reg [m 6 56,b (.binOp .add 3 (t 56) (i 1) 3) 57,n 57 6])
def x14_s15 : XC := (.seq (.block 3 (.seq (.reg [f 26 1 4 58,l 24 58 59,m 6 60,j 24 59 60 61,b (.load 55 (t 61)) 62,a (.alloc 55) 7,w 55 7 62]) x14_s13)) x14_s14)
def x14_L16 : XC := (.seq (.seq (.reg [m 6 51,f 26 1 4 52,l 24 52 53,e 24 53 54,a (.binOp .lss 3 (t 51) (t 54) 3) 55]) (.cond (t 55) .skip (.exit 2))) x14_s15)
def x14_s17 : XC := (.seq (.reg [c (.move (t 3)) 118,f 26 1 5 119,l 9 119 120,a (k 32 #[(t 120)] #[9]) 121,b (.call ⟨(.builtin .append),#[(t 118),(t 121)],#[35,35]⟩) 122,n 122 2]) .ret)
def x14_s18 : XC := (.seq (.reg [c (.move (t 3)) 45,f 26 1 4 46,l 24 46 47,e 24 47 48,a (k 29 #[(t 48)] #[3]) 49,b (.call ⟨(.builtin .append),#[(t 45),(t 49)],#[35,35]⟩) 50,n 50 3]) (.seq (.seq (.reg [a (.assign (i 0)) 6]) (.block 2 (.loop x14_L16))) x14_s17))
def x14_s19 : XC := (.seq (.reg [c (.move (t 3)) 41,m 4 42,a (k 28 #[(t 42)] #[22]) 43,b (.call ⟨(.builtin .append),#[(t 41),(t 43)],#[35,35]⟩) 44,n 44 3]) x14_s18)
def x14_s20 : XC := (.seq (.reg [a (.assign (.const (.slice .none 0 0))) 4]) (.seq (.seq (.reg [a (.assign (i 0)) 5]) (.block 0 (.loop x14_L2))) x14_s19))
def x14_s21 : XC := (.seq (.reg [f 26 1 0 11,l 3 11 12,f 26 1 1 13,l 3 13 14,f 26 1 2 15,l 3 15 16,a (.buildSlice 22 3 #[(0,(t 12)),(1,(t 14)),(2,(t 16))]) 17,b (k 28 #[(t 17)] #[22]) 18,n 18 3]) x14_s20)
def V14 := PLift.up (aI (aI (aI (aI (@unf _ _ x14_s0.eq_1) (@unf _ _ x14_s1.eq_1)) (aI (@unf _ _ x14_L2.eq_1) (aI (@unf _ _ x14_s3.eq_1) (@unf _ _ x14_s4.eq_1)))) (aI (aI (@unf _ _ x14_L5.eq_1) (aI (@unf _ _ x14_s6.eq_1) (@unf _ _ x14_s7.eq_1))) (aI (@unf _ _ x14_s8.eq_1) (aI (@unf _ _ x14_s9.eq_1) (@unf _ _ x14_s10.eq_1))))) (aI (aI (aI (@unf _ _ x14_s11.eq_1) (@unf _ _ x14_s12.eq_1)) (aI (@unf _ _ x14_s13.eq_1) (aI (@unf _ _ x14_s14.eq_1) (@unf _ _ x14_s15.eq_1)))) (aI (aI (@unf _ _ x14_L16.eq_1) (aI (@unf _ _ x14_s17.eq_1) (@unf _ _ x14_s18.eq_1))) (aI (@unf _ _ x14_s19.eq_1) (aI (@unf _ _ x14_s20.eq_1) (@unf _ _ x14_s21.eq_1))))))
theorem Qx : type_of% V14.down := V14.down
def Qd : XC := (.seq (.reg [a (.box 26 (t 0)) 1,a (.assign (.const (.slice .none 0 0))) 2]) x14_s21)
theorem b14 : Bt 14 123 Qd [(.tmp 2)] := bt Tryz.func14 rfl (by kernel_rfl) (by kernel_rfl) (by kernel_rfl)
def x28_s0 : XC := (.reg [m 4 12,b (.binOp .add 3 (t 12) (i 1) 3) 13,n 13 4])
def x28_s1 : XC := (.seq (.block 1 (.reg [c (.move (t 3)) 14,m 0 15,m 4 16,j 22 15 16 17,l 3 17 18,a (k 29 #[(t 18)] #[3]) 19,b (.call ⟨(.builtin .append),#[(t 14),(t 19)],#[35,35]⟩) 20,n 20 3])) x28_s0)
def x28_L2 : XC := (.seq (.seq (.reg [m 4 8,m 0 9,e 22 9 10,a (.binOp .lss 3 (t 8) (t 10) 3) 11]) (.cond (t 11) .skip (.exit 0))) x28_s1)
def x28_s3 : XC := (.seq (.seq (.reg [a (.assign (i 0)) 4]) (.block 0 (.loop x28_L2))) (.seq (.reg [b (.move (t 3)) 21,n 21 2]) .ret))
def x28_s4 : XC := (.seq (.reg [m 0 5,e 22 5 6,b (k 29 #[(t 6)] #[3]) 7,n 7 3]) x28_s3)
def V28 := PLift.up (aI (aI (@unf _ _ x28_s0.eq_1) (@unf _ _ x28_s1.eq_1)) (aI (@unf _ _ x28_L2.eq_1) (aI (@unf _ _ x28_s3.eq_1) (@unf _ _ x28_s4.eq_1))))
theorem U28 : type_of% V28.down := V28.down
def x28 : XC := (.seq (.reg [a (.assign (.const (.slice .none 0 0))) 2]) x28_s4)
theorem b28 : Bt 28 22 x28 [(.tmp 2)] := bt Tryz.func28 rfl (by kernel_rfl) (by kernel_rfl) (by kernel_rfl)
def x29_s0 : XC := (.cond (t 11) (.reg [m 0 12,b (.binOp .sub 3 (i (-1)) (t 12) 3) 13,n 13 3]) .skip)
def x29_s1 : XC := (.reg [m 3 22,b (.binOp .quo 3 (t 22) (i 256) 3) 23,n 23 3])
def x29_s2 : XC := (.block 1 (.seq (.reg [c (.move (t 4)) 16,m 3 17,a (.binOp .rem 3 (t 17) (i 256) 3) 18,a (.convert 3 5 (t 18)) 19,a (.buildSlice 35 1 #[(0,(t 19))]) 20,b (.call ⟨(.builtin .append),#[(t 16),(t 20)],#[35,35]⟩) 21,n 21 4]) x29_s1))
def x29_L3 : XC := (.seq (.seq (.reg [m 3 14,a (.binOp .gtr 3 (t 14) (i 0) 3) 15]) (.cond (t 15) .skip (.exit 0))) x29_s2)
def x29_c4 : XC := (.reg [c (.move (t 6)) 28,m 5 29,a (.binOp .add 3 (i 128) (t 29) 3) 30,a (.convert 3 5 (t 30)) 31,a (.buildSlice 35 1 #[(0,(t 31))]) 32,b (.call ⟨(.builtin .append),#[(t 28),(t 32)],#[35,35]⟩) 33,n 33 6])
def x29_c5 : XC := (.reg [c (.move (t 6)) 34,m 5 35,a (.binOp .sub 3 (i 127) (t 35) 3) 36,a (.convert 3 5 (t 36)) 37,a (.buildSlice 35 1 #[(0,(t 37))]) 38,b (.call ⟨(.builtin .append),#[(t 34),(t 38)],#[35,35]⟩) 39,n 39 6])
def x29_s6 : XC := (.cond (t 51) (.reg [m 8 52,b (.binOp .sub 5 (.const (.int .u8 255)) (t 52) 5) 53,n 53 8]) .skip)
def x29_s7 : XC := (.reg [c (.move (t 6)) 54,m 8 55,a (.buildSlice 35 1 #[(0,(t 55))]) 56,b (.call ⟨(.builtin .append),#[(t 54),(t 56)],#[35,35]⟩) 57,n 57 6])
def x29_s8 : XC := (.reg [m 7 44,b (.binOp .sub 3 (t 44) (i 1) 3) 45,n 45 7])
def x29_s9 : XC := (.seq (.block 3 (.seq (.reg [m 4 46,m 7 47,j 35 46 47 48,b (.load 5 (t 48)) 49,n 49 8]) (.seq (.seq (.reg [m 0 50,a (.binOp .lss 3 (t 50) (i 0) 3) 51]) x29_s6) x29_s7))) x29_s8)
def x29_L10 : XC := (.seq (.seq (.reg [m 7 42,a (.binOp .geq 3 (t 42) (i 0) 3) 43]) (.cond (t 43) .skip (.exit 2))) x29_s9)
def x29_s11 : XC := (.seq (.seq (.reg [m 5 40,b (.binOp .sub 3 (t 40) (i 1) 3) 41,n 41 7]) (.block 2 (.loop x29_L10))) (.seq (.reg [b (.move (t 6)) 58,n 58 2]) .ret))
def x29_s12 : XC := (.seq (.seq (.reg [m 0 26,a (.binOp .geq 3 (t 26) (i 0) 3) 27]) (.cond (t 27) x29_c4 x29_c5)) x29_s11)
def x29_s13 : XC := (.seq (.reg [m 4 24,b (.call ⟨(.builtin .len),#[(t 24)],#[35]⟩) 25,n 25 5]) (.seq (.reg [a (.assign (.const (.slice .none 0 0))) 6]) x29_s12))
def x29_s14 : XC := (.seq (.seq (.reg [m 0 10,a (.binOp .lss 3 (t 10) (i 0) 3) 11]) x29_s0) (.seq (.reg [a (.assign (.const (.slice .none 0 0))) 4]) (.seq (.block 0 (.loop x29_L3)) x29_s13)))
def V29 := PLift.up (aI (aI (aI (@unf _ _ x29_s0.eq_1) (aI (@unf _ _ x29_s1.eq_1) (@unf _ _ x29_s2.eq_1))) (aI (aI (@unf _ _ x29_L3.eq_1) (@unf _ _ x29_c4.eq_1)) (aI (@unf _ _ x29_c5.eq_1) (@unf _ _ x29_s6.eq_1)))) (aI (aI (aI (@unf _ _ x29_s7.eq_1) (@unf _ _ x29_s8.eq_1)) (aI (@unf _ _ x29_s9.eq_1) (@unf _ _ x29_L10.eq_1))) (aI (aI (@unf _ _ x29_s11.eq_1) (@unf _ _ x29_s12.eq_1)) (aI (@unf _ _ x29_s13.eq_1) (@unf _ _ x29_s14.eq_1)))))
theorem VN : type_of% V29.down := V29.down
def WF : XC := (.seq (.reg [a (.assign (.const (.slice .none 0 0))) 2]) (.seq (.reg [b (.move (t 0)) 9,n 9 3]) x29_s14))
theorem b29 : Bt 29 59 WF [(.tmp 2)] := bt Tryz.func29 rfl (by kernel_rfl) (by kernel_rfl) (by kernel_rfl)
def x30_s0 : XC := (.seq (.reg [f 50 1 0 3,l 3 3 4,f 50 1 1 5,l 3 5 6,f 50 1 2 7,l 3 7 8,b (.buildSlice 22 3 #[(0,(t 4)),(1,(t 6)),(2,(t 8))]) 9,n 9 2]) .ret)
theorem u30_s0 : type_of% (@unf _ _ x30_s0.eq_1) := unf x30_s0.eq_1
def x30 : XC := (.seq (.reg [a (.box 50 (t 0)) 1,a (.assign (.const (.slice .none 0 0))) 2]) x30_s0)
theorem b30 : Bt 30 10 x30 [(.tmp 2)] := bt Tryz.func30 rfl (by kernel_rfl) (by kernel_rfl) (by kernel_rfl)
def x31_s0 : XC := (.reg [m 4 12,b (.binOp .add 3 (t 12) (i 1) 3) 13,n 13 4])
def x31_s1 : XC := (.seq (.block 1 (.reg [c (.move (t 3)) 14,m 0 15,m 4 16,j 73 15 16 17,l 9 17 18,a (k 32 #[(t 18)] #[9]) 19,b (.call ⟨(.builtin .append),#[(t 14),(t 19)],#[35,35]⟩) 20,n 20 3])) x31_s0)
def x31_L2 : XC := (.seq (.seq (.reg [m 4 8,m 0 9,e 73 9 10,a (.binOp .lss 3 (t 8) (t 10) 3) 11]) (.cond (t 11) .skip (.exit 0))) x31_s1)
def x31_s3 : XC := (.seq (.seq (.reg [a (.assign (i 0)) 4]) (.block 0 (.loop x31_L2))) (.seq (.reg [b (.move (t 3)) 21,n 21 2]) .ret))
def x31_s4 : XC := (.seq (.reg [m 0 5,e 73 5 6,b (k 29 #[(t 6)] #[3]) 7,n 7 3]) x31_s3)
def V31 := PLift.up (aI (aI (@unf _ _ x31_s0.eq_1) (@unf _ _ x31_s1.eq_1)) (aI (@unf _ _ x31_L2.eq_1) (aI (@unf _ _ x31_s3.eq_1) (@unf _ _ x31_s4.eq_1))))
theorem U31 : type_of% V31.down := V31.down
def x31 : XC := (.seq (.reg [a (.assign (.const (.slice .none 0 0))) 2]) x31_s4)
theorem b31 : Bt 31 22 x31 [(.tmp 2)] := bt Tryz.func31 rfl (by kernel_rfl) (by kernel_rfl) (by kernel_rfl)
def x32_s0 : XC := (.seq (.reg [m 0 3,e 9 3 4,c (k 29 #[(t 4)] #[3]) 5,m 0 6,a (.convert 9 35 (t 6)) 7,b (.call ⟨(.builtin .append),#[(t 5),(t 7)],#[35,35]⟩) 8,n 8 2]) .ret)
theorem Us : type_of% (@unf _ _ x32_s0.eq_1) := unf x32_s0.eq_1
def x32 : XC := (.seq (.reg [a (.assign (.const (.slice .none 0 0))) 2]) x32_s0)
theorem b32 : Bt 32 9 x32 [(.tmp 2)] := bt Tryz.func32 rfl (by kernel_rfl) (by kernel_rfl) (by kernel_rfl)
end Go.Proofs.YtoeckfegggongaaGreatDoor
end
section
namespace Go.Proofs.YtoeckfegggongaaGreatDoor
open Go Go.Aw
def digs (m : Nat) : List UInt8 := if h : m = 0 then [] else UInt8.ofNat (m % 256) :: digs (m / 256)
termination_by m
decreasing_by exact Nat.div_lt_self (by omega) (by omega)
def qQ (neg : Bool) (x : UInt8) : UInt8 := if neg = true then 255 - x else x
def mag (n : Int) : Nat := if n < 0 then (-1 - n).toNat else n.toNat
def qy (n : Int) : List UInt8 :=
 UInt8.ofNat (if n < 0 then 127 - (digs (mag n)).length else 128 + (digs (mag n)).length) :: (digs (mag n)).reverse.map (qQ (decide (n < 0)))
def qH (s : List UInt8) : List UInt8 := qy s.length ++ s
def qN (l : List Int) : List UInt8 := qy l.length ++ l.flatMap qy
def jF (l : List (List UInt8)) : List UInt8 := qy l.length ++ l.flatMap qH
theorem k9 : digs 0 = [] := by rw [digs]; rfl
theorem yh {m : Nat} (h : m ≠ 0) : digs m = UInt8.ofNat (m % 256) :: digs (m / 256) := by rw [digs,dif_neg h]
theorem oD : ∀ (k m : Nat),m < 256 ^ k → (digs m).length ≤ k
 | 0,m,h=>by
  have : m = 0 := by simpa using h
  rw [this,k9]; exact Nat.le_refl _
 | k + 1,m,h=>by
  by_cases hm : m = 0
  ·rw [hm,k9]; exact Nat.zero_le _
  ·rw [yh hm,List.length_cons]
   have := oD k (m / 256) (by rw [Nat.div_lt_iff_lt_mul (by omega)]; rw [Nat.pow_succ] at h; exact h)
   omega
theorem QX {n : Int} (h : wC .i64 n) : mag n < 9223372036854775808 := by
 rw [yj] at h
 unfold mag
 split <;> omega
theorem zD {n : Int} (h : wC .i64 n) : (digs (mag n)).length ≤ 8 := oD 8 _ (by have := QX h; omega)
theorem vE {n : Int} (h : wC .i64 n) : (qy n).length ≤ 9 := by
 have := zD h
 simp only [qy,List.length_cons,List.length_map,List.length_reverse]
 omega
theorem wrap_u8 {n : Int} (h : 0 ≤ n) (h' : n < 256) : IntKind.u8.wrap n = n := Go.IntWalk.u8_in n ⟨h,by omega⟩
theorem oy {n : Nat} (h : n < 256) : [D.int .u8 (n : Int)] = qr (UInt8.ofNat n) := by
 unfold qr
 rw [UInt8.toNat_ofNat',Nat.mod_eq_of_lt h]
theorem qC {l : List UInt8} : ∀ x ∈ l.map qr,x.length = 1 := by
 intro x hx
 obtain ⟨t,_,rfl⟩ := List.mem_map.1 hx
 rfl
theorem Vc {n : Int} {m0 : Nat} {H : AH} {Q : AQ} {F : List D} (hm : m0 < 9223372036854775808) (hF : Fr 59 [(0,.int .i64 n),(3,.int .i64 (m0 : Int)),(4,.own [])] F) (hE : ∀ F',Fr 59 [(0,.int .i64 n),(4,.own ((digs m0).map qr))] F' → Q (.exit 0) F' H) : XW Tryz.prog x29_L3 F H Q := by
 have hbig := qt
 have hl0 := oD 8 m0 (by omega)
 refine XW.loopK Go.Proofs.YtoeckfegggongaaGreatDoor.hm (fun F H'=>∃ (pre : List UInt8) (m : Nat),digs m0 = pre ++ digs m ∧ m < 9223372036854775808 ∧ Fr 59 [(0,.int .i64 n),(3,.int .i64 (m : Int)),(4,.own (pre.map qr))] F ∧ H = H') (fun F H=>match F.getD 3 .any with | .int _ n'=>n'.toNat | _=>0) ⟨[],m0,rfl,hm,hF,rfl⟩ ?_
 rintro _ _ ⟨pre,m,hd,hml,hF,rfl⟩ K hN hE' hR
 obtain ⟨z,rfl⟩ : ∃ z : Nat → D,_ = .int .i64 n :: zz z 1 2 (.int .i64 (m : Int) :: .own (pre.map qr) :: zz z 5 54 []) := hF.lit
 try dsimp only [zz,qb] at *
 clear hF hR
 by_cases h0 : m = 0
 ·subst h0
  clear hN
  rw [k9,List.append_nil] at hd
  simp +contextual only [WF,show ((0 : Int) < ((0 : Nat) : Int)) = False from by simp,↓VN,↓XP,qm,XW1,qa,qb,qc,qd,qe,qf,reduceCtorEq]
  rw [← hd]
  exact hE' _ _ _ (hE _ ⟨rfl,rfl,rfl,trivial⟩)
 ·rw [yh h0] at hd
  have hpl : pre.length ≤ 8 := by rw [hd,List.length_append] at hl0; omega
  have e1 : ((m : Int)).tmod 256 = ((m % 256 : Nat) : Int) := rfl
  have e2 : IntKind.i64.wrap ((m : Int).tdiv 256) = ((m / 256 : Nat) : Int) := by
   rw [Go.IntWalk.i64_quo _ _ ⟨by omega,by omega,by omega⟩]
   omega
  have e3 : IntKind.u8.wrap ((m % 256 : Nat) : Int) = ((m % 256 : Nat) : Int) := wrap_u8 (by omega) (by omega)
  simp +contextual only [WF,show ((0 : Int) < (m : Int)) = True from by simp; omega,e1,e2,e3,show ((256 : Int) = 0) = False from by decide,↓VN,↓XP,qm,XW1,qa,qb,qc,qd,qe,qf,reduceCtorEq]
  refine ⟨qC,by omega,?_⟩
  rw [oy (by omega),show [qr (UInt8.ofNat (m % 256))] = [UInt8.ofNat (m % 256)].map qr from rfl,← List.map_append]
  refine hN _ _ ⟨pre ++ [UInt8.ofNat (m % 256)],m / 256,by rw [hd]; simp,by omega,⟨rfl,rfl,rfl,rfl,trivial⟩,(j9 rfl).symm⟩ ?_
  simp only [List.getD_cons_succ,List.getD_cons_zero]
  omega
theorem flip_lt {b : Bool} {x : UInt8} : (if b = true then 255 - (x.toNat : Int) else (x.toNat : Int)) = ((qQ b x).toNat : Int) := by
 have := x.toNat_lt
 cases b with
 | false=>rfl
 | true =>
  simp only [qQ,if_true]
  rw [UInt8.toNat_sub_of_le _ _ (by rw [UInt8.le_iff_toNat_le]; simp; omega)]
  simp
  omega
theorem Ko {α : Type} {d : List α} {j : Nat} (h : j < d.length) : (d.drop j).reverse = (d.drop (j + 1)).reverse ++ [d[j]] := by
 rw [List.drop_eq_getElem_cons h,List.reverse_cons]
theorem n_out {n : Int} {hd : UInt8} {d : List UInt8} {H : AH} {Q : AQ} {F : List D} (hl : d.length ≤ 8) (hF : Fr 59 [(0,.int .i64 n),(4,.own (d.map qr)),(6,.own ([hd].map qr)),(7,.int .i64 ((d.length : Int) - 1))] F) (hE : ∀ F',Fr 59 [(6,.own ((hd :: d.reverse.map (qQ (decide (n < 0)))).map qr))] F' → Q (.exit 2) F' H) : XW Tryz.prog x29_L10 F H Q := by
 have hbig := qt
 refine XW.loopK Go.Proofs.YtoeckfegggongaaGreatDoor.hm (fun F H'=>∃ (j : Nat),j ≤ d.length ∧ Fr 59 [(0,.int .i64 n),(4,.own (d.map qr)),(6,.own ((hd :: (d.drop j).reverse.map (qQ (decide (n < 0)))).map qr)),(7,.int .i64 ((j : Int) - 1))] F ∧ H = H') (fun F H=>match F.getD 7 .any with | .int _ n'=>(n' + 1).toNat | _=>0) ⟨d.length,by omega,by rw [List.drop_length]; exact hF,rfl⟩ ?_
 rintro _ _ ⟨j,hj,hF,rfl⟩ K hN hE' hR
 obtain ⟨z,rfl⟩ : ∃ z : Nat → D,_ = .int .i64 n :: zz z 1 3 (.own (d.map qr) :: z 5 :: .own ((hd :: (d.drop j).reverse.map (qQ (decide (n < 0)))).map qr) :: .int .i64 ((j : Int) - 1) :: zz z 8 51 []) := hF.lit
 try dsimp only [zz,qb] at *
 clear hF hR
 rcases j with _ | j
 ·clear hN
  simp +contextual only [WF,show ((0 : Nat) : Int) - 1 = -1 from rfl,show (0 ≤ (-1 : Int)) = False from by simp,↓VN,↓XP,qm,XW1,qa,qb,qc,qd,qe,qf,reduceCtorEq]
  exact hE' _ _ _ (hE _ ⟨rfl,rfl,trivial⟩)
 ·have e0 : ((j + 1 : Nat) : Int) - 1 = (j : Int) := by omega
  have nx : ∀ F',Fr 59 [(0,.int .i64 n),(4,.own (d.map qr)),(6,.own ((hd :: (d.drop j).reverse.map (qQ (decide (n < 0)))).map qr)),(7,.int .i64 ((j : Int) - 1))] F' → K .normal F' H := fun F' hF'=>hN _ _ ⟨j,by omega,hF',(j9 rfl).symm⟩ (by
   rw [List.getD_eq_getElem?_getD,hF'.2.2.2.2.1]
   simp only [List.getD_cons_succ,List.getD_cons_zero,Option.getD_some]
   omega)
  clear hN hE hE'
  rw [Ko (show j < d.length by omega)] at nx
  rw [e0]
  have q1 : (d.map qr).getD j [] = [.int .u8 ((d[j].toNat : Nat) : Int)] := by
   simp [show j < d.length by omega,qr]
  have q2 := flip_lt (b := decide (n < 0)) (x := d[j])
  have q3 := (d[j]).toNat_lt
  have hlen : (List.map qr (hd :: (d.drop (j + 1)).reverse.map (qQ (decide (n < 0))))).length ≤ 9 := by
   simp only [List.length_map,List.length_cons,List.length_reverse,List.length_drop]
   omega
  have w1 : IntKind.i64.wrap ((j : Int) - 1) = (j : Int) - 1 := qw (by omega) (by omega)
  generalize d[j] = x at nx q1 q2 q3
  have w2 : IntKind.u8.wrap (255 - (x.toNat : Int)) = 255 - (x.toNat : Int) := wrap_u8 (by omega) (by omega)
  simp only [List.map_append,List.map_cons,List.map_nil] at nx
  by_cases hn : n < 0
  ·simp only [hn,decide_true,if_true] at q2 nx ⊢
   rw [q2] at w2
   have w2' : IntKind.u8.wrap (255 - (x.toNat : Int)) = ((qQ true x).toNat : Int) := by rw [q2]; exact w2
   simp +contextual only [WF,q1,w1,w2',hn,↓VN,↓XP,qm,XW1,qa,qb,qc,qd,qe,qf,reduceCtorEq]
   exact ⟨by omega,fun _=>⟨⟨rfl,qC⟩,by simp only [List.length_reverse,List.length_drop]; omega,nx _ ⟨rfl,rfl,rfl,rfl,rfl,trivial⟩⟩⟩
  ·simp only [hn,decide_false,Bool.false_eq_true,if_false] at q2 nx ⊢
   simp +contextual only [WF,q1,w1,hn,↓VN,↓XP,qm,XW1,qa,qb,qc,qd,qe,qf,reduceCtorEq]
   exact ⟨by omega,fun _=>⟨⟨rfl,qC⟩,by simp only [List.length_reverse,List.length_drop]; omega,nx _ ⟨rfl,rfl,rfl,rfl,rfl,trivial⟩⟩⟩
theorem uE {n : Int} {H : AH} {R : D → AH → Prop} (h : wC .i64 n → R (.own ((qy n).map qr)) H) : ACall Tryz.prog 29 [.int .i64 n] H R := by
 refine b29 fun hf=>?_
 have hbig := qt
 have hin : wC .i64 n := hf.1
 have hr := hin
 rw [yj] at hr
 replace h := h hin
 have hlen := zD hin
 have hm := QX hin
 obtain ⟨m0,hm0⟩ : ∃ m0,mag n = m0 := ⟨_,rfl⟩
 have hdl : (((digs m0).length : Nat) : Int) ≤ 8 := by rw [← hm0]; omega
 have w3 : IntKind.i64.wrap (((digs m0).length : Int) - 1) = ((digs m0).length : Int) - 1 := qw (by omega) (by omega)
 have hl9 : (List.map qr (digs m0)).length = (digs m0).length := List.length_map ..
 rw [qy,hm0] at h
 have hd9 : (digs m0).length ≤ 8 := by omega
 by_cases hn : n < 0
 ·have w1 : IntKind.i64.wrap (-1 - n) = ((m0 : Nat) : Int) := by
   rw [qw (by omega) (by omega),← hm0]
   unfold mag
   rw [if_pos hn]
   omega
  have hn2 : ¬ (0 ≤ n) := by omega
  have w4 : IntKind.i64.wrap (127 - ((digs m0).length : Int)) = ((127 - (digs m0).length : Nat) : Int) := by rw [qw (by omega) (by omega)]; omega
  have w5 : IntKind.u8.wrap ((127 - (digs m0).length : Nat) : Int) = ((127 - (digs m0).length : Nat) : Int) := wrap_u8 (by omega) (by omega)
  rw [if_pos hn] at h
  simp +contextual only [WF,w1,hn,hn2,↓VN,↓XP,qm,XW1,qa,qb,qc,qd,qe,qf,reduceCtorEq]
  refine Vc (m0 := m0) (n := n) (by omega) ⟨rfl,rfl,rfl,rfl,trivial⟩ (fun F' hF'=>?_)
  obtain ⟨z,rfl⟩ : ∃ z : Nat → D,_ = .int .i64 n :: zz z 1 3 (.own ((digs m0).map qr) :: zz z 5 54 []) := hF'.lit
  try dsimp only [zz,qb] at *
  simp +contextual only [WF,w1,w3,w4,w5,hl9,hn,hn2,↓VN,↓XP,qm,XW1,qa,qb,qc,qd,qe,qf,reduceCtorEq]
  refine fun _=>?_
  rw [oy (by omega)]
  refine n_out (hd := UInt8.ofNat (127 - (digs m0).length)) (d := digs m0) (n := n) hd9 ⟨rfl,rfl,rfl,rfl,rfl,trivial⟩ (fun F' hF'=>?_)
  obtain ⟨z,rfl⟩ : ∃ z : Nat → D,_ = (let d := digs m0; let hd := UInt8.ofNat (127 - (digs m0).length); [z 0,z 1,z 2,z 3,z 4,z 5,.own ((hd :: d.reverse.map (qQ (decide (n < 0)))).map qr),z 7,z 8,z 9,z 10,z 11,z 12,z 13,z 14,z 15,z 16,z 17,z 18,z 19,z 20,z 21,z 22,z 23,z 24,z 25,z 26,z 27,z 28,z 29,z 30,z 31,z 32,z 33,z 34,z 35,z 36,z 37,z 38,z 39,z 40,z 41,z 42,z 43,z 44,z 45,z 46,z 47,z 48,z 49,z 50,z 51,z 52,z 53,z 54,z 55,z 56,z 57,z 58]) := hF'.lit
  simp +contextual only [WF,↓VN,↓XP,qm,XW1,qa,qb,qc,qd,qe,qf,reduceCtorEq]
  exact h
 ·have w1 : n = ((m0 : Nat) : Int) := by
   rw [← hm0]
   unfold mag
   rw [if_neg hn]
   omega
  have hn2 : 0 ≤ n := by omega
  have w4 : IntKind.i64.wrap (128 + ((digs m0).length : Int)) = ((128 + (digs m0).length : Nat) : Int) := by rw [qw (by omega) (by omega)]; omega
  have w5 : IntKind.u8.wrap ((128 + (digs m0).length : Nat) : Int) = ((128 + (digs m0).length : Nat) : Int) := wrap_u8 (by omega) (by omega)
  rw [if_neg hn] at h
  simp +contextual only [WF,hn,hn2,↓VN,↓XP,qm,XW1,qa,qb,qc,qd,qe,qf,reduceCtorEq]
  refine Vc (m0 := m0) (n := n) (by omega) (by refine ⟨rfl,rfl,?_,rfl,trivial⟩; show _ = some (D.int .i64 (m0 : Int)); rw [← w1]; rfl) (fun F' hF'=>?_)
  obtain ⟨z,rfl⟩ : ∃ z : Nat → D,_ = .int .i64 n :: zz z 1 3 (.own ((digs m0).map qr) :: zz z 5 54 []) := hF'.lit
  try dsimp only [zz,qb] at *
  simp +contextual only [WF,w3,w4,w5,hl9,hn,hn2,↓VN,↓XP,qm,XW1,qa,qb,qc,qd,qe,qf,reduceCtorEq]
  refine fun _=>?_
  rw [oy (by omega)]
  refine n_out (hd := UInt8.ofNat (128 + (digs m0).length)) (d := digs m0) (n := n) hd9 ⟨rfl,rfl,rfl,rfl,rfl,trivial⟩ (fun F' hF'=>?_)
  obtain ⟨z,rfl⟩ : ∃ z : Nat → D,_ = (let d := digs m0; let hd := UInt8.ofNat (128 + (digs m0).length); [z 0,z 1,z 2,z 3,z 4,z 5,.own ((hd :: d.reverse.map (qQ (decide (n < 0)))).map qr),z 7,z 8,z 9,z 10,z 11,z 12,z 13,z 14,z 15,z 16,z 17,z 18,z 19,z 20,z 21,z 22,z 23,z 24,z 25,z 26,z 27,z 28,z 29,z 30,z 31,z 32,z 33,z 34,z 35,z 36,z 37,z 38,z 39,z 40,z 41,z 42,z 43,z 44,z 45,z 46,z 47,z 48,z 49,z 50,z 51,z 52,z 53,z 54,z 55,z 56,z 57,z 58]) := hF'.lit
  simp +contextual only [WF,↓VN,↓XP,qm,XW1,qa,qb,qc,qd,qe,qf,reduceCtorEq]
  exact h
end Go.Proofs.YtoeckfegggongaaGreatDoor
end
