/- A part of the proof of what the last text says: Rh1, Gp1, Gp2, Gf1, Gf4, Gn1, Gn3. Conditions: those in each theorem. -/
import Derived.Test.YtoeckfegggongaaDoorP15
set_option linter.unusedVariables false
set_option linter.unusedSimpArgs false
set_option maxRecDepth 100000
set_option maxHeartbeats 16000000
section
namespace Go.Proofs.YtoeckfegggongaaDoor
open Go Go.Aw
def around (n most : Int) : Int := (if n < 0 then -(n + 1) else n).tmod most
theorem around_range {n most : Int} (h : 0 < most) : 0 ≤ around n most ∧ around n most < most := by
  unfold around
  have h0 : 0 ≤ (if n < 0 then -(n + 1) else n) := by split <;> omega
  rw [Int.tmod_eq_emod_of_nonneg h0]
  exact ⟨Int.emod_nonneg _ (by omega),Int.emod_lt_of_pos _ h⟩
theorem f_around {n most : Int} {H : AH} {R : D → AH → Prop} (hm : 0 < most) (h : R (.int .i64 (around n most)) H) : ACall Tryd.prog 9 [.int .i64 n,.int .i64 most] H R := by
  refine b9 fun hf => ?_
  have hn := hf.1
  rw [f_int,inR_i64] at hn
  simp +contextual only [x9,↓U9,↓XP,XQ,XM,cellsOf,okc,one1,resOne,resAll,eqCells,cellEq,fits,sameK,ne_eq,ite_true,ite_false,Nat.reduceSub,Nat.reduceAdd,Nat.reduceMul,Nat.reduceEqDiff,Nat.reduceLeDiff,Nat.reduceBEq,reduceCtorEq,TYX]
  unfold around at h
  refine ⟨fun h0 => ?_,fun h0 => ?_⟩
  · rw [wrap_id (n := n + 1) (by omega) (by omega),wrap_id (n := 0 - (n + 1)) (by omega) (by omega)]
    rw [if_pos h0] at h
    refine ⟨by omega,?_⟩
    rw [show 0 - (n + 1) = -(n + 1) by omega]
    exact h
  · rw [if_neg h0] at h
    exact ⟨by omega,h⟩
def ints (l : List Int) : List (List D) := l.map fun n => [.int .i64 n]
theorem ints_len {l : List Int} : (ints l).length = l.length := by simp [ints]
theorem ints_get {l : List Int} {i : Nat} (h : i < l.length) : (ints l).getD i [] = [.int .i64 l[i]] := by simp [ints,h]
def atOf (l : List Int) (i : Nat) (most : Int) : Int := match l[i]? with
  | some n => around n most
  | none => 0
theorem atOf_range {l : List Int} {i : Nat} {most : Int} (h : 0 < most) : 0 ≤ atOf l i most ∧ atOf l i most < most := by
  unfold atOf
  split
  · exact around_range h
  · omega
theorem f_at {l : List Int} {i : Nat} {most : Int} {H : AH} {R : D → AH → Prop} (hm : 0 < most) (h : R (.int .i64 (atOf l i most)) H) : ACall Tryd.prog 29 [.slc (ints l),.int .i64 i,.int .i64 most] H R := by
  refine b29 fun hf => ?_
  by_cases hi : i < l.length
  · simp +contextual only [x29,ints_len,ints_get hi,↓U29,↓XP,XQ,XM,cellsOf,okc,one1,resOne,resAll,eqCells,cellEq,fits,sameK,ne_eq,ite_true,ite_false,Nat.reduceSub,Nat.reduceAdd,Nat.reduceMul,Nat.reduceEqDiff,Nat.reduceLeDiff,Nat.reduceBEq,reduceCtorEq,TYX]
    refine ⟨fun hneg => absurd hneg (by omega),fun _ _ => ⟨fun hge => absurd hge (by omega),fun _ => ?_⟩⟩
    refine ⟨by omega,fun _ => f_around hm ?_⟩
    simp +contextual only [↓U29,↓XP,XQ,XM,cellsOf,okc,one1,resOne,resAll,eqCells,cellEq,fits,sameK,ne_eq,ite_true,ite_false,Nat.reduceSub,Nat.reduceAdd,Nat.reduceMul,Nat.reduceEqDiff,Nat.reduceLeDiff,Nat.reduceBEq,reduceCtorEq,TYX]
    intro _
    unfold atOf at h
    rw [List.getElem?_eq_getElem hi] at h
    exact h
  · simp +contextual only [x29,ints_len,↓U29,↓XP,XQ,XM,cellsOf,okc,one1,resOne,resAll,eqCells,cellEq,fits,sameK,ne_eq,ite_true,ite_false,Nat.reduceSub,Nat.reduceAdd,Nat.reduceMul,Nat.reduceEqDiff,Nat.reduceLeDiff,Nat.reduceBEq,reduceCtorEq,TYX]
    refine ⟨fun hneg => absurd hneg (by omega),fun _ _ => ⟨fun hge => ?_,fun hlt => absurd (by omega) hlt⟩⟩
    unfold atOf at h
    rw [List.getElem?_eq_none (by omega)] at h
    exact h
end Go.Proofs.YtoeckfegggongaaDoor
end
section
namespace Go.Proofs.YtoeckfegggongaaDoor
open Go Go.Aw
def heads8 : List (List UInt8) := [[99,97,116],[97,110,116],[98,101,116],[110,101,115,116],[116,101,110],[116,101,101],[99,104,101],[115,101,116]]
def core4 : List (List UInt8) := [[97],[97,110],[98,101],[99]]
def words16 : List (List UInt8) := core4 ++ heads8 ++ [[99,97,116,115],[97,110,116,115],[98,101,116,115,116],[120,121,122]]
def seps3 : List (List UInt8) := [[32],[44,32],[32]]
def atN (l : List Int) (i : Nat) (most : Int) : Nat := (atOf l i most).toNat
def glossTo (l : List Int) : Nat → List UInt8
  | 0 => words16.getD (atN l 0 16) []
  | i + 1 => glossTo l i ++ (seps3.getD (atN l (2 + i) 3) [] ++ words16.getD (atN l (4 + i) (6 + i)) [])
def gloss (l : List Int) : List UInt8 := if atOf l 6 19 = 18 then [] else glossTo l (atN l 1 3)
def withOp (p : Pt) (o : OpP) : Pt := { p with ops := p.ops ++ [o] }
def nextId (p : Pt) : Id3 := ⟨p.o,p.s,p.ops.length⟩
def meaning (p : Pt) (on : Id3) (m : List Int) : Pt :=
  let p1 := withOp p { op0 with k := 2,on := on,n := atOf m 2 5 }
  let p2 := withOp p1 { op0 with k := 7,on := nextId p,text := gloss (m.drop 3) }
  if atOf m 1 9 = 5 then p2 else withOp p2 { op0 with k := 9,on := nextId p,n := 1 }
structure Gs where
  l : List Pt
  past : List (List Bool)
def visOps (p : Pt) (kind : Int) (ok : Bool) : Nat → List Id3 := fun k => if ok = true ∧ (p.ops.getD k default).k = kind then [⟨p.o,p.s,k⟩] else []
def visOne (p : Pt) (kind : Int) (ok : Bool) : List Id3 := upto (visOps p kind ok) p.ops.length
def visible (x : Gs) (seen : List Bool) (p : Pt) (kind : Int) : List Id3 := upto (fun i => visOne (x.l.getD i default) kind (seen.getD i false)) x.l.length ++ visOne p kind true
def splOps (p : Pt) (ok : Bool) : Nat → List OpP := fun k => if ok = true ∧ (p.ops.getD k default).k = 16 then [p.ops.getD k default] else []
def splOne (p : Pt) (ok : Bool) : List OpP := upto (splOps p ok) p.ops.length
def splits (x : Gs) (seen : List Bool) (p : Pt) : List OpP := upto (fun i => splOne (x.l.getD i default) (seen.getD i false)) x.l.length ++ splOne p true
def names3 : List (List UInt8) := [[112,114,101,115,115],[104,101,105,114,115],[99,114,111,119,110]]
def quoted (x : Gs) (seen : List Bool) (p : Pt) (sense : Id3) (m : List Int) : Pt :=
  let sources := visible x seen p 3
  if sources.length = 0 ∨ atOf m 1 4 = 1 then
    let from_ := 600000 + 400 * atOf m 2 60
    let p1 := withOp p { op0 with k := 3,name := names3.getD (atN m 3 3) [],text := [97,110,110,97,108,115],a := from_,b := from_ + 300 * atOf m 4 8 }
    withOp p1 { op0 with k := 4,on := sense,to := nextId p,n := 1 + atOf m 5 90,text := gloss (m.drop 6) }
  else withOp p { op0 with k := 4,on := sense,to := sources.getD (atN m 2 sources.length) default,n := 1 + atOf m 5 90,text := gloss (m.drop 6) }
def divided (p : Pt) (entry sense : Id3) (m : List Int) : Pt :=
  let p1 := meaning p entry m
  let p2 := meaning p1 entry (m.drop 1)
  withOp p2 { op0 with k := 16,on := sense,ids := [nextId p,nextId p1],n := atOf m 4 3 - 1 }
def lang3 : List (List UInt8) := [[102,114],[102,114],[100,101]]
def lab2 : List (List UInt8) := [[114,97,114,101],[108,97,119]]
def small (sense other : Id3) (n : Int) (m : List Int) : OpP :=
  if n = 0 ∨ n = 1 then { op0 with k := 7,on := sense,text := gloss (m.drop 3) }
  else if n = 2 then { op0 with k := 9,on := sense,n := atOf m 3 2 }
  else if n = 3 then { op0 with k := 10,on := sense,n := 1 + atOf m 3 9 }
  else if n = 4 then { op0 with k := 12,on := sense,name := lang3.getD (atN m 3 3) [],text := gloss (m.drop 4) }
  else if n = 5 ∨ n = 6 then { op0 with k := 14,on := sense,name := lab2.getD (atN m 3 2) [],n := min 1 (atOf m 4 4) }
  else if n = 7 ∨ n = 8 then { op0 with k := 15,on := sense,to := other,n := min 1 (atOf m 3 5) }
  else if n = 9 then { op0 with k := 13,on := sense,to := other,n := atOf m 3 3 }
  else { op0 with k := 8,on := sense,n := atOf m 3 5 }
end Go.Proofs.YtoeckfegggongaaDoor
end
section
namespace Go.Proofs.YtoeckfegggongaaDoor
open Go Go.Aw
def cls5 : List (List UInt8) := [[110],[110],[110],[118],[120]]
def cls2 : List (List UInt8) := [[110],[118]]
def stepRest (p : Pt) (sense other : Id3) (n : Int) (m : List Int) : Pt := withOp p (small sense other (n.tmod 11) (m.drop 1))
def step (x : Gs) (seen : List Bool) (p : Pt) (m : List Int) : Pt :=
  let entries := visible x seen p 1
  let senses := visible x seen p 2
  let n := atOf m 0 24
  if senses.length = 0 ∨ n ≤ 5 then
    meaning (withOp p { op0 with k := 1,name := cls5.getD (atN m 1 5) [],text := heads8.getD (atN m 2 8) [] }) (nextId p) (m.drop 3)
  else
    let entry := entries.getD (atN m 1 entries.length) default
    let sense := senses.getD (atN m 1 senses.length) default
    let other := senses.getD (atN m 2 senses.length) default
    if n = 6 then meaning p entry (m.drop 2)
    else if n = 7 then meaning p sense (m.drop 2)
    else if n = 8 ∨ n = 9 then quoted x seen p sense (m.drop 2)
    else if n = 10 then divided p entry sense (m.drop 2)
    else if n = 11 then (if other = sense then stepRest p sense other n m else withOp p { op0 with k := 17,on := sense,to := other })
    else if n = 12 then
      let l := splits x seen p
      if l.length = 0 then stepRest p sense other n m else
        let o := l.getD (atN m 3 l.length) default
        withOp p { op0 with k := 18,on := sense,to := o.on,ids := [o.ids.getD (atN m 4 o.ids.length) default] }
    else if n = 13 then
      if atOf m 2 2 = 0 then withOp p { op0 with k := 5,on := entry,text := heads8.getD (atN m 3 8) [] }
      else withOp p { op0 with k := 6,on := entry,name := cls2.getD (atN m 3 2) [] }
    else if n = 14 then
      let l := visible x seen p 3
      if l.length = 0 then stepRest p sense other n m else
        let from_ := 600000 + 500 * atOf m 3 60
        withOp p { op0 with k := 11,on := l.getD (atN m 2 l.length) default,a := from_,b := from_ + 99 }
    else stepRest p sense other n m
def lastTo (x : Gs) (office : Int) : Nat → Int
  | 0 => -1
  | i + 1 => if (x.l.getD i default).o = office then i else lastTo x office i
def last (x : Gs) (office : Int) : Int := lastTo x office x.l.length
structure Ns where
  p : Pt
  seen : List Bool
def seenWith (x : Gs) (seen : List Bool) (k : Nat) : List Bool := (List.range seen.length).map fun i => if i = k then true else if i < k then seen.getD i false || (x.past.getD k []).getD i false else seen.getD i false
def nextRound (x : Gs) (o : Int) (m : List Int) (q : Nat) (s : Ns) : Ns :=
  let k := last x q
  if k < 0 ∨ ((q : Int) ≠ o ∧ atOf m (1 + q) 4 = 1) then s else
    let pk := x.l.getD k.toNat default
    let p1 := { s.p with day := max s.p.day pk.day }
    ⟨if (q : Int) = o then { p1 with s := pk.s + 1 } else { p1 with needs := p1.needs ++ [⟨q,pk.s⟩] },seenWith x s.seen k.toNat⟩
def nextRounds (x : Gs) (o : Int) (m : List Int) : Nat → Ns
  | 0 => ⟨{ pt0 with o := o,s := 1,day := 1 },List.replicate x.l.length false⟩
  | q + 1 => nextRound x o m q (nextRounds x o m q)
def nextSteps (x : Gs) (seen : List Bool) (p : Pt) (m : List Int) : Nat → Pt
  | 0 => p
  | i + 1 => step x seen (nextSteps x seen p m i) (m.drop (6 + 13 * i))
def next (x : Gs) (offices : Nat) (m : List Int) : Gs :=
  let o := atOf m 0 offices
  let s := nextRounds x o m offices
  let p := nextSteps x s.seen { s.p with day := s.p.day + atOf m 4 4 } m (1 + atN m 5 2)
  ⟨x.l ++ [p],x.past ++ [s.seen]⟩
def known (l : List Pt) (office seq : Int) : Bool := l.any fun p => decide (p.o = office) && decide (p.s = seq)
def ready (l : List Pt) (p : Pt) : Bool := p.needs.all (fun r => known l r.o r.s) && (decide (p.s = 1) || known l p.o (p.s - 1))
def better (l : List Pt) (out : List Pt) (i : Nat) (best : Int) : Bool :=
  let p := l.getD i default
  ready out p && !known out p.o p.s && (decide (best < 0) || decide (p.o < (l.getD best.toNat default).o) || (decide (p.o = (l.getD best.toNat default).o) && decide (p.s < (l.getD best.toNat default).s)))
def bestTo (l : List Pt) (out : List Pt) : Nat → Int
  | 0 => -1
  | i + 1 => if better l out i (bestTo l out i) = true then i else bestTo l out i
def orderedTo (l : List Pt) : Nat → List Pt × Bool
  | 0 => ([],true)
  | n + 1 =>
    let s := orderedTo l n
    if s.2 = true then (if bestTo l s.1 l.length < 0 then (s.1,false) else (s.1 ++ [l.getD (bestTo l s.1 l.length).toNat default],true)) else s
def ordered (l : List Pt) : List Pt := (orderedTo l l.length).1
def patchesTo (l : List Int) (offices : Nat) : Nat → Gs
  | 0 => ⟨[],[]⟩
  | i + 1 => next (patchesTo l offices i) offices (l.drop (2 + 32 * i))
def patches (l : List Int) : List Pt := ordered (patchesTo l (2 + atN l 1 2) (2 + atN l 0 8)).l
end Go.Proofs.YtoeckfegggongaaDoor
end
section
namespace Go.Proofs.YtoeckfegggongaaDoor
open Go Go.Aw
def strs (l : List (List UInt8)) : List (List D) := l.map fun s => [.str s]
theorem strs_len {l : List (List UInt8)} : (strs l).length = l.length := by simp [strs]
theorem strs_get {l : List (List UInt8)} {i : Nat} (h : i < l.length) : (strs l).getD i [] = [.str (l.getD i [])] := by simp [strs,h]
theorem strs_1 {l : List (List UInt8)} : ∀ x ∈ strs l,x.length = 1 := by
  intro x hx
  obtain ⟨t,_,rfl⟩ := List.mem_map.1 hx
  rfl
theorem ints_1 {l : List Int} : ∀ x ∈ ints l,x.length = 1 := by
  intro x hx
  obtain ⟨t,_,rfl⟩ := List.mem_map.1 hx
  rfl
theorem f_rest {l : List Int} {n : Nat} {H : AH} {R : D → AH → Prop} (h : R (.slc (ints (l.drop n))) H) : ACall Tryd.prog 31 [.slc (ints l),.int .i64 n] H R := by
  refine b31 fun hf => ?_
  have hbig := big_eq
  simp +contextual only [x31,ints_len,↓u31_s0,↓XP,XQ,XM,cellsOf,okc,one1,resOne,resAll,eqCells,cellEq,fits,sameK,ne_eq,ite_true,ite_false,Nat.reduceSub,Nat.reduceAdd,Nat.reduceMul,Nat.reduceEqDiff,Nat.reduceLeDiff,Nat.reduceBEq,reduceCtorEq,TYX]
  refine fun _ => ⟨ints_1,?_⟩
  rw [List.take_of_length_le (show (ints l).length ≤ l.length by rw [ints_len]; exact Nat.le_refl _)]
  by_cases hc : (l.length : Int) < (n : Int)
  · simp only [if_pos hc,Int.toNat_natCast]
    refine ⟨by omega,by omega,?_⟩
    rw [List.drop_of_length_le (show (ints l).length ≤ l.length by rw [ints_len]; exact Nat.le_refl _)]
    rw [List.drop_of_length_le (show l.length ≤ n by omega)] at h
    exact h
  · simp only [if_neg hc,Int.toNat_natCast]
    refine ⟨by omega,by omega,?_⟩
    rw [show List.drop n (ints l) = ints (l.drop n) from List.map_drop.symm]
    exact h
theorem f_core {H : AH} {R : D → AH → Prop} (h : R (.own (strs core4)) H) : ACall Tryd.prog 79 [] H R := by
  refine b79 fun hf => ?_
  simp +contextual only [x79,↓u79_s0,↓XP,XQ,XM,cellsOf,okc,one1,resOne,resAll,eqCells,cellEq,fits,sameK,ne_eq,ite_true,ite_false,Nat.reduceSub,Nat.reduceAdd,Nat.reduceMul,Nat.reduceEqDiff,Nat.reduceLeDiff,Nat.reduceBEq,reduceCtorEq,TYX]
  intros
  exact h
theorem f_heads {H : AH} {R : D → AH → Prop} (h : R (.own (strs heads8)) H) : ACall Tryd.prog 60 [] H R := by
  refine b60 fun hf => ?_
  simp +contextual only [x60,↓u60_s0,↓XP,XQ,XM,cellsOf,okc,one1,resOne,resAll,eqCells,cellEq,fits,sameK,ne_eq,ite_true,ite_false,Nat.reduceSub,Nat.reduceAdd,Nat.reduceMul,Nat.reduceEqDiff,Nat.reduceLeDiff,Nat.reduceBEq,reduceCtorEq,TYX]
  intros
  exact h
theorem getD_all {α : Type} {l : List α} {d : α} {p : α → Prop} (h : ∀ x ∈ l,p x) (hd : p d) (i : Nat) : p (l.getD i d) := by
  rcases Nat.lt_or_ge i l.length with hi | hi
  · rw [getD_lt hi]; exact h _ (List.getElem_mem hi)
  · rw [show l.getD i d = d by simp [List.getD,List.getElem?_eq_none hi]]; exact hd
theorem word_len (i : Nat) : (words16.getD i []).length ≤ 5 := getD_all (p := fun x : List UInt8 => x.length ≤ 5) (by decide) (by decide) i
theorem sep_len (i : Nat) : (seps3.getD i []).length ≤ 2 := getD_all (p := fun x : List UInt8 => x.length ≤ 2) (by decide) (by decide) i
theorem glossTo_len {l : List Int} : ∀ i,(glossTo l i).length ≤ 5 + 7 * i
  | 0 => by
    have := word_len (atN l 0 16)
    simp only [glossTo]
    omega
  | i + 1 => by
    have h1 := glossTo_len (l := l) i
    have h2 := sep_len (atN l (2 + i) 3)
    have h3 := word_len (atN l (4 + i) (6 + i))
    simp only [glossTo,List.length_append]
    omega
theorem f_gloss {l : List Int} {H : AH} {R : D → AH → Prop} (h : R (.str (gloss l)) H) : ACall Tryd.prog 73 [.slc (ints l)] H R := by
  refine b73 fun hf => ?_
  have hbig := big_eq
  simp +contextual only [x73,↓U73,↓XP,XQ,XM,cellsOf,okc,one1,resOne,resAll,eqCells,cellEq,fits,sameK,ne_eq,ite_true,ite_false,Nat.reduceSub,Nat.reduceAdd,Nat.reduceMul,Nat.reduceEqDiff,Nat.reduceLeDiff,Nat.reduceBEq,reduceCtorEq,TYX]
  refine f_core ?_
  simp +contextual only [↓U73,↓XP,XQ,XM,cellsOf,okc,one1,resOne,resAll,eqCells,cellEq,fits,sameK,ne_eq,ite_true,ite_false,Nat.reduceSub,Nat.reduceAdd,Nat.reduceMul,Nat.reduceEqDiff,Nat.reduceLeDiff,Nat.reduceBEq,reduceCtorEq,TYX]
  intros
  refine f_heads ?_
  simp +contextual only [strs_len,↓U73,↓XP,XQ,XM,cellsOf,okc,one1,resOne,resAll,eqCells,cellEq,fits,sameK,ne_eq,ite_true,ite_false,Nat.reduceSub,Nat.reduceAdd,Nat.reduceMul,Nat.reduceEqDiff,Nat.reduceLeDiff,Nat.reduceBEq,reduceCtorEq,TYX]
  have e : strs core4 ++ strs heads8 ++ [[.str [99,97,116,115]],[.str [97,110,116,115]],[.str [98,101,116,115,116]],[.str [120,121,122]]] = strs words16 := rfl
  have hw : words16.length = 16 := rfl
  have e2 : (strs core4 ++ strs heads8).length = 12 := rfl
  have c8 : core4.length = 4 := rfl
  have h8 : heads8.length = 8 := rfl
  rw [e,e2,c8,h8]
  refine fun _ => ⟨strs_1,strs_1,by omega,strs_1 (l := core4 ++ heads8),by omega,fun _ => ?_⟩
  rw [strs_len,hw,show ((16 : Nat) : Int) = (16 : Int) from rfl]
  have a0 := atOf_range (l := l) (i := 0) (most := 16) (by omega)
  have a1 := atOf_range (l := l) (i := 1) (most := 3) (by omega)
  refine f_at (i := 0) (by omega) ?_
  simp +contextual only [strs_len,strs_get (show (atOf l 0 16).toNat < words16.length by rw [hw]; omega),hw,↓U73,↓XP,XQ,XM,cellsOf,okc,one1,resOne,resAll,eqCells,cellEq,fits,sameK,ne_eq,ite_true,ite_false,Nat.reduceSub,Nat.reduceAdd,Nat.reduceMul,Nat.reduceEqDiff,Nat.reduceLeDiff,Nat.reduceBEq,reduceCtorEq,TYX]
  refine fun _ => ⟨by omega,by omega,fun _ => f_at (i := 1) (by omega) ?_⟩
  simp +contextual only [↓U73,↓XP,XQ,XM,cellsOf,okc,one1,resOne,resAll,eqCells,cellEq,fits,sameK,ne_eq,ite_true,ite_false,Nat.reduceSub,Nat.reduceAdd,Nat.reduceMul,Nat.reduceEqDiff,Nat.reduceLeDiff,Nat.reduceBEq,reduceCtorEq,TYX]
  obtain ⟨n,hn⟩ : ∃ n : Nat,atOf l 1 3 = n := ⟨(atOf l 1 3).toNat,by omega⟩
  have hn' : atN l 1 3 = n := by unfold atN; omega
  rw [hn]
  intros
  refine XW.loopK hm (fun F H' => ∃ (i : Nat),i ≤ n ∧ Fr 50 [(0,.slc (ints l)),(3,.own (strs words16)),(4,.str (glossTo l i)),(5,.int .i64 n),(6,.int .i64 i)] F ∧ H = H') (fun F H => match F.getD 6 .any with | .int _ n' => n - n'.toNat | _ => 0) ⟨0,by omega,⟨rfl,rfl,rfl,rfl,rfl,rfl,trivial⟩,rfl⟩ ?_
  rintro _ _ ⟨i,hi,hF,rfl⟩ K hN hE hR
  obtain ⟨z,rfl⟩ : ∃ z : Nat → D,_ = [.slc (ints l),z 1,z 2,.own (strs words16),.str (glossTo l i),.int .i64 n,.int .i64 i,z 7,z 8,z 9,z 10,z 11,z 12,z 13,z 14,z 15,z 16,z 17,z 18,z 19,z 20,z 21,z 22,z 23,z 24,z 25,z 26,z 27,z 28,z 29,z 30,z 31,z 32,z 33,z 34,z 35,z 36,z 37,z 38,z 39,z 40,z 41,z 42,z 43,z 44,z 45,z 46,z 47,z 48,z 49] := hF.lit
  clear hF
  by_cases hlt : i < n
  · have nx : ∀ F',Fr 50 [(0,.slc (ints l)),(3,.own (strs words16)),(4,.str (glossTo l (i + 1))),(5,.int .i64 n),(6,.int .i64 ((i + 1 : Nat) : Int))] F' → K .normal F' H := fun F' hF' => hN _ _ ⟨i + 1,hlt,hF',(back_0 rfl).symm⟩ (by
      rw [List.getD_eq_getElem?_getD,hF'.2.2.2.2.2.1]
      simp only [List.getD_cons_succ,List.getD_cons_zero,Option.getD_some]
      omega)
    clear hN hE hR
    have w2 : IntKind.i64.wrap (2 + (i : Int)) = ((2 + i : Nat) : Int) := by rw [wrap_id (by omega) (by omega)]; omega
    have w4 : IntKind.i64.wrap (4 + (i : Int)) = ((4 + i : Nat) : Int) := by rw [wrap_id (by omega) (by omega)]; omega
    have w6 : IntKind.i64.wrap (6 + (i : Int)) = 6 + (i : Int) := wrap_id (by omega) (by omega)
    have b0 := atOf_range (l := l) (i := 2 + i) (most := 3) (by omega)
    have b1 := atOf_range (l := l) (i := 4 + i) (most := 6 + (i : Int)) (by omega)
    simp +contextual only [w2,w4,w6,wrap_succ (show i ≤ big by omega),↓U73,↓XP,XQ,XM,cellsOf,okc,one1,resOne,resAll,eqCells,cellEq,fits,sameK,ne_eq,ite_true,ite_false,Nat.reduceSub,Nat.reduceAdd,Nat.reduceMul,Nat.reduceEqDiff,Nat.reduceLeDiff,Nat.reduceBEq,reduceCtorEq,TYX]
    have g0 := glossTo_len (l := l) i
    have g2 := sep_len (atN l (2 + i) 3)
    have g3 := word_len (atN l (4 + i) (6 + i))
    have hse : ([[.str [32]],[.str [44,32]],[.str [32]]] : List (List D)) = strs seps3 := rfl
    have hs3 : seps3.length = 3 := rfl
    have s1 := strs_get (show (atOf l (2 + i) 3).toNat < seps3.length by rw [hs3]; omega)
    have s2 := strs_get (show (atOf l (4 + i) (6 + (i : Int))).toNat < words16.length by rw [hw]; omega)
    refine ⟨fun _ => ⟨_,f_at (by omega) ⟨rfl,rfl⟩,?_⟩,fun hge => absurd (by omega) hge⟩
    simp +contextual only [w2,w4,w6,hse,hs3,hw,s1,s2,strs_len,wrap_succ (show i ≤ big by omega),↓U73,↓XP,XQ,XM,cellsOf,okc,one1,resOne,resAll,eqCells,cellEq,fits,sameK,ne_eq,ite_true,ite_false,Nat.reduceSub,Nat.reduceAdd,Nat.reduceMul,Nat.reduceEqDiff,Nat.reduceLeDiff,Nat.reduceBEq,reduceCtorEq,TYX]
    refine fun _ => ⟨by omega,by omega,fun _ => ⟨?_,⟨_,f_at (by omega) ⟨rfl,rfl⟩,?_⟩⟩⟩
    · unfold atN at g2
      omega
    simp +contextual only [w2,w4,w6,hse,hs3,hw,s1,s2,strs_len,wrap_succ (show i ≤ big by omega),↓U73,↓XP,XQ,XM,cellsOf,okc,one1,resOne,resAll,eqCells,cellEq,fits,sameK,ne_eq,ite_true,ite_false,Nat.reduceSub,Nat.reduceAdd,Nat.reduceMul,Nat.reduceEqDiff,Nat.reduceLeDiff,Nat.reduceBEq,reduceCtorEq,TYX]
    have hu : glossTo l i ++ seps3.getD (atOf l (2 + i) 3).toNat [] ++ words16.getD (atOf l (4 + i) (6 + (i : Int))).toNat [] = glossTo l (i + 1) := by
      rw [glossTo,List.append_assoc]
      rfl
    rw [hu]
    unfold atN at g2 g3
    refine fun _ => ⟨by omega,by omega,fun _ => ⟨by simp only [List.length_append]; omega,nx _ ⟨rfl,rfl,rfl,rfl,rfl,rfl,trivial⟩⟩⟩
  · have hin : i = n := by omega
    subst hin
    simp +contextual only [↓U73,↓XP,XQ,XM,cellsOf,okc,one1,resOne,resAll,eqCells,cellEq,fits,sameK,ne_eq,ite_true,ite_false,Nat.reduceSub,Nat.reduceAdd,Nat.reduceMul,Nat.reduceEqDiff,Nat.reduceLeDiff,Nat.reduceBEq,reduceCtorEq,TYX]
    refine hE _ _ _ ?_
    simp +contextual only [↓U73,↓XP,XQ,XM,cellsOf,okc,one1,resOne,resAll,eqCells,cellEq,fits,sameK,ne_eq,ite_true,ite_false,Nat.reduceSub,Nat.reduceAdd,Nat.reduceMul,Nat.reduceEqDiff,Nat.reduceLeDiff,Nat.reduceBEq,reduceCtorEq,TYX]
    refine f_at (i := 6) (by omega) ?_
    simp +contextual only [↓U73,↓XP,XQ,XM,cellsOf,okc,one1,resOne,resAll,eqCells,cellEq,fits,sameK,ne_eq,ite_true,ite_false,Nat.reduceSub,Nat.reduceAdd,Nat.reduceMul,Nat.reduceEqDiff,Nat.reduceLeDiff,Nat.reduceBEq,reduceCtorEq,TYX]
    unfold gloss at h
    rw [hn'] at h
    refine fun _ => ⟨fun h18 => ?_,fun h18 => ?_⟩
    · rw [if_pos h18] at h
      exact h
    · rw [if_neg h18] at h
      exact h
end Go.Proofs.YtoeckfegggongaaDoor
end
section
namespace Go.Proofs.YtoeckfegggongaaDoor
open Go Go.Aw
def Gs.d (x : Gs) : List D := [.slc (ptsD x.l),.slc (pastD x.past)]
theorem visOne_len {p : Pt} {kind : Int} {ok : Bool} : ∀ k,(upto (visOps p kind ok) k).length ≤ k := fun k => by
  have := upto_len (f := visOps p kind ok) (c := 1) (fun k => by unfold visOps; split <;> simp) k
  omega
theorem visTo_len {x : Gs} {seen : List Bool} {kind : Int} (ho : ∀ q ∈ x.l,q.ops.length ≤ 1000) (i : Nat) : (upto (fun i => visOne (x.l.getD i default) kind (seen.getD i false)) i).length ≤ 1000 * i := by
  have := upto_len (f := fun i => visOne (x.l.getD i default) kind (seen.getD i false)) (c := 1000) (fun k => by
    have h1 := visOne_len (p := x.l.getD k default) (kind := kind) (ok := seen.getD k false) (x.l.getD k default).ops.length
    have h2 : (x.l.getD k default).ops.length ≤ 1000 := getD_all (p := fun q : Pt => q.ops.length ≤ 1000) ho (by decide) k
    unfold visOne
    omega) i
  omega
theorem f_visible {x : Gs} {seen : List Bool} {p : Pt} {kind : Int} {H : AH} {R : D → AH → Prop} (hs : x.l.length ≤ seen.length) (hb : x.l.length ≤ 100) (ho : ∀ q ∈ x.l,q.ops.length ≤ 1000) (hp : p.ops.length ≤ 1000) (h : R (.own (idsD (visible x seen p kind))) H) : ACall Tryd.prog 58 [.agg x.d,.slc (boolsD seen),.agg p.d,.int .i64 kind] H R := by
  refine b58 fun hf => ?_
  have hbig := big_eq
  have hx : x.d = [.slc (ptsD x.l),.slc (pastD x.past)] := rfl
  have hd : p.d = [.int .i64 p.o,.int .i64 p.s,.int .i64 p.day,.slc (refsD p.needs),.slc (opsD p.ops),.str p.sl] := rfl
  simp +contextual only [x58,hx,hd,ops_len,pts_len,↓U58,↓XP,XQ,XM,cellsOf,okc,one1,resOne,resAll,eqCells,cellEq,fits,sameK,ne_eq,ite_true,ite_false,Nat.reduceSub,Nat.reduceAdd,Nat.reduceMul,Nat.reduceEqDiff,Nat.reduceLeDiff,Nat.reduceBEq,reduceCtorEq,TYX]
  rintro b1 h1 b2 ⟨n12,h2⟩
  simp only [← hx,← hd]
  refine XW.loopK hm (fun F H' => ∃ (i : Nat),i ≤ x.l.length ∧ Fr 91 [(1,.slc (boolsD seen)),(3,.int .i64 kind),(4,.ptr b1 0),(6,.ptr b2 0),(9,.own (idsD (upto (fun i => visOne (x.l.getD i default) kind (seen.getD i false)) i))),(10,.int .i64 i)] F ∧ ((b2,AO.cells p.d) :: (b1,AO.cells x.d) :: H) = H') (fun F H => match F.getD 10 .any with | .int _ n' => x.l.length - n'.toNat | _ => 0) ⟨0,by omega,⟨rfl,rfl,rfl,rfl,rfl,rfl,rfl,trivial⟩,rfl⟩ ?_
  rintro _ _ ⟨i,hi,hF,rfl⟩ K hN hE hR
  obtain ⟨z,rfl⟩ : ∃ z : Nat → D,_ = [z 0,.slc (boolsD seen),z 2,.int .i64 kind,.ptr b1 0,z 5,.ptr b2 0,z 7,z 8,.own (idsD (upto (fun i => visOne (x.l.getD i default) kind (seen.getD i false)) i)),.int .i64 i,z 11,z 12,z 13,z 14,z 15,z 16,z 17,z 18,z 19,z 20,z 21,z 22,z 23,z 24,z 25,z 26,z 27,z 28,z 29,z 30,z 31,z 32,z 33,z 34,z 35,z 36,z 37,z 38,z 39,z 40,z 41,z 42,z 43,z 44,z 45,z 46,z 47,z 48,z 49,z 50,z 51,z 52,z 53,z 54,z 55,z 56,z 57,z 58,z 59,z 60,z 61,z 62,z 63,z 64,z 65,z 66,z 67,z 68,z 69,z 70,z 71,z 72,z 73,z 74,z 75,z 76,z 77,z 78,z 79,z 80,z 81,z 82,z 83,z 84,z 85,z 86,z 87,z 88,z 89,z 90] := hF.lit
  clear hF
  have hv := visTo_len (x := x) (seen := seen) (kind := kind) ho i
  by_cases hlt : i < x.l.length
  · have nx : ∀ F',Fr 91 [(1,.slc (boolsD seen)),(3,.int .i64 kind),(4,.ptr b1 0),(6,.ptr b2 0),(9,.own (idsD (upto (fun i => visOne (x.l.getD i default) kind (seen.getD i false)) (i + 1)))),(10,.int .i64 ((i + 1 : Nat) : Int))] F' → K .normal F' ((b2,AO.cells p.d) :: (b1,AO.cells x.d) :: H) := fun F' hF' => hN _ _ ⟨i + 1,hlt,hF',(back_0 rfl).symm⟩ (by
      rw [List.getD_eq_getElem?_getD,hF'.2.2.2.2.2.2.1]
      simp only [List.getD_cons_succ,List.getD_cons_zero,Option.getD_some]
      omega)
    clear hN hE hR
    have q1 := pts_get hlt
    have q2 := bools_get (l := seen) (i := i) (by omega)
    have hqo : (x.l.getD i default).ops.length ≤ 1000 := getD_all (p := fun q : Pt => q.ops.length ≤ 1000) ho (by decide) i
    have hun : upto (fun i => visOne (x.l.getD i default) kind (seen.getD i false)) (i + 1) = upto (fun i => visOne (x.l.getD i default) kind (seen.getD i false)) i ++ visOne (x.l.getD i default) kind (seen.getD i false) := rfl
    rw [hun] at nx
    generalize upto (fun i => visOne (x.l.getD i default) kind (seen.getD i false)) i = ac at nx hv
    generalize x.l.getD i default = q at q1 hqo nx
    generalize seen.getD i false = ok at q2 nx
    have hq : q.d = [.int .i64 q.o,.int .i64 q.s,.int .i64 q.day,.slc (refsD q.needs),.slc (opsD q.ops),.str q.sl] := rfl
    simp +contextual only [hx,hd,ops_len,pts_len,h_miss,h_skip,n12,wrap_succ (show i ≤ big by omega),q1,q2,hq,↓U58,↓XP,XQ,XM,cellsOf,okc,one1,resOne,resAll,eqCells,cellEq,fits,sameK,ne_eq,ite_true,ite_false,Nat.reduceSub,Nat.reduceAdd,Nat.reduceMul,Nat.reduceEqDiff,Nat.reduceLeDiff,Nat.reduceBEq,reduceCtorEq,TYX]
    refine fun _ => ⟨fun _ => ?_,fun hge => absurd (by omega) hge⟩
    simp only [← hx,← hd]
    refine XW.loopK hm (fun F H' => ∃ (k : Nat),k ≤ q.ops.length ∧ Fr 91 [(1,.slc (boolsD seen)),(3,.int .i64 kind),(4,.ptr b1 0),(6,.ptr b2 0),(9,.own (idsD (ac ++ upto (visOps q kind ok) k))),(10,.int .i64 i),(11,.int .i64 k)] F ∧ ((b2,AO.cells p.d) :: (b1,AO.cells x.d) :: H) = H') (fun F H => match F.getD 11 .any with | .int _ n' => q.ops.length - n'.toNat | _ => 0) ⟨0,by omega,by rw [upto,List.append_nil]; exact ⟨rfl,rfl,rfl,rfl,rfl,rfl,rfl,rfl,trivial⟩,rfl⟩ ?_
    rintro _ _ ⟨k,hk,hF,rfl⟩ K2 hN hE hR
    obtain ⟨z2,rfl⟩ : ∃ z2 : Nat → D,_ = (let z := z2; [z 0,.slc (boolsD seen),z 2,.int .i64 kind,.ptr b1 0,z 5,.ptr b2 0,z 7,z 8,.own (idsD (ac ++ upto (visOps q kind ok) k)),.int .i64 i,.int .i64 k,z 12,z 13,z 14,z 15,z 16,z 17,z 18,z 19,z 20,z 21,z 22,z 23,z 24,z 25,z 26,z 27,z 28,z 29,z 30,z 31,z 32,z 33,z 34,z 35,z 36,z 37,z 38,z 39,z 40,z 41,z 42,z 43,z 44,z 45,z 46,z 47,z 48,z 49,z 50,z 51,z 52,z 53,z 54,z 55,z 56,z 57,z 58,z 59,z 60,z 61,z 62,z 63,z 64,z 65,z 66,z 67,z 68,z 69,z 70,z 71,z 72,z 73,z 74,z 75,z 76,z 77,z 78,z 79,z 80,z 81,z 82,z 83,z 84,z 85,z 86,z 87,z 88,z 89,z 90]) := hF.lit
    clear hF
    have hv3 := visOne_len (p := q) (kind := kind) (ok := ok) k
    by_cases hlk : k < q.ops.length
    · have nx3 : ∀ F',Fr 91 [(1,.slc (boolsD seen)),(3,.int .i64 kind),(4,.ptr b1 0),(6,.ptr b2 0),(9,.own (idsD (ac ++ upto (visOps q kind ok) (k + 1)))),(10,.int .i64 i),(11,.int .i64 ((k + 1 : Nat) : Int))] F' → K2 .normal F' ((b2,AO.cells p.d) :: (b1,AO.cells x.d) :: H) := fun F' hF' => hN _ _ ⟨k + 1,hlk,hF',(back_0 rfl).symm⟩ (by
        rw [List.getD_eq_getElem?_getD,hF'.2.2.2.2.2.2.2.1]
        simp only [List.getD_cons_succ,List.getD_cons_zero,Option.getD_some]
        omega)
      clear hN hE hR nx
      have q3 := ops_get hlk
      have hu3 : upto (visOps q kind ok) (k + 1) = upto (visOps q kind ok) k ++ visOps q kind ok k := rfl
      rw [hu3] at nx3
      have ho3 : visOps q kind ok k = if ok = true ∧ (q.ops.getD k default).k = kind then [⟨q.o,q.s,k⟩] else [] := rfl
      rw [ho3] at nx3
      generalize q.ops.getD k default = o at q3 nx3
      have hod : o.d = [.int .i64 o.k,.int .i64 o.on.o,.int .i64 o.on.s,.int .i64 o.on.i,.int .i64 o.to.o,.int .i64 o.to.s,.int .i64 o.to.i,.slc (idsD o.ids),.int .i64 o.n,.str o.name,.str o.text,.int .i64 o.a,.int .i64 o.b] := rfl
      generalize upto (visOps q kind ok) k = ac3 at nx3 hv3
      have hac : (idsD (ac ++ ac3)).length ≤ 200000 := by rw [ids_len,List.length_append]; omega
      rcases ok with _ | _
      · simp +contextual only [hx,hd,ops_len,pts_len,h_miss,h_skip,n12,wrap_succ (show k ≤ big by omega),q1,q2,hq,q3,bools_len,↓U58,↓XP,XQ,XM,cellsOf,okc,one1,resOne,resAll,eqCells,cellEq,fits,sameK,ne_eq,ite_true,ite_false,Nat.reduceSub,Nat.reduceAdd,Nat.reduceMul,Nat.reduceEqDiff,Nat.reduceLeDiff,Nat.reduceBEq,reduceCtorEq,TYX]
        refine fun _ => ⟨by omega,fun _ => ⟨fun _ => ⟨by omega,?_⟩,fun hge => absurd (by omega) hge⟩⟩
        rw [if_neg (by simp),List.append_nil] at nx3
        exact nx3 _ ⟨rfl,rfl,rfl,rfl,rfl,rfl,rfl,rfl,trivial⟩
      · simp +contextual only [hx,hd,ops_len,pts_len,h_miss,h_skip,n12,wrap_succ (show k ≤ big by omega),q1,q2,hq,q3,hod,bools_len,↓U58,↓XP,XQ,XM,cellsOf,okc,one1,resOne,resAll,eqCells,cellEq,fits,sameK,ne_eq,ite_true,ite_false,Nat.reduceSub,Nat.reduceAdd,Nat.reduceMul,Nat.reduceEqDiff,Nat.reduceLeDiff,Nat.reduceBEq,reduceCtorEq,TYX]
        refine fun _ => ⟨by omega,fun _ => ⟨fun _ => ⟨by omega,by omega,fun _ => ⟨fun hk' => ⟨by omega,fun _ => ⟨by omega,fun _ => ⟨ids_3,by omega,?_⟩⟩⟩,fun hk' => ?_⟩⟩,fun hge => absurd (by omega) hge⟩⟩
        · rw [if_pos ⟨rfl,hk'⟩,← List.append_assoc,← ids_app] at nx3
          exact nx3 _ ⟨rfl,rfl,rfl,rfl,rfl,rfl,rfl,rfl,trivial⟩
        · rw [if_neg (fun hc => hk' hc.2),List.append_nil] at nx3
          exact nx3 _ ⟨rfl,rfl,rfl,rfl,rfl,rfl,rfl,rfl,trivial⟩
    · have hik : k = q.ops.length := by omega
      subst hik
      simp +contextual only [hx,hd,ops_len,pts_len,h_miss,h_skip,n12,q1,q2,hq,↓U58,↓XP,XQ,XM,cellsOf,okc,one1,resOne,resAll,eqCells,cellEq,fits,sameK,ne_eq,ite_true,ite_false,Nat.reduceSub,Nat.reduceAdd,Nat.reduceMul,Nat.reduceEqDiff,Nat.reduceLeDiff,Nat.reduceBEq,reduceCtorEq,TYX]
      refine fun _ => ⟨by omega,fun _ => hE _ _ _ ?_⟩
      clear hN hE hR
      simp +contextual only [hx,hd,ops_len,pts_len,h_miss,h_skip,n12,wrap_succ (show i ≤ big by omega),↓U58,↓XP,XQ,XM,cellsOf,okc,one1,resOne,resAll,eqCells,cellEq,fits,sameK,ne_eq,ite_true,ite_false,Nat.reduceSub,Nat.reduceAdd,Nat.reduceMul,Nat.reduceEqDiff,Nat.reduceLeDiff,Nat.reduceBEq,reduceCtorEq,TYX]
      exact nx _ ⟨rfl,rfl,rfl,rfl,rfl,rfl,rfl,trivial⟩
  · have hik : i = x.l.length := by omega
    subst hik
    clear hN
    simp +contextual only [hx,hd,ops_len,pts_len,h_miss,h_skip,n12,↓U58,↓XP,XQ,XM,cellsOf,okc,one1,resOne,resAll,eqCells,cellEq,fits,sameK,ne_eq,ite_true,ite_false,Nat.reduceSub,Nat.reduceAdd,Nat.reduceMul,Nat.reduceEqDiff,Nat.reduceLeDiff,Nat.reduceBEq,reduceCtorEq,TYX]
    refine fun _ => hE _ _ _ ?_
    clear hE hR
    have hv0 : visible x seen p kind = upto (fun i => visOne (x.l.getD i default) kind (seen.getD i false)) x.l.length ++ visOne p kind true := rfl
    rw [hv0] at h
    generalize upto (fun i => visOne (x.l.getD i default) kind (seen.getD i false)) x.l.length = ac at h hv ⊢
    simp +contextual only [hx,hd,ops_len,pts_len,h_miss,h_skip,n12,↓U58,↓XP,XQ,XM,cellsOf,okc,one1,resOne,resAll,eqCells,cellEq,fits,sameK,ne_eq,ite_true,ite_false,Nat.reduceSub,Nat.reduceAdd,Nat.reduceMul,Nat.reduceEqDiff,Nat.reduceLeDiff,Nat.reduceBEq,reduceCtorEq,TYX]
    simp only [← hx,← hd]
    refine XW.loopK hm (fun F H' => ∃ (k : Nat),k ≤ p.ops.length ∧ Fr 91 [(3,.int .i64 kind),(6,.ptr b2 0),(9,.own (idsD (ac ++ upto (visOps p kind true) k))),(12,.int .i64 k)] F ∧ ((b2,AO.cells p.d) :: (b1,AO.cells x.d) :: H) = H') (fun F H => match F.getD 12 .any with | .int _ n' => p.ops.length - n'.toNat | _ => 0) ⟨0,by omega,by rw [upto,List.append_nil]; exact ⟨rfl,rfl,rfl,rfl,rfl,trivial⟩,rfl⟩ ?_
    rintro _ _ ⟨k,hk,hF,rfl⟩ K hN hE hR
    obtain ⟨z,rfl⟩ : ∃ z : Nat → D,_ = [z 0,z 1,z 2,.int .i64 kind,z 4,z 5,.ptr b2 0,z 7,z 8,.own (idsD (ac ++ upto (visOps p kind true) k)),z 10,z 11,.int .i64 k,z 13,z 14,z 15,z 16,z 17,z 18,z 19,z 20,z 21,z 22,z 23,z 24,z 25,z 26,z 27,z 28,z 29,z 30,z 31,z 32,z 33,z 34,z 35,z 36,z 37,z 38,z 39,z 40,z 41,z 42,z 43,z 44,z 45,z 46,z 47,z 48,z 49,z 50,z 51,z 52,z 53,z 54,z 55,z 56,z 57,z 58,z 59,z 60,z 61,z 62,z 63,z 64,z 65,z 66,z 67,z 68,z 69,z 70,z 71,z 72,z 73,z 74,z 75,z 76,z 77,z 78,z 79,z 80,z 81,z 82,z 83,z 84,z 85,z 86,z 87,z 88,z 89,z 90] := hF.lit
    clear hF
    have hv3 := visOne_len (p := p) (kind := kind) (ok := true) k
    by_cases hlk : k < p.ops.length
    · have nx3 : ∀ F',Fr 91 [(3,.int .i64 kind),(6,.ptr b2 0),(9,.own (idsD (ac ++ upto (visOps p kind true) (k + 1)))),(12,.int .i64 ((k + 1 : Nat) : Int))] F' → K .normal F' ((b2,AO.cells p.d) :: (b1,AO.cells x.d) :: H) := fun F' hF' => hN _ _ ⟨k + 1,hlk,hF',(back_0 rfl).symm⟩ (by
        rw [List.getD_eq_getElem?_getD,hF'.2.2.2.2.1]
        simp only [List.getD_cons_succ,List.getD_cons_zero,Option.getD_some]
        omega)
      clear hN hE hR
      have q3 := ops_get hlk
      have hu3 : upto (visOps p kind true) (k + 1) = upto (visOps p kind true) k ++ visOps p kind true k := rfl
      rw [hu3] at nx3
      have ho3 : visOps p kind true k = if true = true ∧ (p.ops.getD k default).k = kind then [⟨p.o,p.s,k⟩] else [] := rfl
      rw [ho3] at nx3
      generalize p.ops.getD k default = o at q3 nx3
      have hod : o.d = [.int .i64 o.k,.int .i64 o.on.o,.int .i64 o.on.s,.int .i64 o.on.i,.int .i64 o.to.o,.int .i64 o.to.s,.int .i64 o.to.i,.slc (idsD o.ids),.int .i64 o.n,.str o.name,.str o.text,.int .i64 o.a,.int .i64 o.b] := rfl
      generalize upto (visOps p kind true) k = ac3 at nx3 hv3
      have hac : (idsD (ac ++ ac3)).length ≤ 200000 := by rw [ids_len,List.length_append]; omega
      simp +contextual only [hx,hd,ops_len,pts_len,h_miss,h_skip,n12,wrap_succ (show k ≤ big by omega),q3,hod,↓U58,↓XP,XQ,XM,cellsOf,okc,one1,resOne,resAll,eqCells,cellEq,fits,sameK,ne_eq,ite_true,ite_false,Nat.reduceSub,Nat.reduceAdd,Nat.reduceMul,Nat.reduceEqDiff,Nat.reduceLeDiff,Nat.reduceBEq,reduceCtorEq,TYX]
      refine fun _ => ⟨fun _ _ => ⟨fun hk' _ _ => ⟨ids_3,by omega,?_⟩,fun hk' => ?_⟩,fun hge => absurd (by omega) hge⟩
      · rw [if_pos ⟨rfl,hk'⟩,← List.append_assoc,← ids_app] at nx3
        exact nx3 _ ⟨rfl,rfl,rfl,rfl,rfl,trivial⟩
      · rw [if_neg (fun hc => hk' hc.2),List.append_nil] at nx3
        exact nx3 _ ⟨rfl,rfl,rfl,rfl,rfl,trivial⟩
    · have hik : k = p.ops.length := by omega
      subst hik
      simp +contextual only [hx,hd,ops_len,pts_len,h_miss,h_skip,n12,↓U58,↓XP,XQ,XM,cellsOf,okc,one1,resOne,resAll,eqCells,cellEq,fits,sameK,ne_eq,ite_true,ite_false,Nat.reduceSub,Nat.reduceAdd,Nat.reduceMul,Nat.reduceEqDiff,Nat.reduceLeDiff,Nat.reduceBEq,reduceCtorEq,TYX]
      refine fun _ => hE _ _ _ ?_
      clear hN hE hR
      simp +contextual only [hx,hd,ops_len,pts_len,h_miss,h_skip,n12,↓U58,↓XP,XQ,XM,cellsOf,okc,one1,resOne,resAll,eqCells,cellEq,fits,sameK,ne_eq,ite_true,ite_false,Nat.reduceSub,Nat.reduceAdd,Nat.reduceMul,Nat.reduceEqDiff,Nat.reduceLeDiff,Nat.reduceBEq,reduceCtorEq,TYX]
      exact h
end Go.Proofs.YtoeckfegggongaaDoor
end
section
namespace Go.Proofs.YtoeckfegggongaaDoor
open Go Go.Aw
theorem f_last {x : Gs} {q : Int} {H : AH} {R : D → AH → Prop} (hb : x.l.length ≤ 100) (h : R (.int .i64 (last x q)) H) : ACall Tryd.prog 48 [.agg x.d,.int .i64 q] H R := by
  refine b48 fun hf => ?_
  have hbig := big_eq
  have hx : x.d = [.slc (ptsD x.l),.slc (pastD x.past)] := rfl
  have w1 : IntKind.i64.wrap ((x.l.length : Int) - 1) = (x.l.length : Int) - 1 := wrap_id (by omega) (by omega)
  simp +contextual only [x48,hx,pts_len,w1,↓U48,↓XP,XQ,XM,cellsOf,okc,one1,resOne,resAll,eqCells,cellEq,fits,sameK,ne_eq,ite_true,ite_false,Nat.reduceSub,Nat.reduceAdd,Nat.reduceMul,Nat.reduceEqDiff,Nat.reduceLeDiff,Nat.reduceBEq,reduceCtorEq,TYX]
  rintro b1 h1
  simp only [← hx]
  refine fun _ => XW.loopK hm (fun F H' => ∃ (j : Nat),j ≤ x.l.length ∧ last x q = lastTo x q j ∧ Fr 23 [(1,.int .i64 q),(2,.ptr b1 0),(5,.int .i64 ((j : Int) - 1))] F ∧ ((b1,AO.cells x.d) :: H) = H') (fun F H => match F.getD 5 .any with | .int _ n' => (n' + 1).toNat | _ => 0) ⟨x.l.length,by omega,rfl,⟨rfl,rfl,rfl,rfl,trivial⟩,rfl⟩ ?_
  rintro _ _ ⟨j,hj,hl,hF,rfl⟩ K hN hE hR
  obtain ⟨z,rfl⟩ : ∃ z : Nat → D,_ = [z 0,.int .i64 q,.ptr b1 0,z 3,z 4,.int .i64 ((j : Int) - 1),z 6,z 7,z 8,z 9,z 10,z 11,z 12,z 13,z 14,z 15,z 16,z 17,z 18,z 19,z 20,z 21,z 22] := hF.lit
  clear hF
  rcases j with _ | j
  · clear hN hR
    have e0 : ((0 : Nat) : Int) - 1 = -1 := by omega
    have e1 : (0 ≤ (-1 : Int)) = False := by simp
    simp +contextual only [hx,pts_len,h_miss,h_skip,e0,e1,↓U48,↓XP,XQ,XM,cellsOf,okc,one1,resOne,resAll,eqCells,cellEq,fits,sameK,ne_eq,ite_true,ite_false,Nat.reduceSub,Nat.reduceAdd,Nat.reduceMul,Nat.reduceEqDiff,Nat.reduceLeDiff,Nat.reduceBEq,reduceCtorEq,TYX]
    refine hE _ _ _ ?_
    rw [hl] at h
    simp +contextual only [hx,pts_len,h_miss,h_skip,↓U48,↓XP,XQ,XM,cellsOf,okc,one1,resOne,resAll,eqCells,cellEq,fits,sameK,ne_eq,ite_true,ite_false,Nat.reduceSub,Nat.reduceAdd,Nat.reduceMul,Nat.reduceEqDiff,Nat.reduceLeDiff,Nat.reduceBEq,reduceCtorEq,TYX]
    exact h
  · have e0 : ((j + 1 : Nat) : Int) - 1 = (j : Int) := by omega
    have nx : (x.l.getD j default).o ≠ q → ∀ F',Fr 23 [(1,.int .i64 q),(2,.ptr b1 0),(5,.int .i64 ((j : Int) - 1))] F' → K .normal F' ((b1,AO.cells x.d) :: H) := fun hne F' hF' => hN _ _ ⟨j,by omega,by rw [hl]; simp only [lastTo,if_neg hne],hF',(back_0 rfl).symm⟩ (by
      rw [List.getD_eq_getElem?_getD,hF'.2.2.2.1]
      simp only [List.getD_cons_succ,List.getD_cons_zero,Option.getD_some]
      omega)
    rw [e0]
    clear hN hE
    have q1 := pts_get (l := x.l) (i := j) (by omega)
    have hl2 : (x.l.getD j default).o = q → last x q = (j : Int) := fun he => by rw [hl]; simp only [lastTo,if_pos he]
    generalize x.l.getD j default = e at q1 nx hl2
    have hq : e.d = [.int .i64 e.o,.int .i64 e.s,.int .i64 e.day,.slc (refsD e.needs),.slc (opsD e.ops),.str e.sl] := rfl
    have w2 : IntKind.i64.wrap ((j : Int) - 1) = (j : Int) - 1 := wrap_id (by omega) (by omega)
    simp +contextual only [hx,pts_len,h_miss,h_skip,q1,hq,w2,↓U48,↓XP,XQ,XM,cellsOf,okc,one1,resOne,resAll,eqCells,cellEq,fits,sameK,ne_eq,ite_true,ite_false,Nat.reduceSub,Nat.reduceAdd,Nat.reduceMul,Nat.reduceEqDiff,Nat.reduceLeDiff,Nat.reduceBEq,reduceCtorEq,TYX]
    refine fun _ => ⟨by omega,fun _ => ⟨fun he => hR _ _ ?_,fun hne => ?_⟩⟩
    · rw [hl2 he] at h
      simp +contextual only [hx,pts_len,h_miss,h_skip,↓U48,↓XP,XQ,XM,cellsOf,okc,one1,resOne,resAll,eqCells,cellEq,fits,sameK,ne_eq,ite_true,ite_false,Nat.reduceSub,Nat.reduceAdd,Nat.reduceMul,Nat.reduceEqDiff,Nat.reduceLeDiff,Nat.reduceBEq,reduceCtorEq,TYX]
      exact h
    · simp only [← hx]
      exact nx hne _ ⟨rfl,rfl,rfl,rfl,trivial⟩
def knownTo (l : List Pt) (o s : Int) (i : Nat) : Bool := (l.take i).any fun p => decide (p.o = o) && decide (p.s = s)
theorem knownTo_succ {l : List Pt} {o s : Int} {i : Nat} (h : i < l.length) : knownTo l o s (i + 1) = (knownTo l o s i || (decide ((l.getD i default).o = o) && decide ((l.getD i default).s = s))) := by
  unfold knownTo
  rw [List.take_add_one,List.any_append]
  simp [h]
theorem f_known {l : List Pt} {o s : Int} {H : AH} {R : D → AH → Prop} (h : R (.bool (known l o s)) H) : ACall Tryd.prog 51 [.slc (ptsD l),.int .i64 o,.int .i64 s] H R := by
  refine b51 fun hf => ?_
  have hbig := big_eq
  have hlen : l.length ≤ big := by have := hf.1; simpa only [fact,pts_len] using this
  simp +contextual only [x51,↓U51,↓XP,XQ,XM,cellsOf,okc,one1,resOne,resAll,eqCells,cellEq,fits,sameK,ne_eq,ite_true,ite_false,Nat.reduceSub,Nat.reduceAdd,Nat.reduceMul,Nat.reduceEqDiff,Nat.reduceLeDiff,Nat.reduceBEq,reduceCtorEq,TYX]
  refine XW.loopK hm (fun F H' => ∃ (i : Nat),i ≤ l.length ∧ knownTo l o s i = false ∧ Fr 30 [(0,.slc (ptsD l)),(1,.int .i64 o),(2,.int .i64 s),(7,.int .i64 i)] F ∧ H = H') (fun F H => match F.getD 7 .any with | .int _ n' => l.length - n'.toNat | _ => 0) ⟨0,by omega,rfl,⟨rfl,rfl,rfl,rfl,rfl,trivial⟩,rfl⟩ ?_
  rintro _ _ ⟨i,hi,hk,hF,rfl⟩ K hN hE hR
  obtain ⟨z,rfl⟩ : ∃ z : Nat → D,_ = [.slc (ptsD l),.int .i64 o,.int .i64 s,z 3,z 4,z 5,z 6,.int .i64 i,z 8,z 9,z 10,z 11,z 12,z 13,z 14,z 15,z 16,z 17,z 18,z 19,z 20,z 21,z 22,z 23,z 24,z 25,z 26,z 27,z 28,z 29] := hF.lit
  clear hF
  by_cases hlt : i < l.length
  · have hk1 := knownTo_succ (o := o) (s := s) hlt
    rw [hk,Bool.false_or] at hk1
    have nx : knownTo l o s (i + 1) = false → ∀ F',Fr 30 [(0,.slc (ptsD l)),(1,.int .i64 o),(2,.int .i64 s),(7,.int .i64 ((i + 1 : Nat) : Int))] F' → K .normal F' H := fun hk F' hF' => hN _ _ ⟨i + 1,hlt,hk,hF',(back_0 rfl).symm⟩ (by
      rw [List.getD_eq_getElem?_getD,hF'.2.2.2.2.1]
      simp only [List.getD_cons_succ,List.getD_cons_zero,Option.getD_some]
      omega)
    have hkt : knownTo l o s (i + 1) = true → known l o s = true := fun h => by
      unfold knownTo at h
      unfold known
      rw [List.any_eq_true] at h ⊢
      obtain ⟨x,h1,h2⟩ := h
      exact ⟨x,List.mem_of_mem_take h1,h2⟩
    rw [hk1] at nx hkt
    clear hN hE
    have q1 := pts_get hlt
    generalize l.getD i default = e at q1 nx hkt
    have hq : e.d = [.int .i64 e.o,.int .i64 e.s,.int .i64 e.day,.slc (refsD e.needs),.slc (opsD e.ops),.str e.sl] := rfl
    simp +contextual only [pts_len,h_miss,h_skip,q1,hq,wrap_succ (show i ≤ big by omega),↓U51,↓XP,XQ,XM,cellsOf,okc,one1,resOne,resAll,eqCells,cellEq,fits,sameK,ne_eq,ite_true,ite_false,Nat.reduceSub,Nat.reduceAdd,Nat.reduceMul,Nat.reduceEqDiff,Nat.reduceLeDiff,Nat.reduceBEq,reduceCtorEq,TYX]
    refine fun _ => ⟨fun _ _ => ⟨fun ho _ => ⟨fun hs => hR _ _ ?_,fun hs => ?_⟩,fun ho => ?_⟩,fun hge => absurd (by omega) hge⟩
    · rw [hkt (by simp [ho,hs])] at h
      simp +contextual only [pts_len,h_miss,h_skip,↓U51,↓XP,XQ,XM,cellsOf,okc,one1,resOne,resAll,eqCells,cellEq,fits,sameK,ne_eq,ite_true,ite_false,Nat.reduceSub,Nat.reduceAdd,Nat.reduceMul,Nat.reduceEqDiff,Nat.reduceLeDiff,Nat.reduceBEq,reduceCtorEq,TYX]
      exact h
    · exact nx (by simp [hs]) _ ⟨rfl,rfl,rfl,rfl,rfl,trivial⟩
    · exact nx (by simp [ho]) _ ⟨rfl,rfl,rfl,rfl,rfl,trivial⟩
  · have hik : i = l.length := by omega
    subst hik
    clear hN
    simp +contextual only [pts_len,h_miss,h_skip,↓U51,↓XP,XQ,XM,cellsOf,okc,one1,resOne,resAll,eqCells,cellEq,fits,sameK,ne_eq,ite_true,ite_false,Nat.reduceSub,Nat.reduceAdd,Nat.reduceMul,Nat.reduceEqDiff,Nat.reduceLeDiff,Nat.reduceBEq,reduceCtorEq,TYX]
    refine fun _ => hE _ _ _ ?_
    rw [show known l o s = false by unfold knownTo at hk; rw [List.take_length] at hk; exact hk] at h
    simp +contextual only [pts_len,h_miss,h_skip,↓U51,↓XP,XQ,XM,cellsOf,okc,one1,resOne,resAll,eqCells,cellEq,fits,sameK,ne_eq,ite_true,ite_false,Nat.reduceSub,Nat.reduceAdd,Nat.reduceMul,Nat.reduceEqDiff,Nat.reduceLeDiff,Nat.reduceBEq,reduceCtorEq,TYX]
    exact h
def readyTo (l : List Pt) (p : Pt) (i : Nat) : Bool := (p.needs.take i).all fun r => known l r.o r.s
theorem readyTo_succ {l : List Pt} {p : Pt} {i : Nat} (h : i < p.needs.length) : readyTo l p (i + 1) = (readyTo l p i && known l (p.needs.getD i default).o (p.needs.getD i default).s) := by
  unfold readyTo
  rw [List.take_add_one,List.all_append]
  simp [h]
theorem f_ready {l : List Pt} {p : Pt} {H : AH} {R : D → AH → Prop} (hp : 0 ≤ p.s) (hp' : p.s ≤ 1000000) (hn : p.needs.length ≤ 1000000) (h : R (.bool (ready l p)) H) : ACall Tryd.prog 50 [.slc (ptsD l),.agg p.d] H R := by
  refine b50 fun hf => ?_
  have hbig := big_eq
  have hd : p.d = [.int .i64 p.o,.int .i64 p.s,.int .i64 p.day,.slc (refsD p.needs),.slc (opsD p.ops),.str p.sl] := rfl
  have wm : IntKind.i64.wrap (p.s - 1) = p.s - 1 := wrap_id (by omega) (by omega)
  simp +contextual only [x50,hd,↓U50,↓XP,XQ,XM,cellsOf,okc,one1,resOne,resAll,eqCells,cellEq,fits,sameK,ne_eq,ite_true,ite_false,Nat.reduceSub,Nat.reduceAdd,Nat.reduceMul,Nat.reduceEqDiff,Nat.reduceLeDiff,Nat.reduceBEq,reduceCtorEq,TYX]
  rintro b1 h1
  simp only [← hd]
  refine XW.loopK hm (fun F H' => ∃ (i : Nat),i ≤ p.needs.length ∧ readyTo l p i = true ∧ Fr 40 [(0,.slc (ptsD l)),(3,.ptr b1 0),(5,.int .i64 i)] F ∧ ((b1,AO.cells p.d) :: H) = H') (fun F H => match F.getD 5 .any with | .int _ n' => p.needs.length - n'.toNat | _ => 0) ⟨0,by omega,rfl,⟨rfl,rfl,rfl,rfl,trivial⟩,rfl⟩ ?_
  rintro _ _ ⟨i,hi,hk,hF,rfl⟩ K hN hE hR
  obtain ⟨z,rfl⟩ : ∃ z : Nat → D,_ = [.slc (ptsD l),z 1,z 2,.ptr b1 0,z 4,.int .i64 i,z 6,z 7,z 8,z 9,z 10,z 11,z 12,z 13,z 14,z 15,z 16,z 17,z 18,z 19,z 20,z 21,z 22,z 23,z 24,z 25,z 26,z 27,z 28,z 29,z 30,z 31,z 32,z 33,z 34,z 35,z 36,z 37,z 38,z 39] := hF.lit
  clear hF
  by_cases hlt : i < p.needs.length
  · have hk1 := readyTo_succ (l := l) hlt
    rw [hk,Bool.true_and] at hk1
    have nx : readyTo l p (i + 1) = true → ∀ F',Fr 40 [(0,.slc (ptsD l)),(3,.ptr b1 0),(5,.int .i64 ((i + 1 : Nat) : Int))] F' → K .normal F' ((b1,AO.cells p.d) :: H) := fun hk F' hF' => hN _ _ ⟨i + 1,hlt,hk,hF',(back_0 rfl).symm⟩ (by
      rw [List.getD_eq_getElem?_getD,hF'.2.2.2.1]
      simp only [List.getD_cons_succ,List.getD_cons_zero,Option.getD_some]
      omega)
    have hkt : readyTo l p (i + 1) = false → ready l p = false := fun h => by
      unfold readyTo at h
      unfold ready
      rw [Bool.and_eq_false_iff]
      left
      rw [List.all_eq_false] at h ⊢
      obtain ⟨x,h1,h2⟩ := h
      exact ⟨x,List.mem_of_mem_take h1,h2⟩
    rw [hk1] at nx hkt
    clear hN hE
    have q1 := refs_get hlt
    generalize p.needs.getD i default = e at q1 nx hkt
    have hq : e.d = [.int .i64 e.o,.int .i64 e.s] := rfl
    simp +contextual only [hd,refs_len,h_miss,h_skip,q1,hq,wrap_succ (show i ≤ big by omega),↓U50,↓XP,XQ,XM,cellsOf,okc,one1,resOne,resAll,eqCells,cellEq,fits,sameK,ne_eq,ite_true,ite_false,Nat.reduceSub,Nat.reduceAdd,Nat.reduceMul,Nat.reduceEqDiff,Nat.reduceLeDiff,Nat.reduceBEq,reduceCtorEq,TYX]
    refine fun _ => ⟨fun _ _ _ => ⟨_,f_known ⟨rfl,rfl⟩,?_⟩,fun hge => absurd (by omega) hge⟩
    rcases hkk : known l e.o e.s with _ | _
    · rw [hkt hkk] at h
      simp +contextual only [hd,refs_len,h_miss,h_skip,↓U50,↓XP,XQ,XM,cellsOf,okc,one1,resOne,resAll,eqCells,cellEq,fits,sameK,ne_eq,ite_true,ite_false,Nat.reduceSub,Nat.reduceAdd,Nat.reduceMul,Nat.reduceEqDiff,Nat.reduceLeDiff,Nat.reduceBEq,reduceCtorEq,TYX]
      refine hR _ _ ?_
      simp +contextual only [hd,refs_len,h_miss,h_skip,↓U50,↓XP,XQ,XM,cellsOf,okc,one1,resOne,resAll,eqCells,cellEq,fits,sameK,ne_eq,ite_true,ite_false,Nat.reduceSub,Nat.reduceAdd,Nat.reduceMul,Nat.reduceEqDiff,Nat.reduceLeDiff,Nat.reduceBEq,reduceCtorEq,TYX]
      exact h
    · simp +contextual only [hd,refs_len,h_miss,h_skip,wrap_succ (show i ≤ big by omega),↓U50,↓XP,XQ,XM,cellsOf,okc,one1,resOne,resAll,eqCells,cellEq,fits,sameK,ne_eq,ite_true,ite_false,Nat.reduceSub,Nat.reduceAdd,Nat.reduceMul,Nat.reduceEqDiff,Nat.reduceLeDiff,Nat.reduceBEq,reduceCtorEq,TYX]
      simp only [← hd]
      exact nx hkk _ ⟨rfl,rfl,rfl,rfl,trivial⟩
  · have hik : i = p.needs.length := by omega
    subst hik
    clear hN
    simp +contextual only [hd,refs_len,h_miss,h_skip,↓U50,↓XP,XQ,XM,cellsOf,okc,one1,resOne,resAll,eqCells,cellEq,fits,sameK,ne_eq,ite_true,ite_false,Nat.reduceSub,Nat.reduceAdd,Nat.reduceMul,Nat.reduceEqDiff,Nat.reduceLeDiff,Nat.reduceBEq,reduceCtorEq,TYX]
    refine fun _ => hE _ _ _ ?_
    have hr : ready l p = (decide (p.s = 1) || known l p.o (p.s - 1)) := by
      unfold readyTo at hk
      rw [List.take_length] at hk
      unfold ready
      rw [hk,Bool.true_and]
    rw [hr] at h
    simp +contextual only [hd,refs_len,h_miss,h_skip,wm,↓U50,↓XP,XQ,XM,cellsOf,okc,one1,resOne,resAll,eqCells,cellEq,fits,sameK,ne_eq,ite_true,ite_false,Nat.reduceSub,Nat.reduceAdd,Nat.reduceMul,Nat.reduceEqDiff,Nat.reduceLeDiff,Nat.reduceBEq,reduceCtorEq,TYX]
    refine fun _ => ⟨fun h1 => ?_,fun h1 _ => f_known ?_⟩
    · simp only [h1,decide_true,Bool.true_or] at h
      exact h
    · simp only [h1,decide_false,Bool.false_or] at h
      simp +contextual only [hd,refs_len,h_miss,h_skip,↓U50,↓XP,XQ,XM,cellsOf,okc,one1,resOne,resAll,eqCells,cellEq,fits,sameK,ne_eq,ite_true,ite_false,Nat.reduceSub,Nat.reduceAdd,Nat.reduceMul,Nat.reduceEqDiff,Nat.reduceLeDiff,Nat.reduceBEq,reduceCtorEq,TYX]
      exact h
end Go.Proofs.YtoeckfegggongaaDoor
end
section
namespace Go.Proofs.YtoeckfegggongaaDoor
open Go Go.Aw
def seenP (seen past : List Bool) (i : Nat) : List Bool := (List.range seen.length).map fun j => if j < i then seen.getD j false || past.getD j false else seen.getD j false
theorem seenP_len {seen past : List Bool} {i : Nat} : (seenP seen past i).length = seen.length := by simp [seenP]
theorem seenP_zero {seen past : List Bool} : seenP seen past 0 = seen := by
  refine List.ext_getElem (by simp [seenP]) fun j h1 h2 => ?_
  simp [seenP,h2]
theorem seenP_get {seen past : List Bool} {i : Nat} (h : i < seen.length) : (seenP seen past i).getD i false = seen.getD i false := by
  simp [seenP,h]
theorem seenP_succ {seen past : List Bool} {i : Nat} (h : i < seen.length) : (seenP seen past i).set i (seen.getD i false || past.getD i false) = seenP seen past (i + 1) := by
  refine List.ext_getElem (by simp [seenP]) fun j h1 h2 => ?_
  rw [List.getElem_set]
  simp only [seenP,List.getElem_map,List.getElem_range]
  split
  · rename_i e; subst e; rw [if_pos (by omega)]
  · rename_i e
    by_cases hj : j < i
    · rw [if_pos hj,if_pos (by omega)]
    · rw [if_neg hj,if_neg (by omega)]
theorem seenP_end {x : Gs} {seen : List Bool} {k : Nat} (h : k < seen.length) : (seenP seen (x.past.getD k []) k).set k true = seenWith x seen k := by
  refine List.ext_getElem (by simp [seenP,seenWith]) fun j h1 h2 => ?_
  rw [List.getElem_set]
  simp only [seenP,seenWith,List.getElem_map,List.getElem_range]
  split
  · rename_i e; subst e; rw [if_pos rfl]
  · rename_i e; rw [if_neg (Ne.symm e)]
theorem seenWith_len {x : Gs} {seen : List Bool} {k : Nat} : (seenWith x seen k).length = seen.length := by simp [seenWith]
theorem bl_get {l : List Bool} {i : Nat} (h : i < l.length) : (l.map D.bool)[i]? = some (.bool (l.getD i false)) := by simp [h]
theorem bl_set {l : List Bool} {i : Nat} {b : Bool} : (l.map D.bool).set i (.bool b) = (l.set i b).map D.bool := List.map_set.symm
theorem lastTo_range {x : Gs} {q : Int} : ∀ i,-1 ≤ lastTo x q i ∧ lastTo x q i < i
  | 0 => ⟨by simp [lastTo],by simp [lastTo]⟩
  | i + 1 => by
    have := lastTo_range (x := x) (q := q) i
    unfold lastTo
    split
    · omega
    · omega
def Pt.dn (p : Pt) : List D := [.int .i64 p.o,.int .i64 p.s,.int .i64 p.day,.own (refsD p.needs),.slc [],.str []]
structure Nx (b3 b6 b8 b9 : Nat) : Prop where
  n39 : b3 ≠ b9
  n38 : b3 ≠ b8
  n36 : b3 ≠ b6
  n89 : b8 ≠ b9
  n69 : b6 ≠ b9
  n68 : b6 ≠ b8
theorem n_inner {x : Gs} {offices n k b3 b6 b8 b9 : Nat} {o q : Int} {m : List Int} {seen : List Bool} {pc : List D} {c6 : AO} {H : AH} {Q : AQ} {F : List D} (nx : Nx b3 b6 b8 b9) (hk : k < x.l.length) (hb : x.l.length ≤ 100) (hn : n = x.l.length) (hs : seen.length = n) (hp : x.past.length = x.l.length) (hpk : (x.past.getD k []).length = k)
    (hF : Fr 139 [(1,.int .i64 offices),(2,.slc (ints m)),(3,.ptr b3 0),(6,.ptr b6 0),(7,.int .i64 o),(8,.ptr b8 0),(9,.hsl b9 n),(10,.int .i64 q),(11,.int .i64 (k : Int)),(12,.int .i64 0)] F) (hE : ∀ F',Fr 139 [(1,.int .i64 offices),(2,.slc (ints m)),(3,.ptr b3 0),(6,.ptr b6 0),(7,.int .i64 o),(8,.ptr b8 0),(9,.hsl b9 n),(10,.int .i64 q),(11,.int .i64 (k : Int))] F' → Q (.exit 2) F' ((b9,.cells ((seenP seen (x.past.getD k []) k).map D.bool)) :: (b8,AO.cells pc) :: (b6,c6) :: (b3,AO.cells [.own (ptsD x.l),.own (pastD x.past)]) :: H)) :
    XW Tryd.prog x30_L2 F ((b9,.cells (seen.map D.bool)) :: (b8,AO.cells pc) :: (b6,c6) :: (b3,AO.cells [.own (ptsD x.l),.own (pastD x.past)]) :: H) Q := by
  have hbig := big_eq
  obtain ⟨n39,n38,n36,n89,n69,n68⟩ := nx
  refine XW.loopK hm (fun F H' => ∃ (i : Nat),i ≤ k ∧ Fr 139 [(1,.int .i64 offices),(2,.slc (ints m)),(3,.ptr b3 0),(6,.ptr b6 0),(7,.int .i64 o),(8,.ptr b8 0),(9,.hsl b9 n),(10,.int .i64 q),(11,.int .i64 (k : Int)),(12,.int .i64 i)] F ∧ (b9,AO.cells ((seenP seen (x.past.getD k []) i).map D.bool)) :: (b8,AO.cells pc) :: (b6,c6) :: (b3,AO.cells [.own (ptsD x.l),.own (pastD x.past)]) :: H = H') (fun F H => match F.getD 12 .any with | .int _ n' => k - n'.toNat | _ => 0) ⟨0,by omega,hF,by rw [seenP_zero]⟩ ?_
  rintro _ _ ⟨i,hi,hF,rfl⟩ K hN hE' hR
  obtain ⟨z,rfl⟩ : ∃ z : Nat → D,_ = [z 0,.int .i64 offices,.slc (ints m),.ptr b3 0,z 4,z 5,.ptr b6 0,.int .i64 o,.ptr b8 0,.hsl b9 n,.int .i64 q,.int .i64 (k : Int),.int .i64 i,z 13,z 14,z 15,z 16,z 17,z 18,z 19,z 20,z 21,z 22,z 23,z 24,z 25,z 26,z 27,z 28,z 29,z 30,z 31,z 32,z 33,z 34,z 35,z 36,z 37,z 38,z 39,z 40,z 41,z 42,z 43,z 44,z 45,z 46,z 47,z 48,z 49,z 50,z 51,z 52,z 53,z 54,z 55,z 56,z 57,z 58,z 59,z 60,z 61,z 62,z 63,z 64,z 65,z 66,z 67,z 68,z 69,z 70,z 71,z 72,z 73,z 74,z 75,z 76,z 77,z 78,z 79,z 80,z 81,z 82,z 83,z 84,z 85,z 86,z 87,z 88,z 89,z 90,z 91,z 92,z 93,z 94,z 95,z 96,z 97,z 98,z 99,z 100,z 101,z 102,z 103,z 104,z 105,z 106,z 107,z 108,z 109,z 110,z 111,z 112,z 113,z 114,z 115,z 116,z 117,z 118,z 119,z 120,z 121,z 122,z 123,z 124,z 125,z 126,z 127,z 128,z 129,z 130,z 131,z 132,z 133,z 134,z 135,z 136,z 137,z 138] := hF.lit
  clear hF
  by_cases hlt : i < k
  · have nx : ∀ F',Fr 139 [(1,.int .i64 offices),(2,.slc (ints m)),(3,.ptr b3 0),(6,.ptr b6 0),(7,.int .i64 o),(8,.ptr b8 0),(9,.hsl b9 n),(10,.int .i64 q),(11,.int .i64 (k : Int)),(12,.int .i64 ((i + 1 : Nat) : Int))] F' → K .normal F' ((b9,.cells ((seenP seen (x.past.getD k []) (i + 1)).map D.bool)) :: (b8,AO.cells pc) :: (b6,c6) :: (b3,AO.cells [.own (ptsD x.l),.own (pastD x.past)]) :: H) := fun F' hF' => hN _ _ ⟨i + 1,hlt,hF',(back_0 rfl).symm⟩ (by
      rw [List.getD_eq_getElem?_getD,hF'.2.2.2.2.2.2.2.2.2.2.1]
      simp only [List.getD_cons_succ,List.getD_cons_zero,Option.getD_some]
      omega)
    clear hN hE' hR hE
    have hl9 := seenP_len (seen := seen) (past := x.past.getD k []) (i := i)
    rw [← seenP_succ (by omega)] at nx
    have q1 := bl_get (l := seenP seen (x.past.getD k []) i) (i := i) (by omega)
    rw [seenP_get (by omega)] at q1
    have q2 := past_get (l := x.past) (i := k) (by omega)
    have q3 := bools_get (l := x.past.getD k []) (i := i) (by omega)
    have hw : (seenP seen (x.past.getD k []) i).length = n := by omega
    generalize seenP seen (x.past.getD k []) i = s9 at q1 nx hl9 hw ⊢
    generalize (x.past.getD k []).getD i false = pb at q3 nx
    generalize seen.getD i false = sb at q1 nx
    rcases sb with _ | _
    · simp +contextual only [Nat.mul_one,bl_set,past_len,bools_len,h_miss,h_skip,n39,n38,n36,n89,n69,n68,q1,q2,q3,x30,wrap_succ (show i ≤ big by omega),↓U30,↓XP,XQ,XM,cellsOf,okc,one1,resOne,resAll,eqCells,cellEq,fits,sameK,ne_eq,ite_true,ite_false,Nat.reduceSub,Nat.reduceAdd,Nat.reduceMul,Nat.reduceEqDiff,Nat.reduceLeDiff,Nat.reduceBEq,reduceCtorEq,TYX]
      rw [Bool.false_or] at nx
      exact ⟨fun _ => ⟨by omega,fun _ => ⟨by omega,fun _ => ⟨by omega,by omega,by omega,nx _ ⟨rfl,rfl,rfl,rfl,rfl,rfl,rfl,rfl,rfl,rfl,rfl,trivial⟩⟩⟩⟩,fun hge => absurd (by omega) hge⟩
    · simp +contextual only [Nat.mul_one,bl_set,past_len,bools_len,h_miss,h_skip,n39,n38,n36,n89,n69,n68,q1,q2,q3,x30,wrap_succ (show i ≤ big by omega),↓U30,↓XP,XQ,XM,cellsOf,okc,one1,resOne,resAll,eqCells,cellEq,fits,sameK,ne_eq,ite_true,ite_false,Nat.reduceSub,Nat.reduceAdd,Nat.reduceMul,Nat.reduceEqDiff,Nat.reduceLeDiff,Nat.reduceBEq,reduceCtorEq,TYX]
      rw [Bool.true_or] at nx
      exact ⟨fun _ => ⟨by omega,by omega,by omega,nx _ ⟨rfl,rfl,rfl,rfl,rfl,rfl,rfl,rfl,rfl,rfl,rfl,trivial⟩⟩,fun hge => absurd (by omega) hge⟩
  · have hik : i = k := by omega
    subst hik
    clear hN
    simp +contextual only [Nat.mul_one,bl_set,past_len,bools_len,h_miss,h_skip,n39,n38,n36,n89,n69,n68,x30,↓U30,↓XP,XQ,XM,cellsOf,okc,one1,resOne,resAll,eqCells,cellEq,fits,sameK,ne_eq,ite_true,ite_false,Nat.reduceSub,Nat.reduceAdd,Nat.reduceMul,Nat.reduceEqDiff,Nat.reduceLeDiff,Nat.reduceBEq,reduceCtorEq,TYX]
    exact hE' _ _ _ (hE _ ⟨rfl,rfl,rfl,rfl,rfl,rfl,rfl,rfl,rfl,rfl,trivial⟩)
end Go.Proofs.YtoeckfegggongaaDoor
end
