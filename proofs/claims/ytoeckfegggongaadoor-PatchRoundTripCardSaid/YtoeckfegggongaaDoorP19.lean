/- A part of the proof of what the last text says: Gk1, Gq4, Gq5, Gm0, Gm1, Gm2, Gm3. Conditions: those in each theorem. -/
import Derived.Test.YtoeckfegggongaaDoorP18
import Derived.Laws.BitsAllLaws
set_option linter.unusedVariables false
set_option linter.unusedSimpArgs false
set_option maxRecDepth 100000
set_option maxHeartbeats 16000000
section
namespace Go.Proofs.YtoeckfegggongaaDoor
open Go Go.Aw
theorem f_within {n low high : Int} {H : AH} {R : D → AH → Prop} (h : R (.bool (decide (low ≤ n ∧ n ≤ high))) H) : ACall Tryd.prog 34 [.int .i64 n,.int .i64 low,.int .i64 high] H R := by
  refine b34 fun hf => ?_
  have hk : ∀ c,decide (low ≤ n ∧ n ≤ high) = c → R (.bool c) H := fun b hb => hb ▸ h
  simp +contextual only [x34,↓u34_s0,↓XP,XQ,XM,cellsOf,okc,one1,resOne,resAll,eqCells,cellEq,fits,sameK,ne_eq,ite_true,ite_false,Nat.reduceSub,Nat.reduceAdd,Nat.reduceMul,Nat.reduceEqDiff,Nat.reduceLeDiff,Nat.reduceBEq,reduceCtorEq,TYX]
  repeat' (first | apply And.intro | intro _)
  all_goals first
    | exact hk _ (decide_eq_true (by omega))
    | exact hk _ (decide_eq_false (by omega))
    | exact hk _ (decide_eq_decide.2 (by omega))
    | skip
def OkNo (o s : Int) : Prop := 0 ≤ o ∧ o ≤ 7 ∧ 1 ≤ s ∧ s ≤ 16
instance (o s : Int) : Decidable (OkNo o s) := by unfold OkNo; exact inferInstance
theorem f_numbered {o s : Int} {H : AH} {R : D → AH → Prop} (h : R (.bool (decide (OkNo o s))) H) : ACall Tryd.prog 33 [.int .i64 o,.int .i64 s] H R := by
  refine b33 fun hf => ?_
  have hk : ∀ c,decide (OkNo o s) = c → R (.bool c) H := fun b hb => hb ▸ h
  simp +contextual only [x33,↓u33_s0,↓XP,XQ,XM,cellsOf,okc,one1,resOne,resAll,eqCells,cellEq,fits,sameK,ne_eq,ite_true,ite_false,Nat.reduceSub,Nat.reduceAdd,Nat.reduceMul,Nat.reduceEqDiff,Nat.reduceLeDiff,Nat.reduceBEq,reduceCtorEq,TYX]
  refine f_within ?_
  by_cases h1 : 0 ≤ o ∧ o ≤ 7
  · simp +contextual only [x33,eq_true h1,↓u33_s0,↓XP,XQ,XM,cellsOf,okc,one1,resOne,resAll,eqCells,cellEq,fits,sameK,ne_eq,ite_true,ite_false,Nat.reduceSub,Nat.reduceAdd,Nat.reduceMul,Nat.reduceEqDiff,Nat.reduceLeDiff,Nat.reduceBEq,reduceCtorEq,TYX]
    refine f_within ?_
    simp +contextual only [x33,↓u33_s0,↓XP,XQ,XM,cellsOf,okc,one1,resOne,resAll,eqCells,cellEq,fits,sameK,ne_eq,ite_true,ite_false,Nat.reduceSub,Nat.reduceAdd,Nat.reduceMul,Nat.reduceEqDiff,Nat.reduceLeDiff,Nat.reduceBEq,reduceCtorEq,TYX]
    exact hk _ (decide_eq_decide.2 (by unfold OkNo; omega))
  · simp +contextual only [x33,eq_false h1,↓u33_s0,↓XP,XQ,XM,cellsOf,okc,one1,resOne,resAll,eqCells,cellEq,fits,sameK,ne_eq,ite_true,ite_false,Nat.reduceSub,Nat.reduceAdd,Nat.reduceMul,Nat.reduceEqDiff,Nat.reduceLeDiff,Nat.reduceBEq,reduceCtorEq,TYX]
    exact hk _ (decide_eq_false (by unfold OkNo; omega))
theorem f_names {x : Id3} {H : AH} {R : D → AH → Prop} (h : R (.bool (decide (OkId x))) H) : ACall Tryd.prog 53 [.agg x.d] H R := by
  refine b53 fun hf => ?_
  have hd : x.d = [.int .i64 x.o,.int .i64 x.s,.int .i64 x.i] := rfl
  have hk : ∀ b,decide (OkId x) = b → R (.bool b) H := fun b hb => hb ▸ h
  simp +contextual only [x53,hd,↓u53_s0,↓XP,XQ,XM,cellsOf,okc,one1,resOne,resAll,eqCells,cellEq,fits,sameK,ne_eq,ite_true,ite_false,Nat.reduceSub,Nat.reduceAdd,Nat.reduceMul,Nat.reduceEqDiff,Nat.reduceLeDiff,Nat.reduceBEq,reduceCtorEq,TYX]
  refine fun b1 h1 _ _ => f_numbered ?_
  by_cases h1 : OkNo x.o x.s
  · simp +contextual only [x53,hd,eq_true h1,↓u53_s0,↓XP,XQ,XM,cellsOf,okc,one1,resOne,resAll,eqCells,cellEq,fits,sameK,ne_eq,ite_true,ite_false,Nat.reduceSub,Nat.reduceAdd,Nat.reduceMul,Nat.reduceEqDiff,Nat.reduceLeDiff,Nat.reduceBEq,reduceCtorEq,TYX]
    refine fun _ => f_within ?_
    simp +contextual only [x53,hd,↓u53_s0,↓XP,XQ,XM,cellsOf,okc,one1,resOne,resAll,eqCells,cellEq,fits,sameK,ne_eq,ite_true,ite_false,Nat.reduceSub,Nat.reduceAdd,Nat.reduceMul,Nat.reduceEqDiff,Nat.reduceLeDiff,Nat.reduceBEq,reduceCtorEq,TYX]
    exact hk _ (decide_eq_decide.2 (by unfold OkNo at h1; unfold OkId; omega))
  · simp +contextual only [x53,hd,eq_false h1,↓u53_s0,↓XP,XQ,XM,cellsOf,okc,one1,resOne,resAll,eqCells,cellEq,fits,sameK,ne_eq,ite_true,ite_false,Nat.reduceSub,Nat.reduceAdd,Nat.reduceMul,Nat.reduceEqDiff,Nat.reduceLeDiff,Nat.reduceBEq,reduceCtorEq,TYX]
    exact hk _ (decide_eq_false (by unfold OkNo at h1; unfold OkId; omega))
theorem f_cSpan {a b : Int} {H : AH} {R : D → AH → Prop} (h : R (.bool (decide (OkSpan a b))) H) : ACall Tryd.prog 54 [.agg [.int .i64 a,.int .i64 b]] H R := by
  refine b54 fun hf => ?_
  have hk : ∀ c,decide (OkSpan a b) = c → R (.bool c) H := fun b hb => hb ▸ h
  simp +contextual only [x54,↓u54_s0,↓XP,XQ,XM,cellsOf,okc,one1,resOne,resAll,eqCells,cellEq,fits,sameK,ne_eq,ite_true,ite_false,Nat.reduceSub,Nat.reduceAdd,Nat.reduceMul,Nat.reduceEqDiff,Nat.reduceLeDiff,Nat.reduceBEq,reduceCtorEq,TYX]
  intro b1 h1
  repeat' (first | apply And.intro | intro _)
  all_goals first
    | exact hk _ (decide_eq_true (by unfold OkSpan; omega))
    | exact hk _ (decide_eq_false (by unfold OkSpan; omega))
    | exact hk _ (decide_eq_decide.2 (by unfold OkSpan; omega))
    | skip
end Go.Proofs.YtoeckfegggongaaDoor
end
section
namespace Go.Proofs.YtoeckfegggongaaDoor
open Go Go.Aw
theorem getD_le {l : List (List UInt8)} {i c : Nat} (h : ∀ x ∈ l,x.length ≤ c) : (l.getD i []).length ≤ c := by
  rw [List.getD_eq_getElem?_getD]
  cases e : l[i]? with
  | none => simp
  | some x => exact h x (List.mem_of_getElem? e)
theorem getD_ge {l : List (List UInt8)} {i c : Nat} (h : ∀ x ∈ l,c ≤ x.length) (hi : i < l.length) : c ≤ (l.getD i []).length := by
  rw [getD_lt hi]
  exact h _ (List.getElem_mem hi)
theorem getD_mem {α : Type} {l : List α} {i : Nat} {d : α} (hi : i < l.length) : l.getD i d ∈ l := by
  rw [getD_lt hi]
  exact List.getElem_mem hi
theorem atN_lt {l : List Int} {i n : Nat} (h : 0 < n) : atN l i (n : Int) < n := by
  have := atOf_range (l := l) (i := i) (most := (n : Int)) (by omega)
  unfold atN
  omega
theorem gloss_len {l : List Int} : (gloss l).length ≤ 60 := by
  have go : ∀ i,(glossTo l i).length ≤ 5 + 7 * i := by
    intro i
    induction i with
    | zero => exact getD_le (by decide)
    | succ i ih =>
      have h1 : (seps3.getD (atN l (2 + i) 3) []).length ≤ 2 := getD_le (by decide)
      have h2 : (words16.getD (atN l (4 + i) (6 + i)) []).length ≤ 5 := getD_le (by decide)
      simp only [glossTo,List.length_append]
      omega
  unfold gloss
  split
  · simp
  · have h1 := go (atN l 1 3)
    have h2 := atN_lt (l := l) (i := 1) (n := 3) (by omega)
    have h2' : atN l 1 3 < 3 := h2
    omega
def AllT (p : Pt) : Prop := ∀ o ∈ p.ops,TOp o
theorem AllT.with' {p : Pt} {o : OpP} (h : AllT p) (ho : TOp o) : AllT (withOp p o) := by
  intro x hx
  unfold withOp at hx
  rcases List.mem_append.1 hx with hx | hx
  · exact h x hx
  · rw [List.mem_singleton.1 hx]; exact ho
theorem withOp_len {p : Pt} {o : OpP} : (withOp p o).ops.length = p.ops.length + 1 := by simp [withOp]
theorem next_ok {p : Pt} (h : OkNo p.o p.s) (hl : p.ops.length ≤ 15) : OkId (nextId p) := by
  unfold OkNo at h
  unfold OkId nextId
  dsimp only
  omega
theorem meaning_T {p : Pt} {on : Id3} {m : List Int} (h : AllT p) (ho : OkNo p.o p.s) (hl : p.ops.length ≤ 12) (hon : OkId on) : AllT (meaning p on m) := by
  have a2 := atOf_range (l := m) (i := 2) (most := 5) (by omega)
  unfold meaning
  dsimp only
  have h1 := h.with' (t_2 (on := on) (n := atOf m 2 5) hon (by omega) (by omega))
  have hid : OkId (nextId p) := next_ok ho (by omega)
  have h2 := h1.with' (t_7 (on := nextId p) (tx := gloss (m.drop 3)) hid gloss_len)
  split
  · exact h2
  · exact h2.with' (t_9 hid (by omega) (by omega))
structure PC (x : Gs) (p : Pt) : Prop where
  oks : OkNo p.o p.s
  xs : ∀ q ∈ x.l,OkNo q.o q.s ∧ q.ops.length ≤ 14 ∧ AllT q ∧ ¬ (q.o = p.o ∧ q.s = p.s)
theorem vis_ok {x : Gs} {p : Pt} {seen : List Bool} {kind : Int} (h : PC x p) (hl : p.ops.length ≤ 16) {y : Id3} (hy : y ∈ visible x seen p kind) : OkId y ∧ ∀ j : Int,(p.ops.length : Int) ≤ j → y ≠ ⟨p.o,p.s,j⟩ := by
  unfold visible at hy
  rcases List.mem_append.1 hy with hy | hy
  · obtain ⟨i,hi,hy⟩ := upto_mem.1 hy
    obtain ⟨_,k,hk,_,rfl⟩ := mem_visOne.1 hy
    have hq := h.xs _ (getD_mem (d := default) hi)
    generalize x.l.getD i default = q at hq hk
    obtain ⟨q1,q2,_,q3⟩ := hq
    unfold OkNo at q1
    refine ⟨by unfold OkId; dsimp only; omega,fun j _ e => q3 ?_⟩
    simp only [Id3.mk.injEq] at e
    exact ⟨e.1,e.2.1⟩
  · obtain ⟨_,k,hk,_,rfl⟩ := mem_visOne.1 hy
    have q1 := h.oks
    unfold OkNo at q1
    refine ⟨by unfold OkId; dsimp only; omega,fun j hj e => ?_⟩
    simp only [Id3.mk.injEq] at e
    omega
theorem vis_at {x : Gs} {p : Pt} {seen : List Bool} {kind : Int} (h : PC x p) (hl : p.ops.length ≤ 16) {m : List Int} {i : Nat} (hn : (visible x seen p kind).length ≠ 0) :
    OkId ((visible x seen p kind).getD (atN m i (visible x seen p kind).length) default) ∧ ∀ j : Int,(p.ops.length : Int) ≤ j → (visible x seen p kind).getD (atN m i (visible x seen p kind).length) default ≠ ⟨p.o,p.s,j⟩ :=
  vis_ok h hl (getD_mem (atN_lt (by omega)))
theorem quoted_T {x : Gs} {seen : List Bool} {p : Pt} {sense : Id3} {m : List Int} (h : AllT p) (hc : PC x p) (hl : p.ops.length ≤ 12) (hs : OkId sense) : AllT (quoted x seen p sense m) := by
  have a2 := atOf_range (l := m) (i := 2) (most := 60) (by omega)
  have a4 := atOf_range (l := m) (i := 4) (most := 8) (by omega)
  have a5 := atOf_range (l := m) (i := 5) (most := 90) (by omega)
  unfold quoted
  dsimp only
  split
  · refine (h.with' (t_3 (getD_ge (by decide) (atN_lt (n := 3) (by omega))) (Nat.le_trans (getD_le (c := 5) (by decide)) (by omega)) (by decide) (by omega) (by omega) (by omega))).with' (t_4 hs (next_ok hc.oks (by omega)) (by omega) (by omega) gloss_len)
  · rename_i hne
    exact h.with' (t_4 hs (vis_at hc (by omega) (fun e => hne (.inl e))).1 (by omega) (by omega) gloss_len)
theorem meaning_lenT {p : Pt} {on : Id3} {m : List Int} : p.ops.length + 2 ≤ (meaning p on m).ops.length ∧ (meaning p on m).ops.length ≤ p.ops.length + 3 ∧ (meaning p on m).o = p.o ∧ (meaning p on m).s = p.s := by
  unfold meaning
  dsimp only
  split <;> simp [withOp]
theorem divided_T {p : Pt} {entry sense : Id3} {m : List Int} (h : AllT p) (ho : OkNo p.o p.s) (hl : p.ops.length ≤ 7) (he : OkId entry) (hs : OkId sense) (hn : ∀ j : Int,(p.ops.length : Int) ≤ j → sense ≠ ⟨p.o,p.s,j⟩) : AllT (divided p entry sense m) := by
  have a4 := atOf_range (l := m) (i := 4) (most := 3) (by omega)
  unfold divided
  dsimp only
  obtain ⟨m1,m2,m3,m4⟩ := meaning_lenT (p := p) (on := entry) (m := m)
  have h1 := meaning_T (m := m) h ho (by omega) he
  generalize meaning p entry m = p1 at m1 m2 m3 m4 h1 ⊢
  have ho1 : OkNo p1.o p1.s := by rw [m3,m4]; exact ho
  have h2 := meaning_T (m := m.drop 1) h1 ho1 (by omega) he
  refine h2.with' (t_16 hs (next_ok ho (by omega)) (next_ok ho1 (by omega)) ?_ ?_ ?_ (by omega) (by omega))
  · intro e
    unfold nextId at e
    simp only [Id3.mk.injEq] at e
    omega
  · exact fun e => hn _ (Int.le_refl _) e.symm
  · intro e
    refine hn p1.ops.length (by omega) ?_
    rw [← e]
    unfold nextId
    rw [m3,m4]
theorem small_T {sense other : Id3} {n : Int} {m : List Int} (hs : OkId sense) (ho : OkId other) : TOp (small sense other n m) := by
  have a1 := atOf_range (l := m) (i := 3) (most := 2) (by omega)
  have a2 := atOf_range (l := m) (i := 3) (most := 9) (by omega)
  have a3 := atOf_range (l := m) (i := 4) (most := 4) (by omega)
  have a4 := atOf_range (l := m) (i := 3) (most := 5) (by omega)
  have a5 := atOf_range (l := m) (i := 3) (most := 3) (by omega)
  unfold small
  repeat' split
  · exact t_7 hs gloss_len
  · exact t_9 hs (by omega) (by omega)
  · exact t_10 hs (by omega) (by omega)
  · exact t_12 hs (getD_ge (by decide) (atN_lt (n := 3) (by omega))) (Nat.le_trans (getD_le (c := 2) (by decide)) (by omega)) gloss_len
  · exact t_14 hs (getD_ge (by decide) (atN_lt (n := 2) (by omega))) (Nat.le_trans (getD_le (c := 4) (by decide)) (by omega)) (by omega) (by omega)
  · exact t_15 hs ho (by omega) (by omega)
  · exact t_13 hs ho (by omega) (by omega)
  · exact t_8 hs (by omega) (by omega)
theorem spl_ok {x : Gs} {p : Pt} {seen : List Bool} (h : PC x p) (hp : AllT p) {o : OpP} (ho : o ∈ splits x seen p) : TOp o ∧ o.k = 16 := by
  have one : ∀ {q : Pt} {ok : Bool},AllT q → o ∈ splOne q ok → TOp o ∧ o.k = 16 := by
    intro q ok hq ho
    unfold splOne at ho
    obtain ⟨k,hk,h⟩ := upto_mem.1 ho
    unfold splOps at h
    split at h
    · rename_i hc
      rw [List.mem_singleton.1 h]
      exact ⟨hq _ (getD_mem hk),hc.2⟩
    · cases h
  unfold splits at ho
  rcases List.mem_append.1 ho with ho | ho
  · obtain ⟨i,hi,ho⟩ := upto_mem.1 ho
    exact one (h.xs _ (getD_mem (d := default) hi)).2.2.1 ho
  · exact one hp ho
theorem step_T {x : Gs} {seen : List Bool} {p : Pt} {m : List Int} (h : AllT p) (hc : PC x p) (hv : VOk x seen p) (hl : p.ops.length ≤ 7) : AllT (step x seen p m) := by
  have a0 := atOf_range (l := m) (i := 0) (most := 24) (by omega)
  have a3 := atOf_range (l := m) (i := 3) (most := 60) (by omega)
  have h8 : ∀ i : Nat,(heads8.getD i []).length ≤ 60 := fun i => Nat.le_trans (getD_le (c := 4) (by decide)) (by omega)
  unfold step
  dsimp only
  by_cases c0 : (visible x seen p 2).length = 0 ∨ atOf m 0 24 ≤ 5
  · rw [if_pos c0]
    exact meaning_T (h.with' (t_1 (getD_ge (by decide) (atN_lt (n := 5) (by omega))) (Nat.le_trans (getD_le (c := 1) (by decide)) (by omega)) (h8 _))) hc.oks (by rw [withOp_len]; omega) (next_ok hc.oks (by omega))
  · rw [if_neg c0]
    have hs0 : (visible x seen p 2).length ≠ 0 := fun e => c0 (.inl e)
    have he0 := hv hs0
    have hE1 := vis_at (seen := seen) (kind := 1) (m := m) (i := 1) hc (by omega) he0
    have hS1 := vis_at (seen := seen) (kind := 2) (m := m) (i := 1) hc (by omega) hs0
    have hS2 := vis_at (seen := seen) (kind := 2) (m := m) (i := 2) hc (by omega) hs0
    generalize (visible x seen p 1).getD (atN m 1 (visible x seen p 1).length) default = entry at hE1 ⊢
    generalize (visible x seen p 2).getD (atN m 1 (visible x seen p 2).length) default = sense at hS1 ⊢
    generalize (visible x seen p 2).getD (atN m 2 (visible x seen p 2).length) default = other at hS2 ⊢
    have rest : ∀ {n : Int},AllT (stepRest p sense other n m) := h.with' (small_T hS1.1 hS2.1)
    generalize atOf m 0 24 = n
    by_cases c1 : n = 6
    · rw [if_pos c1]; exact meaning_T h hc.oks (by omega) hE1.1
    rw [if_neg c1]
    by_cases c2 : n = 7
    · rw [if_pos c2]; exact meaning_T h hc.oks (by omega) hS1.1
    rw [if_neg c2]
    by_cases c3 : n = 8 ∨ n = 9
    · rw [if_pos c3]; exact quoted_T h hc (by omega) hS1.1
    rw [if_neg c3]
    by_cases c4 : n = 10
    · rw [if_pos c4]; exact divided_T h hc.oks hl hE1.1 hS1.1 hS1.2
    rw [if_neg c4]
    by_cases c5 : n = 11
    · rw [if_pos c5]
      by_cases d1 : other = sense
      · rw [if_pos d1]; exact rest
      · rw [if_neg d1]; exact h.with' (t_17 hS1.1 hS2.1 (fun e => d1 e.symm))
    rw [if_neg c5]
    by_cases c6 : n = 12
    · rw [if_pos c6]
      by_cases d1 : (splits x seen p).length = 0
      · rw [if_pos d1]; exact rest
      · rw [if_neg d1]
        obtain ⟨w1,w2⟩ := spl_ok hc h (getD_mem (d := default) (i := atN m 3 (splits x seen p).length) (atN_lt (by omega)))
        generalize (splits x seen p).getD (atN m 3 (splits x seen p).length) default = o at w1 w2 ⊢
        have hol := w1.ok w2
        obtain ⟨v1,v2,v3,v4,v5⟩ := w1.v
        have hon : OkId o.on := v1.2.1 (by rw [w2]; decide)
        have hids := (v2.2.2.1 (by rw [w2]; decide)).1
        exact h.with' (t_18 hS1.1 hon (hids _ (getD_mem (atN_lt (by omega)))).1)
    rw [if_neg c6]
    by_cases c7 : n = 13
    · rw [if_pos c7]
      by_cases d1 : atOf m 2 2 = 0
      · rw [if_pos d1]; exact h.with' (t_5 hE1.1 (h8 _))
      · rw [if_neg d1]; exact h.with' (t_6 hE1.1 (getD_ge (by decide) (atN_lt (n := 2) (by omega))) (Nat.le_trans (getD_le (c := 1) (by decide)) (by omega)))
    rw [if_neg c7]
    by_cases c8 : n = 14
    · rw [if_pos c8]
      by_cases d1 : (visible x seen p 3).length = 0
      · rw [if_pos d1]; exact rest
      · rw [if_neg d1]; exact h.with' (t_11 (vis_at hc (by omega) d1).1 (by omega) (by omega) (by omega))
    rw [if_neg c8]
    exact rest
end Go.Proofs.YtoeckfegggongaaDoor
end
section
namespace Go.Proofs.YtoeckfegggongaaDoor
open Go Go.Aw
def NdOk (o b : Int) (l : List Rf) : Prop := ∀ i,i < l.length → 0 ≤ (l.getD i default).o ∧ (l.getD i default).o < b ∧ (l.getD i default).o ≠ o ∧ 1 ≤ (l.getD i default).s ∧ (l.getD i default).s ≤ 16 ∧ (0 < i → (l.getD (i - 1) default).o < (l.getD i default).o)
theorem NdOk.mono {o b b' : Int} {l : List Rf} (h : NdOk o b l) (hb : b ≤ b') : NdOk o b' l := fun i hi => by
  obtain ⟨h1,h2,h3⟩ := h i hi
  exact ⟨h1,by omega,h3⟩
theorem NdOk.snoc {o : Int} {q : Nat} {s : Int} {l : List Rf} (h : NdOk o q l) (hq : (q : Int) ≠ o) (h1 : 1 ≤ s) (h2 : s ≤ 16) : NdOk o ((q + 1 : Nat) : Int) (l ++ [⟨q,s⟩]) := by
  intro i hi
  rw [List.length_append,List.length_singleton] at hi
  by_cases hl : i < l.length
  · rw [getD_app hl]
    obtain ⟨g1,g2,g3,g4,g5,g6⟩ := h i hl
    refine ⟨g1,by omega,g3,g4,g5,fun h0 => ?_⟩
    rw [getD_app (by omega)]
    exact g6 h0
  · rw [getD_end (by omega)]
    refine ⟨by simp,by simp; omega,hq,h1,h2,fun h0 => ?_⟩
    rw [getD_app (by omega)]
    exact (h (i - 1) (by omega)).2.1
theorem last_spec {x : Gs} {o : Int} : ∀ n : Nat,(0 ≤ lastTo x o n → (x.l.getD (lastTo x o n).toNat default).o = o) ∧ ∀ i : Nat,i < n → lastTo x o n < i → (x.l.getD i default).o ≠ o
  | 0 => ⟨fun h => by simp [lastTo] at h,fun i hi => by omega⟩
  | n + 1 => by
    obtain ⟨h1,h2⟩ := last_spec (x := x) (o := o) n
    unfold lastTo
    split
    · rename_i hc
      refine ⟨fun _ => by simpa using hc,fun i hi hl => by omega⟩
    · rename_i hc
      refine ⟨h1,fun i hi hl => ?_⟩
      by_cases e : i = n
      · rw [e]; exact hc
      · exact h2 i (by omega) hl
structure QV (q : Pt) : Prop where
  oo : 0 ≤ q.o ∧ q.o ≤ 2
  ss : 1 ≤ q.s
  T : AllT q
  ne : q.ops ≠ []
  nd : NdOk q.o 3 q.needs
  nl : q.needs.length ≤ 3
  sl : q.sl = []
structure GV (x : Gs) : Prop where
  q : ∀ p ∈ x.l,QV p
  u : ∀ i j : Nat,i < j → j < x.l.length → (x.l.getD i default).o = (x.l.getD j default).o → (x.l.getD i default).s < (x.l.getD j default).s
theorem rounds_V {x : Gs} (hx : GInv x) (hv : GV x) (hn : x.l.length ≤ 15) {o : Int} {m : List Int} : ∀ q : Nat,(nextRounds x o m q).p.o = o ∧ NdOk o q (nextRounds x o m q).p.needs ∧ (nextRounds x o m q).p.s = if o < q ∧ 0 ≤ o ∧ 0 ≤ last x o then (x.l.getD (last x o).toNat default).s + 1 else 1
  | 0 => by
    refine ⟨rfl,fun i hi => by simp [nextRounds,pt0] at hi,?_⟩
    rw [if_neg (by omega)]
    rfl
  | q + 1 => by
    obtain ⟨h1,h2,h3⟩ := rounds_V hx hv hn (o := o) (m := m) q
    obtain ⟨r1,r2⟩ := lastTo_range (x := x) (q := (q : Int)) x.l.length
    simp only [nextRounds]
    generalize nextRounds x o m q = s at h1 h2 h3 ⊢
    unfold nextRound
    dsimp only
    split
    · rename_i hc
      refine ⟨h1,h2.mono (by omega),?_⟩
      rw [h3]
      by_cases e : (q : Int) = o
      · subst e
        rw [if_neg (by omega),if_neg (by omega)]
      · by_cases c : o < (q : Int) ∧ 0 ≤ o ∧ 0 ≤ last x o
        · rw [if_pos c,if_pos ⟨by omega,c.2⟩]
        · rw [if_neg c,if_neg (fun d => c ⟨by omega,d.2⟩)]
    · rename_i hc
      have hk : 0 ≤ last x q := by omega
      have hkl : (last x q).toNat < x.l.length := by unfold last at *; omega
      have hq := hv.q _ (getD_mem (d := default) hkl)
      have hs := hx.sq _ (getD_mem (d := default) hkl)
      by_cases e : (q : Int) = o
      · subst e
        rw [if_pos rfl]
        refine ⟨h1,h2.mono (by omega),?_⟩
        rw [if_pos ⟨by omega,by omega,hk⟩]
      · rw [if_neg e]
        refine ⟨h1,NdOk.snoc h2 e hq.ss (by omega),?_⟩
        dsimp only
        rw [h3]
        by_cases c : o < (q : Int) ∧ 0 ≤ o ∧ 0 ≤ last x o
        · rw [if_pos c,if_pos ⟨by omega,c.2⟩]
        · rw [if_neg c,if_neg (fun d => c ⟨by omega,d.2⟩)]
theorem step_ne {x : Gs} {seen : List Bool} {p : Pt} {m : List Int} : (step x seen p m).ops ≠ [] := by
  have w : ∀ {p : Pt} {o : OpP},(withOp p o).ops ≠ [] := fun {p o} => by simp [withOp]
  have mm : ∀ {p : Pt} {on : Id3} {m : List Int},(meaning p on m).ops ≠ [] := fun {p on m} => by
    have := meaning_lenT (p := p) (on := on) (m := m)
    intro e
    rw [e] at this
    simp at this
  have qq : ∀ {sense : Id3} {m : List Int},(quoted x seen p sense m).ops ≠ [] := fun {sense m} => by
    unfold quoted
    dsimp only
    split
    · exact w
    · exact w
  unfold step
  dsimp only
  by_cases c0 : (visible x seen p 2).length = 0 ∨ atOf m 0 24 ≤ 5
  · rw [if_pos c0]; exact mm
  rw [if_neg c0]
  generalize (visible x seen p 1).getD (atN m 1 (visible x seen p 1).length) default = entry
  generalize (visible x seen p 2).getD (atN m 1 (visible x seen p 2).length) default = sense
  generalize (visible x seen p 2).getD (atN m 2 (visible x seen p 2).length) default = other
  generalize atOf m 0 24 = n
  by_cases c1 : n = 6
  · rw [if_pos c1]; exact mm
  rw [if_neg c1]
  by_cases c2 : n = 7
  · rw [if_pos c2]; exact mm
  rw [if_neg c2]
  by_cases c3 : n = 8 ∨ n = 9
  · rw [if_pos c3]; exact qq
  rw [if_neg c3]
  by_cases c4 : n = 10
  · rw [if_pos c4]; exact w
  rw [if_neg c4]
  by_cases c5 : n = 11
  · rw [if_pos c5]
    by_cases d1 : other = sense
    · rw [if_pos d1]; exact w
    · rw [if_neg d1]; exact w
  rw [if_neg c5]
  by_cases c6 : n = 12
  · rw [if_pos c6]
    by_cases d1 : (splits x seen p).length = 0
    · rw [if_pos d1]; exact w
    · rw [if_neg d1]; exact w
  rw [if_neg c6]
  by_cases c7 : n = 13
  · rw [if_pos c7]
    by_cases d1 : atOf m 2 2 = 0
    · rw [if_pos d1]; exact w
    · rw [if_neg d1]; exact w
  rw [if_neg c7]
  by_cases c8 : n = 14
  · rw [if_pos c8]
    by_cases d1 : (visible x seen p 3).length = 0
    · rw [if_pos d1]; exact w
    · rw [if_neg d1]; exact w
  rw [if_neg c8]
  exact w
theorem steps_T {x : Gs} {seen : List Bool} {p : Pt} {m : List Int} (hp : p.ops = []) (hv : VOk x seen p) (hc : PC x p) : ∀ i : Nat,i ≤ 2 → AllT (nextSteps x seen p m i)
  | 0,_ => fun o ho => by
    unfold nextSteps at ho
    rw [hp] at ho
    simp at ho
  | i + 1,hi => by
    obtain ⟨more,h1,h2⟩ := steps_inv (m := m) hp hv i
    have h3 := steps_T hp hv hc i (by omega) (m := m)
    have e := h1.eq
    have hl := h1.len
    unfold nextSteps
    have hlen : (nextSteps x seen p m i).ops.length ≤ 7 := by
      rw [e]
      simp [hp]
      omega
    have hc' : PC x (nextSteps x seen p m i) := by rw [e]; exact ⟨hc.oks,hc.xs⟩
    exact step_T h3 hc' h2 hlen
theorem GV.next {x : Gs} (hx : GInv x) (hv : GV x) (hn : x.l.length ≤ 14) {offices : Nat} (ho : 1 ≤ offices) (ho' : offices ≤ 3) (m : List Int) : GV (next x offices m) := by
  obtain ⟨a1,a2⟩ := atOf_range (l := m) (i := 0) (most := (offices : Int)) (by omega)
  have a5 := atN_lt (l := m) (i := 5) (n := 2) (by omega)
  have a5' : atN m 5 2 < 2 := a5
  unfold Go.Proofs.YtoeckfegggongaaDoor.next
  dsimp only
  generalize atOf m 0 (offices : Int) = o at a1 a2 ⊢
  obtain ⟨h1,h2,h3,h5,h6⟩ := rounds_inv hx (o := o) (m := m) offices
  obtain ⟨g1,g2,g3,g4⟩ := rounds_needs (x := x) (o := o) (m := m) offices
  obtain ⟨v1,v2,v3⟩ := rounds_V hx hv (by omega) (o := o) (m := m) offices
  obtain ⟨l1,l2⟩ := last_spec (x := x) (o := o) x.l.length
  obtain ⟨r1,r2⟩ := lastTo_range (x := x) (q := o) x.l.length
  generalize nextRounds x o m offices = s at h1 h2 h3 h5 h6 g1 g2 g3 g4 v1 v2 v3 ⊢
  have hsl : ∀ i,i < x.l.length → (x.l.getD i default).o = o → (x.l.getD i default).s < s.p.s := by
    intro i hi he
    have hik : ¬ (lastTo x o x.l.length < i) := fun hc => l2 i hi hc he
    have hk : 0 ≤ last x o := by unfold last; omega
    rw [v3,if_pos ⟨by omega,a1,hk⟩]
    unfold last
    by_cases e : i = (lastTo x o x.l.length).toNat
    · rw [← e]; omega
    · have := hv.u i (lastTo x o x.l.length).toNat (by omega) (by omega) (by rw [he,l1 (by omega)])
      omega
  have hs1 : 1 ≤ s.p.s := by
    rw [v3]
    split
    · rename_i hc
      have := (hv.q _ (getD_mem (d := default) (i := (last x o).toNat) (by unfold last at *; omega))).ss
      omega
    · omega
  have hc : PC x { s.p with day := s.p.day + atOf m 4 4 } := by
    refine ⟨?_,fun q hq => ?_⟩
    · unfold OkNo
      dsimp only
      rw [v1]
      omega
    · have hQ := hv.q q hq
      have hS := hx.sq q hq
      obtain ⟨i,hi,he⟩ := List.getElem_of_mem hq
      refine ⟨?_,hx.op q hq,hQ.T,?_⟩
      · unfold OkNo
        have := hQ.oo
        have := hQ.ss
        omega
      · rintro ⟨e1,e2⟩
        have := hsl i hi (by rw [getD_lt hi,he,e1]; exact v1)
        rw [getD_lt hi,he] at this
        dsimp only at e2
        omega
  have hbase : VOk x s.seen { s.p with day := s.p.day + atOf m 4 4 } := VOk.base hx h1 g2
  have hT := steps_T (m := m) (p := { s.p with day := s.p.day + atOf m 4 4 }) g2 hbase hc (1 + atN m 5 2) (by omega)
  obtain ⟨more,e1,e2⟩ := steps_inv (x := x) (seen := s.seen) (p := { s.p with day := s.p.day + atOf m 4 4 }) (m := m) g2 hbase (1 + atN m 5 2)
  have hne : (nextSteps x s.seen { s.p with day := s.p.day + atOf m 4 4 } m (1 + atN m 5 2)).ops ≠ [] := by
    rw [Nat.add_comm]
    exact step_ne
  have e3 := e1.eq
  generalize nextSteps x s.seen { s.p with day := s.p.day + atOf m 4 4 } m (1 + atN m 5 2) = p at hT hne e3 ⊢
  have po : p.o = o := by rw [e3]; exact v1
  have ps : p.s = s.p.s := by rw [e3]
  have hp : QV p := by
    refine ⟨by rw [po]; omega,by rw [ps]; exact hs1,hT,hne,?_,?_,?_⟩
    · rw [po,e3]; exact v2.mono (by omega)
    · rw [e3]; show s.p.needs.length ≤ 3; omega
    · rw [e3]; exact g3
  refine ⟨fun q hq => ?_,fun i j hij hj he => ?_⟩
  · rcases List.mem_append.1 hq with hq | hq
    · exact hv.q q hq
    · rw [List.mem_singleton.1 hq]; exact hp
  · dsimp only at hj he ⊢
    rw [List.length_append,List.length_singleton] at hj
    by_cases hjl : j < x.l.length
    · rw [getD_app hjl,getD_app (show i < x.l.length by omega)] at he ⊢
      exact hv.u i j hij hjl he
    · rw [getD_end (show j = x.l.length by omega),getD_app (show i < x.l.length by omega)] at he ⊢
      rw [ps]
      exact hsl i (by omega) (by rw [he,po])
theorem GV.nil : GV ⟨[],[]⟩ := ⟨by simp,by simp⟩
theorem next_len {x : Gs} {offices : Nat} {m : List Int} : (next x offices m).l.length = x.l.length + 1 := by simp [Go.Proofs.YtoeckfegggongaaDoor.next]
theorem to_inv (l : List Int) {offices : Nat} (ho : 1 ≤ offices) (ho' : offices ≤ 3) : ∀ i : Nat,i ≤ 9 → GInv (patchesTo l offices i) ∧ GV (patchesTo l offices i) ∧ (patchesTo l offices i).l.length = i
  | 0,_ => ⟨GInv.nil,GV.nil,rfl⟩
  | i + 1,hi => by
    obtain ⟨h1,h2,h3⟩ := to_inv l ho ho' i (by omega)
    refine ⟨h1.next (by omega) _,GV.next h1 h2 (by omega) ho ho' _,?_⟩
    unfold patchesTo
    rw [next_len,h3]
end Go.Proofs.YtoeckfegggongaaDoor
end
section
namespace Go.Proofs.YtoeckfegggongaaDoor
open Go Go.Aw
theorem not64 {x : Nat} (h : x < 18446744073709551616) : 18446744073709551615 ^^^ x = 18446744073709551615 - x := by
  apply Nat.eq_of_testBit_eq
  intro i
  have e1 : (18446744073709551615 : Nat) = 2 ^ 64 - 1 := rfl
  have e2 : (18446744073709551615 : Nat) - x = 2 ^ 64 - (x + 1) := by omega
  rw [Nat.testBit_xor,e2,e1,Nat.testBit_two_pow_sub_one,Nat.testBit_two_pow_sub_succ h]
  by_cases hi : i < 64
  · simp [hi]
  · have : x.testBit i = false := Nat.testBit_lt_two_pow (Nat.lt_of_lt_of_le (show x < 2 ^ 64 from h) (Nat.pow_le_pow_right (by decide) (Nat.le_of_not_lt hi)))
    simp [hi,this]
theorem not8 {x : Nat} (h : x < 256) : x ^^^ 255 = 255 - x := by
  apply Nat.eq_of_testBit_eq
  intro i
  have e1 : (255 : Nat) = 2 ^ 8 - 1 := rfl
  have e2 : (255 : Nat) - x = 2 ^ 8 - (x + 1) := by omega
  rw [Nat.testBit_xor,e2,e1,Nat.testBit_two_pow_sub_one,Nat.testBit_two_pow_sub_succ h]
  by_cases hi : i < 8
  · simp [hi]
  · have : x.testBit i = false := Nat.testBit_lt_two_pow (Nat.lt_of_lt_of_le (show x < 2 ^ 8 from h) (Nat.pow_le_pow_right (by decide) (Nat.le_of_not_lt hi)))
    simp [hi,this]
def flI (b : Bool) : Int := if b = true then 255 else 0
theorem xor8 {b : Bool} {x : Nat} (h : x < 256) : bits .xor .u8 (x : Int) (flI b) = ((flip8 b (UInt8.ofNat x)).toNat : Int) := by
  cases b with
  | false =>
    have := u8_xor_nat x 0 h (by omega)
    simp only [Nat.xor_zero] at this
    simp only [flI,flip8,Bool.false_eq_true,if_false]
    rw [show ((0 : Int)) = ((0 : Nat) : Int) from rfl,this,UInt8.toNat_ofNat',Nat.mod_eq_of_lt h]
  | true =>
    have := u8_xor_nat x 255 h (by omega)
    rw [not8 h] at this
    have hx : (UInt8.ofNat x).toNat = x := by rw [UInt8.toNat_ofNat',Nat.mod_eq_of_lt h]
    simp only [flI,flip8,if_true]
    rw [show ((255 : Int)) = ((255 : Nat) : Int) from rfl,this,UInt8.toNat_sub_of_le _ _ (by rw [UInt8.le_iff_toNat_le,hx]; simp; omega),hx]
    simp
theorem digs_le : ∀ (m k : Nat),(digs m).length ≤ k ↔ m < 256 ^ k
  | m,0 => by
    by_cases hm : m = 0
    · subst hm; simp [digs_zero]
    · rw [digs_pos hm]; simp; omega
  | m,k + 1 => by
    by_cases hm : m = 0
    · subst hm; simp [digs_zero,Nat.pow_pos]
    · rw [digs_pos hm,List.length_cons,Nat.succ_le_succ_iff,digs_le (m / 256) k,Nat.div_lt_iff_lt_mul (by omega),Nat.pow_succ]
theorem digs_get : ∀ (i m : Nat),i < (digs m).length → (digs m).getD i 0 = UInt8.ofNat (m / 256 ^ i % 256)
  | i,m,h => by
    by_cases hm : m = 0
    · subst hm; simp [digs_zero] at h
    · rw [digs_pos hm] at h ⊢
      cases i with
      | zero => simp
      | succ i =>
        rw [List.getD_cons_succ,digs_get i (m / 256) (by simpa using h),Nat.div_div_eq_div_mul,Nat.pow_succ,Nat.mul_comm]
theorem shr_pow {m i : Nat} (hi : i ≤ 8) : ((m : Int)).fdiv (2 ^ (min ((8 * (i : Int)).toNat) IntKind.u64.bits)) = ((m / 256 ^ i : Nat) : Int) := by
  have e1 : (8 * (i : Int)).toNat = 8 * i := by omega
  have e2 : min (8 * i) IntKind.u64.bits = 8 * i := by
    have : IntKind.u64.bits = 64 := rfl
    omega
  rw [e1,e2,show (256 : Nat) = 2 ^ 8 from rfl,← Nat.pow_mul]
  rw [Int.fdiv_eq_ediv_of_nonneg _ (by exact Int.le_of_lt (Int.pow_pos (by omega)))]
  norm_cast
theorem wrap_u64c {n : Int} (h : inR .i64 n) : IntKind.u64.wrap n = (if n < 0 then n + 18446744073709551616 else n) := by
  rw [inR_i64] at h
  rw [IntKind.wrap_u64]
  split <;> omega
theorem wrap_u8c {x : Nat} : IntKind.u8.wrap ((x : Nat) : Int) = ((x % 256 : Nat) : Int) := by
  rw [IntKind.wrap_u8']
  omega
end Go.Proofs.YtoeckfegggongaaDoor
end
section
namespace Go.Proofs.YtoeckfegggongaaDoor
open Go Go.Aw
theorem w_cnt {b : Bool} {m0 : Nat} {H : AH} {Q : AQ} {F : List D} (hm : (digs m0).length ≤ 8) (hF : Fr 47 [(3,.int .u64 (m0 : Int)),(4,.int .u8 (flI b)),(5,.int .i64 8)] F) (hE : ∀ F',Fr 47 [(3,.int .u64 (m0 : Int)),(4,.int .u8 (flI b)),(5,.int .i64 ((digs m0).length : Int))] F' → Q (.exit 0) F' H) : XW Tryd.prog x38_L3 F H Q := by
  have hbig := big_eq
  refine XW.loopK Go.Proofs.YtoeckfegggongaaDoor.hm (fun F H' => ∃ (k : Nat),k ≤ 8 ∧ (digs m0).length ≤ k ∧ Fr 47 [(3,.int .u64 (m0 : Int)),(4,.int .u8 (flI b)),(5,.int .i64 (k : Int))] F ∧ H = H') (fun F H => match F.getD 5 .any with | .int _ n' => n'.toNat | _ => 0) ⟨8,by omega,hm,hF,rfl⟩ ?_
  rintro _ _ ⟨k,hk,hd,hF,rfl⟩ K hN hE' hR
  obtain ⟨z,rfl⟩ : ∃ z : Nat → D,_ = [z 0,z 1,z 2,.int .u64 (m0 : Int),.int .u8 (flI b),.int .i64 (k : Int),z 6,z 7,z 8,z 9,z 10,z 11,z 12,z 13,z 14,z 15,z 16,z 17,z 18,z 19,z 20,z 21,z 22,z 23,z 24,z 25,z 26,z 27,z 28,z 29,z 30,z 31,z 32,z 33,z 34,z 35,z 36,z 37,z 38,z 39,z 40,z 41,z 42,z 43,z 44,z 45,z 46] := hF.lit
  clear hF hR
  rcases k with _ | k
  · clear hN
    have hd0 : (digs m0).length = 0 := by omega
    simp +contextual only [x38,show (0 < ((0 : Nat) : Int)) = False from by simp,↓U38,↓XP,XQ,XM,cellsOf,okc,one1,resOne,resAll,eqCells,cellEq,fits,sameK,ne_eq,ite_true,ite_false,Nat.reduceSub,Nat.reduceAdd,Nat.reduceMul,Nat.reduceEqDiff,Nat.reduceLeDiff,Nat.reduceBEq,reduceCtorEq,TYX]
    exact hE' _ _ _ (hE _ (by rw [hd0]; exact ⟨rfl,rfl,rfl,rfl,trivial⟩))
  · have w1 : IntKind.i64.wrap (((k + 1 : Nat) : Int) - 1) = (k : Int) := by rw [wrap_id (by omega) (by omega)]; omega
    have w2 : IntKind.i64.wrap (8 * (k : Int)) = 8 * (k : Int) := wrap_id (by omega) (by omega)
    have w3 := shr_pow (m := m0) (i := k) (by omega)
    have hc := digs_le m0 k
    by_cases hle : (digs m0).length ≤ k
    · have hz : m0 / 256 ^ k = 0 := Nat.div_eq_of_lt (hc.1 hle)
      rw [hz] at w3
      simp +contextual only [x38,show (0 < ((k + 1 : Nat) : Int)) = True from eq_true (by omega),w1,w2,w3,show (0 ≤ 8 * (k : Int)) = True from eq_true (by omega),show (0 < ((0 : Nat) : Int)) = False from by simp,↓U38,↓XP,XQ,XM,cellsOf,okc,one1,resOne,resAll,eqCells,cellEq,fits,sameK,ne_eq,ite_true,ite_false,Nat.reduceSub,Nat.reduceAdd,Nat.reduceMul,Nat.reduceEqDiff,Nat.reduceLeDiff,Nat.reduceBEq,reduceCtorEq,TYX]
      refine hN _ _ ⟨k,by omega,hle,⟨rfl,rfl,rfl,rfl,trivial⟩,(back_0 rfl).symm⟩ ?_
      simp only [List.getD_cons_succ,List.getD_cons_zero]
      omega
    · have hp : 0 < m0 / 256 ^ k := by
        refine Nat.div_pos ?_ (Nat.pow_pos (by omega))
        have := mt hc.2 hle
        omega
      have hlen : (digs m0).length = k + 1 := by omega
      clear hN
      simp +contextual only [x38,show (0 < ((k + 1 : Nat) : Int)) = True from eq_true (by omega),w1,w2,w3,show (0 ≤ 8 * (k : Int)) = True from eq_true (by omega),show (0 < ((m0 / 256 ^ k : Nat) : Int)) = True from eq_true (by omega),↓U38,↓XP,XQ,XM,cellsOf,okc,one1,resOne,resAll,eqCells,cellEq,fits,sameK,ne_eq,ite_true,ite_false,Nat.reduceSub,Nat.reduceAdd,Nat.reduceMul,Nat.reduceEqDiff,Nat.reduceLeDiff,Nat.reduceBEq,reduceCtorEq,TYX]
      exact hE' _ _ _ (hE _ (by rw [hlen]; exact ⟨rfl,rfl,rfl,rfl,trivial⟩))
theorem w_out {b : Bool} {m0 : Nat} {hd : UInt8} {H : AH} {Q : AQ} {F : List D} (hm : (digs m0).length ≤ 8) (hF : Fr 47 [(3,.int .u64 (m0 : Int)),(4,.int .u8 (flI b)),(6,.own ([hd].map byteD)),(7,.int .i64 (((digs m0).length : Int) - 1))] F) (hE : ∀ F',Fr 47 [(6,.own ((hd :: (digs m0).reverse.map (flip8 b)).map byteD))] F' → Q (.exit 2) F' H) : XW Tryd.prog x38_L6 F H Q := by
  have hbig := big_eq
  refine XW.loopK Go.Proofs.YtoeckfegggongaaDoor.hm (fun F H' => ∃ (j : Nat),j ≤ (digs m0).length ∧ Fr 47 [(3,.int .u64 (m0 : Int)),(4,.int .u8 (flI b)),(6,.own ((hd :: ((digs m0).drop j).reverse.map (flip8 b)).map byteD)),(7,.int .i64 ((j : Int) - 1))] F ∧ H = H') (fun F H => match F.getD 7 .any with | .int _ n' => (n' + 1).toNat | _ => 0) ⟨(digs m0).length,by omega,by rw [List.drop_length]; exact hF,rfl⟩ ?_
  rintro _ _ ⟨j,hj,hF,rfl⟩ K hN hE' hR
  obtain ⟨z,rfl⟩ : ∃ z : Nat → D,_ = [z 0,z 1,z 2,.int .u64 (m0 : Int),.int .u8 (flI b),z 5,.own ((hd :: ((digs m0).drop j).reverse.map (flip8 b)).map byteD),.int .i64 ((j : Int) - 1),z 8,z 9,z 10,z 11,z 12,z 13,z 14,z 15,z 16,z 17,z 18,z 19,z 20,z 21,z 22,z 23,z 24,z 25,z 26,z 27,z 28,z 29,z 30,z 31,z 32,z 33,z 34,z 35,z 36,z 37,z 38,z 39,z 40,z 41,z 42,z 43,z 44,z 45,z 46] := hF.lit
  clear hF hR
  rcases j with _ | j
  · clear hN
    simp +contextual only [x38,show ((0 : Nat) : Int) - 1 = -1 from rfl,show (0 ≤ (-1 : Int)) = False from by simp,↓U38,↓XP,XQ,XM,cellsOf,okc,one1,resOne,resAll,eqCells,cellEq,fits,sameK,ne_eq,ite_true,ite_false,Nat.reduceSub,Nat.reduceAdd,Nat.reduceMul,Nat.reduceEqDiff,Nat.reduceLeDiff,Nat.reduceBEq,reduceCtorEq,TYX]
    exact hE' _ _ _ (hE _ ⟨rfl,rfl,trivial⟩)
  · have e0 : ((j + 1 : Nat) : Int) - 1 = (j : Int) := by omega
    have nx : ∀ F',Fr 47 [(3,.int .u64 (m0 : Int)),(4,.int .u8 (flI b)),(6,.own ((hd :: ((digs m0).drop j).reverse.map (flip8 b)).map byteD)),(7,.int .i64 ((j : Int) - 1))] F' → K .normal F' H := fun F' hF' => hN _ _ ⟨j,by omega,hF',(back_0 rfl).symm⟩ (by
      rw [List.getD_eq_getElem?_getD,hF'.2.2.2.2.1]
      simp only [List.getD_cons_succ,List.getD_cons_zero,Option.getD_some]
      omega)
    clear hN hE hE'
    rw [drop_rev (show j < (digs m0).length by omega)] at nx
    rw [e0]
    have q1 : (digs m0)[j] = UInt8.ofNat (m0 / 256 ^ j % 256) := by
      rw [← digs_get j m0 (by omega),List.getD_eq_getElem?_getD,List.getElem?_eq_getElem (show j < (digs m0).length by omega)]
      rfl
    have hlen : (List.map byteD (hd :: ((digs m0).drop (j + 1)).reverse.map (flip8 b))).length ≤ 9 := by
      simp only [List.length_map,List.length_cons,List.length_reverse,List.length_drop]
      omega
    have w1 : IntKind.i64.wrap ((j : Int) - 1) = (j : Int) - 1 := wrap_id (by omega) (by omega)
    have w2 : IntKind.i64.wrap (8 * (j : Int)) = 8 * (j : Int) := wrap_id (by omega) (by omega)
    have w3 := shr_pow (m := m0) (i := j) (by omega)
    have w4 := wrap_u8c (x := m0 / 256 ^ j)
    have w5 := xor8 (b := b) (x := m0 / 256 ^ j % 256) (Nat.mod_lt _ (by omega))
    rw [← q1] at w5
    rw [q1] at nx
    rw [q1] at w5
    simp only [List.map_append,List.map_cons,List.map_nil] at nx
    simp +contextual only [x38,show (0 ≤ (j : Int)) = True from eq_true (by omega),w1,w2,w3,w4,w5,show (0 ≤ 8 * (j : Int)) = True from eq_true (by omega),↓U38,↓XP,XQ,XM,cellsOf,okc,one1,resOne,resAll,eqCells,cellEq,fits,sameK,ne_eq,ite_true,ite_false,Nat.reduceSub,Nat.reduceAdd,Nat.reduceMul,Nat.reduceEqDiff,Nat.reduceLeDiff,Nat.reduceBEq,reduceCtorEq,TYX]
    exact ⟨⟨rfl,bytes_1⟩,by simp only [List.length_reverse,List.length_drop]; omega,nx _ ⟨rfl,rfl,rfl,rfl,rfl,trivial⟩⟩
theorem f_wInt {n : Int} {H : AH} {R : D → AH → Prop} (h : inR .i64 n → R (.own ((encInt n).map byteD)) H) : ACall Tryd.prog 38 [.int .i64 n] H R := by
  refine b38 fun hf => ?_
  have hbig := big_eq
  have hin : inR .i64 n := hf.1
  have hr := hin
  rw [inR_i64] at hr
  replace h := h hin
  have hlen := mag_len hin
  have hm := mag_lt hin
  obtain ⟨m0,hm0⟩ : ∃ m0,mag n = m0 := ⟨_,rfl⟩
  rw [encInt,hm0] at h
  rw [hm0] at hlen hm
  have w0 := wrap_u64c hin
  have w3 : IntKind.i64.wrap (((digs m0).length : Int) - 1) = ((digs m0).length : Int) - 1 := wrap_id (by omega) (by omega)
  have w4 : IntKind.i64.wrap (128 + ((digs m0).length : Int)) = ((128 + (digs m0).length : Nat) : Int) := by rw [wrap_id (by omega) (by omega)]; omega
  have w5 : IntKind.u8.wrap ((128 + (digs m0).length : Nat) : Int) = ((128 + (digs m0).length : Nat) : Int) := wrap_u8 (by omega) (by omega)
  have w6 := fun c => xor8 (b := c) (x := 128 + (digs m0).length) (by omega)
  by_cases hn : n < 0
  · have e1 : n + 18446744073709551616 = ((18446744073709551615 - m0 : Nat) : Int) := by
      have : m0 = (-1 - n).toNat := by rw [← hm0,mag,if_pos hn]
      omega
    have ux : bits .xor .u64 (if IntKind.u64.signed = true then -1 else IntKind.u64.max) ((18446744073709551615 - m0 : Nat) : Int) = ((m0 : Nat) : Int) := by
      rw [show (if IntKind.u64.signed = true then (-1 : Int) else IntKind.u64.max) = ((18446744073709551615 : Nat) : Int) from rfl,u64_xor_nat _ _ (by omega) (by omega),not64 (by omega)]
      omega
    rw [if_pos hn] at h w0
    rw [e1] at w0
    rw [show 127 - (digs m0).length = (flip8 true (UInt8.ofNat (128 + (digs m0).length))).toNat from by
      rw [flip8,if_pos rfl,UInt8.toNat_sub_of_le _ _ (by rw [UInt8.le_iff_toNat_le,UInt8.toNat_ofNat']; simp; omega),UInt8.toNat_ofNat']
      simp
      omega,UInt8.ofNat_toNat,decide_eq_true hn] at h
    simp +contextual only [x38,w0,hn,ux,↓U38,↓XP,XQ,XM,cellsOf,okc,one1,resOne,resAll,eqCells,cellEq,fits,sameK,ne_eq,ite_true,ite_false,Nat.reduceSub,Nat.reduceAdd,Nat.reduceMul,Nat.reduceEqDiff,Nat.reduceLeDiff,Nat.reduceBEq,reduceCtorEq,TYX]
    refine w_cnt (b := true) (m0 := m0) (by omega) ⟨rfl,rfl,rfl,rfl,trivial⟩ (fun F' hF' => ?_)
    obtain ⟨z,rfl⟩ : ∃ z : Nat → D,_ = (let b := true; [z 0,z 1,z 2,.int .u64 (m0 : Int),.int .u8 (flI b),.int .i64 ((digs m0).length : Int),z 6,z 7,z 8,z 9,z 10,z 11,z 12,z 13,z 14,z 15,z 16,z 17,z 18,z 19,z 20,z 21,z 22,z 23,z 24,z 25,z 26,z 27,z 28,z 29,z 30,z 31,z 32,z 33,z 34,z 35,z 36,z 37,z 38,z 39,z 40,z 41,z 42,z 43,z 44,z 45,z 46]) := hF'.lit
    simp +contextual only [x38,w3,w4,w5,w6,↓U38,↓XP,XQ,XM,cellsOf,okc,one1,resOne,resAll,eqCells,cellEq,fits,sameK,ne_eq,ite_true,ite_false,Nat.reduceSub,Nat.reduceAdd,Nat.reduceMul,Nat.reduceEqDiff,Nat.reduceLeDiff,Nat.reduceBEq,reduceCtorEq,TYX]
    rw [byte_of (UInt8.toNat_lt _),UInt8.ofNat_toNat]
    refine w_out (b := true) (m0 := m0) (hd := flip8 true (UInt8.ofNat (128 + (digs m0).length))) (by omega) ⟨rfl,rfl,rfl,rfl,rfl,trivial⟩ (fun F' hF' => ?_)
    obtain ⟨z,rfl⟩ : ∃ z : Nat → D,_ = (let b := true; let hd := flip8 true (UInt8.ofNat (128 + (digs m0).length)); [z 0,z 1,z 2,z 3,z 4,z 5,.own ((hd :: (digs m0).reverse.map (flip8 b)).map byteD),z 7,z 8,z 9,z 10,z 11,z 12,z 13,z 14,z 15,z 16,z 17,z 18,z 19,z 20,z 21,z 22,z 23,z 24,z 25,z 26,z 27,z 28,z 29,z 30,z 31,z 32,z 33,z 34,z 35,z 36,z 37,z 38,z 39,z 40,z 41,z 42,z 43,z 44,z 45,z 46]) := hF'.lit
    simp +contextual only [x38,↓U38,↓XP,XQ,XM,cellsOf,okc,one1,resOne,resAll,eqCells,cellEq,fits,sameK,ne_eq,ite_true,ite_false,Nat.reduceSub,Nat.reduceAdd,Nat.reduceMul,Nat.reduceEqDiff,Nat.reduceLeDiff,Nat.reduceBEq,reduceCtorEq,TYX]
    exact h
  · have e1 : n = ((m0 : Nat) : Int) := by rw [← hm0,mag,if_neg hn]; omega
    rw [if_neg hn] at h w0
    rw [show 128 + (digs m0).length = (flip8 false (UInt8.ofNat (128 + (digs m0).length))).toNat from by
      rw [flip8,if_neg (by simp),UInt8.toNat_ofNat']
      omega,UInt8.ofNat_toNat,decide_eq_false hn] at h
    replace w0 : IntKind.u64.wrap n = (m0 : Int) := w0.trans e1
    simp +contextual only [x38,w0,hn,↓U38,↓XP,XQ,XM,cellsOf,okc,one1,resOne,resAll,eqCells,cellEq,fits,sameK,ne_eq,ite_true,ite_false,Nat.reduceSub,Nat.reduceAdd,Nat.reduceMul,Nat.reduceEqDiff,Nat.reduceLeDiff,Nat.reduceBEq,reduceCtorEq,TYX]
    refine w_cnt (b := false) (m0 := m0) (by omega) ⟨rfl,rfl,rfl,rfl,trivial⟩ (fun F' hF' => ?_)
    obtain ⟨z,rfl⟩ : ∃ z : Nat → D,_ = (let b := false; [z 0,z 1,z 2,.int .u64 (m0 : Int),.int .u8 (flI b),.int .i64 ((digs m0).length : Int),z 6,z 7,z 8,z 9,z 10,z 11,z 12,z 13,z 14,z 15,z 16,z 17,z 18,z 19,z 20,z 21,z 22,z 23,z 24,z 25,z 26,z 27,z 28,z 29,z 30,z 31,z 32,z 33,z 34,z 35,z 36,z 37,z 38,z 39,z 40,z 41,z 42,z 43,z 44,z 45,z 46]) := hF'.lit
    simp +contextual only [x38,w3,w4,w5,w6,↓U38,↓XP,XQ,XM,cellsOf,okc,one1,resOne,resAll,eqCells,cellEq,fits,sameK,ne_eq,ite_true,ite_false,Nat.reduceSub,Nat.reduceAdd,Nat.reduceMul,Nat.reduceEqDiff,Nat.reduceLeDiff,Nat.reduceBEq,reduceCtorEq,TYX]
    rw [byte_of (UInt8.toNat_lt _),UInt8.ofNat_toNat]
    refine w_out (b := false) (m0 := m0) (hd := flip8 false (UInt8.ofNat (128 + (digs m0).length))) (by omega) ⟨rfl,rfl,rfl,rfl,rfl,trivial⟩ (fun F' hF' => ?_)
    obtain ⟨z,rfl⟩ : ∃ z : Nat → D,_ = (let b := false; let hd := flip8 false (UInt8.ofNat (128 + (digs m0).length)); [z 0,z 1,z 2,z 3,z 4,z 5,.own ((hd :: (digs m0).reverse.map (flip8 b)).map byteD),z 7,z 8,z 9,z 10,z 11,z 12,z 13,z 14,z 15,z 16,z 17,z 18,z 19,z 20,z 21,z 22,z 23,z 24,z 25,z 26,z 27,z 28,z 29,z 30,z 31,z 32,z 33,z 34,z 35,z 36,z 37,z 38,z 39,z 40,z 41,z 42,z 43,z 44,z 45,z 46]) := hF'.lit
    simp +contextual only [x38,↓U38,↓XP,XQ,XM,cellsOf,okc,one1,resOne,resAll,eqCells,cellEq,fits,sameK,ne_eq,ite_true,ite_false,Nat.reduceSub,Nat.reduceAdd,Nat.reduceMul,Nat.reduceEqDiff,Nat.reduceLeDiff,Nat.reduceBEq,reduceCtorEq,TYX]
    exact h
end Go.Proofs.YtoeckfegggongaaDoor
end
section
namespace Go.Proofs.YtoeckfegggongaaDoor
open Go Go.Aw
theorem f_wBytes {s : List UInt8} {H : AH} {R : D → AH → Prop} (hs : s.length ≤ 3000000000) (h : R (.own ((encBytes s).map byteD)) H) : ACall Tryd.prog 42 [.str s] H R := by
  refine b42 fun hf => ?_
  have hbig := big_eq
  have hl := encLen (n := s.length) (by omega)
  simp +contextual only [x42,bytesD_len,↓u42_s0,↓XP,XQ,XM,cellsOf,okc,one1,resOne,resAll,eqCells,cellEq,fits,sameK,ne_eq,ite_true,ite_false,Nat.reduceSub,Nat.reduceAdd,Nat.reduceMul,Nat.reduceEqDiff,Nat.reduceLeDiff,Nat.reduceBEq,reduceCtorEq,TYX]
  refine fun _ => f_wInt fun _ => ?_
  simp +contextual only [x42,bytesD_len,↓u42_s0,↓XP,XQ,XM,cellsOf,okc,one1,resOne,resAll,eqCells,cellEq,fits,sameK,ne_eq,ite_true,ite_false,Nat.reduceSub,Nat.reduceAdd,Nat.reduceMul,Nat.reduceEqDiff,Nat.reduceLeDiff,Nat.reduceBEq,reduceCtorEq,TYX]
  refine fun _ => ⟨bytes_1,by omega,?_⟩
  rw [← List.map_append]
  exact h
theorem f_wInts {l : List Int} {H : AH} {R : D → AH → Prop} (hl : l.length ≤ 30000000 ) (h : (encInts l).length ≤ 9 + 9 * l.length → R (.own ((encInts l).map byteD)) H) : ACall Tryd.prog 37 [.slc (ints l)] H R := by
  refine b37 fun hf => ?_
  have hbig := big_eq
  have hle := encLen (n := l.length) (by omega)
  simp +contextual only [x37,bytesD_len,ints_len,↓U37,↓XP,XQ,XM,cellsOf,okc,one1,resOne,resAll,eqCells,cellEq,fits,sameK,ne_eq,ite_true,ite_false,Nat.reduceSub,Nat.reduceAdd,Nat.reduceMul,Nat.reduceEqDiff,Nat.reduceLeDiff,Nat.reduceBEq,reduceCtorEq,TYX]
  refine fun _ => f_wInt fun _ => ?_
  simp +contextual only [x37,bytesD_len,ints_len,↓U37,↓XP,XQ,XM,cellsOf,okc,one1,resOne,resAll,eqCells,cellEq,fits,sameK,ne_eq,ite_true,ite_false,Nat.reduceSub,Nat.reduceAdd,Nat.reduceMul,Nat.reduceEqDiff,Nat.reduceLeDiff,Nat.reduceBEq,reduceCtorEq,TYX]
  refine fun _ _ => XW.loopK Go.Proofs.YtoeckfegggongaaDoor.hm (fun F H' => ∃ (i : Nat),i ≤ l.length ∧ (∀ x ∈ l.take i,inR .i64 x) ∧ Fr 21 [(3,.own ((encInt l.length ++ (l.take i).flatMap encInt).map byteD)),(9,.slc (ints l)),(10,.int .i64 l.length),(11,.int .i64 i)] F ∧ H = H') (fun F H => match F.getD 11 .any with | .int _ n' => l.length - n'.toNat | _ => 0) ⟨0,by omega,by simp,by simp only [List.take_zero,List.flatMap_nil,List.append_nil]; exact ⟨rfl,rfl,rfl,rfl,rfl,trivial⟩,rfl⟩ ?_
  rintro _ _ ⟨i,hi,hr,hF,rfl⟩ K hN hE hR
  obtain ⟨z,rfl⟩ : ∃ z : Nat → D,_ = [z 0,z 1,z 2,.own ((encInt l.length ++ (l.take i).flatMap encInt).map byteD),z 4,z 5,z 6,z 7,z 8,.slc (ints l),.int .i64 l.length,.int .i64 i,z 12,z 13,z 14,z 15,z 16,z 17,z 18,z 19,z 20] := hF.lit
  clear hF hR
  by_cases hlt : i < l.length
  · have nx : inR .i64 (l.getD i 0) → ∀ F',Fr 21 [(3,.own ((encInt l.length ++ (l.take i).flatMap encInt ++ encInt (l.getD i 0)).map byteD)),(9,.slc (ints l)),(10,.int .i64 l.length),(11,.int .i64 ((i + 1 : Nat) : Int))] F' → K .normal F' H := fun hx F' hF' => hN _ _ ⟨i + 1,hlt,fun x hx' => by
      rw [List.take_add_one] at hx'
      rcases List.mem_append.1 hx' with hx' | hx'
      · exact hr x hx'
      · simp [hlt] at hx'
        rw [hx']
        simpa [hlt] using hx,by rw [flat_take (d := 0) hlt,← List.append_assoc]; exact hF',(back_0 rfl).symm⟩ (by
      rw [List.getD_eq_getElem?_getD,hF'.2.2.2.2.1]
      simp only [List.getD_cons_succ,List.getD_cons_zero,Option.getD_some]
      omega)
    clear hN hE
    have q1 := ints_getD (l := l) hlt
    have hfl := flat_len9 hr
    rw [List.length_take] at hfl
    generalize l.getD i 0 = x at q1 nx
    have hal : (encInt (l.length : Int) ++ (l.take i).flatMap encInt).length ≤ 9 + 9 * i := by rw [List.length_append]; omega
    generalize encInt (l.length : Int) ++ (l.take i).flatMap encInt = ac at nx hal ⊢
    simp +contextual only [x37,bytesD_len,ints_len,hlt,Int.ofNat_lt,q1,wrap_succ (show i ≤ big by omega),↓U37,↓XP,XQ,XM,cellsOf,okc,one1,resOne,resAll,eqCells,cellEq,fits,sameK,ne_eq,ite_true,ite_false,Nat.reduceSub,Nat.reduceAdd,Nat.reduceMul,Nat.reduceEqDiff,Nat.reduceLeDiff,Nat.reduceBEq,reduceCtorEq,TYX]
    refine fun hx => f_wInt fun _ => ?_
    have hxl := encInt_len hx
    simp +contextual only [x37,bytesD_len,ints_len,wrap_succ (show i ≤ big by omega),↓U37,↓XP,XQ,XM,cellsOf,okc,one1,resOne,resAll,eqCells,cellEq,fits,sameK,ne_eq,ite_true,ite_false,Nat.reduceSub,Nat.reduceAdd,Nat.reduceMul,Nat.reduceEqDiff,Nat.reduceLeDiff,Nat.reduceBEq,reduceCtorEq,TYX]
    refine fun _ => ⟨bytes_1,bytes_1,by omega,?_⟩
    rw [← List.map_append]
    exact nx hx _ ⟨rfl,rfl,rfl,rfl,rfl,trivial⟩
  · have hik : i = l.length := by omega
    subst hik
    clear hN
    simp +contextual only [x37,bytesD_len,ints_len,↓U37,↓XP,XQ,XM,cellsOf,okc,one1,resOne,resAll,eqCells,cellEq,fits,sameK,ne_eq,ite_true,ite_false,Nat.reduceSub,Nat.reduceAdd,Nat.reduceMul,Nat.reduceEqDiff,Nat.reduceLeDiff,Nat.reduceBEq,reduceCtorEq,TYX]
    refine hE _ _ _ ?_
    rw [List.take_length] at hr ⊢
    simp +contextual only [x37,bytesD_len,ints_len,↓U37,↓XP,XQ,XM,cellsOf,okc,one1,resOne,resAll,eqCells,cellEq,fits,sameK,ne_eq,ite_true,ite_false,Nat.reduceSub,Nat.reduceAdd,Nat.reduceMul,Nat.reduceEqDiff,Nat.reduceLeDiff,Nat.reduceBEq,reduceCtorEq,TYX]
    refine h ?_
    have := flat_len9 hr
    rw [encInts,List.length_append]
    omega
theorem f_wStrings {l : List (List UInt8)} {H : AH} {R : D → AH → Prop} (hl : l.length ≤ 1000) (hs : ∀ x ∈ l,x.length ≤ 3000000) (h : R (.own ((encStrs l).map byteD)) H) : ACall Tryd.prog 41 [.slc (strs l)] H R := by
  refine b41 fun hf => ?_
  have hbig := big_eq
  have hle := encLen (n := l.length) (by omega)
  simp +contextual only [x41,bytesD_len,strs_len,↓U41,↓XP,XQ,XM,cellsOf,okc,one1,resOne,resAll,eqCells,cellEq,fits,sameK,ne_eq,ite_true,ite_false,Nat.reduceSub,Nat.reduceAdd,Nat.reduceMul,Nat.reduceEqDiff,Nat.reduceLeDiff,Nat.reduceBEq,reduceCtorEq,TYX]
  refine fun _ => f_wInt fun _ => ?_
  simp +contextual only [x41,bytesD_len,strs_len,↓U41,↓XP,XQ,XM,cellsOf,okc,one1,resOne,resAll,eqCells,cellEq,fits,sameK,ne_eq,ite_true,ite_false,Nat.reduceSub,Nat.reduceAdd,Nat.reduceMul,Nat.reduceEqDiff,Nat.reduceLeDiff,Nat.reduceBEq,reduceCtorEq,TYX]
  refine fun _ _ => XW.loopK Go.Proofs.YtoeckfegggongaaDoor.hm (fun F H' => ∃ (i : Nat),i ≤ l.length ∧ Fr 21 [(3,.own ((encInt l.length ++ (l.take i).flatMap encBytes).map byteD)),(9,.slc (strs l)),(10,.int .i64 l.length),(11,.int .i64 i)] F ∧ H = H') (fun F H => match F.getD 11 .any with | .int _ n' => l.length - n'.toNat | _ => 0) ⟨0,by omega,by simp only [List.take_zero,List.flatMap_nil,List.append_nil]; exact ⟨rfl,rfl,rfl,rfl,rfl,trivial⟩,rfl⟩ ?_
  rintro _ _ ⟨i,hi,hF,rfl⟩ K hN hE hR
  obtain ⟨z,rfl⟩ : ∃ z : Nat → D,_ = [z 0,z 1,z 2,.own ((encInt l.length ++ (l.take i).flatMap encBytes).map byteD),z 4,z 5,z 6,z 7,z 8,.slc (strs l),.int .i64 l.length,.int .i64 i,z 12,z 13,z 14,z 15,z 16,z 17,z 18,z 19,z 20] := hF.lit
  clear hF hR
  by_cases hlt : i < l.length
  · have nx : ∀ F',Fr 21 [(3,.own ((encInt l.length ++ (l.take i).flatMap encBytes ++ encBytes (l.getD i [])).map byteD)),(9,.slc (strs l)),(10,.int .i64 l.length),(11,.int .i64 ((i + 1 : Nat) : Int))] F' → K .normal F' H := fun F' hF' => hN _ _ ⟨i + 1,hlt,by rw [flat_take (d := []) hlt,← List.append_assoc]; exact hF',(back_0 rfl).symm⟩ (by
      rw [List.getD_eq_getElem?_getD,hF'.2.2.2.2.1]
      simp only [List.getD_cons_succ,List.getD_cons_zero,Option.getD_some]
      omega)
    clear hN hE
    have q1 := strs_getD (l := l) hlt
    have hfl := flat_lenB (l := l.take i) (c := 3000000) (fun x hx => hs x (List.mem_of_mem_take hx)) (by omega)
    have hx1 : (l.getD i []).length ≤ 3000000 := hs _ (by rw [getD_lt hlt]; exact List.getElem_mem hlt)
    rw [List.length_take] at hfl
    generalize l.getD i [] = x at q1 nx hx1
    have hal : (encInt (l.length : Int) ++ (l.take i).flatMap encBytes).length ≤ 9 + 3000009 * 1000 := by
      rw [List.length_append]
      have : (9 + 3000000) * min i l.length ≤ 3000009 * 1000 := Nat.mul_le_mul_left _ (by omega)
      omega
    generalize encInt (l.length : Int) ++ (l.take i).flatMap encBytes = ac at nx hal ⊢
    simp +contextual only [x41,bytesD_len,strs_len,hlt,Int.ofNat_lt,q1,wrap_succ (show i ≤ big by omega),↓U41,↓XP,XQ,XM,cellsOf,okc,one1,resOne,resAll,eqCells,cellEq,fits,sameK,ne_eq,ite_true,ite_false,Nat.reduceSub,Nat.reduceAdd,Nat.reduceMul,Nat.reduceEqDiff,Nat.reduceLeDiff,Nat.reduceBEq,reduceCtorEq,TYX]
    refine fun _ => f_wBytes (by omega) ?_
    have hxl : (encBytes x).length ≤ 9 + 3000000 := by
      have := encLen (n := x.length) (by omega)
      simp only [encBytes,List.length_append]
      omega
    simp +contextual only [x41,bytesD_len,strs_len,wrap_succ (show i ≤ big by omega),↓U41,↓XP,XQ,XM,cellsOf,okc,one1,resOne,resAll,eqCells,cellEq,fits,sameK,ne_eq,ite_true,ite_false,Nat.reduceSub,Nat.reduceAdd,Nat.reduceMul,Nat.reduceEqDiff,Nat.reduceLeDiff,Nat.reduceBEq,reduceCtorEq,TYX]
    refine fun _ => ⟨bytes_1,bytes_1,by omega,?_⟩
    rw [← List.map_append]
    exact nx _ ⟨rfl,rfl,rfl,rfl,rfl,trivial⟩
  · have hik : i = l.length := by omega
    subst hik
    clear hN
    simp +contextual only [x41,bytesD_len,strs_len,↓U41,↓XP,XQ,XM,cellsOf,okc,one1,resOne,resAll,eqCells,cellEq,fits,sameK,ne_eq,ite_true,ite_false,Nat.reduceSub,Nat.reduceAdd,Nat.reduceMul,Nat.reduceEqDiff,Nat.reduceLeDiff,Nat.reduceBEq,reduceCtorEq,TYX]
    refine hE _ _ _ ?_
    rw [List.take_length]
    simp +contextual only [x41,bytesD_len,strs_len,↓U41,↓XP,XQ,XM,cellsOf,okc,one1,resOne,resAll,eqCells,cellEq,fits,sameK,ne_eq,ite_true,ite_false,Nat.reduceSub,Nat.reduceAdd,Nat.reduceMul,Nat.reduceEqDiff,Nat.reduceLeDiff,Nat.reduceBEq,reduceCtorEq,TYX]
    exact h
end Go.Proofs.YtoeckfegggongaaDoor
end
section
namespace Go.Proofs.YtoeckfegggongaaDoor
open Go Go.Aw
theorem f_id {x : Id3} {b : Nat} {xs : List Int} {H : AH} {R : D → AH → Prop} (hl : xs.length ≤ 30000000) (hbH : getH H b = none) (h : R (.tup []) ((b,.cells [.own (ints (xs ++ id3 x))]) :: H)) : ACall Tryd.prog 39 [.ptr b 0,.agg x.d] ((b,.cells [.own (ints xs)]) :: H) R := by
  refine b39 fun hf => ?_
  have hbig := big_eq
  have hd : x.d = [.int .i64 x.o,.int .i64 x.s,.int .i64 x.i] := rfl
  simp +contextual only [x39,hd,↓u39_s0,↓XP,XQ,XM,cellsOf,okc,one1,resOne,resAll,eqCells,cellEq,fits,sameK,ne_eq,ite_true,ite_false,Nat.reduceSub,Nat.reduceAdd,Nat.reduceMul,Nat.reduceEqDiff,Nat.reduceLeDiff,Nat.reduceBEq,reduceCtorEq,TYX]
  intro b1 hb
  have hb0 := Ne.symm hb.1
  have hn := freshH_none (H := H) hb.2
  simp +contextual only [x39,hd,hb.1,hb0,e_miss hb.1,h_miss hb.1,h_miss hb0,h_skip,not_false_eq_true,ints_app,ints_len,↓u39_s0,↓XP,XQ,XM,cellsOf,okc,one1,resOne,resAll,eqCells,cellEq,fits,sameK,ne_eq,ite_true,ite_false,Nat.reduceSub,Nat.reduceAdd,Nat.reduceMul,Nat.reduceEqDiff,Nat.reduceLeDiff,Nat.reduceBEq,reduceCtorEq,TYX]
  refine ⟨hbH,fun _ _ _ => ⟨ints_1,by omega,?_⟩⟩
  rw [← ints_app] at h
  exact h
theorem f_id2 {x : Id3} {b c : Nat} {o : AO} {xs : List Int} {H : AH} {R : D → AH → Prop} (hl : xs.length ≤ 30000000) (hcb : b ≠ c) (hbH : getH H b = none) (h : R (.tup []) ((c,o) :: (b,.cells [.own (ints (xs ++ id3 x))]) :: H)) : ACall Tryd.prog 39 [.ptr b 0,.agg x.d] ((c,o) :: (b,.cells [.own (ints xs)]) :: H) R := by
  refine b39 fun hf => ?_
  have hbig := big_eq
  have hd : x.d = [.int .i64 x.o,.int .i64 x.s,.int .i64 x.i] := rfl
  simp +contextual only [x39,hd,hcb,h_miss hcb,e_miss hcb,h_skip,not_false_eq_true,↓u39_s0,↓XP,XQ,XM,cellsOf,okc,one1,resOne,resAll,eqCells,cellEq,fits,sameK,ne_eq,ite_true,ite_false,Nat.reduceSub,Nat.reduceAdd,Nat.reduceMul,Nat.reduceEqDiff,Nat.reduceLeDiff,Nat.reduceBEq,reduceCtorEq,TYX]
  intro b1 hb
  have hb0 := Ne.symm hb.2.1
  have hn := freshH_none (H := H) hb.2.2
  simp +contextual only [x39,hd,hb.1,hb0,hcb,Ne.symm hb.1,e_miss hb.2.1,e_miss hcb,h_miss hcb,h_miss hb.2.1,h_miss (Ne.symm hb.1),h_miss hb0,h_skip hb.2.1,h_skip hcb,not_false_eq_true,ints_app,ints_len,↓u39_s0,↓XP,XQ,XM,cellsOf,okc,one1,resOne,resAll,eqCells,cellEq,fits,sameK,ne_eq,ite_true,ite_false,Nat.reduceSub,Nat.reduceAdd,Nat.reduceMul,Nat.reduceEqDiff,Nat.reduceLeDiff,Nat.reduceBEq,reduceCtorEq,TYX]
  refine ⟨hbH,fun _ _ _ => ⟨ints_1,by omega,?_⟩⟩
  rw [← ints_app] at h
  exact h
theorem f_each {fi : Nat} {ids : List Id3} {b : Nat} {xs : List Int} {H : AH} {R : D → AH → Prop} (hfi : fi = 39) (hi : ids.length ≤ 3000000) (hl : xs.length ≤ 10000000) (hbH : getH H b = none) (h : R (.tup []) ((b,.cells [.own (ints (xs ++ ids.flatMap id3))]) :: H)) : ACall Tryd.prog 40 [.slc (idsD ids),.fn fi [.tup [],.ptr b 0]] ((b,.cells [.own (ints xs)]) :: H) R := by
  refine b40 fun hf => ?_
  have hbig := big_eq
  simp +contextual only [x40,ids_len,↓U40,↓XP,XQ,XM,cellsOf,okc,one1,resOne,resAll,eqCells,cellEq,fits,sameK,ne_eq,ite_true,ite_false,Nat.reduceSub,Nat.reduceAdd,Nat.reduceMul,Nat.reduceEqDiff,Nat.reduceLeDiff,Nat.reduceBEq,reduceCtorEq,TYX]
  refine fun _ => XW.loopK Go.Proofs.YtoeckfegggongaaDoor.hm (fun F H' => ∃ (i : Nat),i ≤ ids.length ∧ Fr 16 [(1,.fn fi [.tup [],.ptr b 0]),(6,.slc (idsD ids)),(7,.int .i64 ids.length),(8,.int .i64 i)] F ∧ ((b,AO.cells [.own (ints (xs ++ (ids.take i).flatMap id3))]) :: H) = H') (fun F H => match F.getD 8 .any with | .int _ n' => ids.length - n'.toNat | _ => 0) ⟨0,by omega,⟨rfl,rfl,rfl,rfl,rfl,trivial⟩,by simp⟩ ?_
  rintro _ _ ⟨i,hi',hF,rfl⟩ K hN hE' hR
  obtain ⟨z,rfl⟩ : ∃ z : Nat → D,_ = [z 0,.fn fi [.tup [],.ptr b 0],z 2,z 3,z 4,z 5,.slc (idsD ids),.int .i64 ids.length,.int .i64 i,z 9,z 10,z 11,z 12,z 13,z 14,z 15] := hF.lit
  clear hF hR
  by_cases hlt : i < ids.length
  · have nx : ∀ F' H',back ((b,AO.cells [.own (ints (xs ++ (ids.take i).flatMap id3))]) :: H).length H' = ((b,AO.cells [.own (ints ((xs ++ (ids.take i).flatMap id3) ++ id3 (ids.getD i default)))]) :: H) → Fr 16 [(1,.fn fi [.tup [],.ptr b 0]),(6,.slc (idsD ids)),(7,.int .i64 ids.length),(8,.int .i64 ((i + 1 : Nat) : Int))] F' → K .normal F' H' := fun F' H' hH hF' => hN _ _ ⟨i + 1,hlt,hF',by rw [flat_takeI (d := default) hlt,← List.append_assoc]; exact hH.symm⟩ (by
      rw [List.getD_eq_getElem?_getD,hF'.2.2.2.2.1]
      simp only [List.getD_cons_succ,List.getD_cons_zero,Option.getD_some]
      omega)
    clear hN hE'
    have q1 := ids_get hlt
    have hl2 : (xs ++ (ids.take i).flatMap id3).length ≤ 20000000 := by rw [List.length_append,ids3_len,List.length_take]; omega
    generalize xs ++ (ids.take i).flatMap id3 = ac at nx hl2 ⊢
    generalize ids.getD i default = e at q1 nx
    have he : e.d = [.int .i64 e.o,.int .i64 e.s,.int .i64 e.i] := rfl
    simp +contextual only [x40,ids_len,hlt,Int.ofNat_lt,q1,he,wrap_succ (show i ≤ big by omega),↓U40,↓XP,XQ,XM,cellsOf,okc,one1,resOne,resAll,eqCells,cellEq,fits,sameK,ne_eq,ite_true,ite_false,Nat.reduceSub,Nat.reduceAdd,Nat.reduceMul,Nat.reduceEqDiff,Nat.reduceLeDiff,Nat.reduceBEq,reduceCtorEq,TYX]
    intro b5 hb
    rw [hfi]
    refine f_id2 (x := e) (by omega) hb.1 hbH ?_
    rw [← hfi]
    simp +contextual only [x40,ids_len,wrap_succ (show i ≤ big by omega),↓U40,↓XP,XQ,XM,cellsOf,okc,one1,resOne,resAll,eqCells,cellEq,fits,sameK,ne_eq,ite_true,ite_false,Nat.reduceSub,Nat.reduceAdd,Nat.reduceMul,Nat.reduceEqDiff,Nat.reduceLeDiff,Nat.reduceBEq,reduceCtorEq,TYX]
    exact nx _ _ (back_1 rfl) ⟨rfl,rfl,rfl,rfl,rfl,trivial⟩
  · have hik : i = ids.length := by omega
    subst hik
    clear hN
    simp +contextual only [x40,ids_len,↓U40,↓XP,XQ,XM,cellsOf,okc,one1,resOne,resAll,eqCells,cellEq,fits,sameK,ne_eq,ite_true,ite_false,Nat.reduceSub,Nat.reduceAdd,Nat.reduceMul,Nat.reduceEqDiff,Nat.reduceLeDiff,Nat.reduceBEq,reduceCtorEq,TYX]
    rw [List.take_length]
    refine hE' _ _ _ ?_
    simp +contextual only [x40,ids_len,↓U40,↓XP,XQ,XM,cellsOf,okc,one1,resOne,resAll,eqCells,cellEq,fits,sameK,ne_eq,ite_true,ite_false,Nat.reduceSub,Nat.reduceAdd,Nat.reduceMul,Nat.reduceEqDiff,Nat.reduceLeDiff,Nat.reduceBEq,reduceCtorEq,TYX]
    exact h
end Go.Proofs.YtoeckfegggongaaDoor
end
