/- A part of the proof of what the last text says: Eu2, Es2, Eu3, Es3, Erc, Em2. Conditions: those in each theorem. -/
import Derived.Test.YtffbjejmobhpkaaW25
set_option linter.unusedVariables false
set_option linter.unusedSimpArgs false
set_option maxRecDepth 100000
set_option maxHeartbeats 16000000
open Nat renaming reduceSub → qa,reduceAdd → qb,reduceMul → qc,reduceEqDiff → qd,reduceLeDiff → qe,reduceBEq → qf
section
namespace Go.Proofs.Ytffbjejmobhpkaa
open Go Go.Aw
def rcC (b : Bk) (out : List Id3) (x : Id3) : Bool := (rRis b x).2 && (decide (out = []) || rBef b (lastI out) x)
def rcBt (b : Bk) (x y : Id3) : Bool := decide ((rRis b x).1.b < (rRis b y).1.b ∨ (rRis b x).1.b = (rRis b y).1.b ∧ x.lt y)
def rcS (b : Bk) (out l : List Id3) (best : Option Nat) (i : Nat) : Option Nat :=
 if rcC b out (l.getD i default) = true then (match best with
  | none=>some i
  | some j=>if rcBt b (l.getD i default) (l.getD j default) = true then some i else some j) else best
def rcB (b : Bk) (out l : List Id3) : Option Nat := (List.range l.length).foldl (rcS b out l) none
def rcP (b : Bk) (l : List Id3) : Nat → List Id3 → List Id3
 | 0,out=>out
 | n + 1,out=>match rcB b out l with
  | none=>out
  | some j=>rcP b l n (out ++ [l.getD j default])
def ixI : Option Nat → Int
 | none=>-1
 | some j=>j
theorem rcB_mem {b : Bk} {out l : List Id3} : ∀ {k : Nat},k ≤ l.length → ∀ j,(List.range k).foldl (rcS b out l) none = some j → j < l.length ∧ rcC b out (l.getD j default) = true
 | 0,_,j,h=>by cases h
 | k + 1,hk,j,h=>by
  rw [List.range_succ,List.foldl_append] at h
  have ih := rcB_mem (b := b) (out := out) (l := l) (k := k) (by omega)
  generalize (List.range k).foldl (rcS b out l) none = best at h ih
  simp only [List.foldl_cons,List.foldl_nil] at h
  unfold rcS at h
  split at h
  ·rename_i hc
   cases best with
   | none=>injection h with h; subst h; exact ⟨by omega,hc⟩
   | some q =>
    dsimp only at h
    split at h
    ·injection h with h; subst h; exact ⟨by omega,hc⟩
    ·injection h with h; subst h; exact ih _ rfl
  ·exact ih j h
def rcN (b : Bk) (l : List Id3) (t : Int) : Nat := (l.filter fun x=>decide (t < (rRis b x).1.a)).length
theorem rcN_lt {b : Bk} {t u : Int} {y : Id3} (h1 : t < (rRis b y).1.a) (h2 : (rRis b y).1.a ≤ u) : ∀ {l : List Id3},y ∈ l → rcN b l u < rcN b l t
 | x :: l,hy=>by
  have hle : ∀ m : List Id3,rcN b m u ≤ rcN b m t := fun m=>by
   induction m with
   | nil=>exact Nat.le_refl _
   | cons z m ih =>
    unfold rcN at ih ⊢
    by_cases a1 : u < (rRis b z).1.a
    ·rw [List.filter_cons_of_pos (by simpa using a1),List.filter_cons_of_pos (by simp; omega)]
     simp only [List.length_cons]; omega
    ·rw [List.filter_cons_of_neg (by simpa using a1)]
     by_cases a2 : t < (rRis b z).1.a
     ·rw [List.filter_cons_of_pos (by simpa using a2)]; simp only [List.length_cons]; omega
     ·rw [List.filter_cons_of_neg (by simpa using a2)]; exact ih
  have hl := hle l
  rcases List.mem_cons.1 hy with e | hy
  ·subst e
   unfold rcN at hl ⊢
   rw [List.filter_cons_of_neg (by simp; omega),List.filter_cons_of_pos (by simpa using h1)]
   simp only [List.length_cons]; omega
  ·have ih := rcN_lt h1 h2 hy
   unfold rcN at ih ⊢
   by_cases a1 : u < (rRis b x).1.a
   ·rw [List.filter_cons_of_pos (by simpa using a1),List.filter_cons_of_pos (by simp; omega)]
    simp only [List.length_cons]; omega
   ·rw [List.filter_cons_of_neg (by simpa using a1)]
    by_cases a2 : t < (rRis b x).1.a
    ·rw [List.filter_cons_of_pos (by simpa using a2)]; simp only [List.length_cons]; omega
    ·rw [List.filter_cons_of_neg (by simpa using a2)]; exact ih
def rcL (b : Bk) (l out : List Id3) : Nat := if out = [] then l.length + 1 else rcN b l (rRis b (lastI out)).1.b + 1
def bst (b : Bk) (l : List Id3) : Option Nat → Id3 × Int
 | none=>(id0,0)
 | some j=>(l.getD j default,(rRis b (l.getD j default)).1.b)
theorem bst_eq {b : Bk} {out l : List Id3} {last : Int} (hl : ∀ x,(rRis b x).2 = true → (last < (rRis b x).1.a ↔ (out = [] ∨ rBef b (lastI out) x = true))) :
  ∀ {k : Nat},k ≤ l.length → (l.take k).foldl (chS b last) (id0,0) = bst b l ((List.range k).foldl (rcS b out l) none)
 | 0,_=>rfl
 | k + 1,hk=>by
  have hlt : k < l.length := by omega
  rw [foldl_take hlt,List.range_succ,List.foldl_append,bst_eq hl (k := k) (by omega)]
  have hm := rcB_mem (b := b) (out := out) (l := l) (k := k) (by omega)
  generalize (List.range k).foldl (rcS b out l) none = best at hm ⊢
  simp only [List.foldl_cons,List.foldl_nil]
  unfold rcS chS
  rw [senP_eq]
  generalize hx : l.getD k default = x
  have hc : rcC b out x = true ↔ (rRis b x).2 = true ∧ last < (rRis b x).1.a := by
   unfold rcC
   rw [Bool.and_eq_true,Bool.or_eq_true,decide_eq_true_eq]
   constructor
   ·rintro ⟨h1,h2⟩; exact ⟨h1,(hl x h1).2 h2⟩
   ·rintro ⟨h1,h2⟩; exact ⟨h1,(hl x h1).1 h2⟩
  by_cases h : rcC b out x = true
  ·rw [if_pos h]
   obtain ⟨h1,h2⟩ := hc.1 h
   cases best with
   | none =>
    rw [if_pos ⟨h1,h2,.inl rfl⟩]
    show _ = (l.getD k default,(rRis b (l.getD k default)).1.b)
    rw [hx]
   | some j =>
    obtain ⟨_,hj⟩ := hm j rfl
    have hj2 : (rRis b (l.getD j default)).2 = true := by unfold rcC at hj; rw [Bool.and_eq_true] at hj; exact hj.1
    have hj3 := rRis_ok hj2
    unfold OkSpan at hj3
    have hbj : bst b l (some j) = (l.getD j default,(rRis b (l.getD j default)).1.b) := rfl
    have hbk : bst b l (some k) = (l.getD k default,(rRis b (l.getD k default)).1.b) := rfl
    rw [hbj]
    dsimp only
    by_cases h3 : rcBt b x (l.getD j default) = true
    ·have h4 := of_decide_eq_true h3
     rw [if_pos h3,if_pos ⟨h1,h2,.inr (h4.imp id fun e=>⟨e.1,ordI_neg.2 e.2⟩)⟩]
     rw [hbk,hx]
    ·rw [if_neg h3,hbj,if_neg]
     rintro ⟨_,_,e | e | ⟨e1,e2⟩⟩
     ·omega
     ·exact h3 (decide_eq_true (.inl e))
     ·exact h3 (decide_eq_true (.inr ⟨e1,ordI_neg.1 e2⟩))
  ·rw [if_neg h,if_neg fun e=>h (hc.2 ⟨e.1,e.2.1⟩)]
def lastT (b : Bk) (out : List Id3) : Int := if out = [] then 0 else (rRis b (lastI out)).1.b
theorem chB_eq {b : Bk} {out l : List Id3} (ho : out ≠ [] → (rRis b (lastI out)).2 = true) : chB b (lastT b out) l = bst b l (rcB b out l) := by
 have h := bst_eq (b := b) (out := out) (l := l) (last := lastT b out) (fun x hx=>?_) (Nat.le_refl l.length)
 ·rw [List.take_length] at h; exact h
 ·have hk := rRis_ok hx
  unfold OkSpan at hk
  unfold lastT
  by_cases h0 : out = []
  ·rw [if_pos h0]; exact ⟨fun _=>.inl h0,fun _=>by omega⟩
  ·rw [if_neg h0]
   unfold rBef
   rw [ho h0,hx]
   constructor
   ·intro e; exact .inr (by simpa using e)
   ·rintro (e | e)
    ·exact absurd e h0
    ·simpa using e
theorem chain_eq {b : Bk} {l : List Id3} : ∀ {n : Nat} {out : List Id3},(out ≠ [] → (rRis b (lastI out)).2 = true) → rcP b l n out = out ++ chP b l n (lastT b out)
 | 0,out,_=>by simp [rcP,chP]
 | n + 1,out,ho=>by
  unfold rcP chP
  rw [chB_eq ho]
  have hm := rcB_mem (b := b) (out := out) (l := l) (k := l.length) (Nat.le_refl _)
  have hr : rcB b out l = (List.range l.length).foldl (rcS b out l) none := rfl
  rw [← hr] at hm
  cases hb : rcB b out l with
  | none=>simp [bst]
  | some j =>
   rw [hb] at hm
   obtain ⟨_,hj⟩ := hm j rfl
   have hj2 : (rRis b (l.getD j default)).2 = true := by unfold rcC at hj; rw [Bool.and_eq_true] at hj; exact hj.1
   have hj3 := rRis_ok hj2
   unfold OkSpan at hj3
   have hbj : bst b l (some j) = (l.getD j default,(rRis b (l.getD j default)).1.b) := rfl
   rw [hbj]
   dsimp only
   rw [if_neg (by omega),chain_eq (fun _=>by rw [lastI_app]; exact hj2),List.append_assoc]
   have e : lastT b (out ++ [l.getD j default]) = (rRis b (l.getD j default)).1.b := by
    unfold lastT
    rw [if_neg (by simp),lastI_app]
   rw [e]
   rfl
theorem chain_same {b : Bk} {l : List Id3} {n : Nat} : rcP b l n [] = chP b l n 0 := by
 have h := chain_eq (b := b) (l := l) (n := n) (out := []) (fun e=>absurd rfl e)
 rw [h]
 rfl
end Go.Proofs.Ytffbjejmobhpkaa
end
section
namespace Go.Proofs.Ytffbjejmobhpkaa
open Go Go.Aw
structure RcSt where
 n : Nat
 out : List Id3
structure RcIn where
 i : Nat
 best : Option Nat
theorem f_rChain {b : Bk} (hb : SmallR b) {l : List Id3} (hl : l.length ≤ 1073741824) (hle : ∀ x ∈ l,(rRis b x).2 = true → (rRis b x).1.a ≤ (rRis b x).1.b) {H : AH} {R : D → AH → Prop} (h : R (.slc (mapD Id3.d (rcP b l (l.length + 1) []))) H) : ACall Try.prog 24 [.agg b.d,.slc (mapD Id3.d l)] H R := by
 refine ACall.view (b24 fun hf=>?_)
 have hbig := big_eq
 have hbd : b.d = [.slc (mapD En.d b.en),.slc (mapD Sn.d b.sn),.slc (mapD Sr.d b.sr),.slc (mapD Qt.d b.qt),.slc (mapD Spl.d b.sl),.slc (mapD Mg.d b.mg),.slc (mapD Ch.d b.ch)] := rfl
 simp +contextual only [x24,mapD_len,hbd,↓U24,↓XP,↓XU,XW0,XW1,qa,qb,qc,qd,qe,qf,reduceCtorEq,TYX]
 intro b2 h2
 simp only [← hbd]
 refine XW.loopS Go.Proofs.Ytffbjejmobhpkaa.hm 95 (fun s : RcSt=>[(1,.slc (mapD Id3.d l)),(2,.ptr b2 0),(5,.own (mapD Id3.d s.out))]) (fun s=>(b2,AO.cells b.d) :: H) (fun s=>s.n) (fun s=>rcP b l s.n s.out = rcP b l (l.length + 1) [] ∧ rcL b l s.out ≤ s.n ∧ s.out.length + s.n ≤ l.length + 1 ∧ (∀ y ∈ s.out,y ∈ l ∧ (rRis b y).2 = true)) ⟨l.length + 1,[]⟩ ⟨rfl,by simp [rcL],by simp,by simp⟩ ⟨rfl,rfl,rfl,rfl,trivial⟩ rfl ?_
 rintro ⟨n,out⟩ z ⟨ho,hc,hn,hm⟩ K hN hE hR
 dsimp only at ho hc hn hm
 obtain ⟨n,rfl⟩ : ∃ m,n = m + 1 := ⟨n - 1,by unfold rcL at hc; split at hc <;> omega⟩
 show xcode _ _ [z 0,.slc (mapD Id3.d l),.ptr b2 0,z 3,z 4,.own (mapD Id3.d out),z 6,z 7,z 8,z 9,z 10,z 11,z 12,z 13,z 14,z 15,z 16,z 17,z 18,z 19,z 20,z 21,z 22,z 23,z 24,z 25,z 26,z 27,z 28,z 29,z 30,z 31,z 32,z 33,z 34,z 35,z 36,z 37,z 38,z 39,z 40,z 41,z 42,z 43,z 44,z 45,z 46,z 47,z 48,z 49,z 50,z 51,z 52,z 53,z 54,z 55,z 56,z 57,z 58,z 59,z 60,z 61,z 62,z 63,z 64,z 65,z 66,z 67,z 68,z 69,z 70,z 71,z 72,z 73,z 74,z 75,z 76,z 77,z 78,z 79,z 80,z 81,z 82,z 83,z 84,z 85,z 86,z 87,z 88,z 89,z 90,z 91,z 92,z 93,z 94] ((b2,AO.cells b.d) :: H) K
 simp +contextual only [x24,mapD_len,hbd,↓U24,↓XP,↓XU,XW0,XW1,qa,qb,qc,qd,qe,qf,reduceCtorEq,TYX]
 simp only [← hbd]
 refine XW.loopS Go.Proofs.Ytffbjejmobhpkaa.hm 95 (fun s : RcIn=>[(1,.slc (mapD Id3.d l)),(2,.ptr b2 0),(5,.own (mapD Id3.d out)),(6,.int .i64 (ixI s.best)),(7,.int .i64 ((s.i : Nat) : Int))]) (fun s=>(b2,AO.cells b.d) :: H) (fun s=>l.length - s.i) (fun s=>s.i ≤ l.length ∧ (List.range s.i).foldl (rcS b out l) none = s.best) ⟨0,none⟩ ⟨by simp,rfl⟩ ⟨rfl,rfl,rfl,rfl,rfl,rfl,trivial⟩ rfl ?_
 rintro ⟨i,best⟩ z ⟨hi,hb2⟩ K2 hN2 hE2 hR2
 dsimp only at hi hb2
 show xcode _ _ [z 0,.slc (mapD Id3.d l),.ptr b2 0,z 3,z 4,.own (mapD Id3.d out),.int .i64 (ixI best),.int .i64 ((i : Nat) : Int),z 8,z 9,z 10,z 11,z 12,z 13,z 14,z 15,z 16,z 17,z 18,z 19,z 20,z 21,z 22,z 23,z 24,z 25,z 26,z 27,z 28,z 29,z 30,z 31,z 32,z 33,z 34,z 35,z 36,z 37,z 38,z 39,z 40,z 41,z 42,z 43,z 44,z 45,z 46,z 47,z 48,z 49,z 50,z 51,z 52,z 53,z 54,z 55,z 56,z 57,z 58,z 59,z 60,z 61,z 62,z 63,z 64,z 65,z 66,z 67,z 68,z 69,z 70,z 71,z 72,z 73,z 74,z 75,z 76,z 77,z 78,z 79,z 80,z 81,z 82,z 83,z 84,z 85,z 86,z 87,z 88,z 89,z 90,z 91,z 92,z 93,z 94] ((b2,AO.cells b.d) :: H) K2
 by_cases hlt : i < l.length
 ·have g := mapD_get (f := Id3.d) hlt
  have hlt' : ((i : Int) < (l.length : Int)) = True := eq_true (by omega)
  have hstep : (List.range (i + 1)).foldl (rcS b out l) none = rcS b out l best i := by rw [List.range_succ,List.foldl_append,hb2]; rfl
  have hbm := rcB_mem (b := b) (out := out) (l := l) (k := i) (by omega)
  rw [hb2] at hbm
  have hrn : rcC b out (l.getD i default) = false → rcS b out l best i = best := fun h=>by unfold rcS; rw [h]; rfl
  have hr0 : rcC b out (l.getD i default) = true → best = none → rcS b out l best i = some i := fun h e=>by unfold rcS; rw [h,e]; rfl
  have hr1 : ∀ j,rcC b out (l.getD i default) = true → best = some j → rcS b out l best i = if rcBt b (l.getD i default) (l.getD j default) = true then some i else some j := fun j h e=>by unfold rcS; rw [h,e]; rfl
  have hxi : l.getD i default = l.getD i default := rfl
  generalize hx : l.getD i default = x at g hrn hr0 hr1
  have hcc : rcC b out x = ((rRis b x).2 && (decide (out = []) || rBef b (lastI out) x)) := rfl
  have hxd : x.d = [.int .i64 x.o,.int .i64 x.s,.int .i64 x.i] := rfl
  have hbt : ∀ y,rcBt b x y = decide ((rRis b x).1.b < (rRis b y).1.b ∨ (rRis b x).1.b = (rRis b y).1.b ∧ x.lt y) := fun _=>rfl
  simp +contextual only [x24,mapD_len,hbd,g,hxd,hlt',Int.toNat_natCast,h_miss,h_skip,↓U24,↓XP,↓XU,XW0,XW1,qa,qb,qc,qd,qe,qf,reduceCtorEq,TYX]
  intros
  refine ⟨_,fun _ _=>f_rRise hb (x := x) ⟨rfl,rfl⟩,?_⟩
  have hcall := fun H R h=>f_rRise (H := H) (R := R) hb (x := x) h
  generalize rRis b x = rr at hcc hbt hcall ⊢
  obtain ⟨⟨u,w⟩,v⟩ := rr
  have hsd : ∀ u w v,spB (⟨u,w⟩,v) = .tup [.agg [.int .i64 u,.int .i64 w],.bool v] := fun _ _ _=>rfl
  dsimp only at hcc hbt
  have hi64 : i ≤ big := by omega
  cases v with
  | false =>
   have hrf := hrn (by rw [hcc]; rfl)
   simp +contextual only [x24,mapD_len,hbd,hsd,g,hxd,hlt',Int.toNat_natCast,h_miss,h_skip,wrap_succ hi64,↓U24,↓XP,↓XU,XW0,XW1,qa,qb,qc,qd,qe,qf,reduceCtorEq,TYX]
   simp only [← hbd]
   refine ⟨by omega,fun b8 _=>?_⟩
   exact hN2 ⟨i + 1,best⟩ _ _ ⟨hlt,by dsimp only; rw [hstep,hrf]⟩ (by dsimp only; omega) ⟨rfl,rfl,rfl,rfl,rfl,rfl,trivial⟩ (back_1 rfl)
  | true =>
   have hkey : rcC b out x = false → rcS b out l best i = best := hrn
   simp +contextual only [x24,mapD_len,hbd,hsd,g,hxd,hlt',Int.toNat_natCast,h_miss,h_skip,↓U24,↓XP,↓XU,XW0,XW1,qa,qb,qc,qd,qe,qf,reduceCtorEq,TYX]
   refine ⟨by omega,?_⟩
   rintro b8 ⟨n28,h8⟩ hol
   by_cases h0 : out = []
   case' pos =>
    have hcd : rcC b out x = true := by rw [hcc,decide_eq_true h0]; rfl
    have ho0 : ((0 : Int) < (out.length : Int)) = False := by rw [h0]; simp
    simp +contextual only [x24,mapD_len,hbd,ho0,hsd,g,hxd,hlt',Int.toNat_natCast,h_miss,h_skip,n28,↓U24,↓XP,↓XU,XW0,XW1,qa,qb,qc,qd,qe,qf,reduceCtorEq,TYX]
   case' neg =>
    have hop := List.length_pos_iff.2 h0
    have ho0 : ((0 : Int) < (out.length : Int)) = True := eq_true (by omega)
    have hw : IntKind.i64.wrap ((out.length : Int) - 1) = ((out.length - 1 : Nat) : Int) := by rw [wrap_id (by omega) (by omega)]; omega
    have gl := mapD_get (f := Id3.d) (l := out) (i := out.length - 1) (by omega)
    rw [show out.getD (out.length - 1) default = lastI out from rfl] at gl
    have hld : (lastI out).d = [.int .i64 (lastI out).o,.int .i64 (lastI out).s,.int .i64 (lastI out).i] := rfl
    simp +contextual only [x24,mapD_len,hbd,ho0,hw,gl,hld,hsd,g,hxd,hlt',Int.toNat_natCast,h_miss,h_skip,n28,↓U24,↓XP,↓XU,XW0,XW1,qa,qb,qc,qd,qe,qf,reduceCtorEq,TYX]
    refine ⟨by omega,_,fun _ _=>f_rBef hb (x := lastI out) (y := x) ⟨rfl,rfl⟩,?_⟩
    have hcd0 : rcC b out x = rBef b (lastI out) x := by rw [hcc,decide_eq_false h0]; rfl
    generalize rBef b (lastI out) x = vb at hcd0 ⊢
    rcases vb with _ | _
    case' false =>
     have hrf := hrn hcd0
     simp +contextual only [x24,mapD_len,hbd,hsd,g,hxd,hlt',Int.toNat_natCast,h_miss,h_skip,n28,wrap_succ hi64,↓U24,↓XP,↓XU,XW0,XW1,qa,qb,qc,qd,qe,qf,reduceCtorEq,TYX]
     simp only [← hbd]
     exact hN2 ⟨i + 1,best⟩ _ _ ⟨hlt,by dsimp only; rw [hstep,hrf]⟩ (by dsimp only; omega) ⟨rfl,rfl,rfl,rfl,rfl,rfl,trivial⟩ (back_1 rfl)
    have hcd : rcC b out x = true := hcd0
    simp +contextual only [x24,mapD_len,hbd,hsd,g,hxd,hlt',Int.toNat_natCast,h_miss,h_skip,n28,↓U24,↓XP,↓XU,XW0,XW1,qa,qb,qc,qd,qe,qf,reduceCtorEq,TYX]
   all_goals
    have hz1 : (ixI none < 0) = True := eq_true (by decide)
    rcases best with _ | j
    ·have hrf := hr0 hcd rfl
     have hlw : (w < w) = False := eq_false (by omega)
     have hlx : x.lt x = False := eq_false lt_irr
     simp +contextual only [x24,mapD_len,hbd,hz1,hsd,g,hxd,hlt',Int.toNat_natCast,h_miss,h_skip,n28,↓U24,↓XP,↓XU,XW0,XW1,qa,qb,qc,qd,qe,qf,reduceCtorEq,TYX]
     refine ⟨_,fun _ _=>hcall _ _ ⟨rfl,rfl⟩,?_⟩
     simp +contextual only [x24,mapD_len,hbd,hz1,hsd,g,hxd,hlt',hlw,Int.toNat_natCast,h_miss,h_skip,n28,↓U24,↓XP,↓XU,XW0,XW1,qa,qb,qc,qd,qe,qf,reduceCtorEq,TYX]
     refine ⟨by omega,?_⟩
     rintro b10 ⟨n810,n210,h10⟩ _
     refine ⟨_,fun _ _=>f_less (x := x) (y := x) ⟨rfl,rfl⟩,?_⟩
     rw [decide_eq_false lt_irr]
     simp +contextual only [x24,mapD_len,hbd,hsd,g,hxd,hlt',hlw,Int.toNat_natCast,h_miss,h_skip,n28,wrap_succ hi64,↓U24,↓XP,↓XU,XW0,XW1,qa,qb,qc,qd,qe,qf,reduceCtorEq,TYX]
     simp only [← hbd]
     exact hN2 ⟨i + 1,some i⟩ _ _ ⟨hlt,by dsimp only; rw [hstep,hrf]⟩ (by dsimp only; omega) ⟨rfl,rfl,rfl,rfl,rfl,rfl,trivial⟩ (back_2 rfl)
    ·have hj := (hbm j rfl).1
     have hrf := hr1 j hcd rfl
     have hij : ixI (some j) = (j : Int) := rfl
     have hz2 : ((j : Int) < 0) = False := eq_false (by omega)
     have hjl : ((j : Int) < (l.length : Int)) = True := eq_true (by omega)
     have hj0 : ((0 : Int) ≤ (j : Int)) = True := eq_true (by omega)
     have gj := mapD_get (f := Id3.d) hj
     have hbty := hbt (l.getD j default)
     generalize l.getD j default = y at gj hrf hbty
     have hyd : y.d = [.int .i64 y.o,.int .i64 y.s,.int .i64 y.i] := rfl
     simp +contextual only [x24,mapD_len,hbd,hij,hz2,hjl,hj0,gj,hyd,hsd,g,hxd,hlt',Int.toNat_natCast,h_miss,h_skip,n28,↓U24,↓XP,↓XU,XW0,XW1,qa,qb,qc,qd,qe,qf,reduceCtorEq,TYX]
     refine ⟨_,fun _ _=>f_rRise hb (x := y) ⟨rfl,rfl⟩,?_⟩
     generalize rRis b y = ry at hbty ⊢
     obtain ⟨⟨u2,w2⟩,v2⟩ := ry
     dsimp only at hbty
     rcases Classical.em (w < w2) with c1 | c1
     ·rw [if_pos (show rcBt b x y = true by rw [hbty]; exact decide_eq_true (.inl c1))] at hrf
      simp +contextual only [x24,mapD_len,hbd,hsd,g,hxd,hlt',eq_true c1,hij,hz2,hjl,hj0,gj,hyd,Int.toNat_natCast,h_miss,h_skip,n28,↓U24,↓XP,↓XU,XW0,XW1,qa,qb,qc,qd,qe,qf,reduceCtorEq,TYX]
      refine ⟨by omega,?_⟩
      rintro b10 ⟨n810,n210,h10⟩
      simp +contextual only [x24,mapD_len,hbd,hsd,g,hxd,hlt',eq_true c1,Int.toNat_natCast,h_miss,h_skip,n28,n810,n210,wrap_succ hi64,↓U24,↓XP,↓XU,XW0,XW1,qa,qb,qc,qd,qe,qf,reduceCtorEq,TYX]
      simp only [← hbd]
      intros
      exact hN2 ⟨i + 1,some i⟩ _ _ ⟨hlt,by dsimp only; rw [hstep,hrf]⟩ (by dsimp only; omega) ⟨rfl,rfl,rfl,rfl,rfl,rfl,trivial⟩ (back_2 rfl)
     ·rcases Classical.em (w = w2) with c2 | c2
      ·simp +contextual only [x24,mapD_len,hbd,hsd,g,hxd,hlt',eq_false c1,eq_true c2,hij,hz2,hjl,hj0,gj,hyd,Int.toNat_natCast,h_miss,h_skip,n28,↓U24,↓XP,↓XU,XW0,XW1,qa,qb,qc,qd,qe,qf,reduceCtorEq,TYX]
       refine ⟨by omega,?_⟩
       rintro b10 ⟨n810,n210,h10⟩ _ _
       refine ⟨_,fun _ _=>f_less (x := x) (y := y) ⟨rfl,rfl⟩,?_⟩
       by_cases c3 : x.lt y
       ·rw [if_pos (show rcBt b x y = true by rw [hbty]; exact decide_eq_true (.inr ⟨c2,c3⟩))] at hrf
        rw [decide_eq_true c3]
        simp +contextual only [x24,mapD_len,hbd,hsd,g,hxd,hlt',Int.toNat_natCast,h_miss,h_skip,n28,n810,n210,wrap_succ hi64,↓U24,↓XP,↓XU,XW0,XW1,qa,qb,qc,qd,qe,qf,reduceCtorEq,TYX]
        simp only [← hbd]
        intros
        exact hN2 ⟨i + 1,some i⟩ _ _ ⟨hlt,by dsimp only; rw [hstep,hrf]⟩ (by dsimp only; omega) ⟨rfl,rfl,rfl,rfl,rfl,rfl,trivial⟩ (back_2 rfl)
       ·rw [if_neg (show ¬ rcBt b x y = true by rw [hbty]; simp [c1,c3])] at hrf
        rw [decide_eq_false c3]
        simp +contextual only [x24,mapD_len,hbd,hsd,g,hxd,hlt',Int.toNat_natCast,h_miss,h_skip,n28,n810,n210,wrap_succ hi64,↓U24,↓XP,↓XU,XW0,XW1,qa,qb,qc,qd,qe,qf,reduceCtorEq,TYX]
        simp only [← hbd]
        intros
        exact hN2 ⟨i + 1,some j⟩ _ _ ⟨hlt,by dsimp only; rw [hstep,hrf]⟩ (by dsimp only; omega) ⟨rfl,rfl,rfl,rfl,rfl,rfl,trivial⟩ (back_2 rfl)
      ·rw [if_neg (show ¬ rcBt b x y = true by rw [hbty]; simp [c1,c2])] at hrf
       simp +contextual only [x24,mapD_len,hbd,hsd,g,hxd,hlt',eq_false c1,eq_false c2,hij,hz2,hjl,hj0,gj,hyd,Int.toNat_natCast,h_miss,h_skip,n28,↓U24,↓XP,↓XU,XW0,XW1,qa,qb,qc,qd,qe,qf,reduceCtorEq,TYX]
       refine ⟨by omega,?_⟩
       rintro b10 ⟨n810,n210,h10⟩
       simp +contextual only [x24,mapD_len,hbd,hsd,g,hxd,hlt',eq_false c1,eq_false c2,Int.toNat_natCast,h_miss,h_skip,n28,n810,n210,wrap_succ hi64,↓U24,↓XP,↓XU,XW0,XW1,qa,qb,qc,qd,qe,qf,reduceCtorEq,TYX]
       simp only [← hbd]
       intros
       exact hN2 ⟨i + 1,some j⟩ _ _ ⟨hlt,by dsimp only; rw [hstep,hrf]⟩ (by dsimp only; omega) ⟨rfl,rfl,rfl,rfl,rfl,rfl,trivial⟩ (back_2 rfl)
 ·have hik : i = l.length := by omega
  subst hik
  simp +contextual only [x24,mapD_len,hbd,↓U24,↓XP,↓XU,XW0,XW1,qa,qb,qc,qd,qe,qf,reduceCtorEq,TYX]
  intros
  refine hE2 _ _ _ ?_
  clear hN2 hE2 hR2
  have hcp : rcP b l (n + 1) out = match (List.range l.length).foldl (rcS b out l) none with | none=>out | some j=>rcP b l n (out ++ [l.getD j default]) := rfl
  rw [hb2] at hcp
  have hbm := rcB_mem (b := b) (out := out) (l := l) (k := l.length) (by omega)
  rw [hb2] at hbm
  rw [ho] at hcp
  cases best with
  | none =>
   have hz1 : (ixI none < 0) = True := eq_true (by decide)
   dsimp only at hcp
   rw [hcp] at h
   simp +contextual only [x24,mapD_len,hbd,hz1,↓U24,↓XP,↓XU,XW0,XW1,qa,qb,qc,qd,qe,qf,reduceCtorEq,TYX]
   refine hR _ _ ?_
   simp +contextual only [x24,mapD_len,hbd,w_own,↓U24,↓XP,↓XU,XW0,XW1,qa,qb,qc,qd,qe,qf,reduceCtorEq,TYX]
   exact h
  | some j =>
   obtain ⟨hj,hcj⟩ := hbm j rfl
   have hij : ixI (some j) = (j : Int) := rfl
   have hz2 : ((j : Int) < 0) = False := eq_false (by omega)
   have hjl : ((j : Int) < (l.length : Int)) = True := eq_true (by omega)
   have hj0 : ((0 : Int) ≤ (j : Int)) = True := eq_true (by omega)
   have gj := mapD_get (f := Id3.d) hj
   have hym := getD_mem hj
   dsimp only at hcp
   generalize l.getD j default = y at gj hcp hcj hym
   have hyd : y.d = [.int .i64 y.o,.int .i64 y.s,.int .i64 y.i] := rfl
   have hap : mapD Id3.d out ++ [[D.int .i64 y.o,.int .i64 y.s,.int .i64 y.i]] = mapD Id3.d (out ++ [y]) := by rw [← mapD_app]; rfl
   have hcy : (rRis b y).2 = true ∧ (out = [] ∨ rBef b (lastI out) y = true) := by
    unfold rcC at hcj
    rw [Bool.and_eq_true,Bool.or_eq_true,decide_eq_true_eq] at hcj
    exact hcj
   have hly := hle y hym hcy.1
   have hlast : rcL b l (out ++ [y]) ≤ n := by
    unfold rcL at hc ⊢
    rw [if_neg (by simp),lastI_app]
    by_cases h0 : out = []
    ·rw [if_pos h0] at hc
     have h1 : rcN b l (rRis b y).1.b < rcN b l ((rRis b y).1.a - 1) := rcN_lt (by omega) hly hym
     have h2 : rcN b l ((rRis b y).1.a - 1) ≤ l.length := List.length_filter_le _ _
     omega
    ·rw [if_neg h0] at hc
     have hbf := hcy.2.resolve_left h0
     unfold rBef at hbf
     simp only [Bool.and_eq_true,decide_eq_true_eq] at hbf
     have h1 : rcN b l (rRis b y).1.b < rcN b l (rRis b (lastI out)).1.b := rcN_lt hbf.2 hly hym
     omega
   simp +contextual only [x24,mapD_len,hbd,hij,hz2,hjl,hj0,gj,hyd,hap,Int.toNat_natCast,h_miss,h_skip,↓U24,↓XP,↓XU,XW0,XW1,qa,qb,qc,qd,qe,qf,reduceCtorEq,TYX]
   simp only [← hbd]
   refine ⟨mapD_sz fun _=>rfl,by omega,hN ⟨n,out ++ [y]⟩ _ _ ⟨by dsimp only; exact hcp.symm,hlast,by dsimp only; rw [List.length_append,List.length_singleton]; omega,fun v hv=>?_⟩ (by dsimp only; omega) ⟨rfl,rfl,rfl,rfl,trivial⟩ (back_0 rfl)⟩
   rcases List.mem_append.1 hv with hv | hv
   ·exact hm v hv
   ·rw [List.mem_singleton.1 hv]; exact ⟨hym,hcy.1⟩
end Go.Proofs.Ytffbjejmobhpkaa
end
section
namespace Go.Proofs.Ytffbjejmobhpkaa
open Go Go.Aw
theorem ins_ok {b : Bk} {x : Id3} {out : List Id3} {k : Nat} (h : out.Pairwise (ltS b)) (hx : x ∉ out) (hk : k ≤ out.length) (h1 : ∀ i,k ≤ i → i < out.length → ltS b x (out.getD i default)) (h2 : k = 0 ∨ ¬ ltS b x (out.getD (k - 1) default)) :
  (out.take k ++ x :: out.drop k).Pairwise (ltS b) := by
 have hs := h
 rw [← List.take_append_drop k out,List.pairwise_append] at hs
 obtain ⟨s1,s2,s3⟩ := hs
 have hr : ∀ y ∈ out.drop k,ltS b x y := fun y hy=>by
  obtain ⟨j,hj,e⟩ := List.mem_iff_getElem.1 hy
  rw [List.length_drop] at hj
  rw [List.getElem_drop] at e
  have := h1 (k + j) (by omega) (by omega)
  rw [getD_lt (by omega)] at this
  rw [← e]
  exact this
 rw [List.pairwise_append]
 refine ⟨s1,List.pairwise_cons.2 ⟨hr,s2⟩,fun a ha c hc=>?_⟩
 rcases List.mem_cons.1 hc with rfl | hc
 ·obtain ⟨j,hj,e⟩ := List.mem_iff_getElem.1 ha
  rw [List.length_take] at hj
  rw [List.getElem_take] at e
  rcases h2 with h2 | h2
  ·omega
  ·rw [getD_lt (by omega)] at h2
   have hp : ltS b (out[k - 1]'(by omega)) c := by
    rcases ltS_tri (b := b) (x := c) (y := out[k - 1]'(by omega)) with q | q | q
    ·exact absurd q h2
    ·exact absurd (q ▸ List.getElem_mem _) hx
    ·exact q
   rcases Nat.lt_or_ge j (k - 1) with q | q
   ·rw [← e]
    exact ltS_trans (List.pairwise_iff_getElem.1 h j (k - 1) (by omega) (by omega) q) hp
   ·obtain rfl : j = k - 1 := by omega
    rw [← e]
    exact hp
 ·exact s3 a ha c hc
theorem ins_mem {x y : Id3} {out : List Id3} {k : Nat} : y ∈ out.take k ++ x :: out.drop k ↔ y = x ∨ y ∈ out := by
 rw [List.mem_append,List.mem_cons]
 constructor
 ·rintro (h | h | h)
  ·exact .inr (List.mem_of_mem_take h)
  ·exact .inl h
  ·exact .inr (List.mem_of_mem_drop h)
 ·rintro (h | h)
  ·exact .inr (.inl h)
  ·rw [← List.take_append_drop k out] at h
   rcases List.mem_append.1 h with h | h
   ·exact .inl h
   ·exact .inr (.inr h)
theorem ins_len {x : Id3} {out : List Id3} {k : Nat} (hk : k ≤ out.length) : (out.take k ++ x :: out.drop k).length = out.length + 1 := by
 rw [List.length_append,List.length_cons,List.length_take,List.length_drop]; omega
structure OrdR (b : Bk) (l a : List Id3) : Prop where
 pw : a.Pairwise (ltS b)
 mm : ∀ y,y ∈ a ↔ y ∈ l
theorem OrdR.of {b : Bk} {m l : List Id3} (hp : m.Perm l) (h : m.Pairwise (fun x y=>¬ ltS b y x)) : OrdR b l (dd m) := by
 obtain ⟨h1,h2⟩ := ltS_strict.dd h
 exact ⟨h1,fun y=>by rw [h2,hp.mem_iff]⟩
theorem ord_ex {b : Bk} : ∀ l : List Id3,∃ a,OrdR b l a
 | []=>⟨[],List.Pairwise.nil,fun y=>Iff.rfl⟩
 | x :: l=>by
  obtain ⟨a,h1,h2⟩ := ord_ex (b := b) l
  by_cases hx : x ∈ a
  ·refine ⟨a,h1,fun y=>?_⟩
   rw [h2,List.mem_cons]
   constructor
   ·exact .inr
   ·rintro (e | e)
    ·rw [e,← h2]; exact hx
    ·exact e
  ·refine ⟨a.filter (fun y=>decide (ltS b y x)) ++ x :: a.filter (fun y=>decide (ltS b x y)),?_,fun y=>?_⟩
   ·rw [List.pairwise_append]
    refine ⟨h1.sublist List.filter_sublist,List.pairwise_cons.2 ⟨fun y hy=>by simpa using (List.mem_filter.1 hy).2,h1.sublist List.filter_sublist⟩,fun u hu v hv=>?_⟩
    have h3 : ltS b u x := by simpa using (List.mem_filter.1 hu).2
    rcases List.mem_cons.1 hv with e | hv
    ·rw [e]; exact h3
    ·exact ltS_trans h3 (by simpa using (List.mem_filter.1 hv).2)
   ·rw [List.mem_append,List.mem_cons,List.mem_cons,List.mem_filter,List.mem_filter,decide_eq_true_eq,decide_eq_true_eq,← h2]
    constructor
    ·rintro (e | e | e)
     ·exact .inr e.1
     ·exact .inl e
     ·exact .inr e.1
    ·rintro (e | e)
     ·exact .inr (.inl e)
     ·rcases ltS_tri (b := b) (x := y) (y := x) with q | q | q
      ·exact .inl ⟨e,q⟩
      ·exact absurd (q ▸ e) hx
      ·exact .inr (.inr ⟨e,q⟩)
theorem OrdR.eq {b : Bk} {l a c : List Id3} (h : OrdR b l a) (k : OrdR b l c) : a = c := ltS_strict.ext h.pw k.pw fun y=>by rw [h.mm,k.mm]
end Go.Proofs.Ytffbjejmobhpkaa
end
section
namespace Go.Proofs.Ytffbjejmobhpkaa
open Go Go.Aw
theorem f_hasH {l : List Id3} {x : Id3} {b cap : Nat} {rest : List D} {H : AH} {R : D → AH → Prop} (hl : l.length ≤ 1073741824) (hg : getH H b = some (.cells (row l rest))) (h : R (.bool (decide (x ∈ l))) H) : ACall Try.prog 25 [.hgs b l.length cap,.agg x.d] H R := by
 refine b25 fun hf=>?_
 have hbig := big_eq
 have hk : ∀ c,decide (x ∈ l) = c → R (.bool c) H := fun b hb=>hb ▸ h
 have hx : x.d = [.int .i64 x.o,.int .i64 x.s,.int .i64 x.i] := rfl
 simp +contextual only [x25,mapD_len,hx,↓U25,↓XP,↓XU,XW0,XW1,qa,qb,qc,qd,qe,qf,reduceCtorEq,TYX]
 intro b1 h1
 have hne := freshH_get h1 hg
 refine XW.loopS Go.Proofs.Ytffbjejmobhpkaa.hm 18 (fun i : Nat=>[(0,.hgs b l.length cap),(3,.ptr b1 0),(5,.int .i64 ((i : Nat) : Int))]) (fun i=>(b1,AO.cells [.int .i64 x.o,.int .i64 x.s,.int .i64 x.i]) :: H) (fun i=>l.length - i) (fun i=>i ≤ l.length ∧ x ∉ l.take i) 0 ⟨by omega,by simp⟩ ⟨rfl,rfl,rfl,rfl,trivial⟩ rfl ?_
 rintro i z ⟨hi,hn⟩ K hN hE hR
 show xcode _ _ [.hgs b l.length cap,z 1,z 2,.ptr b1 0,z 4,.int .i64 ((i : Nat) : Int),z 6,z 7,z 8,z 9,z 10,z 11,z 12,z 13,z 14,z 15,z 16,z 17] _ K
 by_cases hlt : i < l.length
 ·have g := row_get (rest := rest) hlt
  have hmem := getD_mem hlt
  have hlt' : ((i : Int) < (l.length : Int)) = True := eq_true (by omega)
  have nx := not_mem_take hlt hn
  generalize l.getD i default = y at g hmem nx
  have hy : y.d = [.int .i64 y.o,.int .i64 y.s,.int .i64 y.i] := rfl
  have hd := id_dec (x := y) (y := x)
  have hlen := row_len (l := l) (rest := rest)
  by_cases h0 : y = x
  ·simp +contextual only [x25,mapD_len,hx,g,hy,hd,hlt',eq_true h0,h_miss hne,hg,Int.toNat_natCast,↓U25,↓XP,↓XU,XW0,XW1,qa,qb,qc,qd,qe,qf,reduceCtorEq,TYX]
   repeat' (first | apply And.intro | intro _)
   all_goals first
    | exact hR _ _ (by simp +contextual only [x25,mapD_len,hx,↓U25,↓XP,↓XU,XW0,XW1,qa,qb,qc,qd,qe,qf,reduceCtorEq,TYX]; exact hk _ (decide_eq_true (h0 ▸ hmem)))
    | omega
    | skip
  ·simp +contextual only [x25,mapD_len,hx,g,hy,hd,hlt',eq_false h0,h_miss hne,hg,Int.toNat_natCast,wrap_succ (show i ≤ big by omega),↓U25,↓XP,↓XU,XW0,XW1,qa,qb,qc,qd,qe,qf,reduceCtorEq,TYX]
   repeat' (first | apply And.intro | intro _)
   all_goals first
    | exact hN (i + 1) _ _ ⟨hlt,nx h0⟩ (by omega) ⟨rfl,rfl,rfl,rfl,trivial⟩ (back_0 rfl)
    | omega
    | skip
 ·have hik : i = l.length := by omega
  subst hik
  simp +contextual only [x25,mapD_len,hx,↓U25,↓XP,↓XU,XW0,XW1,qa,qb,qc,qd,qe,qf,reduceCtorEq,TYX]
  intros
  refine hE _ _ _ ?_
  simp +contextual only [x25,mapD_len,hx,↓U25,↓XP,↓XU,XW0,XW1,qa,qb,qc,qd,qe,qf,reduceCtorEq,TYX]
  rw [List.take_length] at hn
  exact hk _ (decide_eq_false hn)
def insAt (xs : List Id3) (k : Nat) (y : Id3) : List Id3 := xs.take k ++ y :: xs.drop k
theorem insAt_get {xs : List Id3} {k : Nat} {y : Id3} (h : k < xs.length) : (insAt xs (k + 1) y).getD k default = xs.getD k default := by
 unfold insAt
 rw [List.getD_eq_getElem?_getD,List.getD_eq_getElem?_getD,List.getElem?_append_left (by rw [List.length_take]; omega),List.getElem?_take,if_pos (by omega)]
theorem insAt_len {xs : List Id3} {k : Nat} {y : Id3} (h : k ≤ xs.length) : (insAt xs k y).length = xs.length + 1 := ins_len h
theorem insAt_set {xs : List Id3} {k : Nat} {y v : Id3} (h : k ≤ xs.length) : (insAt xs k y).set k v = insAt xs k v := by
 unfold insAt
 rw [List.set_append,if_neg (by rw [List.length_take]; omega),List.length_take,Nat.min_eq_left h,Nat.sub_self]
 rfl
theorem insAt_shift {xs : List Id3} {k : Nat} (h : k < xs.length) : insAt xs (k + 1) (xs.getD k default) = insAt xs k (xs.getD k default) := by
 unfold insAt
 rw [take_succ h,List.append_assoc]
 rw [drop_cons h]
 rfl
theorem insAt_end {xs : List Id3} {y : Id3} : insAt xs xs.length y = xs ++ [y] := by unfold insAt; simp
structure OrIn where
 k : Nat
 y : Id3
def outA (xs : List Id3) (b cap : Nat) : D := if xs = [] then .own [] else .hgs b xs.length cap
def outO (xs : List Id3) (b : Nat) (rest : List D) : AH := if xs = [] then [] else [(b,.cells (row xs rest))]
theorem f_rOrder {b : Bk} (hb : SmallR b) {l : List Id3} (hl : l.length ≤ 1073741824) {H : AH} {R : D → AH → Prop} (h : ∀ m,OrdR b l m → R (.slc (mapD Id3.d m)) H) : ACall Try.prog 22 [.agg b.d,.slc (mapD Id3.d l)] H R := by
 refine b22 fun hf=>?_
 have hbig := big_eq
 have hbd : b.d = [.slc (mapD En.d b.en),.slc (mapD Sn.d b.sn),.slc (mapD Sr.d b.sr),.slc (mapD Qt.d b.qt),.slc (mapD Spl.d b.sl),.slc (mapD Mg.d b.mg),.slc (mapD Ch.d b.ch)] := rfl
 simp +contextual only [x22,mapD_len,hbd,↓U22,↓XP,↓XU,XW0,XW1,qa,qb,qc,qd,qe,qf,reduceCtorEq,TYX]
 intro b2 h2
 simp only [← hbd]
 refine XW.loopSR Go.Proofs.Ytffbjejmobhpkaa.hm 62 (fun s : FoSt=>[(1,.slc (mapD Id3.d l)),(2,.ptr b2 0),(5,outA s.xs s.b s.cap),(6,.int .i64 ((s.i : Nat) : Int))]) (fun s=>outO s.xs s.b s.rest ++ ((b2,AO.cells b.d) :: H)) (fun s=>l.length - s.i) (fun s=>s.i ≤ l.length ∧ s.xs.length ≤ s.i ∧ s.xs.Pairwise (ltS b) ∧ (∀ y,y ∈ s.xs ↔ y ∈ l.take s.i) ∧ (s.xs ≠ [] → s.b ≠ b2 ∧ freshH H s.b ∧ (row s.xs s.rest).length = s.cap * 3)) ⟨0,[],0,0,[]⟩ ⟨by simp,by simp,List.Pairwise.nil,by simp,fun e=>absurd rfl e⟩ ⟨rfl,rfl,rfl,rfl,rfl,trivial⟩ rfl ?_
 rintro ⟨i,xs,ob,cap,rest⟩ z ⟨hi,hxi,hpw,hmm,hob⟩ K hN hE hR
 dsimp only at hi hxi hpw hmm hob
 have hout : ∀ xs b c,xs ≠ [] → outA xs b c = .hgs b xs.length c := fun xs b c h=>by unfold outA; rw [if_neg h]
 have houtO : ∀ xs b r,xs ≠ [] → outO xs b r = [(b,.cells (row xs r))] := fun xs b c h=>by unfold outO; rw [if_neg h]
 have tail : i < l.length → ∀ (x : Id3) (xs : List Id3) (nb nc : Nat) (rest F : List D),l.getD i default = x → Fr 62 [(1,.slc (mapD Id3.d l)),(2,.ptr b2 0),(5,.hgs nb (xs.length + 1) nc),(6,.int .i64 ((i : Nat) : Int)),(7,.int .i64 ((xs.length : Nat) : Int))] F → xs.length ≤ i → xs.Pairwise (ltS b) → (∀ y,y ∈ xs ↔ y ∈ l.take i) → x ∉ xs → ¬ b2 = nb → freshH H nb → (row (xs ++ [x]) rest).length = nc * 3 →
   XW Try.prog x22_L2 F ((nb,.cells (row (xs ++ [x]) rest)) :: (b2,.cells b.d) :: H) (blockQ 2 (seqQ Try.prog x22_s3 (blockQ 1 (seqQ Try.prog x22_s6 K)))) := by
  intro hlt x xs nb nc rest F hx hF hxi hpw hmm hxn n2b hfr hcap
  have hlt' : ((i : Int) < (l.length : Int)) = True := eq_true (by omega)
  have g := mapD_get (f := Id3.d) hlt
  have htk := take_succ hlt
  rw [hx] at g htk
  have hxd : x.d = [.int .i64 x.o,.int .i64 x.s,.int .i64 x.i] := rfl
  refine XW.loopS Go.Proofs.Ytffbjejmobhpkaa.hm 62 (fun s : OrIn=>[(1,.slc (mapD Id3.d l)),(2,.ptr b2 0),(5,.hgs nb (xs.length + 1) nc),(6,.int .i64 ((i : Nat) : Int)),(7,.int .i64 ((s.k : Nat) : Int))]) (fun s=>(nb,AO.cells (row (insAt xs s.k s.y) rest)) :: (b2,.cells b.d) :: H) (fun s=>s.k) (fun s=>s.k ≤ xs.length ∧ ∀ j,s.k ≤ j → j < xs.length → ltS b x (xs.getD j default)) ⟨xs.length,x⟩ ⟨Nat.le_refl _,fun j h1 h2=>absurd h1 (by dsimp only; omega)⟩ hF (by dsimp only; rw [insAt_end]) ?_
  rintro ⟨k,y⟩ z ⟨hk,hlt2⟩ K2 hN2 hE2 hR2
  dsimp only at hk hlt2
  show xcode _ _ [z 0,.slc (mapD Id3.d l),.ptr b2 0,z 3,z 4,.hgs nb (xs.length + 1) nc,.int .i64 ((i : Nat) : Int),.int .i64 ((k : Nat) : Int),z 8,z 9,z 10,z 11,z 12,z 13,z 14,z 15,z 16,z 17,z 18,z 19,z 20,z 21,z 22,z 23,z 24,z 25,z 26,z 27,z 28,z 29,z 30,z 31,z 32,z 33,z 34,z 35,z 36,z 37,z 38,z 39,z 40,z 41,z 42,z 43,z 44,z 45,z 46,z 47,z 48,z 49,z 50,z 51,z 52,z 53,z 54,z 55,z 56,z 57,z 58,z 59,z 60,z 61] ((nb,AO.cells (row (insAt xs k y) rest)) :: (b2,.cells b.d) :: H) K2
  have hil := insAt_len (y := y) hk
  have hrl := row_len (l := insAt xs k y) (rest := rest)
  have hgo : ∀ F' : List D,(k = 0 ∨ ¬ ltS b x (xs.getD (k - 1) default)) → Fr 62 [(1,.slc (mapD Id3.d l)),(2,.ptr b2 0),(5,.hgs nb (xs.length + 1) nc),(6,.int .i64 ((i + 1 : Nat) : Int))] F' → K .normal F' ((nb,AO.cells (row (insAt xs k x) rest)) :: (b2,.cells b.d) :: H) := fun F' hst hF'=>by
   have hne : insAt xs k x ≠ [] := by unfold insAt; simp
   have hF2 : Fr 62 [(1,.slc (mapD Id3.d l)),(2,.ptr b2 0),(5,outA (insAt xs k x) nb nc),(6,.int .i64 ((i + 1 : Nat) : Int))] F' := by
    rw [hout _ _ _ hne,insAt_len hk]
    exact hF'
   refine hN ⟨i + 1,insAt xs k x,nb,nc,rest⟩ _ _ ⟨hlt,by dsimp only; rw [insAt_len hk]; omega,ins_ok hpw hxn hk hlt2 hst,fun v=>?_,fun _=>⟨Ne.symm n2b,hfr,?_⟩⟩ (by dsimp only; omega) hF2 (Sbn.sub ?_)
   ·dsimp only
    unfold insAt
    rw [ins_mem,htk,List.mem_append,List.mem_singleton,hmm]
    exact Or.comm
   ·dsimp only
    rw [← hcap,row_len,row_len,insAt_len hk,List.length_append,List.length_singleton]
   ·rw [houtO _ _ _ hne]
    exact List.Sublist.refl _
  have hrow : ∀ v : Id3,(row (insAt xs k y) rest).take (k * 3) ++ .int .i64 v.o :: .int .i64 v.s :: .int .i64 v.i :: (row (insAt xs k y) rest).drop (k * 3 + 3) = row (insAt xs k v) rest := fun v=>by
   have := row_set (rest := rest) (l := insAt xs k y) (i := k) (y := v) (by omega)
   rw [insAt_set hk] at this
   exact this
  have hkn : ((k : Int) < ((xs.length + 1 : Nat) : Int)) = True := eq_true (by omega)
  have hk0' : ((0 : Int) ≤ (k : Int)) = True := eq_true (by omega)
  by_cases hk0 : k = 0
  case' pos =>
   have hkz : ((0 : Int) < (k : Int)) = False := eq_false (by omega)
   have hst : k = 0 ∨ ¬ ltS b x (xs.getD (k - 1) default) := .inl hk0
   simp +contextual only [x22,mapD_len,hbd,hkz,g,hxd,hlt',Int.toNat_natCast,h_miss,h_skip,n2b,Ne.symm n2b,↓U22,↓XP,↓XU,XW0,XW1,qa,qb,qc,qd,qe,qf,reduceCtorEq,TYX]
  case' neg =>
   obtain ⟨q,rfl⟩ : ∃ q,k = q + 1 := ⟨k - 1,by omega⟩
   have hkz : ((0 : Int) < ((q + 1 : Nat) : Int)) = True := eq_true (by omega)
   have hw : IntKind.i64.wrap (((q + 1 : Nat) : Int) - 1) = (q : Int) := by rw [wrap_id (by omega) (by omega)]; omega
   have hqn : ((q : Int) < ((xs.length + 1 : Nat) : Int)) = True := eq_true (by omega)
   have hq0 : ((0 : Int) ≤ (q : Int)) = True := eq_true (by omega)
   have gq := row_get (rest := rest) (l := insAt xs (q + 1) y) (i := q) (by omega)
   have hsh := insAt_shift (xs := xs) (k := q) (by omega)
   rw [insAt_get (by omega)] at gq
   have hqg : xs.getD (q + 1 - 1) default = xs.getD q default := rfl
   rw [hqg] at hgo
   generalize hp : xs.getD q default = p at gq hsh hgo
   have hpd : p.d = [.int .i64 p.o,.int .i64 p.s,.int .i64 p.i] := rfl
   simp +contextual only [x22,mapD_len,hbd,hkz,hw,hqn,hq0,gq,hpd,g,hxd,hlt',Int.toNat_natCast,h_miss,h_skip,n2b,Ne.symm n2b,↓U22,↓XP,↓XU,XW0,XW1,qa,qb,qc,qd,qe,qf,reduceCtorEq,TYX]
   refine ⟨by omega,_,fun _ _=>f_rAhd hb (x := x) (y := p) ⟨rfl,rfl⟩,?_⟩
   have hah := ahd_iff (b := b) (x := x) (y := p)
   generalize rAhd b x p = va at hah ⊢
   rcases va with _ | _
   case' true =>
    have hrp := hrow p
    rw [hsh] at hrp
    simp +contextual only [x22,mapD_len,hbd,hkz,hkn,hk0',hw,hqn,hq0,gq,hpd,hrp,Int.toNat_natCast,h_miss,h_skip,n2b,Ne.symm n2b,↓U22,↓XP,↓XU,XW0,XW1,qa,qb,qc,qd,qe,qf,reduceCtorEq,TYX]
    simp only [← hbd]
    refine ⟨by omega,by omega,hN2 ⟨q,p⟩ _ _ ⟨by dsimp only; omega,fun j h1 h2=>?_⟩ (by dsimp only; omega) ⟨rfl,rfl,rfl,rfl,rfl,rfl,trivial⟩ (back_0 rfl)⟩
    dsimp only at h1
    rcases Nat.lt_or_ge q j with h3 | h3
    ·exact hlt2 j (by omega) h2
    ·rw [show j = q by omega,hp]; exact hah.1 rfl
   have hst : (q + 1 = 0 ∨ ¬ ltS b x p) := .inr fun e=>by cases hah.2 e
   simp +contextual only [x22,mapD_len,hbd,hkz,Int.toNat_natCast,h_miss,h_skip,n2b,Ne.symm n2b,↓U22,↓XP,↓XU,XW0,XW1,qa,qb,qc,qd,qe,qf,reduceCtorEq,TYX]
  all_goals
   intros
   refine hE2 _ _ _ ?_
   have hrx := hrow x
   simp +contextual only [x22,mapD_len,hbd,hkn,hk0',g,hxd,hlt',hrx,Int.toNat_natCast,wrap_succ (show i ≤ big by omega),h_miss,h_skip,n2b,Ne.symm n2b,↓U22,↓XP,↓XU,XW0,XW1,qa,qb,qc,qd,qe,qf,reduceCtorEq,TYX]
   simp only [← hbd]
   exact ⟨by omega,hgo _ hst ⟨rfl,rfl,rfl,rfl,rfl,trivial⟩⟩
 by_cases h0 : xs = []
 ·subst h0
  show xcode _ _ [z 0,.slc (mapD Id3.d l),.ptr b2 0,z 3,z 4,.own [],.int .i64 ((i : Nat) : Int),z 7,z 8,z 9,z 10,z 11,z 12,z 13,z 14,z 15,z 16,z 17,z 18,z 19,z 20,z 21,z 22,z 23,z 24,z 25,z 26,z 27,z 28,z 29,z 30,z 31,z 32,z 33,z 34,z 35,z 36,z 37,z 38,z 39,z 40,z 41,z 42,z 43,z 44,z 45,z 46,z 47,z 48,z 49,z 50,z 51,z 52,z 53,z 54,z 55,z 56,z 57,z 58,z 59,z 60,z 61] _ K
  simp only [show outO [] ob rest = [] from rfl,List.nil_append]
  by_cases hlt : i < l.length
  ·have g := mapD_get (f := Id3.d) hlt
   have hlt' : ((i : Int) < (l.length : Int)) = True := eq_true (by omega)
   have tail := tail hlt
   generalize l.getD i default = x at g tail
   have hxd : x.d = [.int .i64 x.o,.int .i64 x.s,.int .i64 x.i] := rfl
   simp +contextual only [x22,mapD_len,hbd,g,hxd,hlt',Int.toNat_natCast,↓U22,↓XP,↓XU,XW0,XW1,qa,qb,qc,qd,qe,qf,reduceCtorEq,TYX]
   intros
   refine f_has (l := []) (x := x) ?_
   rw [decide_eq_false (by simp)]
   simp +contextual only [x22,mapD_len,hbd,g,hxd,hlt',Int.toNat_natCast,↓U22,↓XP,↓XU,XW0,XW1,qa,qb,qc,qd,qe,qf,reduceCtorEq,TYX]
   intro _ nb nc m
   rintro ⟨n2b,hfr⟩ hcap
   simp only [← hbd]
   exact tail x [] nb nc (List.replicate m .any) _ rfl ⟨rfl,rfl,rfl,rfl,rfl,rfl,trivial⟩ (by simp) hpw hmm (by simp) n2b hfr (by rw [row_len]; simp; omega)
  ·have hin : i = l.length := by omega
   subst hin
   rw [List.take_length] at hmm
   simp +contextual only [x22,mapD_len,hbd,↓U22,↓XP,↓XU,XW0,XW1,qa,qb,qc,qd,qe,qf,reduceCtorEq,TYX]
   intros
   refine hE _ _ _ ?_
   simp +contextual only [x22,mapD_len,hbd,↓U22,↓XP,↓XU,XW0,XW1,qa,qb,qc,qd,qe,qf,reduceCtorEq,TYX]
   refine gh_intro (Fz.view (s := 5) (xs := []) rfl) ?_
   simp +contextual only [x22,mapD_len,hbd,↓U22,↓XP,↓XU,XW0,XW1,qa,qb,qc,qd,qe,qf,reduceCtorEq,TYX]
   exact h [] ⟨hpw,hmm⟩
 ·obtain ⟨hb1,hb2,hb3⟩ := hob h0
  have n2o : ¬ b2 = ob := Ne.symm hb1
  simp only [hout _ _ _ h0,houtO _ _ _ h0,List.cons_append,List.nil_append]
  show xcode _ _ [z 0,.slc (mapD Id3.d l),.ptr b2 0,z 3,z 4,.hgs ob xs.length cap,.int .i64 ((i : Nat) : Int),z 7,z 8,z 9,z 10,z 11,z 12,z 13,z 14,z 15,z 16,z 17,z 18,z 19,z 20,z 21,z 22,z 23,z 24,z 25,z 26,z 27,z 28,z 29,z 30,z 31,z 32,z 33,z 34,z 35,z 36,z 37,z 38,z 39,z 40,z 41,z 42,z 43,z 44,z 45,z 46,z 47,z 48,z 49,z 50,z 51,z 52,z 53,z 54,z 55,z 56,z 57,z 58,z 59,z 60,z 61] _ K
  by_cases hlt : i < l.length
  ·have g := mapD_get (f := Id3.d) hlt
   have hlt' : ((i : Int) < (l.length : Int)) = True := eq_true (by omega)
   have tail := tail hlt
   have htk := take_succ hlt
   generalize l.getD i default = x at g tail htk
   have hxd : x.d = [.int .i64 x.o,.int .i64 x.s,.int .i64 x.i] := rfl
   simp +contextual only [x22,mapD_len,hbd,g,hxd,hlt',Int.toNat_natCast,↓U22,↓XP,↓XU,XW0,XW1,qa,qb,qc,qd,qe,qf,reduceCtorEq,TYX]
   intros
   refine f_hasH (l := xs) (x := x) (cap := cap) (rest := rest) (by omega) h_hit ?_
   by_cases hxn : x ∈ xs
   ·rw [decide_eq_true hxn]
    simp +contextual only [x22,mapD_len,hbd,hlt',wrap_succ (show i ≤ big by omega),↓U22,↓XP,↓XU,XW0,XW1,qa,qb,qc,qd,qe,qf,reduceCtorEq,TYX]
    intros
    simp only [← hbd]
    refine hN ⟨i + 1,xs,ob,cap,rest⟩ _ _ ⟨hlt,by dsimp only; omega,hpw,fun v=>?_,hob⟩ (by dsimp only; omega) (by rw [hout _ _ _ h0]; exact ⟨rfl,rfl,rfl,rfl,rfl,trivial⟩) (Sbn.sub (by rw [houtO _ _ _ h0]; exact List.Sublist.refl _))
    dsimp only
    rw [htk,List.mem_append,List.mem_singleton,hmm]
    constructor
    ·exact .inl
    ·rintro (e | e)
     ·exact e
     ·rw [e,← hmm]; exact hxn
   ·rw [decide_eq_false hxn]
    simp +contextual only [x22,mapD_len,hbd,g,hxd,hlt',Int.toNat_natCast,↓U22,↓XP,↓XU,XW0,XW1,qa,qb,qc,qd,qe,qf,reduceCtorEq,TYX]
    intros
    have hrt : (row xs rest).take (xs.length * 3) = (mapD Id3.d xs).flatten := id_take
    refine ⟨hb3,by omega,by rw [hrt]; exact id_plain,fun nb nc m hnf hcap=>?_⟩
    have hrs : (row xs rest).take (xs.length * 3) ++ ([[D.int .i64 x.o,.int .i64 x.s,.int .i64 x.i]].flatten ++ List.replicate m .any) = row (xs ++ [x]) (List.replicate m .any) := by
     rw [hrt,row_app]
     rfl
    rw [hrs]
    simp only [← hbd]
    exact tail x xs nb nc (List.replicate m .any) _ rfl ⟨rfl,rfl,rfl,rfl,rfl,rfl,trivial⟩ hxi hpw hmm hxn hnf.1 hnf.2 (by rw [row_len,List.length_append,List.length_singleton,List.length_replicate]; omega)
  ·have hin : i = l.length := by omega
   subst hin
   rw [List.take_length] at hmm
   simp +contextual only [x22,mapD_len,hbd,↓U22,↓XP,↓XU,XW0,XW1,qa,qb,qc,qd,qe,qf,reduceCtorEq,TYX]
   intros
   refine hE _ _ _ ?_
   simp +contextual only [x22,mapD_len,hbd,↓U22,↓XP,↓XU,XW0,XW1,qa,qb,qc,qd,qe,qf,reduceCtorEq,TYX]
   refine gh_intro (Fz.trans (Fz.hgs (s := 5) rfl) (fz_row (s := 5) (m := xs) rfl rfl)) ?_
   simp +contextual only [x22,mapD_len,hbd,↓U22,↓XP,↓XU,XW0,XW1,qa,qb,qc,qd,qe,qf,reduceCtorEq,TYX]
   exact h xs ⟨hpw,hmm⟩
end Go.Proofs.Ytffbjejmobhpkaa
end
section
namespace Go.Proofs.Ytffbjejmobhpkaa
open Go Go.Aw
theorem ex_sm : Small exB := ex_gen.small
theorem ex_ix : IxOk (ixP exB) := ex_gen.ix
theorem okS {b : Bk} (hg : Gen b) {x : Id3} : (senL b x).length ≤ 1073741824 ∧ ∀ t ∈ senL b x,OkI t.id := by
 have h1 : senL b x = b.qt.filterMap (evX b x) := look_evM
 refine ⟨?_,fun t ht=>?_⟩
 ·rw [h1]
  have := List.length_filterMap_le (evX b x) b.qt
  have := hg.qt
  omega
 ·rw [h1] at ht
  obtain ⟨q,hq,he⟩ := List.mem_filterMap.1 ht
  unfold evX at he
  split at he
  ·rename_i y t' hh
   split at he
   ·injection he with he
    subst he
    unfold evQ at hh
    split at hh
    ·split at hh
     ·injection hh with hh
      injection hh with _ hh
      rw [← hh]
      exact hg.qi q hq
     ·cases hh
    ·cases hh
   ·cases he
  ·cases he
theorem f_lives {H : AH} {R : D → AH → Prop} (h : R (.bool true) H) : ACall Try.prog 17 [] H R := by
 refine b17 fun hf=>?_
 have hbig := big_eq
 simp +contextual only [x17,mapD_len,↓U17,↓XP,↓XU,XW0,XW1,qa,qb,qc,qd,qe,qf,reduceCtorEq,TYX]
 refine f_example ?_
 have hbd : exB.d = [.slc (mapD En.d exB.en),.slc (mapD Sn.d exB.sn),.slc (mapD Sr.d exB.sr),.slc (mapD Qt.d exB.qt),.slc (mapD Spl.d exB.sl),.slc (mapD Mg.d exB.mg),.slc (mapD Ch.d exB.ch)] := rfl
 have hid : ∀ i : Int,Id3.d ⟨0,1,i⟩ = [.int .i64 0,.int .i64 1,.int .i64 i] := fun _=>rfl
 simp +contextual only [x17,mapD_len,hbd,↓U17,↓XP,↓XU,XW0,XW1,qa,qb,qc,qd,qe,qf,reduceCtorEq,TYX]
 intro b1 h1
 refine ⟨_,fun _ _=>f_id ⟨rfl,rfl⟩,?_⟩
 simp +contextual only [x17,mapD_len,hid,↓U17,↓XP,↓XU,XW0,XW1,qa,qb,qc,qd,qe,qf,reduceCtorEq,TYX]
 refine ⟨_,fun _ _=>f_first (b := exB) ex_sm ex_ix (x := exI 1) (okS ex_gen).1 (okS ex_gen).2 ⟨rfl,rfl⟩,?_⟩
 rw [ex_1,ex_f]
 have hs1 : Sp.d ⟨10,17⟩ = [.int .i64 10,.int .i64 17] := rfl
 simp +contextual only [x17,mapD_len,hs1,↓U17,↓XP,↓XU,XW0,XW1,qa,qb,qc,qd,qe,qf,reduceCtorEq,TYX]
 refine fun _=>⟨by omega,?_⟩
 rintro b2 ⟨n12,h2⟩
 intros
 refine ⟨_,fun _ _=>f_id ⟨rfl,rfl⟩,?_⟩
 simp +contextual only [x17,mapD_len,hid,h_miss,h_skip,n12,↓U17,↓XP,↓XU,XW0,XW1,qa,qb,qc,qd,qe,qf,reduceCtorEq,TYX]
 refine ⟨_,fun _ _=>f_attested (b := exB) ex_sm ex_ix (x := exI 1) (t := 12) ⟨rfl,rfl⟩,?_⟩
 rw [show attP exB (exI 1) 12 = (false,true) by unfold attP; rw [ex_1]; rfl]
 simp +contextual only [x17,mapD_len,h_miss,h_skip,n12,↓U17,↓XP,↓XU,XW0,XW1,qa,qb,qc,qd,qe,qf,reduceCtorEq,TYX]
 refine ⟨_,fun _ _=>f_id ⟨rfl,rfl⟩,?_⟩
 simp +contextual only [x17,mapD_len,hid,h_miss,h_skip,n12,↓U17,↓XP,↓XU,XW0,XW1,qa,qb,qc,qd,qe,qf,reduceCtorEq,TYX]
 refine ⟨_,fun _ _=>f_attested (b := exB) ex_sm ex_ix (x := exI 1) (t := 17) ⟨rfl,rfl⟩,?_⟩
 rw [show attP exB (exI 1) 17 = (true,true) by unfold attP; rw [ex_1]; rfl]
 simp +contextual only [x17,mapD_len,h_miss,h_skip,n12,↓U17,↓XP,↓XU,XW0,XW1,qa,qb,qc,qd,qe,qf,reduceCtorEq,TYX]
 refine ⟨_,fun _ _=>f_id ⟨rfl,rfl⟩,?_⟩
 simp +contextual only [x17,mapD_len,hid,h_miss,h_skip,n12,↓U17,↓XP,↓XU,XW0,XW1,qa,qb,qc,qd,qe,qf,reduceCtorEq,TYX]
 refine ⟨_,fun _ _=>f_attested (b := exB) ex_sm ex_ix (x := exI 1) (t := 9) ⟨rfl,rfl⟩,?_⟩
 rw [show attP exB (exI 1) 9 = (false,false) by unfold attP; rw [ex_1]; rfl]
 simp +contextual only [x17,mapD_len,h_miss,h_skip,n12,↓U17,↓XP,↓XU,XW0,XW1,qa,qb,qc,qd,qe,qf,reduceCtorEq,TYX]
 refine f_id ?_
 simp +contextual only [x17,mapD_len,hid,h_miss,h_skip,n12,↓U17,↓XP,↓XU,XW0,XW1,qa,qb,qc,qd,qe,qf,reduceCtorEq,TYX]
 refine f_id ?_
 simp +contextual only [x17,mapD_len,hid,h_miss,h_skip,n12,↓U17,↓XP,↓XU,XW0,XW1,qa,qb,qc,qd,qe,qf,reduceCtorEq,TYX]
 refine f_id ?_
 simp +contextual only [x17,mapD_len,hid,h_miss,h_skip,n12,↓U17,↓XP,↓XU,XW0,XW1,qa,qb,qc,qd,qe,qf,reduceCtorEq,TYX]
 refine f_id ?_
 simp +contextual only [x17,mapD_len,hid,h_miss,h_skip,n12,↓U17,↓XP,↓XU,XW0,XW1,qa,qb,qc,qd,qe,qf,reduceCtorEq,TYX]
 refine f_id ?_
 simp +contextual only [x17,mapD_len,hid,h_miss,h_skip,n12,↓U17,↓XP,↓XU,XW0,XW1,qa,qb,qc,qd,qe,qf,reduceCtorEq,TYX]
 refine f_id ?_
 simp +contextual only [x17,mapD_len,hid,h_miss,h_skip,n12,↓U17,↓XP,↓XU,XW0,XW1,qa,qb,qc,qd,qe,qf,reduceCtorEq,TYX]
 refine f_id ?_
 simp +contextual only [x17,mapD_len,hid,h_miss,h_skip,n12,↓U17,↓XP,↓XU,XW0,XW1,qa,qb,qc,qd,qe,qf,reduceCtorEq,TYX]
 refine f_id ?_
 simp +contextual only [x17,mapD_len,hid,h_miss,h_skip,n12,↓U17,↓XP,↓XU,XW0,XW1,qa,qb,qc,qd,qe,qf,reduceCtorEq,TYX]
 refine f_same (l := [exI 5,exI 6]) (q := [exI 5,exI 6]) ?_
 rw [decide_eq_true rfl]
 simp +contextual only [x17,mapD_len,h_miss,h_skip,n12,↓U17,↓XP,↓XU,XW0,XW1,qa,qb,qc,qd,qe,qf,reduceCtorEq,TYX]
 refine f_Order (b := exB) ex_sm ex_ix (l := [exI 3,exI 2,exI 1]) (by simp) (fun x hx=>by simp only [List.mem_cons,List.not_mem_nil,or_false] at hx; rcases hx with rfl | rfl | rfl <;> exact okz (by simp [exI])) fun m hp hs=>?_
 rw [ord_of hp hs ex_o (fun y=>List.Perm.mem_iff (by decide))]
 simp +contextual only [x17,mapD_len,h_miss,h_skip,n12,↓U17,↓XP,↓XU,XW0,XW1,qa,qb,qc,qd,qe,qf,reduceCtorEq,TYX]
 intros
 refine f_same (l := [exI 1,exI 2,exI 3]) (q := [exI 1,exI 2,exI 3]) ?_
 rw [decide_eq_true rfl]
 simp +contextual only [x17,mapD_len,h_miss,h_skip,n12,↓U17,↓XP,↓XU,XW0,XW1,qa,qb,qc,qd,qe,qf,reduceCtorEq,TYX]
 refine f_chain (b := exB) ex_sm ex_ix (l := [exI 3,exI 2,exI 1]) (by simp) (fun x hx=>by simp only [List.mem_cons,List.not_mem_nil,or_false] at hx; rcases hx with rfl | rfl | rfl <;> simp [ex_1,ex_2,ex_3]) ?_
 rw [show chP exB [exI 3,exI 2,exI 1] ([exI 3,exI 2,exI 1].length + 1) 0 = [exI 1,exI 2,exI 3] from ex_c]
 simp +contextual only [x17,mapD_len,h_miss,h_skip,n12,↓U17,↓XP,↓XU,XW0,XW1,qa,qb,qc,qd,qe,qf,reduceCtorEq,TYX]
 intros
 refine f_same (l := [exI 1,exI 2,exI 3]) (q := [exI 1,exI 2,exI 3]) ?_
 rw [decide_eq_true rfl]
 simp +contextual only [x17,mapD_len,h_miss,h_skip,n12,↓U17,↓XP,↓XU,XW0,XW1,qa,qb,qc,qd,qe,qf,reduceCtorEq,TYX]
 refine ⟨_,fun _ _=>f_id ⟨rfl,rfl⟩,?_⟩
 simp +contextual only [x17,mapD_len,hid,h_miss,h_skip,n12,↓U17,↓XP,↓XU,XW0,XW1,qa,qb,qc,qd,qe,qf,reduceCtorEq,TYX]
 refine ⟨_,fun _ _=>f_id ⟨rfl,rfl⟩,?_⟩
 simp +contextual only [x17,mapD_len,hid,h_miss,h_skip,n12,↓U17,↓XP,↓XU,XW0,XW1,qa,qb,qc,qd,qe,qf,reduceCtorEq,TYX]
 refine ⟨_,fun _ _=>f_before (b := exB) ex_sm ex_ix (x := exI 1) (y := exI 2) ⟨rfl,rfl⟩,?_⟩
 rw [show befP exB (exI 1) (exI 2) = true by unfold befP; rw [ex_1,ex_2]; rfl]
 simp +contextual only [x17,mapD_len,h_miss,h_skip,n12,↓U17,↓XP,↓XU,XW0,XW1,qa,qb,qc,qd,qe,qf,reduceCtorEq,TYX]
 refine ⟨_,fun _ _=>f_id ⟨rfl,rfl⟩,?_⟩
 simp +contextual only [x17,mapD_len,hid,h_miss,h_skip,n12,↓U17,↓XP,↓XU,XW0,XW1,qa,qb,qc,qd,qe,qf,reduceCtorEq,TYX]
 refine ⟨_,fun _ _=>f_id ⟨rfl,rfl⟩,?_⟩
 simp +contextual only [x17,mapD_len,hid,h_miss,h_skip,n12,↓U17,↓XP,↓XU,XW0,XW1,qa,qb,qc,qd,qe,qf,reduceCtorEq,TYX]
 refine ⟨_,fun _ _=>f_before (b := exB) ex_sm ex_ix (x := exI 2) (y := exI 1) ⟨rfl,rfl⟩,?_⟩
 rw [show befP exB (exI 2) (exI 1) = false by unfold befP; rw [ex_1,ex_2]; rfl]
 simp +contextual only [x17,mapD_len,h_miss,h_skip,n12,↓U17,↓XP,↓XU,XW0,XW1,qa,qb,qc,qd,qe,qf,reduceCtorEq,TYX]
 exact h
end Go.Proofs.Ytffbjejmobhpkaa
end
section
namespace Go.Proofs.Ytffbjejmobhpkaa
open Go Go.Aw
theorem f_mOrders {l m k : List Int} {H : AH} {R : D → AH → Prop} (h : R (.bool true) H) : ACall Try.prog 4 [.slc (mapD intD l),.slc (mapD intD m),.slc (mapD intD k)] H R := by
 refine b4 fun hf=>?_
 have hbig := big_eq
 simp +contextual only [x4,mapD_len,↓U4,↓XP,↓XU,XW0,XW1,qa,qb,qc,qd,qe,qf,reduceCtorEq,TYX]
 refine f_book21 fun b hg hsn=>?_
 have hbd : b.d = [.slc (mapD En.d b.en),.slc (mapD Sn.d b.sn),.slc (mapD Sr.d b.sr),.slc (mapD Qt.d b.qt),.slc (mapD Spl.d b.sl),.slc (mapD Mg.d b.mg),.slc (mapD Ch.d b.ch)] := rfl
 rw [hbd]
 simp +contextual only [x4,mapD_len,↓U4,↓XP,↓XU,XW0,XW1,qa,qb,qc,qd,qe,qf,reduceCtorEq,TYX]
 intro b7 h7
 refine f_rIDs hg.smallR (b := b) (l := k) ?_
 have hql := rIDs_len (b := b) (l := k)
 have hqo := rIDs_ok hg.smallR (l := k)
 generalize rIDs b k = q at hql hqo
 simp +contextual only [x4,mapD_len,↓U4,↓XP,↓XU,XW0,XW1,qa,qb,qc,qd,qe,qf,reduceCtorEq,TYX]
 intros
 simp only [← hbd]
 refine XW.loopS Go.Proofs.Ytffbjejmobhpkaa.hm 69 (fun i : Nat=>[(0,.slc (mapD intD l)),(1,.slc (mapD intD m)),(2,.slc (mapD intD k)),(7,.ptr b7 0),(8,.slc (mapD Id3.d q)),(9,.int .i64 ((i : Nat) : Int))]) (fun i=>(b7,AO.cells b.d) :: H) (fun i=>q.length - i) (fun i=>i ≤ q.length) 0 (by omega) ⟨rfl,rfl,rfl,rfl,rfl,rfl,rfl,trivial⟩ rfl ?_
 rintro i z hi K hN hE hR
 have hN' := hN (i + 1)
 clear hN
 show xcode _ _ [.slc (mapD intD l),.slc (mapD intD m),.slc (mapD intD k),z 3,z 4,z 5,z 6,.ptr b7 0,.slc (mapD Id3.d q),.int .i64 ((i : Nat) : Int),z 10,z 11,z 12,z 13,z 14,z 15,z 16,z 17,z 18,z 19,z 20,z 21,z 22,z 23,z 24,z 25,z 26,z 27,z 28,z 29,z 30,z 31,z 32,z 33,z 34,z 35,z 36,z 37,z 38,z 39,z 40,z 41,z 42,z 43,z 44,z 45,z 46,z 47,z 48,z 49,z 50,z 51,z 52,z 53,z 54,z 55,z 56,z 57,z 58,z 59,z 60,z 61,z 62,z 63,z 64,z 65,z 66,z 67,z 68] _ K
 by_cases hlt : i < q.length
 ·have hlt' : ((i : Int) < (q.length : Int)) = True := eq_true (by omega)
  have g := mapD_get (f := Id3.d) hlt
  generalize q.getD i default = x at g
  have hxd : x.d = [.int .i64 x.o,.int .i64 x.s,.int .i64 x.i] := rfl
  simp +contextual only [x4,mapD_len,hbd,hlt',↓U4,↓XP,↓XU,XW0,XW1,qa,qb,qc,qd,qe,qf,reduceCtorEq,TYX]
  intros
  simp only [← hbd]
  refine XW.loopS Go.Proofs.Ytffbjejmobhpkaa.hm 69 (fun j : Nat=>[(0,.slc (mapD intD l)),(1,.slc (mapD intD m)),(2,.slc (mapD intD k)),(7,.ptr b7 0),(8,.slc (mapD Id3.d q)),(9,.int .i64 ((i : Nat) : Int)),(10,.int .i64 ((j : Nat) : Int))]) (fun j=>(b7,AO.cells b.d) :: H) (fun j=>q.length - j) (fun j=>j ≤ q.length) 0 (by omega) ⟨rfl,rfl,rfl,rfl,rfl,rfl,rfl,rfl,trivial⟩ rfl ?_
  rintro j z hj K2 hN2 hE2 hR2
  have hN2' := hN2 (j + 1)
  clear hN2
  show xcode _ _ [.slc (mapD intD l),.slc (mapD intD m),.slc (mapD intD k),z 3,z 4,z 5,z 6,.ptr b7 0,.slc (mapD Id3.d q),.int .i64 ((i : Nat) : Int),.int .i64 ((j : Nat) : Int),z 11,z 12,z 13,z 14,z 15,z 16,z 17,z 18,z 19,z 20,z 21,z 22,z 23,z 24,z 25,z 26,z 27,z 28,z 29,z 30,z 31,z 32,z 33,z 34,z 35,z 36,z 37,z 38,z 39,z 40,z 41,z 42,z 43,z 44,z 45,z 46,z 47,z 48,z 49,z 50,z 51,z 52,z 53,z 54,z 55,z 56,z 57,z 58,z 59,z 60,z 61,z 62,z 63,z 64,z 65,z 66,z 67,z 68] _ K2
  by_cases hlt2 : j < q.length
  ·have hlt2' : ((j : Int) < (q.length : Int)) = True := eq_true (by omega)
   have g2 := mapD_get (f := Id3.d) hlt2
   generalize q.getD j default = y at g2
   have hyd : y.d = [.int .i64 y.o,.int .i64 y.s,.int .i64 y.i] := rfl
   simp +contextual only [x4,mapD_len,hbd,hlt',hlt2',g,g2,hxd,hyd,Int.toNat_natCast,↓U4,↓XP,↓XU,XW0,XW1,qa,qb,qc,qd,qe,qf,reduceCtorEq,TYX]
   intros
   refine ⟨_,fun _ _=>f_before hg.small hg.ix (b := b) (x := x) (y := y) ⟨rfl,rfl⟩,?_⟩
   rw [bef_eq]
   have hcall := fun H R h=>f_rBef (H := H) (R := R) hg.smallR (b := b) (x := x) (y := y) h
   generalize rBef b x y = v at hcall ⊢
   simp +contextual only [x4,mapD_len,hbd,hlt',hlt2',g,g2,hxd,hyd,Int.toNat_natCast,↓U4,↓XP,↓XU,XW0,XW1,qa,qb,qc,qd,qe,qf,reduceCtorEq,TYX]
   intros
   refine ⟨_,fun _ _=>hcall _ _ ⟨rfl,rfl⟩,?_⟩
   cases v <;> simp +contextual only [x4,mapD_len,wrap_succ (show j ≤ big by omega),↓U4,↓XP,↓XU,XW0,XW1,qa,qb,qc,qd,qe,qf,reduceCtorEq,TYX]
   all_goals intros
   all_goals exact hN2' _ _ hlt2 (by omega) ⟨rfl,rfl,rfl,rfl,rfl,rfl,rfl,rfl,trivial⟩ (back_0 rfl)
  ·have hkd : j = q.length := by omega
   subst hkd
   simp +contextual only [x4,mapD_len,↓U4,↓XP,↓XU,XW0,XW1,qa,qb,qc,qd,qe,qf,reduceCtorEq,TYX]
   intros
   refine hE2 _ _ _ ?_
   simp +contextual only [x4,mapD_len,wrap_succ (show i ≤ big by omega),↓U4,↓XP,↓XU,XW0,XW1,qa,qb,qc,qd,qe,qf,reduceCtorEq,TYX]
   intros
   exact hN' _ _ (by omega) (by omega) ⟨rfl,rfl,rfl,rfl,rfl,rfl,rfl,trivial⟩ (back_0 rfl)
 ·have hin : i = q.length := by omega
  subst hin
  simp +contextual only [x4,mapD_len,hbd,↓U4,↓XP,↓XU,XW0,XW1,qa,qb,qc,qd,qe,qf,reduceCtorEq,TYX]
  intros
  refine hE _ _ _ ?_
  obtain ⟨a,ha⟩ := ord_ex (b := b) q
  have hle : ∀ x ∈ q,(senP b x).2 = true → (senP b x).1.a ≤ (senP b x).1.b := fun x _ hx=>(senP_ok hx).2.1
  simp +contextual only [x4,mapD_len,hbd,↓U4,↓XP,↓XU,XW0,XW1,qa,qb,qc,qd,qe,qf,reduceCtorEq,TYX]
  intros
  refine ⟨_,fun _ _=>f_Order hg.small hg.ix (b := b) (l := q) (by omega) hqo (fun m hp hs=>by rw [(OrdR.of hp hs).eq ha]; exact ⟨rfl,rfl⟩),?_⟩
  simp +contextual only [x4,mapD_len,hbd,↓U4,↓XP,↓XU,XW0,XW1,qa,qb,qc,qd,qe,qf,reduceCtorEq,TYX]
  intros
  refine ⟨_,fun _ _=>f_rOrder hg.smallR (b := b) (l := q) (by omega) (fun m hm=>by rw [hm.eq ha]; exact ⟨rfl,rfl⟩),?_⟩
  simp +contextual only [x4,mapD_len,hbd,↓U4,↓XP,↓XU,XW0,XW1,qa,qb,qc,qd,qe,qf,reduceCtorEq,TYX]
  intros
  refine ⟨_,fun _ _=>f_same (l := a) (q := a) ⟨rfl,rfl⟩,?_⟩
  rw [decide_eq_true rfl]
  simp +contextual only [x4,mapD_len,hbd,↓U4,↓XP,↓XU,XW0,XW1,qa,qb,qc,qd,qe,qf,reduceCtorEq,TYX]
  intros
  refine ⟨_,fun _ _=>f_chain hg.small hg.ix (b := b) (l := q) (by omega) hle ⟨rfl,rfl⟩,?_⟩
  simp +contextual only [x4,mapD_len,hbd,↓U4,↓XP,↓XU,XW0,XW1,qa,qb,qc,qd,qe,qf,reduceCtorEq,TYX]
  intros
  refine ⟨_,fun _ _=>f_rChain hg.smallR (b := b) (l := q) (by omega) (fun x _ hx=>(rRis_ok hx).2.1) ⟨rfl,rfl⟩,?_⟩
  rw [chain_same]
  generalize chP b q (q.length + 1) 0 = c
  simp +contextual only [x4,mapD_len,hbd,↓U4,↓XP,↓XU,XW0,XW1,qa,qb,qc,qd,qe,qf,reduceCtorEq,TYX]
  intros
  refine ⟨_,fun _ _=>f_same (l := c) (q := c) ⟨rfl,rfl⟩,?_⟩
  rw [decide_eq_true rfl]
  simp +contextual only [x4,mapD_len,hbd,↓U4,↓XP,↓XU,XW0,XW1,qa,qb,qc,qd,qe,qf,reduceCtorEq,TYX]
  refine ⟨_,fun _ _=>f_lives ⟨rfl,rfl⟩,?_⟩
  simp +contextual only [x4,mapD_len,↓U4,↓XP,↓XU,XW0,XW1,qa,qb,qc,qd,qe,qf,reduceCtorEq,TYX]
  exact h
end Go.Proofs.Ytffbjejmobhpkaa
end
