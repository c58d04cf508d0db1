/- A part of the proof of what the last text says: Ew3, Ew4, Ep1, Er0, Em0, Er1, AwS, Es0, Ew5. Conditions: those in each theorem. -/
import Derived.Test.YtffbjejmobhpkaaE17
import Derived.Shelf.SlSortCmp.WholeK
import Derived.Shelf.SlGeneric
import Derived.Test.YtffbjejmobhpkaaChecked
set_option linter.unusedVariables false
set_option linter.unusedSimpArgs false
set_option maxRecDepth 100000
set_option maxHeartbeats 16000000
open Nat renaming reduceSub → qa,reduceAdd → qb,reduceMul → qc,reduceEqDiff → qd,reduceLeDiff → qe,reduceBEq → qf
section
namespace Go.Proofs.Ytffbjejmobhpkaa
open Go Go.Aw
theorem not_mem_take {α : Type} [Inhabited α] {l : List α} {x : α} {i : Nat} (hi : i < l.length) (hn : x ∉ l.take i) (hne : l.getD i default ≠ x) : x ∉ l.take (i + 1) := by
 rw [take_succ hi]
 intro h
 rcases List.mem_append.1 h with h | h
 ·exact hn h
 ·exact hne (List.mem_singleton.1 h).symm
theorem getD_mem {α : Type} [Inhabited α] {l : List α} {i : Nat} (hi : i < l.length) : l.getD i default ∈ l := by rw [getD_lt hi]; exact List.getElem_mem hi
theorem f_index {l : List Id3} {x : Id3} {H : AH} {R : D → AH → Prop} (h : R (.int .i64 (if x ∈ l then ((l.idxOf x : Nat) : Int) else -1)) H) : ACall Try.prog 74 [.slc (mapD Id3.d l),.agg x.d] H R := by
 refine b74 fun hf=>?_
 have hbig := big_eq
 have hlen : (mapD Id3.d l).length ≤ big := hf.1
 rw [mapD_len] at hlen
 have hx : x.d = [.int .i64 x.o,.int .i64 x.s,.int .i64 x.i] := rfl
 simp +contextual only [x74,mapD_len,hx,↓U74,↓XP,↓XU,XW0,XW1,qa,qb,qc,qd,qe,qf,reduceCtorEq,TYX]
 intro b1 h1
 refine fun _=>XW.loopS Go.Proofs.Ytffbjejmobhpkaa.hm 19 (fun i : Nat=>[(0,.slc (mapD Id3.d l)),(3,.ptr b1 0),(6,.slc (mapD Id3.d l)),(7,.int .i64 l.length),(8,.int .i64 ((i : Nat) : Int))]) (fun i=>(b1,AO.cells [.int .i64 x.o,.int .i64 x.s,.int .i64 x.i]) :: H) (fun i=>l.length - i) (fun i=>i ≤ l.length ∧ x ∉ l.take i) 0 ⟨by omega,by simp⟩ ⟨rfl,rfl,rfl,rfl,rfl,rfl,trivial⟩ rfl ?_
 rintro i z ⟨hi,hn⟩ K hN hE hR
 show xcode _ _ [.slc (mapD Id3.d l),z 1,z 2,.ptr b1 0,z 4,z 5,.slc (mapD Id3.d l),.int .i64 l.length,.int .i64 ((i : Nat) : Int),z 9,z 10,z 11,z 12,z 13,z 14,z 15,z 16,z 17,z 18] _ K
 by_cases hlt : i < l.length
 ·have g := mapD_get (f := Id3.d) hlt
  have hmem := getD_mem hlt
  have hlt' : ((i : Int) < (l.length : Int)) = True := eq_true (by omega)
  have nx := not_mem_take hlt hn
  have hix : l.getD i default = x → l.idxOf x = i := fun e=>by
   have e1 : l = l.take i ++ x :: l.drop (i + 1) := by
    rw [← e,getD_lt hlt,← List.drop_eq_getElem_cons hlt,List.take_append_drop]
   rw [e1,List.idxOf_append,if_neg hn]
   simp
   omega
  generalize l.getD i default = y at g hmem nx hix
  have hy : y.d = [.int .i64 y.o,.int .i64 y.s,.int .i64 y.i] := rfl
  have hd := id_dec (x := x) (y := y)
  by_cases h0 : x = y
  ·simp +contextual only [x74,mapD_len,hx,g,hy,hd,hlt',eq_true h0,↓U74,↓XP,↓XU,XW0,XW1,qa,qb,qc,qd,qe,qf,reduceCtorEq,TYX]
   repeat' (first | apply And.intro | intro _)
   all_goals first
    | exact hR _ _ (by simp +contextual only [x74,mapD_len,hx,↓U74,↓XP,↓XU,XW0,XW1,qa,qb,qc,qd,qe,qf,reduceCtorEq,TYX]; rw [if_pos (h0 ▸ hmem),hix h0.symm] at h; exact h)
    | omega
    | skip
  ·simp +contextual only [x74,mapD_len,hx,g,hy,hd,hlt',eq_false h0,wrap_succ (show i ≤ big by omega),↓U74,↓XP,↓XU,XW0,XW1,qa,qb,qc,qd,qe,qf,reduceCtorEq,TYX]
   repeat' (first | apply And.intro | intro _)
   all_goals first
    | exact hN (i + 1) _ _ ⟨hlt,nx (Ne.symm h0)⟩ (by omega) ⟨rfl,rfl,rfl,rfl,rfl,rfl,trivial⟩ (back_0 rfl)
    | omega
    | skip
 ·have hik : i = l.length := by omega
  subst hik
  simp +contextual only [x74,mapD_len,hx,↓U74,↓XP,↓XU,XW0,XW1,qa,qb,qc,qd,qe,qf,reduceCtorEq,TYX]
  intros
  refine hE _ _ _ ?_
  simp +contextual only [x74,mapD_len,hx,↓U74,↓XP,↓XU,XW0,XW1,qa,qb,qc,qd,qe,qf,reduceCtorEq,TYX]
  rw [List.take_length] at hn
  rw [if_neg hn] at h
  exact h
theorem f_contains {l : List Id3} {x : Id3} {H : AH} {R : D → AH → Prop} (h : R (.bool (decide (x ∈ l))) H) : ACall Try.prog 70 [.slc (mapD Id3.d l),.agg x.d] H R := by
 refine b70 fun hf=>?_
 have hx : x.d = [.int .i64 x.o,.int .i64 x.s,.int .i64 x.i] := rfl
 have hk : ∀ b,decide (x ∈ l) = b → R (.bool b) H := fun b hb=>hb ▸ h
 simp +contextual only [x70,hx,↓u70_s0,↓XP,↓XU,XW0,XW1,qa,qb,qc,qd,qe,qf,reduceCtorEq,TYX]
 intro b1 h1
 refine f_index (x := x) ?_
 simp +contextual only [x70,hx,↓u70_s0,↓XP,↓XU,XW0,XW1,qa,qb,qc,qd,qe,qf,reduceCtorEq,TYX]
 intros
 refine hk _ (decide_eq_decide.2 ?_)
 split
 ·rename_i hh; exact ⟨fun _=>by omega,fun _=>hh⟩
 ·rename_i hh; exact ⟨fun e=>(hh e).elim,fun e=>absurd e (by omega)⟩
theorem f_same {l q : List Id3} {H : AH} {R : D → AH → Prop} (h : R (.bool (decide (l = q))) H) : ACall Try.prog 13 [.slc (mapD Id3.d l),.slc (mapD Id3.d q)] H R := by
 refine b13 fun hf=>?_
 have hbig := big_eq
 have hlen : (mapD Id3.d l).length ≤ big := hf.1
 rw [mapD_len] at hlen
 have hk : ∀ b,decide (l = q) = b → R (.bool b) H := fun b hb=>hb ▸ h
 by_cases hll : l.length = q.length
 ·simp +contextual only [x13,mapD_len,hll,↓U13,↓XP,↓XU,XW0,XW1,qa,qb,qc,qd,qe,qf,reduceCtorEq,TYX]
  intros
  refine XW.loopS Go.Proofs.Ytffbjejmobhpkaa.hm 26 (fun i : Nat=>[(0,.slc (mapD Id3.d l)),(1,.slc (mapD Id3.d q)),(5,.int .i64 ((i : Nat) : Int))]) (fun i=>H) (fun i=>l.length - i) (fun i=>i ≤ l.length ∧ l.take i = q.take i) 0 ⟨by omega,by simp⟩ ⟨rfl,rfl,rfl,rfl,trivial⟩ rfl ?_
  rintro i z ⟨hi,hn⟩ K hN hE hR
  show xcode _ _ [.slc (mapD Id3.d l),.slc (mapD Id3.d q),z 2,z 3,z 4,.int .i64 ((i : Nat) : Int),z 6,z 7,z 8,z 9,z 10,z 11,z 12,z 13,z 14,z 15,z 16,z 17,z 18,z 19,z 20,z 21,z 22,z 23,z 24,z 25] _ K
  by_cases hlt : i < l.length
  ·have hltq : i < q.length := by omega
   have g := mapD_get (f := Id3.d) hlt
   have g2 := mapD_get (f := Id3.d) hltq
   have hlt' : ((i : Int) < (q.length : Int)) = True := eq_true (by omega)
   have nx : l.getD i default = q.getD i default → l.take (i + 1) = q.take (i + 1) := fun e=>by rw [take_succ hlt,take_succ hltq,hn,e]
   have ny : l.getD i default ≠ q.getD i default → l ≠ q := fun e e2=>e (by rw [e2])
   generalize l.getD i default = y at g nx ny
   generalize q.getD i default = x at g2 nx ny
   have hy : y.d = [.int .i64 y.o,.int .i64 y.s,.int .i64 y.i] := rfl
   have hx : x.d = [.int .i64 x.o,.int .i64 x.s,.int .i64 x.i] := rfl
   have hd := id_dec (x := y) (y := x)
   by_cases h0 : y = x
   ·simp +contextual only [x13,mapD_len,g,g2,hy,hx,hll,hd,hlt',eq_true h0,wrap_succ (show i ≤ big by omega),↓U13,↓XP,↓XU,XW0,XW1,qa,qb,qc,qd,qe,qf,reduceCtorEq,TYX]
    repeat' (first | apply And.intro | intro _)
    all_goals first
     | exact hN (i + 1) _ _ ⟨hlt,nx h0⟩ (by omega) ⟨rfl,rfl,rfl,rfl,trivial⟩ (back_0 rfl)
     | omega
     | skip
   ·simp +contextual only [x13,mapD_len,g,g2,hy,hx,hll,hd,hlt',eq_false h0,↓U13,↓XP,↓XU,XW0,XW1,qa,qb,qc,qd,qe,qf,reduceCtorEq,TYX]
    repeat' (first | apply And.intro | intro _)
    all_goals first
     | exact hR _ _ (by simp +contextual only [x13,mapD_len,↓U13,↓XP,↓XU,XW0,XW1,qa,qb,qc,qd,qe,qf,reduceCtorEq,TYX]; exact hk _ (decide_eq_false (ny h0)))
     | omega
     | skip
  ·have hik : i = l.length := by omega
   subst hik
   simp +contextual only [x13,mapD_len,hll,↓U13,↓XP,↓XU,XW0,XW1,qa,qb,qc,qd,qe,qf,reduceCtorEq,TYX]
   repeat' (first | apply And.intro | intro _)
   refine hE _ _ _ ?_
   simp +contextual only [x13,mapD_len,↓U13,↓XP,↓XU,XW0,XW1,qa,qb,qc,qd,qe,qf,reduceCtorEq,TYX]
   rw [List.take_length,hll,List.take_length] at hn
   exact hk _ (decide_eq_true hn)
 ·have hne : ((l.length : Int) = (q.length : Int)) = False := eq_false (by omega)
  simp +contextual only [x13,mapD_len,hne,↓U13,↓XP,↓XU,XW0,XW1,qa,qb,qc,qd,qe,qf,reduceCtorEq,TYX]
  intros
  exact hk _ (decide_eq_false fun e=>hll (by rw [e]))
end Go.Proofs.Ytffbjejmobhpkaa
end
section
namespace Go.Aw
open Go Go.RowKit
theorem ACall.view {P : Program} {f : FuncId} {args : List D} {H : AH} {R : D → AH → Prop} (h : ACall P f args H (fun d H'=>R d.view H')) : ACall P f args H R :=
 ⟨h.1,fun K w vs h1 h2 h3 h4 h5=>(h.2 K w vs h1 h2 h3 h4 h5).mono fun e w' ⟨v,d,H',K',g1,g2,g3,g4,g5,g6⟩=>⟨v,d.view,H',K',g1,g2,g3,g4,g5,g6.rep.viewO⟩⟩
end Go.Aw
namespace Go.Proofs.Ytffbjejmobhpkaa
open Go Go.Aw
def insI (x : Id3) : List Id3 → List Id3
 | []=>[x]
 | y :: r=>if y.lt x then y :: insI x r else if y = x then y :: r else x :: y :: r
theorem insI_cons {x y : Id3} {r : List Id3} : insI x (y :: r) = if y.lt x then y :: insI x r else if y = x then y :: r else x :: y :: r := rfl
theorem insI_len {x : Id3} : ∀ {l : List Id3},(insI x l).length ≤ l.length + 1
 | []=>by simp [insI]
 | y :: r=>by
  have := insI_len (x := x) (l := r)
  unfold insI
  split
  ·simp; omega
  ·split <;> simp
theorem w_own {xs : List (List D)} : (D.own xs).view = .slc xs := rfl
theorem ids_1 {x : Id3} : [[.int .i64 x.o,.int .i64 x.s,.int .i64 x.i]] = mapD Id3.d [x] := rfl
theorem f_insert {l : List Id3} {x : Id3} {H : AH} {R : D → AH → Prop} (hl : l.length ≤ 1073741824) (h : R (.slc (mapD Id3.d (insI x l))) H) : ACall Try.prog 39 [.slc (mapD Id3.d l),.agg x.d] H R := by
 refine ACall.view (b39 fun hf=>?_)
 have hbig := big_eq
 have hk : ∀ q,insI x l = q → R (.slc (mapD Id3.d q)) H := fun q hq=>hq ▸ h
 have hx : x.d = [.int .i64 x.o,.int .i64 x.s,.int .i64 x.i] := rfl
 simp +contextual only [x39,mapD_len,hx,↓U39,↓XP,↓XU,XW0,XW1,qa,qb,qc,qd,qe,qf,reduceCtorEq,TYX]
 intro b1 h1
 refine XW.loopS Go.Proofs.Ytffbjejmobhpkaa.hm 48 (fun i : Nat=>[(0,.slc (mapD Id3.d l)),(3,.ptr b1 0),(5,.int .i64 ((i : Nat) : Int))]) (fun i=>(b1,AO.cells [.int .i64 x.o,.int .i64 x.s,.int .i64 x.i]) :: H) (fun i=>l.length - i) (fun i=>i ≤ l.length ∧ l.take i ++ insI x (l.drop i) = insI x l) 0 ⟨by omega,by simp⟩ ⟨rfl,rfl,rfl,rfl,trivial⟩ rfl ?_
 rintro i z ⟨hi,hn⟩ K hN hE hR
 show xcode _ _ [.slc (mapD Id3.d l),z 1,z 2,.ptr b1 0,z 4,.int .i64 ((i : Nat) : Int),z 6,z 7,z 8,z 9,z 10,z 11,z 12,z 13,z 14,z 15,z 16,z 17,z 18,z 19,z 20,z 21,z 22,z 23,z 24,z 25,z 26,z 27,z 28,z 29,z 30,z 31,z 32,z 33,z 34,z 35,z 36,z 37,z 38,z 39,z 40,z 41,z 42,z 43,z 44,z 45,z 46,z 47] _ K
 have hsz : ∀ q : List Id3,∀ y ∈ mapD Id3.d q,y.length = 3 := fun q=>mapD_sz fun _=>rfl
 have tk1 : ((mapD Id3.d l).take i).drop 0 = mapD Id3.d (l.take i) := by rw [List.drop_zero,mapD_take]
 have tk2 : ((mapD Id3.d l).take (mapD Id3.d l).length).drop i = mapD Id3.d (l.drop i) := by rw [List.take_length,mapD_drop]
 by_cases hlt : i < l.length
 ·have g := mapD_get (f := Id3.d) hlt
  have hlt' : ((i : Int) < (l.length : Int)) = True := eq_true (by omega)
  rw [drop_cons hlt] at hn
  have hts := take_succ hlt
  have hdr := drop_cons hlt
  generalize l.getD i default = y at g hn hts hdr
  have hy : y.d = [.int .i64 y.o,.int .i64 y.s,.int .i64 y.i] := rfl
  have hd := id_dec (x := y) (y := x)
  have hlen1 : (l.take i).length = i := by simp; omega
  rw [insI_cons] at hn
  by_cases h0 : y.lt x
  ·rw [if_pos h0] at hn
   simp +contextual only [x39,mapD_len,hx,g,hy,hlt',↓U39,↓XP,↓XU,XW0,XW1,qa,qb,qc,qd,qe,qf,reduceCtorEq,TYX]
   intros
   refine ⟨_,fun _ _=>f_less (x := y) (y := x) ⟨rfl,rfl⟩,?_⟩
   simp +contextual only [x39,mapD_len,hx,decide_eq_true h0,wrap_succ (show i ≤ big by omega),↓U39,↓XP,↓XU,XW0,XW1,qa,qb,qc,qd,qe,qf,reduceCtorEq,TYX]
   refine hN (i + 1) _ _ ⟨hlt,?_⟩ (by omega) ⟨rfl,rfl,rfl,rfl,trivial⟩ (back_0 rfl)
   rw [hts,List.append_assoc]
   exact hn
  ·rw [if_neg h0] at hn
   simp +contextual only [x39,mapD_len,hx,g,hy,hlt',↓U39,↓XP,↓XU,XW0,XW1,qa,qb,qc,qd,qe,qf,reduceCtorEq,TYX]
   intros
   refine ⟨_,fun _ _=>f_less (x := y) (y := x) ⟨rfl,rfl⟩,?_⟩
   simp +contextual only [x39,mapD_len,hx,decide_eq_false h0,↓U39,↓XP,↓XU,XW0,XW1,qa,qb,qc,qd,qe,qf,reduceCtorEq,TYX]
   refine hE _ _ _ ?_
   by_cases h2 : y = x
   ·rw [if_pos h2] at hn
    simp +contextual only [x39,mapD_len,hx,g,hy,hlt',hd,eq_true h2,w_own,↓U39,↓XP,↓XU,XW0,XW1,qa,qb,qc,qd,qe,qf,reduceCtorEq,TYX]
    intros
    refine hk _ ?_
    rw [← hn,← hdr,List.take_append_drop]
   ·rw [if_neg h2] at hn
    simp +contextual only [x39,mapD_len,hx,g,hy,hlt',hd,eq_false h2,ids_1 (x := x),mapD_take,mapD_drop,mapD_app,List.take_length,w_own,↓U39,↓XP,↓XU,XW0,XW1,qa,qb,qc,qd,qe,qf,reduceCtorEq,TYX]
    repeat' (first | exact hsz _ | apply And.intro | intro _)
    all_goals first
     | omega
     | (simp only [List.length_append,List.length_take,List.length_drop,List.length_cons,List.length_nil]; omega)
     | skip
    refine hk _ ?_
    rw [List.append_assoc,List.singleton_append,hdr]
    exact hn.symm
 ·have hik : i = l.length := by omega
  subst hik
  rw [List.take_length,List.drop_length] at hn
  simp +contextual only [x39,mapD_len,hx,↓U39,↓XP,↓XU,XW0,XW1,qa,qb,qc,qd,qe,qf,reduceCtorEq,TYX]
  intros
  refine hE _ _ _ ?_
  simp +contextual only [x39,mapD_len,hx,ids_1 (x := x),mapD_take,mapD_drop,mapD_app,List.take_length,List.drop_length,w_own,↓U39,↓XP,↓XU,XW0,XW1,qa,qb,qc,qd,qe,qf,reduceCtorEq,TYX]
  repeat' (first | exact hsz _ | apply And.intro | intro _)
  all_goals first
   | omega
   | (simp only [List.length_append,List.length_take,List.length_drop,List.length_cons,List.length_nil]; omega)
   | skip
  refine hk _ ?_
  exact hn.symm
theorem f_clone {l : List Id3} {H : AH} {R : D → AH → Prop} (hl : l.length ≤ 1073741824) (h0 : l = [] → R (.own []) H) (h : l ≠ [] → ∀ b cap m,freshH H b → R (.hgs b l.length cap) ((b,.cells ((mapD Id3.d l).flatten ++ List.replicate m .any)) :: H)) : ACall Try.prog 42 [.slc (mapD Id3.d l)] H R := by
 refine r42 fun hf=>?_
 have hbig := big_eq
 have hn : mapD Id3.d l = [] → l = [] := fun e=>by cases l <;> simp_all [mapD]
 simp +contextual only [x42,mapD_len,↓U42,↓XP,↓XU,XW0,XW1,qa,qb,qc,qd,qe,qf,reduceCtorEq,TYX]
 refine ⟨fun e=>⟨H,Sbn.sub (List.Sublist.refl _),h0 (hn e)⟩,mapD_sz fun _=>rfl,by omega,fun e=>⟨H,Sbn.sub (List.Sublist.refl _),h0 (hn e)⟩,fun e b cap m hb _=>⟨_,Sbn.sub (List.Sublist.refl _),h (fun e2=>e (by rw [e2]; rfl)) b cap m hb⟩⟩
def minF (le : Id3 → Id3 → Int) : Id3 → List Id3 → Id3
 | m,[]=>m
 | m,x :: r=>minF le (if le x m < 0 then x else m) r
theorem f_min {y0 : Id3} {q l : List Id3} {g : FuncId} {le : Id3 → Id3 → Int} {H : AH} {R : D → AH → Prop} (hq : l = y0 :: q) (hg : ∀ (x y : Id3) (H' : AH) (R' : D → AH → Prop),R' (.int .i64 (le x y)) H' → ACall Try.prog g [.agg x.d,.agg y.d] H' R') (h : R (.agg (minF le y0 q).d) H) : ACall Try.prog 75 [.slc (mapD Id3.d l),.fn g []] H R := by
 refine b75 fun hf=>?_
 have hbig := big_eq
 have hlen : (mapD Id3.d l).length ≤ big := hf.1
 rw [mapD_len] at hlen
 have hpos : 0 < l.length := by rw [hq]; simp
 have g0 := mapD_get (f := Id3.d) hpos
 have e0 : l.getD 0 default = y0 := by rw [hq]; rfl
 rw [e0] at g0
 have hy0 : y0.d = [.int .i64 y0.o,.int .i64 y0.s,.int .i64 y0.i] := rfl
 have hlt0 : ((l.length : Int) < 1) = False := eq_false (by omega)
 have hlt1 : ((0 : Int) < (l.length : Int)) = True := eq_true (by omega)
 simp +contextual only [x75,mapD_len,g0,hy0,hlt0,hlt1,↓U75,↓XP,↓XU,XW0,XW1,qa,qb,qc,qd,qe,qf,reduceCtorEq,TYX]
 rintro b1 h1 _ b2 ⟨n12,h2⟩
 refine XW.loopS Go.Proofs.Ytffbjejmobhpkaa.hm 33 (fun s : Nat × Id3=>[(0,.slc (mapD Id3.d l)),(1,.fn g []),(4,.ptr b1 0),(5,.ptr b2 0),(6,.int .i64 ((s.1 : Nat) : Int))]) (fun s=>(b2,AO.cells s.2.d) :: (b1,AO.cells [.int .i64 0,.int .i64 0,.int .i64 0]) :: H) (fun s=>l.length - s.1) (fun s=>s.1 ≤ l.length ∧ minF le s.2 (l.drop s.1) = minF le y0 q) (1,y0) ⟨hpos,by rw [hq]; rfl⟩ ⟨rfl,rfl,rfl,rfl,rfl,rfl,trivial⟩ rfl ?_
 rintro ⟨i,m⟩ z ⟨hi,hn⟩ K hN hE hR
 dsimp only at hi hn hN
 have hmd : m.d = [.int .i64 m.o,.int .i64 m.s,.int .i64 m.i] := rfl
 show xcode _ _ [.slc (mapD Id3.d l),.fn g [],z 2,z 3,.ptr b1 0,.ptr b2 0,.int .i64 ((i : Nat) : Int),z 7,z 8,z 9,z 10,z 11,z 12,z 13,z 14,z 15,z 16,z 17,z 18,z 19,z 20,z 21,z 22,z 23,z 24,z 25,z 26,z 27,z 28,z 29,z 30,z 31,z 32] ((b2,AO.cells m.d) :: (b1,AO.cells [.int .i64 0,.int .i64 0,.int .i64 0]) :: H) K
 by_cases hlt : i < l.length
 ·have gg := mapD_get (f := Id3.d) hlt
  have hlt' : ((i : Int) < (l.length : Int)) = True := eq_true (by omega)
  rw [drop_cons hlt] at hn
  generalize l.getD i default = y at gg hn
  have hy : y.d = [.int .i64 y.o,.int .i64 y.s,.int .i64 y.i] := rfl
  rw [show minF le m (y :: l.drop (i + 1)) = minF le (if le y m < 0 then y else m) (l.drop (i + 1)) from rfl] at hn
  simp +contextual only [x75,mapD_len,gg,hy,hmd,hlt',h_miss,h_skip,n12,↓U75,↓XP,↓XU,XW0,XW1,qa,qb,qc,qd,qe,qf,reduceCtorEq,TYX]
  intros
  refine ⟨_,fun _ _=>hg y m _ _ ⟨rfl,rfl⟩,?_⟩
  by_cases h0 : le y m < 0
  ·rw [if_pos h0] at hn
   simp +contextual only [x75,mapD_len,gg,hy,hmd,eq_true h0,hlt',h_miss,h_skip,n12,wrap_succ (show i ≤ big by omega),↓U75,↓XP,↓XU,XW0,XW1,qa,qb,qc,qd,qe,qf,reduceCtorEq,TYX]
   repeat' (first | apply And.intro | intro _)
   all_goals first
    | exact hN (i + 1,y) _ _ ⟨hlt,hn⟩ (by dsimp only; omega) ⟨rfl,rfl,rfl,rfl,rfl,rfl,trivial⟩ (back_0 rfl)
    | omega
    | skip
  ·rw [if_neg h0] at hn
   simp +contextual only [x75,mapD_len,gg,hy,hmd,eq_false h0,hlt',h_miss,h_skip,n12,wrap_succ (show i ≤ big by omega),↓U75,↓XP,↓XU,XW0,XW1,qa,qb,qc,qd,qe,qf,reduceCtorEq,TYX]
   repeat' (first | apply And.intro | intro _)
   all_goals first
    | exact hN (i + 1,m) _ _ ⟨hlt,hn⟩ (by dsimp only; omega) ⟨rfl,rfl,rfl,rfl,rfl,rfl,trivial⟩ (back_0 rfl)
    | omega
    | skip
 ·have hik : i = l.length := by omega
  subst hik
  rw [List.drop_length] at hn
  simp +contextual only [x75,mapD_len,↓U75,↓XP,↓XU,XW0,XW1,qa,qb,qc,qd,qe,qf,reduceCtorEq,TYX]
  intros
  refine hE _ _ _ ?_
  simp +contextual only [x75,mapD_len,hmd,h_miss,h_skip,n12,↓U75,↓XP,↓XU,XW0,XW1,qa,qb,qc,qd,qe,qf,reduceCtorEq,TYX]
  rw [← hn] at h
  exact h
end Go.Proofs.Ytffbjejmobhpkaa
end
section
namespace Go.Proofs.Ytffbjejmobhpkaa
open Go Go.Aw
def Inc (l : List Id3) : Prop := l.Pairwise Id3.lt
theorem inc_ext : ∀ {a b : List Id3},Inc a → Inc b → (∀ x,x ∈ a ↔ x ∈ b) → a = b
 | [],[],_,_,_=>rfl
 | [],y :: b,_,_,h=>absurd ((h y).2 (.head _)) (by simp)
 | x :: a,[],_,_,h=>absurd ((h x).1 (.head _)) (by simp)
 | x :: a,y :: b,ha,hb,h=>by
  have ha' := List.pairwise_cons.1 ha
  have hb' := List.pairwise_cons.1 hb
  have hxy : x = y := by
   rcases List.mem_cons.1 ((h x).1 (.head _)) with h1 | h1
   ·exact h1
   ·rcases List.mem_cons.1 ((h y).2 (.head _)) with h2 | h2
    ·exact h2.symm
    ·exact absurd (ha'.1 y h2) (lt_asymm (hb'.1 x h1))
  subst hxy
  rw [inc_ext ha'.2 hb'.2 fun z=>?_]
  have hz := h z
  constructor
  ·intro hm
   rcases List.mem_cons.1 (hz.1 (.tail _ hm)) with h1 | h1
   ·subst h1; exact absurd (ha'.1 _ hm) lt_irr
   ·exact h1
  ·intro hm
   rcases List.mem_cons.1 (hz.2 (.tail _ hm)) with h1 | h1
   ·subst h1; exact absurd (hb'.1 _ hm) lt_irr
   ·exact h1
theorem insI_mem {x y : Id3} : ∀ {l : List Id3},y ∈ insI x l ↔ y = x ∨ y ∈ l
 | []=>by simp [insI]
 | z :: r=>by
  rw [insI_cons]
  split
  ·rw [List.mem_cons,insI_mem,List.mem_cons]
   constructor
   ·rintro (h | h | h) <;> simp [h]
   ·rintro (h | h | h) <;> simp [h]
  ·split
   ·rename_i h1 h2
    subst h2
    simp
   ·simp
theorem insI_inc {x : Id3} : ∀ {l : List Id3},Inc l → Inc (insI x l)
 | [],_=>by simp [insI,Inc]
 | z :: r,h=>by
  have h' := List.pairwise_cons.1 h
  rw [insI_cons]
  split
  ·rename_i h1
   refine List.pairwise_cons.2 ⟨fun y hy=>?_,insI_inc h'.2⟩
   rcases insI_mem.1 hy with h2 | h2
   ·exact h2 ▸ h1
   ·exact h'.1 y h2
  ·split
   ·exact h
   ·rename_i h1 h2
    have h3 : x.lt z := (lt_tri (a := z) (b := x)).elim (fun h=>absurd h h1) (fun h=>h.elim (fun h=>absurd h h2) id)
    refine List.pairwise_cons.2 ⟨fun y hy=>?_,h⟩
    rcases List.mem_cons.1 hy with h4 | h4
    ·exact h4 ▸ h3
    ·exact lt_trans h3 (h'.1 y h4)
def srt (l : List Id3) : List Id3 := l.foldl (fun a x=>insI x a) []
theorem fold_ins {l : List Id3} : ∀ {a : List Id3},Inc a → Inc (l.foldl (fun a x=>insI x a) a) ∧ ∀ y,y ∈ l.foldl (fun a x=>insI x a) a ↔ y ∈ a ∨ y ∈ l := by
 induction l with
 | nil=>intro a h; exact ⟨h,fun y=>by simp⟩
 | cons x r ih =>
  intro a h
  obtain ⟨h1,h2⟩ := ih (insI_inc (x := x) h)
  refine ⟨h1,fun y=>?_⟩
  rw [List.foldl_cons,h2 y,insI_mem,List.mem_cons]
  constructor
  ·rintro ((h | h) | h) <;> simp [h]
  ·rintro (h | h | h) <;> simp [h]
theorem srt_inc {l : List Id3} : Inc (srt l) := (fold_ins (by simp [Inc])).1
theorem srt_mem {l : List Id3} {y : Id3} : y ∈ srt l ↔ y ∈ l := by
 have := (fold_ins (l := l) (a := []) (by simp [Inc])).2 y
 simpa [srt] using this
theorem srt_of {l a : List Id3} (h : Inc a) (hm : ∀ y,y ∈ a ↔ y ∈ l) : a = srt l := inc_ext h srt_inc fun y=>by rw [hm,srt_mem]
theorem srt_len {l : List Id3} : (srt l).length ≤ l.length := by
 have : ∀ {l a : List Id3},(l.foldl (fun a x=>insI x a) a).length ≤ a.length + l.length := by
  intro l
  induction l with
  | nil=>simp
  | cons x r ih =>
   intro a
   have h1 := ih (a := insI x a)
   have h2 := insI_len (x := x) (l := a)
   simp only [List.foldl_cons,List.length_cons]
   omega
 simpa [srt] using this (l := l) (a := [])
def dd : List Id3 → List Id3
 | []=>[]
 | x :: r=>x :: go x r
 where go : Id3 → List Id3 → List Id3
 | _,[]=>[]
 | p,x :: r=>if x = p then go p r else x :: go x r
theorem ddgo_inc : ∀ {p : Id3} {l : List Id3},(p :: l).Pairwise (fun x y=>¬ y.lt x) → (∀ y ∈ dd.go p l,p.lt y) ∧ Inc (dd.go p l) ∧ ∀ y,y ∈ p :: dd.go p l ↔ y ∈ p :: l
 | p,[],_=>⟨by simp [dd.go],by simp [dd.go,Inc],fun y=>by simp [dd.go]⟩
 | p,x :: r,h=>by
  have h1 := List.pairwise_cons.1 h
  have h2 := List.pairwise_cons.1 h1.2
  rw [dd.go]
  split
  ·rename_i e
   subst e
   obtain ⟨q1,q2,q3⟩ := ddgo_inc (p := x) (l := r) h1.2
   refine ⟨q1,q2,fun y=>?_⟩
   rw [q3 y]
   simp
  ·rename_i e
   obtain ⟨q1,q2,q3⟩ := ddgo_inc (p := x) (l := r) h1.2
   have hpx : p.lt x := (lt_tri (a := p) (b := x)).elim id fun h=>h.elim (fun h=>absurd h.symm e) fun h=>absurd h (h1.1 x (.head _))
   refine ⟨fun y hy=>?_,List.pairwise_cons.2 ⟨q1,q2⟩,fun y=>?_⟩
   ·rcases List.mem_cons.1 hy with h3 | h3
    ·exact h3 ▸ hpx
    ·exact lt_trans hpx (q1 y h3)
   ·rw [List.mem_cons,q3 y]
    simp
theorem dd_srt {l m : List Id3} (hp : m.Perm l) (h : m.Pairwise (fun x y=>¬ y.lt x)) : dd m = srt l := by
 refine srt_of ?_ fun y=>?_
 ·cases m with
  | nil=>simp [dd,Inc]
  | cons x r =>
   obtain ⟨q1,q2,q3⟩ := ddgo_inc h
   exact List.pairwise_cons.2 ⟨q1,q2⟩
 ·rw [← hp.mem_iff]
  cases m with
  | nil=>simp [dd]
  | cons x r=>exact (ddgo_inc h).2.2 y
def OkI (x : Id3) : Prop := inR .i64 x.o ∧ inR .i64 x.s ∧ inR .i64 x.i
theorem lift_ok {p : Id3 → Prop} : ∀ {l : List Id3},(∀ x ∈ l,p x) → ∃ l' : List {x : Id3 // p x},l'.map (·.1) = l
 | [],_=>⟨[],rfl⟩
 | x :: r,h=>by
  obtain ⟨l',e⟩ := lift_ok (l := r) fun y hy=>h y (.tail _ hy)
  exact ⟨⟨x,h x (.head _)⟩ :: l',by simp [e]⟩
end Go.Proofs.Ytffbjejmobhpkaa
end
section
namespace Go.Proofs.Ytffbjejmobhpkaa
open Go Go.Aw
structure REv where
 n : Int
 all : List Id3
 one : List Id3
structure SmallR (b : Bk) : Prop where
 sl : b.sl.length ≤ 1024
 mg : b.mg.length ≤ 65536
 ch : b.ch.length ≤ 65536
 pl : ∀ s ∈ b.sl,s.parts.length ≤ 1024
 sn : b.sn.length ≤ 65536
 sr : b.sr.length ≤ 65536
 qt : b.qt.length ≤ 65536
 dt : ∀ s ∈ b.sr,s.date.length ≤ 65536
def rSen (b : Bk) (x : Id3) : Bool := b.sn.any fun s=>decide (s.id = x)
end Go.Proofs.Ytffbjejmobhpkaa
end
section
namespace Go.Aw
open Go Go.RowKit
theorem XW.loopSR {P : Program} (hm : P.follows .mixedOrders = true) {x : XC} {F : List D} {H : AH} {Q : AQ} {σ : Type} (n : Nat) (fr : σ → List (Nat × D)) (hp : σ → AH) (μ : σ → Nat) (inv : σ → Prop) (s0 : σ)
  (i0 : inv s0) (f0 : Fr n (fr s0) F) (e0 : hp s0 = H)
  (round : ∀ s (z : Nat → D),inv s → ∀ K : AQ,(∀ s' F' H',inv s' → μ s' < μ s → Fr n (fr s') F' → Sbn (hp s') H' → K .normal F' H') → (∀ i F' H',Q (.exit i) F' H' → K (.exit i) F' H') → (∀ F' H',Q .ret F' H' → K .ret F' H') →
   xcode P x ((List.range n).map (frm (fr s) z)) (hp s) K) : XW P x F H Q := by
 let I : Nat → List D → AH → Prop := fun m F H=>∃ s,inv s ∧ Fr n (fr s) F ∧ hp s = H ∧ μ s = m
 refine XW.loopKR hm (fun F H=>∃ m,I m F H) (fun F H=>open Classical in if h : ∃ m,I m F H then Classical.choose (least (fun m=>I m F H) h.choose h.choose_spec) else 0) ⟨_,s0,i0,f0,e0,rfl⟩ ?_
 intro F H hI K hN hE hR
 have hmin := Classical.choose_spec (least (fun m=>I m F H) hI.choose hI.choose_spec)
 simp only [dif_pos hI] at hN
 generalize Classical.choose (least (fun m=>I m F H) hI.choose hI.choose_spec) = m at hmin hN
 obtain ⟨⟨s,h1,h2,h3,h4⟩,hl⟩ := hmin
 obtain ⟨z,rfl⟩ := h2.lit
 subst h3 h4
 refine round s z h1 K (fun s' F' H' g1 g2 g3 g4=>hN F' H' _ g4 ⟨_,s',g1,g3,rfl,rfl⟩ ?_) hE hR
 have hex : ∃ m,I m F' (hp s') := ⟨_,s',g1,g3,rfl,rfl⟩
 simp only [dif_pos hex]
 have hmin' := Classical.choose_spec (least (fun m=>I m F' (hp s')) hex.choose hex.choose_spec)
 generalize Classical.choose (least (fun m=>I m F' (hp s')) hex.choose hex.choose_spec) = m' at hmin'
 have : m' ≤ μ s' := Nat.le_of_not_lt fun hlt=>hmin'.2 _ hlt ⟨s',g1,g3,rfl,rfl⟩
 omega
section
variable {κ α : Type} [DecidableEq κ]
def lookP : List (κ × α) → κ → Option α
 | [],_=>none
 | p :: r,k=>if k = p.1 then some p.2 else lookP r k
def updP : List (κ × α) → κ → α → List (κ × α)
 | [],k,v=>[(k,v)]
 | p :: r,k,v=>if k = p.1 then (k,v) :: r else p :: updP r k v
theorem look_upd {m : List (κ × α)} {k j : κ} {v : α} : lookP (updP m k v) j = if j = k then some v else lookP m j := by
 induction m with
 | nil=>simp [updP,lookP]
 | cons p r ih =>
  unfold updP
  by_cases h : k = p.1
  ·rw [if_pos h]
   simp only [lookP]
   by_cases h2 : j = k
   ·simp [h2]
   ·rw [if_neg h2,if_neg h2,if_neg (fun e=>h2 (e.trans h.symm))]
  ·rw [if_neg h]
   simp only [lookP,ih]
   by_cases h2 : j = p.1
   ·rw [if_pos h2,if_pos h2,if_neg (fun e=>h (e.symm.trans h2))]
   ·rw [if_neg h2,if_neg h2]
theorem upd_len {m : List (κ × α)} {k : κ} {v : α} : (updP m k v).length ≤ m.length + 1 := by
 induction m with
 | nil=>simp [updP]
 | cons p r ih =>
  unfold updP
  split
  ·simp
  ·simpa using ih
theorem upd_map {β : Type} {f : α → β} {m : List (κ × α)} {k : κ} {v : α} : (updP m k v).map (fun p=>(p.1,f p.2)) = updP (m.map fun p=>(p.1,f p.2)) k (f v) := by
 induction m with
 | nil=>rfl
 | cons p r ih =>
  unfold updP
  simp only [List.map_cons]
  split
  ·rfl
  ·simp only [List.map_cons,ih]
theorem look_map {β : Type} {f : α → β} {m : List (κ × α)} {k : κ} : lookP (m.map fun p=>(p.1,f p.2)) k = (lookP m k).map f := by
 induction m with
 | nil=>rfl
 | cons p r ih =>
  simp only [List.map_cons,lookP]
  split
  ·rfl
  ·exact ih
theorem look_mem {m : List (κ × α)} {k : κ} {v : α} (h : lookP m k = some v) : (k,v) ∈ m := by
 induction m with
 | nil=>cases h
 | cons p r ih =>
  simp only [lookP] at h
  split at h
  ·rename_i e
   injection h with h
   subst e h
   exact .head _
  ·exact .tail _ (ih h)
theorem upd_mem {m : List (κ × α)} {k : κ} {v : α} {p : κ × α} (h : p ∈ updP m k v) : p = (k,v) ∨ p ∈ m := by
 induction m with
 | nil=>exact .inl (by simpa [updP] using h)
 | cons q r ih =>
  unfold updP at h
  split at h
  ·rcases List.mem_cons.1 h with h | h
   ·exact .inl h
   ·exact .inr (.tail _ h)
  ·rcases List.mem_cons.1 h with h | h
   ·exact .inr (h ▸ .head _)
   ·rcases ih h with h | h
    ·exact .inl h
    ·exact .inr (.tail _ h)
structure KeyOk (kc : κ → List D) (l : List CT) : Prop where
 eq : ∀ a b,eqCells (kc a) (kc b) = decide (a = b)
 fit : ∀ a,fits l (kc a)
 same : ∀ a b,sameK (kc a) (kc b)
variable {kc : κ → List D} {l : List CT} {vd : α → D} {m : List (κ × α)} {k : κ}
def mapE (kc : κ → List D) (vd : α → D) (m : List (κ × α)) : List (D × D) := m.map fun p=>(.agg (kc p.1),vd p.2)
omit [DecidableEq κ] in
theorem mapE_len : (mapE kc vd m).length = m.length := by simp [mapE]
theorem keys_mapE (h : KeyOk kc l) : keysOk true l (mapE kc vd m) (.agg (kc k)) := by
 refine ⟨rfl,h.fit k,fun p hp=>?_⟩
 obtain ⟨q,_,rfl⟩ := List.mem_map.1 hp
 exact ⟨rfl,h.fit _,h.same _ _⟩
theorem look_mapE (h : KeyOk kc l) : lookD (mapE kc vd m) (kc k) = (lookP m k).map vd := by
 induction m with
 | nil=>rfl
 | cons p r ih =>
  show (if eqCells (kc k) (cellsOf (.agg (kc p.1))) = true then some (vd p.2) else lookD (mapE kc vd r) (kc k)) = _
  rw [show cellsOf (.agg (kc p.1)) = kc p.1 from rfl,h.eq,ih]
  simp only [lookP,decide_eq_true_eq]
  split <;> rfl
theorem upd_mapE (h : KeyOk kc l) {v : α} : updD (mapE kc vd m) (.agg (kc k)) (vd v) = mapE kc vd (updP m k v) := by
 induction m with
 | nil=>rfl
 | cons p r ih =>
  show (if eqCells (kc k) (cellsOf (.agg (kc p.1))) = true then (.agg (kc k),vd v) :: mapE kc vd r else (.agg (kc p.1),vd p.2) :: updD (mapE kc vd r) (.agg (kc k)) (vd v)) = _
  rw [show cellsOf (.agg (kc p.1)) = kc p.1 from rfl,h.eq,ih]
  simp only [updP,decide_eq_true_eq]
  split <;> rfl
theorem setV_upd {es : List (D × D)} {i d v : D} : setV (updD es i d) ((idxD es (cellsOf i)).getD es.length) v = updD es i v := by
 induction es with
 | nil=>rfl
 | cons p r ih =>
  unfold updD idxD
  by_cases h : eqCells (cellsOf i) (cellsOf p.1) = true
  ·rw [if_pos h,if_pos h,if_pos h]
   rfl
  ·rw [if_neg h,if_neg h,if_neg h]
   unfold setV at ih ⊢
   cases hx : idxD r (cellsOf i) with
   | none=>rw [hx] at ih; simpa using ih
   | some q=>rw [hx] at ih; simpa using ih
omit [DecidableEq κ] in
theorem mwk_mapE : mwk (mapE kc vd m) = mapE kc (fun v=>(vd v).wkA) m := by simp [mwk,mapE]
end
theorem mapE_map {κ α β : Type} {kc : κ → List D} {vd : β → D} {f : α → β} {m : List (κ × α)} : mapE kc (fun v=>vd (f v)) m = mapE kc vd (m.map fun p=>(p.1,f p.2)) := by simp [mapE]
end Go.Aw
end
section
namespace Go.Proofs.Ytffbjejmobhpkaa
open Go Go.Aw
theorem foldl_takeR {α β : Type} [Inhabited α] {f : β → α → β} {b : β} {l : List α} {i : Nat} (h : i < l.length) : (l.take (i + 1)).foldl f b = f ((l.take i).foldl f b) (l.getD i default) := by
 rw [take_succ h,List.foldl_append]
 rfl
end Go.Proofs.Ytffbjejmobhpkaa
end
section
namespace Go.Aw
open Go Go.RowKit Go.Shelf Go.Sort Go.Proofs
def litV : D → Value
 | .int k n=>.int k n
 | .bool b=>.bool b
 | .str s=>.string ⟨⟨s⟩⟩
 | _=>undef
theorem litV_inv {K : Nat → BK} {w : World} {d : D} {v : Value} (h : litB d = true) (hr : RepV K w d v) : v = litV d := by
 cases d <;> simp only [litB,Bool.false_eq_true] at h
 ·exact hr.int_inv.1
 ·exact hr.bool_inv
 ·exact hr.str_inv.1
theorem litV_rep {K : Nat → BK} {w : World} {d : D} (h : litB d = true) (hf : fact d) : RepV K w d (litV d) := by
 cases d <;> simp only [litB,Bool.false_eq_true] at h
 ·exact .int _ _ hf
 ·exact .bool _
 ·exact .str _ hf
theorem litV_one {d : D} (h : litB d = true) : (litV d).oneCell' = true := by
 cases d <;> simp only [litB,Bool.false_eq_true] at h <;> rfl
def outK (K : Nat → BK) : Nat → BK := fun b=>match K b with
 | .imm=>.imm
 | .priv=>.tok 0 .outer
 | .tok n _=>.tok n .outer
theorem grow_of {w w' : World} (h1 : w'.os = w.os) (h2 : w'.tape = w.tape) (h3 : w'.output = w.output) (h4 : w.drawn ≤ w'.drawn) (h5 : w.heap.size ≤ w'.heap.size) (h6 : ∀ b,b < w.heap.size → w'.heap[b]? = w.heap[b]?) :
  ∃ q os',w' = Sort.grow (w.drewN q) os' := by
 refine ⟨w'.drawn - w.drawn,w'.heap.extract w.heap.size w'.heap.size,?_⟩
 obtain ⟨heap,tape,drawn,os,output⟩ := w'
 obtain ⟨heap',tape',drawn',os',output'⟩ := w
 simp only at h1 h2 h3 h4 h5 h6
 subst h1 h2 h3
 simp only [Sort.grow,World.drewN,World.mk.injEq,and_true,true_and]
 refine ⟨?_,by omega⟩
 apply Array.ext_getElem?
 intro i
 rw [Array.getElem?_append]
 split
 ·rename_i hlt
  exact h6 i hlt
 ·rename_i hge
  rw [Array.getElem?_extract]
  by_cases hi : i < heap.size
  ·rw [if_pos (by omega)]
   congr 1
   omega
  ·rw [if_neg (by omega)]
   exact Array.getElem?_eq_none (by omega)
theorem ACall.pure {P : Program} {g : FuncId} {args : List D} {R : D → AH → Prop} (h : ACall P g args [] R) {K : Nat → BK} {w W : World} (hk : KRel K w) (hsz : w.heap.size ≤ W.heap.size) (he : ExtV K w (outK K) W) {vs : Array Value} (hl : vs.size = args.length)
  (hr : ∀ (j : Nat) (d : D) (v : Value),args[j]? = some d → vs[j]? = some v → RepV K w d v) :
  Calls P g vs W fun e w'=>∃ v d H' K',e = .returned v ∧ R d H' ∧ (∃ q os',w' = Sort.grow (W.drewN q) os') ∧ RepO K' w' 0 d v := by
 have hkr : KRel (outK K) W := fun b hb=>by simp [outK,hk b (Nat.le_trans hsz hb)]
 refine (h.2 (outK K) W vs hkr (fun b n i j e=>?_) ⟨by simp,fun b o hm=>by simp at hm⟩ hl (fun j d v hd hv=>(hr j d v hd hv).mono he)).mono fun e w' ⟨v,d,H',K',g1,g2,g3,g4,g5,g6⟩=>⟨v,d,H',K',g1,g2,?_,g6⟩
 ·unfold outK at e
  split at e <;> cases e
 ·refine grow_of g3.ext.os g3.ext.tape g3.ext.output.1 g3.ext.output.2 g3.ext.size fun b hb=>?_
  cases hkb : K b with
  | imm=>exact (g3.ext.imm b hb (by simp [outK,hkb])).2
  | priv=>exact (g3.own b 0 (by simp [outK,hkb])).2
  | tok n o=>exact (g3.own b n (by simp [outK,hkb])).2
section
variable {P : Program} {ρ : Ren} {α : Type} [Inhabited α] {k : Nat} {dv : α → List D}
def encV (dv : α → List D) (x : α) : List Value := (dv x).map litV
theorem flat_at (hk0 : 0 < k) (hk : ∀ x,(dv x).length = k) {xs : List α} {j : Nat} (h : j < xs.length * k) (rest : List D) : ∃ d,((xs.map dv).flatten ++ rest)[j]? = some d ∧ d ∈ dv (xs.toArray[j / k]!) ∧ (flatK (encV dv) k xs.toArray)[j]! = litV d := by
 have hj : j / k < xs.length := (Nat.div_lt_iff_lt_mul hk0).2 h
 have hm : j % k < k := Nat.mod_lt _ hk0
 have hlen : ∀ x ∈ xs.map dv,x.length = k := fun x hx=>by
  obtain ⟨y,_,rfl⟩ := List.mem_map.1 hx
  exact hk y
 have hfl := flat_len (sz := k) hlen
 rw [List.length_map] at hfl
 have hx : xs.toArray[j / k]! = xs[j / k] := by simp [getElem!_pos xs.toArray (j / k) (by simpa using hj)]
 have hm' : j % k < (dv xs[j / k]).length := by rw [hk]; exact hm
 refine ⟨(dv xs[j / k])[j % k],?_,?_,?_⟩
 ·rw [List.getElem?_append_left (by rw [hfl]; exact h),flat_get hk0 hlen,List.getElem?_map,List.getElem?_eq_getElem hj]
  simp [List.getElem?_eq_getElem hm']
 ·rw [hx]; exact List.getElem_mem hm'
 ·rw [get_flatK (encV dv) k xs.toArray j (by simpa using h),hx]
  unfold encV
  rw [getElem!_pos ((dv xs[j / k]).map litV) (j % k) (by simpa using hm')]
  simp
theorem putCells_get (F c : Array Value) (j : Nat) (h : F.size ≤ c.size) : (putCells id 0 F c)[j]? = if j < F.size then some F[j]! else c[j]? := by
 unfold putCells
 rw [Array.getElem?_mapIdx]
 by_cases hj : j < F.size
 ·rw [if_pos hj,Array.getElem?_eq_getElem (by omega)]
  simp [hj]
 ·rw [if_neg hj]
  cases c[j]? with
  | none=>rfl
  | some x=>simp [hj]
theorem sortW {w : World} {b : Nat} {c : Array Value} {T : TypeId} (hb : w.heap[b]? = some (.cells c T (0,0))) (m : Nat) (os : Array Obj) (dk : Array α) : (sortWorldK (encV dv) k w b 0 m dk os).os = w.os ∧ (sortWorldK (encV dv) k w b 0 m dk os).tape = w.tape ∧ (sortWorldK (encV dv) k w b 0 m dk os).output = w.output ∧
   w.drawn ≤ (sortWorldK (encV dv) k w b 0 m dk os).drawn ∧ w.heap.size ≤ (sortWorldK (encV dv) k w b 0 m dk os).heap.size ∧ (∀ b',b' < w.heap.size → b' ≠ b → (sortWorldK (encV dv) k w b 0 m dk os).heap[b']? = w.heap[b']?) ∧
   (sortWorldK (encV dv) k w b 0 m dk os).heap[b]? = some (.cells (putCells id 0 (flatK (encV dv) k dk) c) T (0,0)) := by
 have hblk : b < w.heap.size := (Array.getElem?_eq_some_iff.1 hb).1
 generalize hF : flatK (encV dv) k dk = Fl
 unfold sortWorldK putRowK putRow mapBlock Sort.ahead Sort.grow
 rw [hF]
 refine ⟨rfl,rfl,rfl,Nat.le_add_right _ _,by simp,fun b' hlt hne=>?_,?_⟩
 ·show (Array.modify _ _ _ ++ _)[b']? = _
  rw [Array.getElem?_append_left (by simpa using hlt),Array.getElem?_modify,if_neg (Ne.symm hne)]
 ·show (Array.modify _ _ _ ++ _)[b]? = _
  rw [Array.getElem?_append_left (by simpa using hblk),Array.getElem?_modify,if_pos rfl,hb]
  rfl
theorem ACall.sort (L : SlLaysF0.n6 P ρ) (hk0 : 0 < k) (hty : tyI P (ρ.t 24) = some (true,k)) (hc6 : callOk P (ρ.f 6) = true) (hk : ∀ x,(dv x).length = k) (hlit : ∀ x,∀ d ∈ dv x,litB d = true ∧ fact d) {cf : α → α → Int} (hO : SWO (ltOf cf)) {g : FuncId} {caps : List D} (hisb : isB caps = false) (hg : callOk P g = true)
  (hcmp : ∀ x y,ACall P g (capA [.agg (dv x),.agg (dv y)] caps) [] fun d _=>d = .int .i64 (cf x y))
  {b n : Nat} {xs : List α} {rest : List D} {H : AH} (hn : xs.length = n) (hbig : n < 4611686018427387904) {R : D → AH → Prop}
  (hR : ∀ ys : List α,ys.Perm xs → ys.Pairwise (fun x y=>ltOf cf y x = false) → R (.tup []) ((b,.cells ((ys.map dv).flatten ++ rest)) :: H)) :
  ACall P (ρ.f 6) [.hsl b n,.fn g caps] ((b,.cells ((xs.map dv).flatten ++ rest)) :: H) R := by
 refine ⟨hc6,fun K w vs hK hns hH hl hr=>?_⟩
 obtain ⟨v0,v1,rfl⟩ := two_args hl
 obtain ⟨cap,rfl,hcap,hmax,_⟩ := (hr 0 _ v0 rfl rfl).hsl_inv
 obtain ⟨lb,rfl,hlsz,hlb⟩ := (hr 1 _ v1 rfl rfl).fn_inv hisb
 obtain ⟨hpb,c,T,hb,hcs,hrc⟩ := hH.ok b _ (.head _)
 have hblk : b < w.heap.size := (Array.getElem?_eq_some_iff.1 hb).1
 have hlen : ∀ (zs : List α),∀ x ∈ zs.map dv,x.length = k := fun zs x hx=>by
  obtain ⟨y,_,rfl⟩ := List.mem_map.1 hx
  exact hk y
 have hfl : ∀ zs : List α,((zs.map dv).flatten).length = zs.length * k := fun zs=>by
  have := flat_len (sz := k) (hlen zs)
  rwa [List.length_map] at this
 have hcsz : c.size = n * k + rest.length := by rw [hcs,List.length_append,hfl,hn]
 have hcell : ∀ j,j < xs.length * k → c[j]? = some (flatK (encV dv) k xs.toArray)[j]! := fun j hj=>by
  obtain ⟨d,h1,h2,h3⟩ := flat_at hk0 hk hj rest
  obtain ⟨u,e1,e2,e3⟩ := hrc j d h1
  have hl := hlit _ d h2
  have e4 : RepV K w d.view1 u := e3.rep
  have hv : d.view1 = d := by have := hl.1; cases d <;> first | rfl | (simp [litB] at this)
  rw [hv] at e4
  rw [e1,h3,← litV_inv hl.1 e4]
 have hHo : HoldsK (encV dv) k w b 0 xs.toArray := fun j hj=>by
  have hj' : j < xs.length * k := by simpa using hj
  refine ⟨?_,by simp [World.frozen?,hb]⟩
  rw [Nat.zero_add,cell_at hb,hcell j hj']
  rfl
 have eg : ∀ args W,(callFunc g args).run P W = .ok (.enter g args) W := fun args W=>by
  unfold callOk at hg
  split at hg
  ·rename_i fn hfn
   simp only [Bool.and_eq_true,Bool.not_eq_true'] at hg
   have hbb : fn.body.isNone = false := by cases hbb : fn.body <;> simp_all
   simp only [callFunc,Sem.run_bind,run_program,Result.andThen_ok,hfn,hg.2,hbb,Bool.false_eq_true,if_false]
   rfl
  ·cases hg
 have hcapE : ∀ l : List D,capA l caps = l ++ caps := fun l=>by
  unfold capA
  split
  ·cases hisb
  ·rfl
 have world := sortW (dv := dv) (k := k) hb
 have hcl : CmpLays P g lb (encV dv) k cf b 0 xs.toArray.size w := fun m os dk hdk x y=>by
  obtain ⟨w1,w2,w3,w4,w5,w6,w7⟩ := world m os dk
  have hext : ExtV K w (outK K) (sortWorldK (encV dv) k w b 0 m dk os) := by
   refine ⟨w1,w2,⟨w3,w4⟩,w5,fun b' hlt hi=>⟨by simp [outK,hi],w6 b' hlt (fun e=>by subst e; rw [hpb] at hi; cases hi)⟩,fun b' q o hb' _=>?_,fun b' hb'=>.inr ?_⟩
   ·have hlt := hK.lt_of (b := b') (by rw [hb']; simp)
    exact ⟨q,.outer,by simp [outK,hb'],Nat.le_refl _,fun j _=>cell_of_block (w6 b' hlt (fun e=>by subst e; rw [hpb] at hb'; cases hb')) j⟩
   ·exact Nat.lt_of_lt_of_le (hK.lt_of (b := b') (by rw [hb']; simp)) w5
  have hagg : ∀ z : α,RepV K w (.agg (dv z)) (.agg (encV dv z).toArray) := fun z=>by
   refine .agg _ _ (by simp [encV]) (fun j u hu=>?_) (fun j d u hd hu=>?_)
   all_goals
    simp only [encV,List.getElem?_toArray,List.getElem?_map] at hu
    obtain ⟨d',hd',rfl⟩ := Option.map_eq_some_iff.1 hu
   ·exact litV_one (hlit z d' (List.mem_of_getElem? hd')).1
   ·rw [hd] at hd'; cases hd'
    have := hlit z d (List.mem_of_getElem? hd)
    exact litV_rep this.1 this.2
  generalize sortWorldK (encV dv) k w b 0 m dk os = W at w1 w2 w3 w4 w5 w6 w7 hext ⊢
  refine Calls.mono (ACall.pure (hcmp x y) hK w5 hext ?_ (fun j d v hj hv=>?_)) ?_
  ·rw [hcapE]; simp [hlsz]; omega
  ·rw [hcapE] at hj
   match j with
   | 0 =>
    rw [Array.getElem?_append_left (by simp)] at hv
    simp only [List.cons_append,List.getElem?_cons_zero,Option.some.injEq,List.getElem?_toArray] at hj hv
    subst hj hv
    exact hagg x
   | 1 =>
    rw [Array.getElem?_append_left (by simp)] at hv
    simp only [List.cons_append,List.getElem?_cons_succ,List.getElem?_cons_zero,Option.some.injEq,List.getElem?_toArray] at hj hv
    subst hj hv
    exact hagg y
   | j + 2 =>
    have hj' : caps[j]? = some d := by simpa using hj
    rw [Array.getElem?_append_right (by simp)] at hv
    exact hlb j d v hj' (by simpa using hv)
  ·rintro e w' ⟨v,d,H',K',rfl,rfl,hg',hro⟩
   exact ⟨by rw [(show RepV K' w' (.int .i64 (cf x y)) v from hro).int_inv.1],hg'⟩
 obtain ⟨ha1,ha2⟩ := tyI_spec hty
 have hcon := AnyQ.slices_SortFunc L k ha1 ha2 (encV dv) (fun x=>by simp [encV,hk]) (fun x v hv=>by
  obtain ⟨d,hd,rfl⟩ := List.mem_map.1 hv
  exact litV_one (hlit x d hd).1) cf hO g lb b 0 cap xs.toArray w eg hcl hHo hblk (by simpa [hn] using hbig)
 have hsz0 : xs.toArray.size = n := by simpa using hn
 rw [hsz0] at hcon
 refine hcon.mono ?_
 rintro e w' ⟨rfl,d',m,os,hperm,hsort,rfl⟩
 obtain ⟨w1,w2,w3,w4,w5,w6,w7⟩ := world m os d'
 generalize sortWorldK (encV dv) k w b 0 m d' os = W at w1 w2 w3 w4 w5 w6 w7
 have hd'sz : d'.size = n := hperm.1.trans hsz0
 have hkeep : Keep noE (fun x=>x = b) K w K W := by
  have lt : ∀ {b' : Nat},K b' ≠ .imm → b' < w.heap.size := fun h=>hK.lt_of h
  refine ⟨⟨w1,w2,⟨w3,w4⟩,w5,fun b' hlt hi=>⟨hi,w6 b' hlt (fun e=>by subst e; rw [hpb] at hi; cases hi)⟩,fun b' q o hb' _=>⟨q,o,hb',Nat.le_refl _,fun j _=>cell_of_block (w6 b' (lt (by rw [hb']; simp)) (fun e=>by subst e; rw [hpb] at hb'; cases hb')) j⟩,fun b' hb'=>.inl hb'⟩,
   fun b' q o hb' _=>⟨hb',w6 b' (lt (by rw [hb']; simp)) (fun e=>by subst e; rw [hpb] at hb'; cases hb')⟩,fun b' q h=>h,fun b' hb' hne=>⟨hb',w6 b' (lt (by rw [hb']; simp)) hne⟩⟩
 have hys : (d'.toList).Perm xs := by
  have := hperm.2.2
  rw [← hd'sz] at this
  have e1 : d'.extract 0 d'.size = d' := by simp
  have e2 : xs.toArray.extract 0 d'.size = xs.toArray := by
   rw [hd'sz,← hsz0]; simp
  rw [e1,e2] at this
  simpa using this
 have hpw : (d'.toList).Pairwise (fun x y=>ltOf cf y x = false) := by
  rw [List.pairwise_iff_getElem]
  intro i j hi hj hij
  have := hsort i j (Nat.zero_le _) hij (by rw [← hd'sz]; simpa using hj)
  rw [getElem!_pos d' j (by simpa using hj),getElem!_pos d' i (by simpa using hi)] at this
  simpa using this
 refine ⟨_,_,_,K,rfl,hR d'.toList hys hpw,hkeep.fk (fun h=>h),fun b' hb'=>hK b' (Nat.le_trans w5 hb'),⟨hH.nd,fun b' o' hm=>?_⟩,RepV.viewO (.tup [] #[] rfl (fun j d u hd=>by simp at hd))⟩
 have hnd := hH.nd
 simp only [List.map_cons,List.nodup_cons] at hnd
 rcases List.mem_cons.1 hm with h | h
 ·injection h with h1 h2
  subst h1 h2
  have hFs : (flatK (encV dv) k d').size = n * k := by rw [size_flatK,hd'sz]
  refine ⟨hpb,_,T,w7,?_,fun j d hd=>?_⟩
  ·rw [List.length_append,hfl,Array.length_toList,hd'sz]
   simp [putCells,hcsz]
  ·rw [putCells_get _ _ _ (by rw [hFs,hcsz]; omega),hFs]
   by_cases hj : j < n * k
   ·rw [if_pos hj]
    obtain ⟨d2,h1,h2,h3⟩ := flat_at (xs := d'.toList) hk0 hk (by rw [Array.length_toList,hd'sz]; exact hj) rest
    rw [hd] at h1
    cases h1
    have hl := hlit _ d h2
    have e3 : (flatK (encV dv) k d')[j]! = litV d := by simpa using h3
    refine ⟨_,rfl,by rw [e3]; exact litV_one hl.1,?_⟩
    rw [e3]
    have hrv : RepV K W d (litV d) := litV_rep hl.1 hl.2
    exact hrv.repC (fun xs e=>by rw [e] at hrv; exact hrv.not_own)
   ·rw [if_neg hj]
    rw [List.getElem?_append_right (by rw [hfl,Array.length_toList,hd'sz]; omega),hfl,Array.length_toList,hd'sz] at hd
    obtain ⟨u,e1,e2,e3⟩ := hrc j d (by rw [List.getElem?_append_right (by rw [hfl,hn]; omega),hfl,hn]; exact hd)
    exact ⟨u,e1,e2,e3.keep hkeep (fun h=>h)⟩
 ·have hne : b' ≠ b := fun e=>by subst e; exact hnd.1 (List.mem_map.2 ⟨_,h,rfl⟩)
  exact AO.keep hkeep hne (fun _ h=>h) (hH.ok b' o' (.tail _ h))
end
end Go.Aw
end
section
namespace Go.Proofs
open Go.Shelf
def Try.sortID_ren : Go.Shelf.Ren := ⟨fun | 6=>34 | 15=>52 | 14=>51 | 28=>65 | 29=>66 | 20=>57 | 21=>58 | 22=>59 | 23=>60 | 24=>61 | 25=>62 | 26=>63 | 27=>64 | 46=>77 | 47=>78 | 48=>79 | 49=>80 | 50=>81 | 57=>86 | n=>n,fun | 22=>38 | 24=>34 | 25=>80 | 3=>3 | 39=>105 | 0=>0 | 53=>123 | 55=>125 | 4=>4 | 46=>116 | 45=>115 | 50=>120 | 5=>5 | 9=>9 | 66=>141 | 70=>145 | 76=>151 | 77=>152 | n=>n,fun | n=>n⟩
theorem Try.sortID : Go.Proofs.SlLaysF0.n6 Try.prog Try.sortID_ren := {
 mixed := by kernel_rfl
 f6 := ⟨Try.f34.name,by decide,Try.func34.trans (congrArg some (by kernel_rfl))⟩
 f14 := ⟨Try.f51.name,by decide,Try.func51.trans (congrArg some (by kernel_rfl))⟩
 f15 := Try.func52.trans (congrArg some (by kernel_rfl))
 f20 := ⟨Try.f57.name,by decide,Try.func57.trans (congrArg some (by kernel_rfl))⟩
 f21 := ⟨Try.f58.name,by decide,Try.func58.trans (congrArg some (by kernel_rfl))⟩
 f22 := ⟨Try.f59.name,by decide,Try.func59.trans (congrArg some (by kernel_rfl))⟩
 f23 := ⟨Try.f60.name,by decide,Try.func60.trans (congrArg some (by kernel_rfl))⟩
 f24 := ⟨Try.f61.name,by decide,Try.func61.trans (congrArg some (by kernel_rfl))⟩
 f25 := ⟨Try.f62.name,by decide,Try.func62.trans (congrArg some (by kernel_rfl))⟩
 f26 := ⟨Try.f63.name,by decide,Try.func63.trans (congrArg some (by kernel_rfl))⟩
 f27 := ⟨Try.f64.name,by decide,Try.func64.trans (congrArg some (by kernel_rfl))⟩
 f28 := Try.func65.trans (congrArg some (by kernel_rfl))
 f29 := Try.func66.trans (congrArg some (by kernel_rfl))
 f46 := ⟨Try.f77.name,by decide,Try.func77.trans (congrArg some (by kernel_rfl))⟩
 f47 := Try.func78.trans (congrArg some (by kernel_rfl))
 f48 := Try.func79.trans (congrArg some (by kernel_rfl))
 f49 := ⟨Try.f80.name,by decide,Try.func80.trans (congrArg some (by kernel_rfl))⟩
 f50 := ⟨Try.f81.name,by decide,Try.func81.trans (congrArg some (by kernel_rfl))⟩
 f57 := ⟨Try.f86.name,by decide,Try.func86.trans (congrArg some (by kernel_rfl))⟩
 t0 := Try.underlying0
 a0 := Try.isAgg0
 z0 := Try.sizeOf0
 v0 := Try.zeroValue0
 t3 := Try.underlying3
 a3 := Try.isAgg3
 z3 := Try.sizeOf3
 v3 := Try.zeroValue3
 t4 := Try.underlying4
 a4 := Try.isAgg4
 z4 := Try.sizeOf4
 v4 := Try.zeroValue4
 t5 := Try.underlying5
 a5 := Try.isAgg5
 z5 := Try.sizeOf5
 v5 := Try.zeroValue5
 t9 := Try.underlying9
 a9 := Try.isAgg9
 z9 := Try.sizeOf9
 v9 := Try.zeroValue9
 t22 := Try.underlying38
 a22 := Try.isAgg38
 z22 := Try.sizeOf38
 v22 := Try.zeroValue38
 t25 := Try.underlying80
 a25 := Try.isAgg80
 z25 := Try.sizeOf80
 v25 := Try.zeroValue80
 t39 := Try.underlying105
 a39 := Try.isAgg105
 z39 := Try.sizeOf105
 v39 := Try.zeroValue105
 t45 := Try.underlying115
 a45 := Try.isAgg115
 z45 := Try.sizeOf115
 v45 := Try.zeroValue115
 t46 := Try.underlying116
 a46 := Try.isAgg116
 z46 := Try.sizeOf116
 v46 := Try.zeroValue116
 t50 := Try.underlying120
 a50 := Try.isAgg120
 z50 := Try.sizeOf120
 v50 := Try.zeroValue120
 t53 := Try.underlying123
 a53 := Try.isAgg123
 z53 := Try.sizeOf123
 v53 := Try.zeroValue123
 t55 := Try.underlying125
 a55 := Try.isAgg125
 z55 := Try.sizeOf125
 v55 := Try.zeroValue125
 t66 := Try.underlying141
 a66 := Try.isAgg141
 z66 := Try.sizeOf141
 v66 := Try.zeroValue141
 t70 := Try.underlying145
 a70 := Try.isAgg145
 z70 := Try.sizeOf145
 v70 := Try.zeroValue145
 t76 := Try.underlying151
 a76 := Try.isAgg151
 z76 := Try.sizeOf151
 v76 := Try.zeroValue151
 t77 := Try.underlying152
 a77 := Try.isAgg152
 z77 := Try.sizeOf152
 v77 := Try.zeroValue152 }
end Go.Proofs
end
section
namespace Go.Proofs.Ytffbjejmobhpkaa
open Go Go.Aw Go.Sort
theorem oki_of {x : Id3} (h : -9223372036854775808 ≤ x.o ∧ x.o ≤ 9223372036854775807 ∧ -9223372036854775808 ≤ x.s ∧ x.s ≤ 9223372036854775807 ∧ -9223372036854775808 ≤ x.i ∧ x.i ≤ 9223372036854775807) : OkI x := by
 simp only [OkI,inR_i64]; omega
theorem oki0 : OkI id0 := oki_of (by simp [id0])
instance : Inhabited {x : Id3 // OkI x} := ⟨⟨id0,oki0⟩⟩
theorem f_sort {cf : Id3 → Id3 → Int} (hO : SWO (ltOf cf)) {g : FuncId} {caps : List D} (hisb : isB caps = false) (hg : callOk Try.prog g = true)
  (hcmp : ∀ x y,OkI x → OkI y → ACall Try.prog g (capA [.agg x.d,.agg y.d] caps) [] fun d _=>d = .int .i64 (cf x y))
  {b n : Nat} {l : List Id3} {rest : List D} {H : AH} (hn : l.length = n) (hok : ∀ x ∈ l,OkI x) (hbig : n < 4611686018427387904) {R : D → AH → Prop}
  (hR : ∀ m : List Id3,m.Perm l → m.Pairwise (fun x y=>¬ cf y x < 0) → R (.tup []) ((b,.cells ((mapD Id3.d m).flatten ++ rest)) :: H)) :
  ACall Try.prog 34 [.hsl b n,.fn g caps] ((b,.cells ((mapD Id3.d l).flatten ++ rest)) :: H) R := by
 obtain ⟨l',rfl⟩ := lift_ok hok
 have e1 : ∀ q : List {x : Id3 // OkI x},mapD Id3.d (q.map (·.1)) = q.map fun x=>x.1.d := fun q=>by simp [mapD]
 rw [e1]
 have hO' : SWO (ltOf fun x y : {x : Id3 // OkI x}=>cf x.1 y.1) := ⟨fun x=>hO.irrefl x.1,fun x y z=>hO.trans x.1 y.1 z.1,fun x y z=>hO.ntrans x.1 y.1 z.1⟩
 have h := ACall.sort (P := Try.prog) (ρ := Go.Proofs.Try.sortID_ren) (k := 3) (dv := fun x : {x : Id3 // OkI x}=>x.1.d) Go.Proofs.Try.sortID (by decide) ty_tyI_34 (by kernel_rfl) (fun _=>rfl) (fun x d hd=>by
  obtain ⟨x,h1,h2,h3⟩ := x
  simp only [Id3.d,List.mem_cons,List.not_mem_nil,or_false] at hd
  rcases hd with rfl | rfl | rfl
  ·exact ⟨rfl,h1⟩
  ·exact ⟨rfl,h2⟩
  ·exact ⟨rfl,h3⟩) hO' (g := g) (caps := caps) hisb hg (fun x y=>hcmp x.1 y.1 x.2 y.2) (b := b) (n := n) (xs := l') (rest := rest) (H := H) (by simpa using hn) hbig (R := R) (fun ys hp hs=>by
  rw [← e1]
  refine hR _ (hp.map _) ?_
  rw [List.pairwise_map]
  refine hs.imp fun {x y} hxy=>?_
  simpa [ltOf] using hxy)
 exact h
end Go.Proofs.Ytffbjejmobhpkaa
end
