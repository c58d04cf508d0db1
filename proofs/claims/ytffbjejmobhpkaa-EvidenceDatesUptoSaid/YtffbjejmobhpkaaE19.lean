/- A part of the proof of what the last text says: Ew6, Ew7, Ew8, Ep2, Er8. Conditions: those in each theorem. -/
import Derived.Test.YtffbjejmobhpkaaE18
import Derived.Shelf.SlSortCmp.NoneTotal
set_option linter.unusedVariables false
set_option linter.unusedSimpArgs false
set_option maxRecDepth 100000
set_option maxHeartbeats 16000000
open Nat renaming reduceSub → qa,reduceAdd → qb,reduceMul → qc,reduceEqDiff → qd,reduceLeDiff → qe,reduceBEq → qf
section
namespace Go.Proofs.Ytffbjejmobhpkaa
open Go Go.Aw
def row (l : List Id3) (rest : List D) : List D := (mapD Id3.d l).flatten ++ rest
theorem row_cons {x : Id3} {l : List Id3} {rest : List D} : row (x :: l) rest = .int .i64 x.o :: .int .i64 x.s :: .int .i64 x.i :: row l rest := rfl
theorem row_len {rest : List D} : ∀ {l : List Id3},(row l rest).length = l.length * 3 + rest.length
 | []=>by simp [row,mapD]
 | x :: l=>by
  rw [row_cons]
  simp only [List.length_cons,row_len (l := l)]
  omega
theorem row_get {rest : List D} : ∀ {l : List Id3} {i : Nat},i < l.length → ((row l rest).drop (i * 3)).take 3 = (l.getD i default).d
 | x :: l,0,_=>rfl
 | x :: l,i + 1,h=>by
  rw [row_cons,show (i + 1) * 3 = i * 3 + 3 by omega]
  simp only [List.drop_succ_cons,List.drop_zero]
  rw [row_get (l := l) (i := i) (by simp at h; omega)]
  rfl
theorem row_set {y : Id3} {rest : List D} : ∀ {l : List Id3} {i : Nat},i < l.length → (row l rest).take (i * 3) ++ (y.d ++ (row l rest).drop (i * 3 + 3)) = row (l.set i y) rest
 | x :: l,0,_=>rfl
 | x :: l,i + 1,h=>by
  rw [row_cons,show (i + 1) * 3 = i * 3 + 3 by omega,show i * 3 + 3 + 3 = (i * 3 + 3) + 3 by omega]
  simp only [List.drop_succ_cons,List.take_succ_cons,List.cons_append,List.set_cons_succ,row_cons]
  rw [row_set (l := l) (i := i) (by simp at h; omega)]
theorem row_clear {rest : List D} : ∀ {l : List Id3} {i : Nat},i ≤ l.length → (row l rest).take (i * 3) ++ ((List.replicate (l.length - i) [D.int .i64 0,D.int .i64 0,D.int .i64 0]).flatten ++ (row l rest).drop (i * 3 + (l.length - i) * 3)) = row (l.take i ++ List.replicate (l.length - i) id0) rest
 | [],0,_=>by simp [row,mapD]
 | x :: l,0,_=>by
  have := row_clear (rest := rest) (l := l) (i := 0) (by omega)
  simp only [Nat.zero_mul,List.take_zero,Nat.sub_zero,List.nil_append,Nat.zero_add] at this
  simp only [Nat.zero_mul,List.take_zero,Nat.sub_zero,List.nil_append,Nat.zero_add,List.length_cons,List.replicate_succ,List.flatten_cons,List.cons_append,row_cons,show (l.length + 1) * 3 = l.length * 3 + 3 by omega,List.drop_succ_cons]
  rw [this]
  rfl
 | x :: l,i + 1,h=>by
  have := row_clear (rest := rest) (l := l) (i := i) (by simp at h; omega)
  simp only [List.length_cons,show l.length + 1 - (i + 1) = l.length - i by omega,show (i + 1) * 3 = i * 3 + 3 by omega,show i * 3 + 3 + (l.length - i) * 3 = i * 3 + (l.length - i) * 3 + 3 by omega,row_cons,List.take_succ_cons,List.drop_succ_cons,List.cons_append]
  rw [this]
theorem f_compact0 {l : List Id3} {H : AH} {R : D → AH → Prop} (hl : l.length < 2) (h : R (.slc (mapD Id3.d l)) H) : ACall Try.prog 36 [.slc (mapD Id3.d l)] H R := by
 refine b36 fun hf=>?_
 have hbig := big_eq
 have h2 : ((l.length : Int) < 2) = True := eq_true (by omega)
 simp +contextual only [x36,mapD_len,h2,↓U36,↓XP,↓XU,XW0,XW1,qa,qb,qc,qd,qe,qf,reduceCtorEq,TYX]
 intros
 refine gh_intro Fz.refl ?_
 simp +contextual only [x36,mapD_len,↓U36,↓XP,↓XU,XW0,XW1,qa,qb,qc,qd,qe,qf,reduceCtorEq,TYX]
 exact h
theorem fz_row {s b n : Nat} {m : List Id3} {rest : List D} {F : List D} {H : AH} (hF : F.getD s .any = .hsl b n) (hn : m.length = n) : Fz F ((b,.cells (row m rest)) :: H) (F.set s (.slc (mapD Id3.d m))) H := by
 have h := Fz.freeze (F := F) (H := (b,.cells (row m rest)) :: H) (sz := 3) (xs := mapD Id3.d m) (rest := rest) hF (cs := row m rest) (by simp [getH]) rfl (by rw [mapD_len]; exact hn) (mapD_sz fun _=>rfl) (by omega) (fun x hx d hd=>by
  obtain ⟨t,_,rfl⟩ := List.mem_map.1 hx
  simp only [Id3.d,List.mem_cons,List.not_mem_nil,or_false] at hd
  rcases hd with rfl | rfl | rfl <;> rfl)
 rwa [e_hit] at h
theorem back_more {n : Nat} {H : AH} (h : H.length ≤ n) : back n H = H := by
 unfold back
 rw [show H.length - n = 0 by omega]
 rfl
theorem row_get2 {rest : List D} {l : List Id3} {i j : Nat} (h : i + j < l.length) : ((row l rest).drop (i * 3 + j * 3)).take 3 = (l.getD (i + j) default).d := by
 rw [← Nat.add_mul,row_get h]
theorem getD_of_drop {l m : List Id3} {i j : Nat} (h : m.drop i = l.drop i) (hij : i ≤ j) : m.getD j default = l.getD j default := by
 have e : ∀ q : List Id3,q.getD j default = (q.drop i).getD (j - i) default := fun q=>by
  simp only [List.getD_eq_getElem?_getD,List.getElem?_drop,show i + (j - i) = j by omega]
 rw [e m,e l,h]
theorem f_compact {l : List Id3} {b n : Nat} {rest : List D} {H : AH} {R : D → AH → Prop} (hn : l.length = n) (h0 : 0 < n) (hb : n ≤ 1073741824) (h : R (.slc (mapD Id3.d (dd l))) H) : ACall Try.prog 36 [.hsl b n] ((b,.cells (row l rest)) :: H) R := by
 refine b36 fun hf=>?_
 have hbig := big_eq
 have hk : ∀ q,dd l = q → R (.slc (mapD Id3.d q)) H := fun q hq=>hq ▸ h
 by_cases h2 : n < 2
 ·have h2' : ((n : Int) < 2) = True := eq_true (by omega)
  simp +contextual only [x36,h2',↓U36,↓XP,↓XU,XW0,XW1,qa,qb,qc,qd,qe,qf,reduceCtorEq,TYX]
  refine gh_intro (fz_row (s := 0) rfl hn) ?_
  simp +contextual only [x36,↓U36,↓XP,↓XU,XW0,XW1,qa,qb,qc,qd,qe,qf,reduceCtorEq,TYX]
  rw [back_more (by omega)]
  refine hk _ ?_
  match l,hn with
  | [x],_=>rfl
  | [],hn=>simp at hn; omega
  | x :: y :: r,hn=>simp at hn; omega
 ·have h2' : ((n : Int) < 2) = False := eq_false (by omega)
  simp +contextual only [x36,h2',↓U36,↓XP,↓XU,XW0,XW1,qa,qb,qc,qd,qe,qf,reduceCtorEq,TYX]
  have hd0 : l.take 1 ++ dd.go (l.getD 0 default) (l.drop 1) = dd l := by
   cases l with
   | nil=>simp at hn; omega
   | cons x r=>rfl
  refine XW.loopS Go.Proofs.Ytffbjejmobhpkaa.hm 61 (fun j : Nat=>[(0,.hsl b n),(3,.int .i64 ((j + 1 : Nat) : Int))]) (fun j=>(b,AO.cells (row l rest)) :: H) (fun j=>n - j) (fun j=>j + 1 ≤ n ∧ l.take (j + 1) ++ dd.go (l.getD j default) (l.drop (j + 1)) = dd l) 0 ⟨by omega,hd0⟩ ⟨rfl,rfl,rfl,trivial⟩ rfl ?_
  rintro j z ⟨hj,hd⟩ K hN hE hR
  show xcode _ _ [.hsl b n,z 1,z 2,.int .i64 ((j + 1 : Nat) : Int),z 4,z 5,z 6,z 7,z 8,z 9,z 10,z 11,z 12,z 13,z 14,z 15,z 16,z 17,z 18,z 19,z 20,z 21,z 22,z 23,z 24,z 25,z 26,z 27,z 28,z 29,z 30,z 31,z 32,z 33,z 34,z 35,z 36,z 37,z 38,z 39,z 40,z 41,z 42,z 43,z 44,z 45,z 46,z 47,z 48,z 49,z 50,z 51,z 52,z 53,z 54,z 55,z 56,z 57,z 58,z 59,z 60] _ K
  by_cases hlt : j + 1 < n
  ·have hlt' : (((j + 1 : Nat) : Int) < (n : Int)) = True := eq_true (by omega)
   have g1 := row_get (rest := rest) (l := l) (i := j + 1) (by omega)
   have g2 := row_get (rest := rest) (l := l) (i := j) (by omega)
   have hw : IntKind.i64.wrap (((j + 1 : Nat) : Int) - 1) = (j : Int) := by rw [wrap_id (by omega) (by omega)]; omega
   have hdr := drop_cons (l := l) (i := j + 1) (by omega)
   have htk := take_succ (l := l) (i := j + 1) (by omega)
   have hlen := row_len (l := l) (rest := rest)
   have hdr0 := hdr
   rw [hdr] at hd
   generalize hy : l.getD (j + 1) default = y at g1 hd htk hdr0
   generalize hx : l.getD j default = x at g2 hd
   have hyd : y.d = [.int .i64 y.o,.int .i64 y.s,.int .i64 y.i] := rfl
   have hxd : x.d = [.int .i64 x.o,.int .i64 x.s,.int .i64 x.i] := rfl
   have hid := id_dec (x := y) (y := x)
   rw [show dd.go x (y :: l.drop (j + 1 + 1)) = if y = x then dd.go x (l.drop (j + 1 + 1)) else y :: dd.go y (l.drop (j + 1 + 1)) from rfl] at hd
   by_cases hyx : y = x
   ·rw [if_pos hyx] at hd
    simp +contextual only [x36,hlt',hw,Int.toNat_natCast,g1,g2,hyd,hxd,hid,eq_true hyx,↓U36,↓XP,↓XU,XW0,XW1,qa,qb,qc,qd,qe,qf,reduceCtorEq,TYX]
    refine ⟨by omega,by omega,by omega,by omega,by omega,?_⟩
    have hst : l.take (j + 1) ++ dd.go (l.getD (j + 1) default) (l.drop (j + 1 + 1)) = dd l := by rw [hy,hyx]; exact hd
    refine XW.loopS Go.Proofs.Ytffbjejmobhpkaa.hm 61 (fun s : Nat × Nat × List Id3=>[(0,.hsl b n),(3,.int .i64 ((s.2.1 : Nat) : Int)),(4,.hso b ((j + 1) * 3) (n - (j + 1))),(5,.int .i64 ((s.1 + 1 : Nat) : Int))]) (fun s=>(b,AO.cells (row s.2.2 rest)) :: H) (fun s=>n - s.1) (fun s=>s.2.2.length = n ∧ j + 1 + (s.1 + 1) ≤ n ∧ j + 1 ≤ s.2.1 ∧ s.2.1 ≤ j + 1 + s.1 ∧ s.2.2.take s.2.1 ++ dd.go (l.getD (j + 1 + s.1) default) (l.drop (j + 1 + s.1 + 1)) = dd l ∧ s.2.2.drop (j + 1 + s.1) = l.drop (j + 1 + s.1)) (0,j + 1,l) ⟨hn,by dsimp only; omega,by dsimp only; omega,by dsimp only; omega,hst,rfl⟩ ⟨rfl,rfl,rfl,rfl,rfl,trivial⟩ rfl ?_
    clear hN hst hd g1 g2 hdr hdr0 htk
    rintro ⟨q,k,m⟩ z2 ⟨hm,hq,hk1,hk2,hd,hdm⟩ K2 hN hE2 hR2
    dsimp only at hm hq hk1 hk2 hd hdm hN
    show xcode _ _ ((List.range 61).map (frm [(0,.hsl b n),(3,.int .i64 ((k : Nat) : Int)),(4,.hso b ((j + 1) * 3) (n - (j + 1))),(5,.int .i64 ((q + 1 : Nat) : Int))] z2)) ((b,AO.cells (row m rest)) :: H) _
    generalize hz : z2 = z
    show xcode _ _ [.hsl b n,z 1,z 2,.int .i64 ((k : Nat) : Int),.hso b ((j + 1) * 3) (n - (j + 1)),.int .i64 ((q + 1 : Nat) : Int),z 6,z 7,z 8,z 9,z 10,z 11,z 12,z 13,z 14,z 15,z 16,z 17,z 18,z 19,z 20,z 21,z 22,z 23,z 24,z 25,z 26,z 27,z 28,z 29,z 30,z 31,z 32,z 33,z 34,z 35,z 36,z 37,z 38,z 39,z 40,z 41,z 42,z 43,z 44,z 45,z 46,z 47,z 48,z 49,z 50,z 51,z 52,z 53,z 54,z 55,z 56,z 57,z 58,z 59,z 60] _ K2
    have hlen := row_len (l := m) (rest := rest)
    by_cases hlt2 : j + 1 + (q + 1) < n
    ·have hlt2' : (((q + 1 : Nat) : Int) < ((n - (j + 1) : Nat) : Int)) = True := eq_true (by omega)
     have g1 := row_get2 (rest := rest) (l := m) (i := j + 1) (j := q + 1) (by omega)
     have g2 := row_get2 (rest := rest) (l := m) (i := j + 1) (j := q) (by omega)
     have g3 : ((row m rest).drop ((j + 1) * 3 + (q + 1) * 3)).take 3 = (m.getD (j + 1 + (q + 1)) default).d := g1
     rw [getD_of_drop hdm (by omega)] at g1 g2
     have hw2 : IntKind.i64.wrap (((q + 1 : Nat) : Int) - 1) = (q : Int) := by rw [wrap_id (by omega) (by omega)]; omega
     have hdr := drop_cons (l := l) (i := j + 1 + q + 1) (by omega)
     rw [hdr] at hd
     have hdm2 : m.drop (j + 1 + (q + 1)) = l.drop (j + 1 + (q + 1)) := by
      have := congrArg (List.drop 1) hdm
      rw [List.drop_drop,List.drop_drop] at this
      exact this
     rw [show j + 1 + (q + 1) = j + 1 + q + 1 by omega] at g1
     generalize hy2 : l.getD (j + 1 + q + 1) default = y2 at g1 hd
     generalize l.getD (j + 1 + q) default = x2 at g2 hd
     have hyd2 : y2.d = [.int .i64 y2.o,.int .i64 y2.s,.int .i64 y2.i] := rfl
     have hxd2 : x2.d = [.int .i64 x2.o,.int .i64 x2.s,.int .i64 x2.i] := rfl
     have hid2 := id_dec (x := y2) (y := x2)
     rw [show dd.go x2 (y2 :: l.drop (j + 1 + q + 1 + 1)) = if y2 = x2 then dd.go x2 (l.drop (j + 1 + q + 1 + 1)) else y2 :: dd.go y2 (l.drop (j + 1 + q + 1 + 1)) from rfl] at hd
     by_cases hyx2 : y2 = x2
     ·rw [if_pos hyx2] at hd
      simp +contextual only [x36,hlt2',hw2,Int.toNat_natCast,g1,g2,hyd2,hxd2,hid2,eq_true hyx2,wrap_succ (show q + 1 ≤ big by omega),↓U36,↓XP,↓XU,XW0,XW1,qa,qb,qc,qd,qe,qf,reduceCtorEq,TYX]
      repeat' (first | apply And.intro | intro _)
      all_goals first
       | omega
       | skip
      refine hN (q + 1,k,m) _ _ ⟨hm,by dsimp only; omega,hk1,by dsimp only; omega,?_,hdm2⟩ (by dsimp only; omega) ⟨rfl,rfl,rfl,rfl,rfl,trivial⟩ (back_0 rfl)
      have hd' : m.take k ++ dd.go (l.getD (j + 1 + q + 1) default) (l.drop (j + 1 + q + 1 + 1)) = dd l := by rw [hy2,hyx2]; exact hd
      exact hd'
     ·rw [if_neg hyx2] at hd
      have hrs : (row m rest).take (k * 3) ++ .int .i64 y2.o :: .int .i64 y2.s :: .int .i64 y2.i :: (row m rest).drop (k * 3 + 3) = row (m.set k y2) rest := row_set (rest := rest) (l := m) (i := k) (y := y2) (by omega)
      simp +contextual only [x36,hlt2',hw2,Int.toNat_natCast,g1,g2,hyd2,hxd2,hid2,eq_false hyx2,hrs,wrap_succ (show q + 1 ≤ big by omega),wrap_succ (show k ≤ big by omega),↓U36,↓XP,↓XU,XW0,XW1,qa,qb,qc,qd,qe,qf,reduceCtorEq,TYX]
      repeat' (first | apply And.intro | intro _)
      all_goals first
       | omega
       | skip
      have hd' : (m.set k y2).take (k + 1) ++ dd.go (l.getD (j + 1 + q + 1) default) (l.drop (j + 1 + q + 1 + 1)) = dd l := by
       rw [take_succ (by rw [List.length_set]; omega),List.take_set_of_le (by omega),hy2,List.append_assoc]
       have e : (m.set k y2).getD k default = y2 := by simp [show k < m.length by omega]
       rw [e]
       exact hd
      refine hN (q + 1,k + 1,m.set k y2) _ _ ⟨by dsimp only; rw [List.length_set]; exact hm,by dsimp only; omega,by dsimp only; omega,by dsimp only; omega,hd',?_⟩ (by dsimp only; omega) ⟨rfl,rfl,rfl,rfl,rfl,trivial⟩ (back_0 rfl)
      dsimp only
      rw [List.drop_set_of_lt (by omega)]
      exact hdm2
    ·have hqn : j + 1 + (q + 1) = n := by omega
     have hlt2' : (((q + 1 : Nat) : Int) < ((n - (j + 1) : Nat) : Int)) = False := eq_false (by omega)
     rw [show l.drop (j + 1 + q + 1) = [] from List.drop_of_length_le (by omega)] at hd
     rw [show dd.go (l.getD (j + 1 + q) default) [] = [] from rfl,List.append_nil] at hd
     have hcl := row_clear (rest := rest) (l := m) (i := k) (by omega)
     rw [hm] at hcl
     simp +contextual only [x36,hlt2',↓U36,↓XP,↓XU,XW0,XW1,qa,qb,qc,qd,qe,qf,reduceCtorEq,TYX]
     intros
     refine hE2 _ _ _ ?_
     simp +contextual only [x36,Int.toNat_natCast,hcl,↓U36,↓XP,↓XU,XW0,XW1,qa,qb,qc,qd,qe,qf,reduceCtorEq,TYX]
     refine ⟨by omega,by omega,by omega,gh_intro (fz_row (s := 0) rfl (by simp; omega)) ?_⟩
     have htk2 : (m.take k ++ List.replicate (n - k) id0).take k = m.take k := by
      rw [List.take_append_of_le_length (by simp; omega),List.take_take,Nat.min_self]
     simp +contextual only [x36,mapD_len,mapD_take,mapD_drop,Int.toNat_natCast,List.drop_zero,htk2,↓U36,↓XP,↓XU,XW0,XW1,qa,qb,qc,qd,qe,qf,reduceCtorEq,TYX]
     refine ⟨mapD_sz fun _=>rfl,by simp; omega,hR _ _ ?_⟩
     simp +contextual only [x36,↓U36,↓XP,↓XU,XW0,XW1,qa,qb,qc,qd,qe,qf,reduceCtorEq,TYX]
     rw [back_more (by omega)]
     exact hk _ hd.symm
   ·rw [if_neg hyx] at hd
    simp +contextual only [x36,hlt',hw,Int.toNat_natCast,g1,g2,hyd,hxd,hid,eq_false hyx,wrap_succ (show j + 1 ≤ big by omega),↓U36,↓XP,↓XU,XW0,XW1,qa,qb,qc,qd,qe,qf,reduceCtorEq,TYX]
    repeat' (first | apply And.intro | intro _)
    all_goals first
     | omega
     | skip
    refine hN (j + 1) _ _ ⟨by omega,?_⟩ (by omega) ⟨rfl,rfl,rfl,trivial⟩ (back_0 rfl)
    rw [htk,List.append_assoc,hy]
    exact hd
  ·have hjn : j + 1 = n := by omega
   have hlt' : (((j + 1 : Nat) : Int) < (n : Int)) = False := eq_false (by omega)
   simp +contextual only [x36,hlt',↓U36,↓XP,↓XU,XW0,XW1,qa,qb,qc,qd,qe,qf,reduceCtorEq,TYX]
   intros
   refine hE _ _ _ ?_
   simp +contextual only [x36,↓U36,↓XP,↓XU,XW0,XW1,qa,qb,qc,qd,qe,qf,reduceCtorEq,TYX]
   refine gh_intro (fz_row (s := 0) rfl hn) ?_
   simp +contextual only [x36,↓U36,↓XP,↓XU,XW0,XW1,qa,qb,qc,qd,qe,qf,reduceCtorEq,TYX]
   rw [back_more (by omega)]
   refine hk _ ?_
   rw [← hd,List.take_of_length_le (by omega),List.drop_of_length_le (by omega)]
   simp [dd.go]
end Go.Proofs.Ytffbjejmobhpkaa
end
section
namespace Go.Proofs.Ytffbjejmobhpkaa
open Go Go.Aw Go.Sort
theorem swo_ordI : SWO (ltOf ordI) := by
 have e : ∀ x y,ltOf ordI x y = decide (x.lt y) := fun x y=>by
  unfold ltOf
  exact decide_eq_decide.2 ordI_neg
 refine ⟨fun x=>?_,fun x y z h1 h2=>?_,fun x y z h1 h2=>?_⟩
 ·rw [e]; exact decide_eq_false lt_irr
 ·rw [e] at *; simp only [decide_eq_true_eq] at *; exact lt_trans h1 h2
 ·rw [e] at *
  simp only [decide_eq_false_iff_not] at *
  intro h3
  rcases lt_tri (a := x) (b := y) with h | h | h
  ·exact h1 h
  ·subst h; exact h2 h3
  ·exact h2 (lt_trans h h3)
theorem f_sort0 {g : FuncId} {caps : List D} (hisb : isB caps = false) {H : AH} {R : D → AH → Prop} (h : R (.tup []) H) : ACall Try.prog 34 [.slc [],.fn g caps] H R := by
 refine ⟨by kernel_rfl,fun K w vs hK hns hH hl hr=>?_⟩
 match vs,hl with
 | ⟨[v0,v1]⟩,_ =>
  have h0 := hr 0 _ v0 rfl rfl
  have h1 := hr 1 _ v1 rfl rfl
  rcases h0.slc_inv with ⟨_,a,rfl⟩ | ⟨b,off,cap,sz,f,he,hc,_⟩
  ·refine (AnyF.slices_SortFunc_none Go.Proofs.Try.sortID a 0 v1 w).mono ?_
   rintro e w' ⟨rfl,rfl⟩
   exact ⟨_,_,H,K,rfl,h,.refl K w',hK,hH,RepV.viewO (.tup [] #[] rfl (fun j d u hd=>by simp at hd))⟩
  ·subst he
   refine (AnyF.slices_SortFunc_none Go.Proofs.Try.sortID (some ⟨b,off,none⟩) cap v1 w).mono ?_
   rintro e w' ⟨rfl,rfl⟩
   exact ⟨_,_,H,K,rfl,h,.refl K w',hK,hH,RepV.viewO (.tup [] #[] rfl (fun j d u hd=>by simp at hd))⟩
theorem f_sorted {l : List Id3} {H : AH} {R : D → AH → Prop} (hl : l.length ≤ 1073741824) (hok : ∀ x ∈ l,OkI x) (h : R (.slc (mapD Id3.d (srt l))) H) : ACall Try.prog 85 [.slc (mapD Id3.d l)] H R := by
 refine b85 fun hf=>?_
 have hbig := big_eq
 have hk : ∀ q,srt l = q → R (.slc (mapD Id3.d q)) H := fun q hq=>hq ▸ h
 simp +contextual only [x85,mapD_len,↓U85,↓XP,↓XU,XW0,XW1,qa,qb,qc,qd,qe,qf,reduceCtorEq,TYX]
 refine f_clone hl (fun e=>?_) (fun e b cap m hb=>?_)
 ·subst e
  simp +contextual only [x85,mapD_len,↓U85,↓XP,↓XU,XW0,XW1,qa,qb,qc,qd,qe,qf,reduceCtorEq,TYX]
  intros
  refine gh_intro Fz.refl ?_
  simp +contextual only [x85,mapD_len,↓U85,↓XP,↓XU,XW0,XW1,qa,qb,qc,qd,qe,qf,reduceCtorEq,TYX]
  refine f_sort0 rfl ?_
  simp +contextual only [x85,mapD_len,↓U85,↓XP,↓XU,XW0,XW1,qa,qb,qc,qd,qe,qf,reduceCtorEq,TYX]
  refine f_compact0 (l := []) (by simp) ?_
  simp +contextual only [x85,mapD_len,↓U85,↓XP,↓XU,XW0,XW1,qa,qb,qc,qd,qe,qf,reduceCtorEq,TYX]
  exact fun _=>hk _ rfl
 ·simp +contextual only [x85,mapD_len,↓U85,↓XP,↓XU,XW0,XW1,qa,qb,qc,qd,qe,qf,reduceCtorEq,TYX]
  intros
  refine gh_intro (Fz.hgs (s := 0) rfl) ?_
  simp +contextual only [x85,mapD_len,↓U85,↓XP,↓XU,XW0,XW1,qa,qb,qc,qd,qe,qf,reduceCtorEq,TYX]
  refine f_sort swo_ordI rfl (by kernel_rfl) (fun x y _ _=>f_iorder rfl) rfl hok (by omega) (fun m2 hp hs=>?_)
  simp +contextual only [x85,mapD_len,↓U85,↓XP,↓XU,XW0,XW1,qa,qb,qc,qd,qe,qf,reduceCtorEq,TYX]
  refine f_compact (l := m2) hp.length_eq (List.length_pos_iff.2 e) (by omega) ?_
  simp +contextual only [x85,mapD_len,↓U85,↓XP,↓XU,XW0,XW1,qa,qb,qc,qd,qe,qf,reduceCtorEq,TYX]
  intros
  exact hk _ (dd_srt hp (hs.imp fun {x y} hxy hlt=>hxy (ordI_neg.2 hlt))).symm
end Go.Proofs.Ytffbjejmobhpkaa
end
section
namespace Go.Proofs.Ytffbjejmobhpkaa
open Go Go.Aw
theorem idK : KeyOk Id3.d [.i,.i,.i] := ⟨fun a b=>by
 show (cellEq (.int .i64 a.o) (.int .i64 b.o) && (cellEq (.int .i64 a.s) (.int .i64 b.s) && (cellEq (.int .i64 a.i) (.int .i64 b.i) && true))) = _
 simp only [cellEq,decide_true,Bool.true_and,Bool.and_true]
 exact id_dec,fun _=>trivial,fun _ _=>⟨rfl,rfl,rfl,trivial⟩⟩
def spD (s : Sp) : D := .agg s.d
def mrg (d v : Sp) : Sp := ⟨if v.a < d.a then v.a else d.a,if v.b > d.b then v.b else d.b⟩
def datV (id : Id3) (out : List (Id3 × Sp)) (v : Vl) : List (Id3 × Sp) := if OkSpan v.sp then updP out id (mrg ((lookP out id).getD v.sp) v.sp) else out
def datS (st : List (Id3 × Sp) × List (Id3 × Bool)) (s : Sr) : List (Id3 × Sp) × List (Id3 × Bool) :=
 if (lookP st.2 s.id).getD false = true then st else (s.date.foldl (datV s.id) st.1,updP st.2 s.id true)
def datesP (l : List Sr) : List (Id3 × Sp) := (l.foldl datS ([],[])).1
theorem foldl_take {α β : Type} [Inhabited α] {f : β → α → β} {b : β} {l : List α} {i : Nat} (h : i < l.length) : (l.take (i + 1)).foldl f b = f ((l.take i).foldl f b) (l.getD i default) := by
 rw [take_succ h,List.foldl_append]
 rfl
theorem keys_id {α : Type} {vd : α → D} {m : List (Id3 × α)} {x : Id3} : keysOk true [.i,.i,.i] (mapE Id3.d vd m) (.agg [.int .i64 x.o,.int .i64 x.s,.int .i64 x.i]) := keys_mapE (k := x) idK
theorem look_id {α : Type} {vd : α → D} {m : List (Id3 × α)} {x : Id3} : lookD (mapE Id3.d vd m) [.int .i64 x.o,.int .i64 x.s,.int .i64 x.i] = (lookP m x).map vd := look_mapE (k := x) idK
theorem upd_id {α : Type} {vd : α → D} {m : List (Id3 × α)} {x : Id3} {v : α} : updD (mapE Id3.d vd m) (.agg [.int .i64 x.o,.int .i64 x.s,.int .i64 x.i]) (vd v) = mapE Id3.d vd (updP m x v) := upd_mapE (k := x) idK
theorem opt_b {o : Option Bool} : optD false (.bool false) (Option.map D.bool o) = .bool (o.getD false) := by cases o <;> rfl
theorem f_dates {b : Bk} {H : AH} {R : D → AH → Prop} (h : R (.mpv (mapE Id3.d spD (datesP b.sr))) H) : ACall Try.prog 48 [.agg b.d] H R := by
 refine b48 fun hf=>?_
 have hbig := big_eq
 have hbd : b.d = [.slc (mapD En.d b.en),.slc (mapD Sn.d b.sn),.slc (mapD Sr.d b.sr),.slc (mapD Qt.d b.qt),.slc (mapD Spl.d b.sl),.slc (mapD Mg.d b.mg),.slc (mapD Ch.d b.ch)] := rfl
 simp +contextual only [x48,mapD_len,hbd,↓U48,↓XP,↓XU,XW0,XW1,qa,qb,qc,qd,qe,qf,reduceCtorEq,TYX]
 simp only [← hbd]
 rintro b1 h1 b3 ⟨n13,h3⟩ b4 ⟨n34,n14,h4⟩ hl
 refine XW.loopS Go.Proofs.Ytffbjejmobhpkaa.hm 68 (fun i : Nat=>[(1,.ptr b1 0),(3,.mp (some b3)),(4,.mp (some b4)),(14,.slc (mapD Sr.d b.sr)),(15,.int .i64 b.sr.length),(16,.int .i64 ((i : Nat) : Int))]) (fun i=>(fun st=>(b4,AO.mp (mapE Id3.d D.bool st.2)) :: (b3,AO.mp (mapE Id3.d spD st.1)) :: (b1,AO.cells b.d) :: H) ((b.sr.take i).foldl datS ([],[]))) (fun i=>b.sr.length - i) (fun i=>i ≤ b.sr.length) 0 (by omega) ⟨rfl,rfl,rfl,rfl,rfl,rfl,rfl,trivial⟩ rfl ?_
 rintro i z hi K hN hE hR
 obtain ⟨out,met,hst⟩ : ∃ out met,(b.sr.take i).foldl datS ([],[]) = (out,met) := ⟨_,_,rfl⟩
 rw [hst]
 show xcode _ _ [z 0,.ptr b1 0,z 2,.mp (some b3),.mp (some b4),z 5,z 6,z 7,z 8,z 9,z 10,z 11,z 12,z 13,.slc (mapD Sr.d b.sr),.int .i64 b.sr.length,.int .i64 ((i : Nat) : Int),z 17,z 18,z 19,z 20,z 21,z 22,z 23,z 24,z 25,z 26,z 27,z 28,z 29,z 30,z 31,z 32,z 33,z 34,z 35,z 36,z 37,z 38,z 39,z 40,z 41,z 42,z 43,z 44,z 45,z 46,z 47,z 48,z 49,z 50,z 51,z 52,z 53,z 54,z 55,z 56,z 57,z 58,z 59,z 60,z 61,z 62,z 63,z 64,z 65,z 66,z 67] _ K
 by_cases hlt : i < b.sr.length
 ·have g := mapD_get (f := Sr.d) hlt
  have hlt' : ((i : Int) < (b.sr.length : Int)) = True := eq_true (by omega)
  have nx : ∀ F',Fr 68 [(1,.ptr b1 0),(3,.mp (some b3)),(4,.mp (some b4)),(14,.slc (mapD Sr.d b.sr)),(15,.int .i64 b.sr.length),(16,.int .i64 ((i : Nat) : Int))] F' → True := fun _ _=>trivial
  have hs1 := foldl_take (f := datS) (b := ([],[])) hlt
  rw [hst] at hs1
  have hN' := hN (i + 1)
  rw [hs1] at hN'
  generalize b.sr.getD i default = s at g hN'
  have hsd : s.d = [.int .i64 s.id.o,.int .i64 s.id.s,.int .i64 s.id.i,.str s.title,.str s.owner,.slc (mapD Vl.d s.date)] := rfl
  by_cases hmet : (lookP met s.id).getD false = true
  ·have e1 : datS (out,met) s = (out,met) := by unfold datS; rw [if_pos hmet]
   rw [e1] at hN'
   simp +contextual only [x48,mapD_len,g,hsd,hlt',h_miss,h_skip,n13,n34,n14,keys_id (x := s.id),look_id (x := s.id),upd_id (x := s.id),opt_b,hmet,wrap_succ (show i ≤ big by omega),↓U48,↓XP,↓XU,XW0,XW1,qa,qb,qc,qd,qe,qf,reduceCtorEq,TYX]
   simp only [← hsd]
   intros
   exact hN' _ _ hlt (by omega) ⟨rfl,rfl,rfl,rfl,rfl,rfl,rfl,trivial⟩ (back_1 rfl)
  ·have hmet' : (lookP met s.id).getD false = false := by simpa using hmet
   have e1 : datS (out,met) s = (s.date.foldl (datV s.id) out,updP met s.id true) := by unfold datS; rw [if_neg hmet]
   rw [e1] at hN'
   simp +contextual only [x48,mapD_len,g,hsd,hlt',h_miss,h_skip,n13,n34,n14,keys_id (x := s.id),look_id (x := s.id),upd_id (x := s.id),opt_b,hmet',↓U48,↓XP,↓XU,XW0,XW1,qa,qb,qc,qd,qe,qf,reduceCtorEq,TYX]
   simp only [← hsd]
   rintro b6 ⟨n46,n36,n16,h6⟩ hlv
   refine XW.loopS Go.Proofs.Ytffbjejmobhpkaa.hm 68 (fun j : Nat=>[(1,.ptr b1 0),(3,.mp (some b3)),(4,.mp (some b4)),(6,.ptr b6 0),(14,.slc (mapD Sr.d b.sr)),(15,.int .i64 b.sr.length),(16,.int .i64 ((i : Nat) : Int)),(28,.slc (mapD Vl.d s.date)),(29,.int .i64 s.date.length),(30,.int .i64 ((j : Nat) : Int))]) (fun j=>(b6,AO.cells s.d) :: (b4,AO.mp (mapE Id3.d D.bool (updP met s.id true))) :: (b3,AO.mp (mapE Id3.d spD ((s.date.take j).foldl (datV s.id) out))) :: (b1,AO.cells b.d) :: H) (fun j=>s.date.length - j) (fun j=>j ≤ s.date.length) 0 (by omega) ⟨rfl,rfl,rfl,rfl,rfl,rfl,rfl,rfl,rfl,rfl,rfl,trivial⟩ rfl ?_
   clear hN
   rintro j z hj K2 hN hE2 hR2
   show xcode _ _ [z 0,.ptr b1 0,z 2,.mp (some b3),.mp (some b4),z 5,.ptr b6 0,z 7,z 8,z 9,z 10,z 11,z 12,z 13,.slc (mapD Sr.d b.sr),.int .i64 b.sr.length,.int .i64 ((i : Nat) : Int),z 17,z 18,z 19,z 20,z 21,z 22,z 23,z 24,z 25,z 26,z 27,.slc (mapD Vl.d s.date),.int .i64 s.date.length,.int .i64 ((j : Nat) : Int),z 31,z 32,z 33,z 34,z 35,z 36,z 37,z 38,z 39,z 40,z 41,z 42,z 43,z 44,z 45,z 46,z 47,z 48,z 49,z 50,z 51,z 52,z 53,z 54,z 55,z 56,z 57,z 58,z 59,z 60,z 61,z 62,z 63,z 64,z 65,z 66,z 67] _ K2
   by_cases hlt2 : j < s.date.length
   ·have g := mapD_get (f := Vl.d) hlt2
    have hlt2' : ((j : Int) < (s.date.length : Int)) = True := eq_true (by omega)
    have hs2 := foldl_take (f := datV s.id) (b := out) hlt2
    have hN2 := hN (j + 1)
    rw [hs2] at hN2
    generalize (s.date.take j).foldl (datV s.id) out = o2 at hN2
    generalize s.date.getD j default = v at g hN2
    have hvd : v.d = [.str v.text,.int .i64 v.n,.int .i64 v.sp.a,.int .i64 v.sp.b,.int .i64 v.by_.o,.int .i64 v.by_.s,.int .i64 v.by_.i] := rfl
    simp +contextual only [x48,mapD_len,g,hsd,hvd,hlt2',h_miss,h_skip,n13,n34,n14,n46,n36,n16,keys_id (x := s.id),look_id (x := s.id),upd_id (x := s.id),opt_b,↓U48,↓XP,↓XU,XW0,XW1,qa,qb,qc,qd,qe,qf,reduceCtorEq,TYX]
    rintro b8 ⟨n68,n48,n38,n18,h8⟩
    refine f_span (x := v.sp) ?_
    by_cases hok : OkSpan v.sp
    ·have e2 : datV s.id o2 v = updP o2 s.id (mrg ((lookP o2 s.id).getD v.sp) v.sp) := by unfold datV; rw [if_pos hok]
     rw [e2] at hN2
     cases hlk : lookP o2 s.id with
     | none =>
      rw [hlk] at hN2
      have u1 : updD (mapE Id3.d spD o2) (.agg [.int .i64 s.id.o,.int .i64 s.id.s,.int .i64 s.id.i]) (.agg [.int .i64 v.sp.a,.int .i64 v.sp.b]) = mapE Id3.d spD (updP o2 s.id (mrg ((none : Option Sp).getD v.sp) v.sp)) := by
       rw [show mrg ((none : Option Sp).getD v.sp) v.sp = v.sp by simp [mrg]]
       exact upd_id (vd := spD) (v := v.sp)
      simp +contextual only [x48,mapD_len,hsd,hvd,h_miss,h_skip,n13,n34,n14,n46,n36,n16,n68,n48,n38,n18,keys_id (x := s.id),look_id (x := s.id),upd_id (x := s.id),opt_b,decide_eq_true hok,hlk,u1,wrap_succ (show j ≤ big by omega),↓U48,↓XP,↓XU,XW0,XW1,qa,qb,qc,qd,qe,qf,reduceCtorEq,TYX]
      intros
      exact hN2 _ _ hlt2 (by omega) ⟨rfl,rfl,rfl,rfl,rfl,rfl,rfl,rfl,rfl,rfl,rfl,trivial⟩ (back_2 rfl)
     | some dd =>
      rw [hlk] at hN2
      have u1 : updD (mapE Id3.d spD o2) (.agg [.int .i64 s.id.o,.int .i64 s.id.s,.int .i64 s.id.i]) (.agg [.int .i64 (if v.sp.a < dd.a then v.sp.a else dd.a),.int .i64 (if v.sp.b > dd.b then v.sp.b else dd.b)]) = mapE Id3.d spD (updP o2 s.id (mrg ((some dd).getD v.sp) v.sp)) := upd_id (vd := spD) (v := mrg dd v.sp)
      have sd : spD dd = .agg [.int .i64 dd.a,.int .i64 dd.b] := rfl
      simp +contextual only [x48,mapD_len,hsd,hvd,h_miss,h_skip,n13,n34,n14,n46,n36,n16,n68,n48,n38,n18,keys_id (x := s.id),look_id (x := s.id),upd_id (x := s.id),opt_b,decide_eq_true hok,hlk,sd,u1,wrap_succ (show j ≤ big by omega),↓U48,↓XP,↓XU,XW0,XW1,qa,qb,qc,qd,qe,qf,reduceCtorEq,TYX]
      intros
      exact hN2 _ _ hlt2 (by omega) ⟨rfl,rfl,rfl,rfl,rfl,rfl,rfl,rfl,rfl,rfl,rfl,trivial⟩ (back_2 rfl)
    ·have e2 : datV s.id o2 v = o2 := by unfold datV; rw [if_neg hok]
     rw [e2] at hN2
     simp +contextual only [x48,mapD_len,hsd,hvd,h_miss,h_skip,n13,n34,n14,n46,n36,n16,n68,n48,n38,n18,keys_id (x := s.id),look_id (x := s.id),upd_id (x := s.id),opt_b,decide_eq_false hok,wrap_succ (show j ≤ big by omega),↓U48,↓XP,↓XU,XW0,XW1,qa,qb,qc,qd,qe,qf,reduceCtorEq,TYX]
     intros
     exact hN2 _ _ hlt2 (by omega) ⟨rfl,rfl,rfl,rfl,rfl,rfl,rfl,rfl,rfl,rfl,rfl,trivial⟩ (back_1 rfl)
   ·have hjn : j = s.date.length := by omega
    subst hjn
    rw [List.take_length]
    simp +contextual only [x48,mapD_len,↓U48,↓XP,↓XU,XW0,XW1,qa,qb,qc,qd,qe,qf,reduceCtorEq,TYX]
    intros
    refine hE2 _ _ _ ?_
    simp +contextual only [x48,mapD_len,wrap_succ (show i ≤ big by omega),↓U48,↓XP,↓XU,XW0,XW1,qa,qb,qc,qd,qe,qf,reduceCtorEq,TYX]
    exact hN' _ _ hlt (by omega) ⟨rfl,rfl,rfl,rfl,rfl,rfl,rfl,trivial⟩ (back_1 rfl)
 ·have hin : i = b.sr.length := by omega
  subst hin
  rw [List.take_length] at hst
  simp +contextual only [x48,mapD_len,↓U48,↓XP,↓XU,XW0,XW1,qa,qb,qc,qd,qe,qf,reduceCtorEq,TYX]
  intros
  refine hE _ _ _ ?_
  simp +contextual only [x48,mapD_len,↓U48,↓XP,↓XU,XW0,XW1,qa,qb,qc,qd,qe,qf,reduceCtorEq,TYX]
  refine gh_intro (Fz.freezeM (s := 3) (b := b3) (es := mapE Id3.d spD out) rfl (by simp [getH,n34,n13,n14,Ne.symm n34])) ?_
  have hmw : mwk (mapE Id3.d spD out) = mapE Id3.d spD out := mwk_mapE
  rw [hmw]
  simp +contextual only [x48,mapD_len,e_hit,e_miss,n34,↓U48,↓XP,↓XU,XW0,XW1,qa,qb,qc,qd,qe,qf,reduceCtorEq,TYX]
  rw [show out = datesP b.sr by unfold datesP; rw [hst]]
  exact h
end Go.Proofs.Ytffbjejmobhpkaa
end
section
namespace Go.Proofs.Ytffbjejmobhpkaa
open Go Go.Aw
structure Ev where
 n : Int
 all : List Id3
 one : List Id3
def ev0 : Ev := ⟨0,[],[]⟩
structure ClA where
 b : Nat
 cap : Nat
 xs : List Id3
structure EvA where
 n : Int
 c : ClA
 one : List Id3
def Ev.d (e : Ev) : D := .agg [.int .i64 e.n,.slc (mapD Id3.d e.all),.slc (mapD Id3.d e.one)]
def ClA.d (c : ClA) : D := .osl c.b c.cap (mapD Id3.d c.xs)
def EvA.d (e : EvA) : D := .agg [.int .i64 e.n,e.c.d,.slc (mapD Id3.d e.one)]
def EvA.p (e : EvA) : Ev := ⟨e.n,e.c.xs,e.one⟩
def slD (l : List Id3) : D := .slc (mapD Id3.d l)
def qD (q : Id3 × Id3) : List D := [.int .i64 q.1.o,.int .i64 q.1.s,.int .i64 q.1.i,.int .i64 q.2.o,.int .i64 q.2.s,.int .i64 q.2.i]
theorem qK : KeyOk qD [.i,.i,.i,.i,.i,.i] := ⟨fun a b=>by
 show (cellEq (.int .i64 a.1.o) (.int .i64 b.1.o) && (cellEq (.int .i64 a.1.s) (.int .i64 b.1.s) && (cellEq (.int .i64 a.1.i) (.int .i64 b.1.i) && (cellEq (.int .i64 a.2.o) (.int .i64 b.2.o) && (cellEq (.int .i64 a.2.s) (.int .i64 b.2.s) && (cellEq (.int .i64 a.2.i) (.int .i64 b.2.i) && true)))))) = _
 simp only [cellEq,decide_true,Bool.true_and,Bool.and_true,← Bool.decide_and]
 refine decide_eq_decide.2 ?_
 rw [Prod.ext_iff,id_ext,id_ext]
 constructor
 ·rintro ⟨h1,h2,h3,h4,h5,h6⟩; exact ⟨⟨h1,h2,h3⟩,h4,h5,h6⟩
 ·rintro ⟨⟨h1,h2,h3⟩,h4,h5,h6⟩; exact ⟨h1,h2,h3,h4,h5,h6⟩,fun _=>trivial,fun _ _=>⟨rfl,rfl,rfl,rfl,rfl,rfl,trivial⟩⟩
def sensS (m : List (Id3 × Bool)) (s : Sn) : List (Id3 × Bool) := updP m s.id true
def sensP (b : Bk) : List (Id3 × Bool) := b.sn.foldl sensS []
def defl (s : Spl) : List Id3 := if 0 ≤ s.df ∧ s.df < s.parts.length then [s.parts.getD s.df.toNat default] else []
def ofS (m : List (Id3 × Ev)) (s : Spl) : List (Id3 × Ev) := updP m s.on ⟨((lookP m s.on).getD ev0).n + 1,((lookP m s.on).getD ev0).all ++ s.parts,defl s⟩
def ofM (m : List (Id3 × Ev)) (g : Mg) : List (Id3 × Ev) := updP m g.on ⟨((lookP m g.on).getD ev0).n + 1,((lookP m g.on).getD ev0).all ++ [g.to],[g.to]⟩
def evsP (b : Bk) : List (Id3 × Ev) := b.mg.foldl ofM (b.sl.foldl ofS [])
def ofC (ev : List (Id3 × Ev)) (m : List ((Id3 × Id3) × List Id3)) (c : Ch) : List ((Id3 × Id3) × List Id3) :=
 if c.part ∈ ((lookP ev c.to).getD ev0).all then updP m (c.on,c.to) (((lookP m (c.on,c.to)).getD []) ++ [c.part]) else m
def chsP (b : Bk) : List ((Id3 × Id3) × List Id3) := b.ch.foldl (ofC (evsP b)) []
structure Ix where
 se : List (Id3 × Bool)
 ev : List (Id3 × Ev)
 ch : List ((Id3 × Id3) × List Id3)
def Ix.d (x : Ix) : List D := [.mpv (mapE Id3.d D.bool x.se),.mpv (mapE Id3.d Ev.d x.ev),.mpv (mapE qD slD x.ch)]
def ixP (b : Bk) : Ix := ⟨sensP b,evsP b,chsP b⟩
def idxD3 (b : Bk) : List D := (ixP b).d
def Ix.e (x : Ix) (to : Id3) : Ev := (lookP x.ev to).getD ev0
def Ix.c (x : Ix) (fr to : Id3) : List Id3 := (lookP x.ch (fr,to)).getD []
def nextP (x : Ix) (fr to : Id3) : List Id3 × Int :=
 if (x.e to).n = 0 then ([to],0) else if (srt (x.c fr to)).length = 1 then (srt (x.c fr to),0) else if 1 < (srt (x.c fr to)).length then (srt (x.c fr to),15)
 else if (x.e to).n = 1 ∧ (x.e to).one.length = 1 then ((x.e to).one,0) else (srt (x.e to).all,15)
structure IxOk (x : Ix) : Prop where
 se : x.se.length ≤ 536870912
 all : ∀ to,(x.e to).all.length ≤ 1073741824 ∧ (∀ y ∈ (x.e to).all,OkI y)
 ch : ∀ fr to,(x.c fr to).length ≤ 1073741824 ∧ (∀ y ∈ x.c fr to,OkI y)
structure Small (b : Bk) : Prop where
 sl : b.sl.length ≤ 1024
 mg : b.mg.length ≤ 65536
 ch : b.ch.length ≤ 65536
 pl : ∀ s ∈ b.sl,s.parts ≠ [] ∧ s.parts.length ≤ 1024
 qt : b.qt.length ≤ 65536
def ofH (b1 b2 b3 m1 m2 m3 : Nat) (b : Bk) (se : List (Id3 × Bool)) (ev : List (Id3 × EvA)) (ch : List ((Id3 × Id3) × ClA)) (H : AH) : AH :=
 (b3,.cells [.mp (some m1),.mp (some m2),.mp (some m3)]) :: (m3,.mp (mapE qD ClA.d ch)) :: (m2,.mp (mapE Id3.d EvA.d ev)) :: (m1,.mp (mapE Id3.d D.bool se)) :: (b2,.cells [.mp none,.mp none,.mp none]) :: (b1,.cells b.d) :: H
structure Ds6 (b1 b2 b3 m1 m2 m3 : Nat) : Prop where
 n12 : ¬ b1 = b2
 n1m1 : ¬ b1 = m1
 n1m2 : ¬ b1 = m2
 n1m3 : ¬ b1 = m3
 n13 : ¬ b1 = b3
 n2m1 : ¬ b2 = m1
 n2m2 : ¬ b2 = m2
 n2m3 : ¬ b2 = m3
 n23 : ¬ b2 = b3
 m12 : ¬ m1 = m2
 m13 : ¬ m1 = m3
 m1b : ¬ m1 = b3
 m23 : ¬ m2 = m3
 m2b : ¬ m2 = b3
 m3b : ¬ m3 = b3
end Go.Proofs.Ytffbjejmobhpkaa
end
section
namespace Go.Aw
open Go Go.RowKit
section
variable {F : List D} {H : AH} {k : List D → AH → Prop}
theorem Gz.give0 {bx j : Nat} {cs : List D} (hg : getH H bx = some (.cells cs)) (hj : cs[j]? = some (.own [])) (h : k F (setH H bx (.cells (cs.set j (.osl 0 0 []))))) : Gz F H k := by
 intro K w t hs
 refine ⟨F,_,K,h,.refl K w,hs.krel,⟨by rw [keys_set]; exact hs.hrel.nd,fun c' o' hm'=>?_⟩,hs.len,hs.slot⟩
 rcases mem_set hs.hrel.nd hm' with ⟨rfl,rfl⟩ | ⟨hne,hm'⟩
 ·obtain ⟨hpb,c,T,hb,hcs,hrc⟩ := hs.hrel.ok c' _ (getH_mem hg)
  refine ⟨hpb,c,T,hb,by simpa using hcs,fun q d hd=>?_⟩
  rcases getElem?_set_some hd with ⟨rfl,rfl,_⟩ | ⟨_,hd⟩
  ·obtain ⟨u,f1,f2,f3⟩ := hrc _ _ hj
   have f4 : OwnAt K w _ [] u := f3
   refine ⟨u,f1,f2,?_⟩
   rcases f4 with ⟨_,a,rfl⟩ | ⟨b,cap,sz,c2,T2,_,_,_,_,hp,_⟩
   ·exact .oslnil 0 0 a
   ·simp at hp
  ·exact hrc q d hd
 ·exact hs.hrel.ok c' o' hm'
theorem Gz.then (h : Gz F H fun F' H'=>Gz F' H' k) : Gz F H k := h.bind fun _ _ h=>h
theorem Gz.take0 {bx j : Nat} {cs : List D} (hj : cs[j]? = some (.osl 0 0 [])) (h : k F ((bx,.cells (cs.set j (.own []))) :: H)) : Gz F ((bx,.cells cs) :: H) k :=
 Gz.take hj (fun h=>(h rfl).elim) (by simpa [dropR] using h)
end
end Go.Aw
namespace Go.Proofs.Ytffbjejmobhpkaa
open Go Go.Aw
def atZ (l : List Int) (i most : Int) : Int := atOf l i.toNat most
theorem atZ_range {l : List Int} {i most : Int} (h : 0 < most) : 0 ≤ atZ l i most ∧ atZ l i most < most := atOf_range h
theorem f_atZ {l : List Int} {i most : Int} {H : AH} {R : D → AH → Prop} (hi : 0 ≤ i) (hm : 0 < most) (h : R (.int .i64 (atZ l i most)) H) : ACall Try.prog 30 [.slc (mapD intD l),.int .i64 i,.int .i64 most] H R := by
 have := f_at (l := l) (i := i.toNat) (most := most) (H := H) (R := R) hm h
 rw [Int.toNat_of_nonneg hi] at this
 exact this
theorem f_IDz {i : Int} {H : AH} {R : D → AH → Prop} (hi : 0 ≤ i) (h : R (.agg (idR i.toNat).d) H) : ACall Try.prog 10 [.int .i64 i] H R := by
 have := f_ID (i := i.toNat) (H := H) (R := R) h
 rw [Int.toNat_of_nonneg hi] at this
 exact this
theorem okR {i : Nat} (h : i ≤ 1000000) : OkI (idR i) := by
 unfold OkI idR
 simp only [inR_i64]
 omega
theorem okz {a b c : Int} (h : 0 ≤ a ∧ a ≤ 1000000 ∧ 0 ≤ b ∧ b ≤ 1000000 ∧ 0 ≤ c ∧ c ≤ 1000000) : OkI ⟨a,b,c⟩ := by
 unfold OkI
 simp only [inR_i64]
 omega
structure Gen (b : Bk) : Prop where
 sn : b.sn.length ≤ 9
 sr : b.sr.length ≤ 4
 dt : ∀ s ∈ b.sr,s.date.length ≤ 2 ∧ ∀ v ∈ s.date,1 ≤ v.sp.a ∧ v.sp.a ≤ 1000 ∧ v.sp.b ≤ 1000
 qt : b.qt.length ≤ 11
 qi : ∀ q ∈ b.qt,OkI q.id
 sl : b.sl.length ≤ 3
 pl : ∀ s ∈ b.sl,s.parts ≠ [] ∧ s.parts.length ≤ 3 ∧ ∀ y ∈ s.parts,OkI y
 mg : b.mg.length ≤ 4
 mt : ∀ g ∈ b.mg,OkI g.to
 ch : b.ch.length ≤ 4
 cp : ∀ c ∈ b.ch,OkI c.part
theorem Gen.smallR {b : Bk} (h : Gen b) : SmallR b := by
 have h1 := h.sl
 have h2 := h.mg
 have h3 := h.ch
 have h4 := h.sn
 have h5 := h.sr
 have h6 := h.qt
 exact ⟨by omega,by omega,by omega,fun s hs=>by have := (h.pl s hs).2.1; omega,by omega,by omega,by omega,fun s hs=>by have := (h.dt s hs).1; omega⟩
theorem Gen.small {b : Bk} (h : Gen b) : Small b := by
 have h1 := h.sl
 have h2 := h.mg
 have h3 := h.ch
 have h6 := h.qt
 exact ⟨by omega,by omega,by omega,fun s hs=>⟨(h.pl s hs).1,by have := (h.pl s hs).2.1; omega⟩,by omega⟩
def EvG (m : List (Id3 × Ev)) (n : Nat) : Prop := ∀ p ∈ m,p.2.all.length ≤ n ∧ ∀ y ∈ p.2.all,OkI y
theorem EvG.at {m : List (Id3 × Ev)} {n : Nat} (h : EvG m n) {k : Id3} : ((lookP m k).getD ev0).all.length ≤ n ∧ ∀ y ∈ ((lookP m k).getD ev0).all,OkI y := by
 cases hl : lookP m k with
 | none=>simp [ev0]
 | some e=>exact h _ (look_mem hl)
theorem EvG.upd {m : List (Id3 × Ev)} {n n' : Nat} (h : EvG m n) {k : Id3} {e : Ev} (hn : n ≤ n') (he : e.all.length ≤ n' ∧ ∀ y ∈ e.all,OkI y) : EvG (updP m k e) n' := fun p hp=>by
 rcases upd_mem hp with rfl | hp
 ·exact he
 ·exact ⟨Nat.le_trans (h p hp).1 hn,(h p hp).2⟩
theorem EvG.ofS : ∀ {l : List Spl} {m : List (Id3 × Ev)} {n : Nat},EvG m n → (∀ s ∈ l,s.parts.length ≤ 3 ∧ ∀ y ∈ s.parts,OkI y) → EvG (l.foldl ofS m) (n + 3 * l.length)
 | [],m,n,h,_=>h
 | s :: l,m,n,h,hl=>by
  rw [List.foldl_cons,List.length_cons,show n + 3 * (l.length + 1) = n + 3 + 3 * l.length by omega]
  have hs := hl s (.head _)
  refine EvG.ofS (EvG.upd h (by omega) ⟨?_,fun y hy=>?_⟩) fun q hq=>hl q (.tail _ hq)
  ·rw [List.length_append]; have := (h.at (k := s.on)).1; omega
  ·rcases List.mem_append.1 hy with hy | hy
   ·exact (h.at).2 y hy
   ·exact hs.2 y hy
theorem EvG.ofM : ∀ {l : List Mg} {m : List (Id3 × Ev)} {n : Nat},EvG m n → (∀ g ∈ l,OkI g.to) → EvG (l.foldl ofM m) (n + l.length)
 | [],m,n,h,_=>h
 | s :: l,m,n,h,hl=>by
  rw [List.foldl_cons,List.length_cons,show n + (l.length + 1) = n + 1 + l.length by omega]
  refine EvG.ofM (EvG.upd h (by omega) ⟨?_,fun y hy=>?_⟩) fun q hq=>hl q (.tail _ hq)
  ·rw [List.length_append,List.length_singleton]; have := (h.at (k := s.on)).1; omega
  ·rcases List.mem_append.1 hy with hy | hy
   ·exact (h.at).2 y hy
   ·rw [List.mem_singleton.1 hy]; exact hl s (.head _)
def ChG (m : List ((Id3 × Id3) × List Id3)) (n : Nat) : Prop := ∀ p ∈ m,p.2.length ≤ n ∧ ∀ y ∈ p.2,OkI y
theorem ChG.at {m : List ((Id3 × Id3) × List Id3)} {n : Nat} (h : ChG m n) {k : Id3 × Id3} : ((lookP m k).getD []).length ≤ n ∧ ∀ y ∈ (lookP m k).getD [],OkI y := by
 cases hl : lookP m k with
 | none=>simp
 | some e=>exact h _ (look_mem hl)
theorem ChG.ofC {ev : List (Id3 × Ev)} : ∀ {l : List Ch} {m : List ((Id3 × Id3) × List Id3)} {n : Nat},ChG m n → (∀ c ∈ l,OkI c.part) → ChG (l.foldl (ofC ev) m) (n + l.length)
 | [],m,n,h,_=>h
 | c :: l,m,n,h,hl=>by
  rw [List.foldl_cons,List.length_cons,show n + (l.length + 1) = n + 1 + l.length by omega]
  refine ChG.ofC ?_ fun q hq=>hl q (.tail _ hq)
  unfold Go.Proofs.Ytffbjejmobhpkaa.ofC
  split
  ·intro p hp
   rcases upd_mem hp with rfl | hp
   ·dsimp only
    refine ⟨?_,fun y hy=>?_⟩
    ·rw [List.length_append,List.length_singleton]; have := (h.at (k := (c.on,c.to))).1; omega
    ·rcases List.mem_append.1 hy with hy | hy
     ·exact (h.at).2 y hy
     ·rw [List.mem_singleton.1 hy]; exact hl c (.head _)
   ·exact ⟨Nat.le_trans (h p hp).1 (by omega),(h p hp).2⟩
  ·intro p hp
   exact ⟨Nat.le_trans (h p hp).1 (by omega),(h p hp).2⟩
theorem sens_len : ∀ {l : List Sn} {m : List (Id3 × Bool)},(l.foldl sensS m).length ≤ m.length + l.length
 | [],m=>by simp
 | s :: l,m=>by
  have h1 := sens_len (l := l) (m := sensS m s)
  have h2 := upd_len (m := m) (k := s.id) (v := true)
  rw [List.foldl_cons,List.length_cons]
  unfold sensS at h1 ⊢
  omega
theorem Gen.ix {b : Bk} (h : Gen b) : IxOk (ixP b) := by
 refine ⟨?_,fun to=>?_,fun fr to=>?_⟩
 ·have h1 := sens_len (l := b.sn) (m := [])
  have h2 := h.sn
  show (sensP b).length ≤ _
  unfold sensP
  simp at h1
  omega
 ·have h1 : EvG (evsP b) (0 + 3 * b.sl.length + b.mg.length) := EvG.ofM (EvG.ofS (m := []) (fun p hp=>by cases hp) fun s hs=>⟨(h.pl s hs).2.1,(h.pl s hs).2.2⟩) h.mt
  have h2 := h1.at (k := to)
  have h3 := h.sl
  have h4 := h.mg
  exact ⟨by show ((lookP (evsP b) to).getD ev0).all.length ≤ _; omega,h2.2⟩
 ·have h1 : ChG (chsP b) (0 + b.ch.length) := ChG.ofC (m := []) (fun p hp=>by cases hp) h.cp
  have h2 := h1.at (k := (fr,to))
  have h3 := h.ch
  exact ⟨by show ((lookP (chsP b) (fr,to)).getD []).length ≤ _; omega,h2.2⟩
end Go.Proofs.Ytffbjejmobhpkaa
end
