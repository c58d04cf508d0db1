/- A part of the proof of what the last text says: Ewx, Ewm, Ewn, Ewo, Ep6, Ep7, Ep8. Conditions: those in each theorem. -/
import Derived.Test.YtffbjejmobhpkaaE23
set_option linter.unusedVariables false
set_option linter.unusedSimpArgs false
set_option maxRecDepth 100000
set_option maxHeartbeats 16000000
open Nat renaming reduceSub → qa,reduceAdd → qb,reduceMul → qc,reduceEqDiff → qd,reduceLeDiff → qe,reduceBEq → qf
section
namespace Go.Proofs.Ytffbjejmobhpkaa
open Go Go.Aw
theorem erase_keep {b c : Nat} {o : AO} (hne : c ≠ b) : ∀ {H : AH},(c,o) ∈ H → (c,o) ∈ eraseH H b
 | (c',o') :: r,h=>by
  unfold eraseH
  split
  ·rename_i e
   rcases List.mem_cons.1 h with h | h
   ·injection h with h1 _
    exact absurd (h1.trans e.symm) hne
   ·exact h
  ·rcases List.mem_cons.1 h with h | h
   ·rw [h]; exact .head _
   ·exact .tail _ (erase_keep hne h)
theorem ACall.box {P : Program} {g : FuncId} {args : List D} {H : AH} {b : Nat} {o o' : AO} {d : D} (hg : getH H b = some o) (h : ACall P g args ((b,o) :: eraseH H b) (fun d' H'=>d' = d ∧ H' = (b,o') :: eraseH H b)) :
  ACall P g args H (fun d' H'=>d' = d ∧ H' = setH H b o') := by
 refine ⟨h.1,fun K w vs h1 h2 h3 h4 h5=>?_⟩
 have hr : HRel K w ((b,o) :: eraseH H b) := by
  refine ⟨?_,fun c x hm=>?_⟩
  ·simp only [List.map_cons,List.nodup_cons]
   refine ⟨fun hm=>?_,((erase_sub (b := b)).map _).nodup h3.nd⟩
   obtain ⟨⟨c,x⟩,hx,e⟩ := List.mem_map.1 hm
   exact erase_ne h3.nd hx e
  ·rcases List.mem_cons.1 hm with hm | hm
   ·injection hm with e1 e2
    subst e1 e2
    exact h3.ok _ _ (getH_mem hg)
   ·exact h3.ok _ _ (erase_sub.subset hm)
 refine (h.2 K w vs h1 h2 hr h4 h5).mono fun e w' ⟨v,d',H',K',g1,⟨g2,g3⟩,g4,g5,g6,g7⟩=>⟨v,d',_,K',g1,⟨g2,rfl⟩,g4,g5,?_,g7⟩
 subst g3
 refine ⟨by rw [keys_set]; exact h3.nd,fun c x hm=>?_⟩
 rcases mem_set h3.nd hm with ⟨e1,e2⟩ | ⟨e1,e2⟩
 ·subst e1 e2
  exact g6.ok _ _ (.head _)
 ·exact g6.ok _ _ (.tail _ (erase_keep e1 e2))
theorem f_compactV {l : List Id3} {b n : Nat} {rest : List D} {H : AH} {R : D → AH → Prop} (hn : l.length = n) (h0 : 0 < n) (hb : n ≤ 1073741824) (h : R (.hsl b (dd l).length) ((b,.cells (row (dd l ++ List.replicate (n - (dd l).length) id0) rest)) :: H)) : ACall Try.prog 36 [.hsl b n] ((b,.cells (row l rest)) :: H) R := by
 refine b36v fun hf=>?_
 have hbig := big_eq
 have hk : ∀ m : List Id3,∀ k : Nat,k ≤ n → m.length = n → dd l = m.take k → m = m.take k ++ List.replicate (n - k) id0 → R (.hsl b k) ((b,.cells (row m rest)) :: H) := fun m k hkn hm e1 e2=>by
  have e3 : (dd l).length = k := by rw [e1,List.length_take]; omega
  rw [e3,e1,← e2] at h
  exact h
 by_cases h2 : n < 2
 ·have h2' : ((n : Int) < 2) = True := eq_true (by omega)
  simp +contextual only [x36v,h2',↓U36v,↓XP,↓XU,XW0,XW1,qa,qb,qc,qd,qe,qf,reduceCtorEq,TYX]
  intros
  refine hk _ _ (Nat.le_refl _) hn ?_ ?_
  ·rw [← hn,List.take_length]
   match l,hn with
   | [x],_=>rfl
   | [],hn=>simp at hn; omega
   | x :: y :: r,hn=>simp at hn; omega
  ·rw [← hn,List.take_length,Nat.sub_self]; simp
 ·have h2' : ((n : Int) < 2) = False := eq_false (by omega)
  simp +contextual only [x36v,h2',↓U36v,↓XP,↓XU,XW0,XW1,qa,qb,qc,qd,qe,qf,reduceCtorEq,TYX]
  have hd0 : l.take 1 ++ dd.go (l.getD 0 default) (l.drop 1) = dd l := by
   cases l with
   | nil=>simp at hn; omega
   | cons x r=>rfl
  refine XW.loopS Go.Proofs.Ytffbjejmobhpkaa.hm 61 (fun j : Nat=>[(0,.hsl b n),(3,.int .i64 ((j + 1 : Nat) : Int))]) (fun j=>(b,AO.cells (row l rest)) :: H) (fun j=>n - j) (fun j=>j + 1 ≤ n ∧ l.take (j + 1) ++ dd.go (l.getD j default) (l.drop (j + 1)) = dd l) 0 ⟨by omega,hd0⟩ ⟨rfl,rfl,rfl,trivial⟩ rfl ?_
  rintro j z ⟨hj,hd⟩ K hN hE hR
  show xcode _ _ [.hsl b n,z 1,z 2,.int .i64 ((j + 1 : Nat) : Int),z 4,z 5,z 6,z 7,z 8,z 9,z 10,z 11,z 12,z 13,z 14,z 15,z 16,z 17,z 18,z 19,z 20,z 21,z 22,z 23,z 24,z 25,z 26,z 27,z 28,z 29,z 30,z 31,z 32,z 33,z 34,z 35,z 36,z 37,z 38,z 39,z 40,z 41,z 42,z 43,z 44,z 45,z 46,z 47,z 48,z 49,z 50,z 51,z 52,z 53,z 54,z 55,z 56,z 57,z 58,z 59,z 60] _ K
  by_cases hlt : j + 1 < n
  ·have hlt' : (((j + 1 : Nat) : Int) < (n : Int)) = True := eq_true (by omega)
   have g1 := row_get (rest := rest) (l := l) (i := j + 1) (by omega)
   have g2 := row_get (rest := rest) (l := l) (i := j) (by omega)
   have hw : IntKind.i64.wrap (((j + 1 : Nat) : Int) - 1) = (j : Int) := by rw [wrap_id (by omega) (by omega)]; omega
   have hdr := drop_cons (l := l) (i := j + 1) (by omega)
   have htk := take_succ (l := l) (i := j + 1) (by omega)
   have hlen := row_len (l := l) (rest := rest)
   have hdr0 := hdr
   rw [hdr] at hd
   generalize hy : l.getD (j + 1) default = y at g1 hd htk hdr0
   generalize hx : l.getD j default = x at g2 hd
   have hyd : y.d = [.int .i64 y.o,.int .i64 y.s,.int .i64 y.i] := rfl
   have hxd : x.d = [.int .i64 x.o,.int .i64 x.s,.int .i64 x.i] := rfl
   have hid := id_dec (x := y) (y := x)
   rw [show dd.go x (y :: l.drop (j + 1 + 1)) = if y = x then dd.go x (l.drop (j + 1 + 1)) else y :: dd.go y (l.drop (j + 1 + 1)) from rfl] at hd
   by_cases hyx : y = x
   ·rw [if_pos hyx] at hd
    simp +contextual only [x36v,hlt',hw,Int.toNat_natCast,g1,g2,hyd,hxd,hid,eq_true hyx,↓U36v,↓XP,↓XU,XW0,XW1,qa,qb,qc,qd,qe,qf,reduceCtorEq,TYX]
    refine ⟨by omega,by omega,by omega,by omega,by omega,?_⟩
    have hst : l.take (j + 1) ++ dd.go (l.getD (j + 1) default) (l.drop (j + 1 + 1)) = dd l := by rw [hy,hyx]; exact hd
    refine XW.loopS Go.Proofs.Ytffbjejmobhpkaa.hm 61 (fun s : Nat × Nat × List Id3=>[(0,.hsl b n),(3,.int .i64 ((s.2.1 : Nat) : Int)),(4,.hso b ((j + 1) * 3) (n - (j + 1))),(5,.int .i64 ((s.1 + 1 : Nat) : Int))]) (fun s=>(b,AO.cells (row s.2.2 rest)) :: H) (fun s=>n - s.1) (fun s=>s.2.2.length = n ∧ j + 1 + (s.1 + 1) ≤ n ∧ j + 1 ≤ s.2.1 ∧ s.2.1 ≤ j + 1 + s.1 ∧ s.2.2.take s.2.1 ++ dd.go (l.getD (j + 1 + s.1) default) (l.drop (j + 1 + s.1 + 1)) = dd l ∧ s.2.2.drop (j + 1 + s.1) = l.drop (j + 1 + s.1)) (0,j + 1,l) ⟨hn,by dsimp only; omega,by dsimp only; omega,by dsimp only; omega,hst,rfl⟩ ⟨rfl,rfl,rfl,rfl,rfl,trivial⟩ rfl ?_
    clear hN hst hd g1 g2 hdr hdr0 htk
    rintro ⟨q,k,m⟩ z2 ⟨hm,hq,hk1,hk2,hd,hdm⟩ K2 hN hE2 hR2
    dsimp only at hm hq hk1 hk2 hd hdm hN
    show xcode _ _ ((List.range 61).map (frm [(0,.hsl b n),(3,.int .i64 ((k : Nat) : Int)),(4,.hso b ((j + 1) * 3) (n - (j + 1))),(5,.int .i64 ((q + 1 : Nat) : Int))] z2)) ((b,AO.cells (row m rest)) :: H) _
    generalize hz : z2 = z
    show xcode _ _ [.hsl b n,z 1,z 2,.int .i64 ((k : Nat) : Int),.hso b ((j + 1) * 3) (n - (j + 1)),.int .i64 ((q + 1 : Nat) : Int),z 6,z 7,z 8,z 9,z 10,z 11,z 12,z 13,z 14,z 15,z 16,z 17,z 18,z 19,z 20,z 21,z 22,z 23,z 24,z 25,z 26,z 27,z 28,z 29,z 30,z 31,z 32,z 33,z 34,z 35,z 36,z 37,z 38,z 39,z 40,z 41,z 42,z 43,z 44,z 45,z 46,z 47,z 48,z 49,z 50,z 51,z 52,z 53,z 54,z 55,z 56,z 57,z 58,z 59,z 60] _ K2
    have hlen := row_len (l := m) (rest := rest)
    by_cases hlt2 : j + 1 + (q + 1) < n
    ·have hlt2' : (((q + 1 : Nat) : Int) < ((n - (j + 1) : Nat) : Int)) = True := eq_true (by omega)
     have g1 := row_get2 (rest := rest) (l := m) (i := j + 1) (j := q + 1) (by omega)
     have g2 := row_get2 (rest := rest) (l := m) (i := j + 1) (j := q) (by omega)
     have g3 : ((row m rest).drop ((j + 1) * 3 + (q + 1) * 3)).take 3 = (m.getD (j + 1 + (q + 1)) default).d := g1
     rw [getD_of_drop hdm (by omega)] at g1 g2
     have hw2 : IntKind.i64.wrap (((q + 1 : Nat) : Int) - 1) = (q : Int) := by rw [wrap_id (by omega) (by omega)]; omega
     have hdr := drop_cons (l := l) (i := j + 1 + q + 1) (by omega)
     rw [hdr] at hd
     have hdm2 : m.drop (j + 1 + (q + 1)) = l.drop (j + 1 + (q + 1)) := by
      have := congrArg (List.drop 1) hdm
      rw [List.drop_drop,List.drop_drop] at this
      exact this
     rw [show j + 1 + (q + 1) = j + 1 + q + 1 by omega] at g1
     generalize hy2 : l.getD (j + 1 + q + 1) default = y2 at g1 hd
     generalize l.getD (j + 1 + q) default = x2 at g2 hd
     have hyd2 : y2.d = [.int .i64 y2.o,.int .i64 y2.s,.int .i64 y2.i] := rfl
     have hxd2 : x2.d = [.int .i64 x2.o,.int .i64 x2.s,.int .i64 x2.i] := rfl
     have hid2 := id_dec (x := y2) (y := x2)
     rw [show dd.go x2 (y2 :: l.drop (j + 1 + q + 1 + 1)) = if y2 = x2 then dd.go x2 (l.drop (j + 1 + q + 1 + 1)) else y2 :: dd.go y2 (l.drop (j + 1 + q + 1 + 1)) from rfl] at hd
     by_cases hyx2 : y2 = x2
     ·rw [if_pos hyx2] at hd
      simp +contextual only [x36v,hlt2',hw2,Int.toNat_natCast,g1,g2,hyd2,hxd2,hid2,eq_true hyx2,wrap_succ (show q + 1 ≤ big by omega),↓U36v,↓XP,↓XU,XW0,XW1,qa,qb,qc,qd,qe,qf,reduceCtorEq,TYX]
      repeat' (first | apply And.intro | intro _)
      all_goals first
       | omega
       | skip
      refine hN (q + 1,k,m) _ _ ⟨hm,by dsimp only; omega,hk1,by dsimp only; omega,?_,hdm2⟩ (by dsimp only; omega) ⟨rfl,rfl,rfl,rfl,rfl,trivial⟩ (back_0 rfl)
      have hd' : m.take k ++ dd.go (l.getD (j + 1 + q + 1) default) (l.drop (j + 1 + q + 1 + 1)) = dd l := by rw [hy2,hyx2]; exact hd
      exact hd'
     ·rw [if_neg hyx2] at hd
      have hrs : (row m rest).take (k * 3) ++ .int .i64 y2.o :: .int .i64 y2.s :: .int .i64 y2.i :: (row m rest).drop (k * 3 + 3) = row (m.set k y2) rest := row_set (rest := rest) (l := m) (i := k) (y := y2) (by omega)
      simp +contextual only [x36v,hlt2',hw2,Int.toNat_natCast,g1,g2,hyd2,hxd2,hid2,eq_false hyx2,hrs,wrap_succ (show q + 1 ≤ big by omega),wrap_succ (show k ≤ big by omega),↓U36v,↓XP,↓XU,XW0,XW1,qa,qb,qc,qd,qe,qf,reduceCtorEq,TYX]
      repeat' (first | apply And.intro | intro _)
      all_goals first
       | omega
       | skip
      have hd' : (m.set k y2).take (k + 1) ++ dd.go (l.getD (j + 1 + q + 1) default) (l.drop (j + 1 + q + 1 + 1)) = dd l := by
       rw [take_succ (by rw [List.length_set]; omega),List.take_set_of_le (by omega),hy2,List.append_assoc]
       have e : (m.set k y2).getD k default = y2 := by simp [show k < m.length by omega]
       rw [e]
       exact hd
      refine hN (q + 1,k + 1,m.set k y2) _ _ ⟨by dsimp only; rw [List.length_set]; exact hm,by dsimp only; omega,by dsimp only; omega,by dsimp only; omega,hd',?_⟩ (by dsimp only; omega) ⟨rfl,rfl,rfl,rfl,rfl,trivial⟩ (back_0 rfl)
      dsimp only
      rw [List.drop_set_of_lt (by omega)]
      exact hdm2
    ·have hqn : j + 1 + (q + 1) = n := by omega
     have hlt2' : (((q + 1 : Nat) : Int) < ((n - (j + 1) : Nat) : Int)) = False := eq_false (by omega)
     rw [show l.drop (j + 1 + q + 1) = [] from List.drop_of_length_le (by omega)] at hd
     rw [show dd.go (l.getD (j + 1 + q) default) [] = [] from rfl,List.append_nil] at hd
     have hcl := row_clear (rest := rest) (l := m) (i := k) (by omega)
     rw [hm] at hcl
     simp +contextual only [x36v,hlt2',↓U36v,↓XP,↓XU,XW0,XW1,qa,qb,qc,qd,qe,qf,reduceCtorEq,TYX]
     intros
     refine hE2 _ _ _ ?_
     simp +contextual only [x36v,Int.toNat_natCast,hcl,↓U36v,↓XP,↓XU,XW0,XW1,qa,qb,qc,qd,qe,qf,reduceCtorEq,TYX]
     refine ⟨by omega,by omega,by omega,?_⟩
     have htk2 : (m.take k ++ List.replicate (n - k) id0).take k = m.take k := by
      rw [List.take_append_of_le_length (by simp; omega),List.take_take,Nat.min_self]
     refine ⟨by omega,by omega,hR _ _ ?_⟩
     simp +contextual only [x36v,↓U36v,↓XP,↓XU,XW0,XW1,qa,qb,qc,qd,qe,qf,reduceCtorEq,TYX]
     refine hk _ _ (by omega) (by simp; omega) (by rw [htk2]; exact hd.symm) (by rw [htk2])
   ·rw [if_neg hyx] at hd
    simp +contextual only [x36v,hlt',hw,Int.toNat_natCast,g1,g2,hyd,hxd,hid,eq_false hyx,wrap_succ (show j + 1 ≤ big by omega),↓U36v,↓XP,↓XU,XW0,XW1,qa,qb,qc,qd,qe,qf,reduceCtorEq,TYX]
    repeat' (first | apply And.intro | intro _)
    all_goals first
     | omega
     | skip
    refine hN (j + 1) _ _ ⟨by omega,?_⟩ (by omega) ⟨rfl,rfl,rfl,trivial⟩ (back_0 rfl)
    rw [htk,List.append_assoc,hy]
    exact hd
  ·have hjn : j + 1 = n := by omega
   have hlt' : (((j + 1 : Nat) : Int) < (n : Int)) = False := eq_false (by omega)
   simp +contextual only [x36v,hlt',↓U36v,↓XP,↓XU,XW0,XW1,qa,qb,qc,qd,qe,qf,reduceCtorEq,TYX]
   intros
   refine hE _ _ _ ?_
   simp +contextual only [x36v,↓U36v,↓XP,↓XU,XW0,XW1,qa,qb,qc,qd,qe,qf,reduceCtorEq,TYX]
   refine hk _ _ (Nat.le_refl _) hn ?_ ?_
   ·rw [← hd,List.take_of_length_le (by omega),List.drop_of_length_le (by omega),← hn,List.take_length]
    simp [dd.go]
   ·rw [← hn,List.take_length,Nat.sub_self]; simp
end Go.Proofs.Ytffbjejmobhpkaa
end
section
namespace Go.Proofs.Ytffbjejmobhpkaa
open Go Go.Aw
theorem opt_dw {o : Option (List Dt)} : (optD false (.osl 0 0 []) (Option.map dtD o)).wkT = .slc (mapD Dt.d (o.getD [])) := by cases o <;> rfl
def senL (b : Bk) (x : Id3) : List Dt := (lookP (evM b) x).getD []
def firL (t : Int) (l : List Dt) : List Id3 := (l.filter fun q=>decide (q.sp.a ≤ t)).map Dt.id
def firP (b : Bk) (x : Id3) : List Id3 := srt (firL (senP b x).1.b (senL b x))
theorem firL_take {t : Int} {l : List Dt} {i : Nat} (h : i < l.length) : firL t (l.take (i + 1)) = if (l.getD i default).sp.a ≤ t then firL t (l.take i) ++ [(l.getD i default).id] else firL t (l.take i) := by
 unfold firL
 rw [show l.take (i + 1) = l.take i ++ [l.getD i default] by
  rw [List.take_succ_eq_append_getElem h,List.getD_eq_getElem?_getD,List.getElem?_eq_getElem h]; rfl]
 rw [List.filter_append,List.map_append]
 by_cases hq : (l.getD i default).sp.a ≤ t
 ·rw [if_pos hq,List.filter_cons_of_pos (by simpa using hq)]; rfl
 ·rw [if_neg hq,List.filter_cons_of_neg (by simpa using hq)]; simp
theorem firL_len {t : Int} {l : List Dt} : (firL t l).length ≤ l.length := by unfold firL; rw [List.length_map]; exact List.length_filter_le _ _
theorem dl_s {l : List (List D)} {H : AH} : delB (.slc l) H = H := .trans rfl rfl
theorem set_self {b : Nat} {o : AO} : ∀ {H : AH},getH H b = some o → setH H b o = H
 | [],h=>rfl
 | (c,x) :: r,h=>by
  by_cases e : b = c
  ·subst e
   rw [h_hit] at h
   injection h with h
   rw [h_set,h]
  ·rw [h_miss e] at h
   rw [h_skip e,set_self h]
theorem row_app {a c : List Id3} {rest : List D} : row (a ++ c) rest = row a (row c rest) := by
 unfold row
 rw [show mapD Id3.d (a ++ c) = mapD Id3.d a ++ mapD Id3.d c by simp [mapD],List.flatten_append,List.append_assoc]
structure FoSt where
 i : Nat
 xs : List Id3
 b : Nat
 cap : Nat
 rest : List D
def outD (s : FoSt) : D := if s.xs = [] then .own [] else .hgs s.b s.xs.length s.cap
def outH (s : FoSt) : AH := if s.xs = [] then [] else [(s.b,.cells ((mapD Id3.d s.xs).flatten ++ s.rest))]
theorem id_flat {l : List Id3} : (mapD Id3.d l).flatten.length = l.length * 3 := by
 induction l with
 | nil=>rfl
 | cons x l ih=>simp only [mapD,List.map_cons,List.flatten_cons,List.length_append,List.length_cons] at ih ⊢; rw [ih]; simp only [Id3.d,List.length_cons,List.length_nil]; omega
theorem id_take {l : List Id3} {rest : List D} : ((mapD Id3.d l).flatten ++ rest).take (l.length * 3) = (mapD Id3.d l).flatten := by
 rw [← id_flat,List.take_left]
theorem id_plain {l : List Id3} : (mapD Id3.d l).flatten.all plain = true := by
 rw [List.all_eq_true]
 intro d hd
 obtain ⟨r,hr,hd⟩ := List.mem_flatten.1 hd
 obtain ⟨t,_,rfl⟩ := List.mem_map.1 hr
 simp only [Id3.d,List.mem_cons,List.not_mem_nil,or_false] at hd
 rcases hd with rfl | rfl | rfl <;> rfl
theorem f_first {b : Bk} (hb : Small b) (hx : IxOk (ixP b)) {x : Id3} (hn : (senL b x).length ≤ 1073741824) (hok : ∀ t ∈ senL b x,OkI t.id) {H : AH} {R : D → AH → Prop} (h : R (.tup [.agg (senP b x).1.d,.slc (mapD Id3.d (firP b x)),.bool (senP b x).2]) H) : ACall Try.prog 11 [.agg b.d,.agg x.d] H R := by
 refine b11 fun hf=>?_
 have hbig := big_eq
 have hbd : b.d = [.slc (mapD En.d b.en),.slc (mapD Sn.d b.sn),.slc (mapD Sr.d b.sr),.slc (mapD Qt.d b.qt),.slc (mapD Spl.d b.sl),.slc (mapD Mg.d b.mg),.slc (mapD Ch.d b.ch)] := rfl
 have hxd : x.d = [.int .i64 x.o,.int .i64 x.s,.int .i64 x.i] := rfl
 simp +contextual only [x11,mapD_len,hbd,hxd,↓U11,↓XP,↓XU,XW0,XW1,qa,qb,qc,qd,qe,qf,reduceCtorEq,TYX]
 rintro b2 h2 b3 ⟨n23,h3⟩ b4 ⟨n34,n24,h4⟩
 refine ⟨_,fun _ _=>f_evidence hb hx (b := b) ⟨rfl,rfl⟩,?_⟩
 simp +contextual only [x11,mapD_len,hbd,hxd,keys_id (x := x),look_id (x := x),opt_dw,h_miss,h_skip,n34,n23,n24,↓U11,↓XP,↓XU,XW0,XW1,qa,qb,qc,qd,qe,qf,reduceCtorEq,TYX]
 intro _
 refine f_rise ?_
 have hsg : riseP ((lookP (evM b) x).getD []) = senP b x := rfl
 have hsl : (lookP (evM b) x).getD [] = senL b x := rfl
 have hfp : firP b x = srt (firL (senP b x).1.b (senL b x)) := rfl
 rw [hfp] at h
 rw [hsg,hsl]
 generalize senP b x = sb at h ⊢
 generalize senL b x = l at h hn hok ⊢
 obtain ⟨⟨sa,sc⟩,si⟩ := sb
 have hsd : ∀ u w v,spB (⟨u,w⟩,v) = .tup [.agg [.int .i64 u,.int .i64 w],.bool v] := fun _ _ _=>rfl
 simp +contextual only [x11,mapD_len,hbd,hxd,hsd,h_miss,h_skip,n34,n23,n24,↓U11,↓XP,↓XU,XW0,XW1,qa,qb,qc,qd,qe,qf,reduceCtorEq,TYX]
 rintro b8 ⟨n48,n38,n28,h8⟩ hlb
 have hbx : freshH H b8 := h8
 refine XW.loopSR Go.Proofs.Ytffbjejmobhpkaa.hm 46 (fun s : FoSt=>[(4,.ptr b4 0),(8,.ptr b8 0),(9,.bool si),(10,outD s),(22,.slc (mapD Dt.d l)),(23,.int .i64 l.length),(24,.int .i64 ((s.i : Nat) : Int))]) (fun s=>outH s ++ ((b8,.cells [.int .i64 sa,.int .i64 sc]) :: (b4,.cells [.int .i64 0,.int .i64 0]) :: (b3,.cells [.int .i64 x.o,.int .i64 x.s,.int .i64 x.i]) :: (b2,.cells [.slc (mapD En.d b.en),.slc (mapD Sn.d b.sn),.slc (mapD Sr.d b.sr),.slc (mapD Qt.d b.qt),.slc (mapD Spl.d b.sl),.slc (mapD Mg.d b.mg),.slc (mapD Ch.d b.ch)]) :: H)) (fun s=>l.length - s.i) (fun s=>s.i ≤ l.length ∧ firL sc (l.take s.i) = s.xs ∧ (s.xs ≠ [] → s.b ≠ b8 ∧ s.b ≠ b4 ∧ s.b ≠ b3 ∧ s.b ≠ b2 ∧ freshH H s.b ∧ ((mapD Id3.d s.xs).flatten ++ s.rest).length = s.cap * 3)) ⟨0,[],0,0,[]⟩ ⟨by simp,rfl,fun e=>absurd rfl e⟩ ⟨rfl,rfl,rfl,rfl,rfl,rfl,rfl,rfl,trivial⟩ rfl ?_
 rintro ⟨i,xs,ob,cap,rest⟩ z ⟨hi,hxs,hob⟩ K hN hE hR
 dsimp only at hi hxs hob
 have hle : xs.length ≤ i := by rw [← hxs]; exact Nat.le_trans firL_len (by rw [List.length_take]; omega)
 by_cases h0 : xs = []
 ·subst h0
  show xcode _ _ [z 0,z 1,z 2,z 3,.ptr b4 0,z 5,z 6,z 7,.ptr b8 0,.bool si,.own [],z 11,z 12,z 13,z 14,z 15,z 16,z 17,z 18,z 19,z 20,z 21,.slc (mapD Dt.d l),.int .i64 l.length,.int .i64 ((i : Nat) : Int),z 25,z 26,z 27,z 28,z 29,z 30,z 31,z 32,z 33,z 34,z 35,z 36,z 37,z 38,z 39,z 40,z 41,z 42,z 43,z 44,z 45] _ K
  simp only [show outH ⟨i,[],ob,cap,rest⟩ = [] from rfl,List.nil_append]
  by_cases hlt : i < l.length
  ·have g := mapD_get (f := Dt.d) hlt
   have hlt' : ((i : Int) < (l.length : Int)) = True := eq_true (by omega)
   have hst := firL_take (t := sc) hlt
   generalize l.getD i default = q at g hst
   have hqd : q.d = [.int .i64 q.id.o,.int .i64 q.id.s,.int .i64 q.id.i,.int .i64 q.sp.a,.int .i64 q.sp.b] := rfl
   by_cases hq : q.sp.a ≤ sc
   ·rw [if_pos hq,hxs] at hst
    simp +contextual only [x11,mapD_len,hbd,hxd,g,hqd,hlt',eq_true hq,h_miss,h_skip,n48,n38,n28,n34,n23,n24,wrap_succ (show i ≤ big by omega),↓U11,↓XP,↓XU,XW0,XW1,qa,qb,qc,qd,qe,qf,reduceCtorEq,TYX]
    rintro b12 _ _ _ nb nc m ⟨_,m8,m4,m3,m2,mf⟩ hcap
    refine hN ⟨i + 1,[q.id],nb,nc,List.replicate m .any⟩ _ _ ⟨hlt,hst,fun _=>⟨Ne.symm m8,Ne.symm m4,Ne.symm m3,Ne.symm m2,mf,by simp [mapD,Id3.d]; omega⟩⟩ (by dsimp only; omega) ⟨rfl,rfl,rfl,rfl,rfl,rfl,rfl,rfl,trivial⟩ (Sbn.sub ?_)
    exact (List.sublist_cons_self _ _).cons_cons _
   ·rw [if_neg hq,hxs] at hst
    simp +contextual only [x11,mapD_len,hbd,hxd,g,hqd,hlt',eq_false hq,h_miss,h_skip,n48,n38,n28,n34,n23,n24,wrap_succ (show i ≤ big by omega),↓U11,↓XP,↓XU,XW0,XW1,qa,qb,qc,qd,qe,qf,reduceCtorEq,TYX]
    intros
    refine hN ⟨i + 1,[],ob,cap,rest⟩ _ _ ⟨hlt,hst,fun e=>absurd rfl e⟩ (by dsimp only; omega) ⟨rfl,rfl,rfl,rfl,rfl,rfl,rfl,rfl,trivial⟩ (Sbn.sub ?_)
    exact List.sublist_cons_self _ _
  ·have hin : i = l.length := by omega
   subst hin
   rw [List.take_length] at hxs
   rw [hxs] at h
   simp +contextual only [x11,mapD_len,hbd,hxd,↓U11,↓XP,↓XU,XW0,XW1,qa,qb,qc,qd,qe,qf,reduceCtorEq,TYX]
   intros
   refine hE _ _ _ ?_
   simp +contextual only [x11,mapD_len,hbd,hxd,↓U11,↓XP,↓XU,XW0,XW1,qa,qb,qc,qd,qe,qf,reduceCtorEq,TYX]
   refine gh_intro (Fz.view (s := 10) (xs := []) rfl) ?_
   simp +contextual only [x11,mapD_len,hbd,hxd,↓U11,↓XP,↓XU,XW0,XW1,qa,qb,qc,qd,qe,qf,reduceCtorEq,TYX]
   refine f_sort0 rfl ?_
   simp +contextual only [x11,mapD_len,hbd,hxd,h_miss,h_skip,n48,n38,n28,n34,n23,n24,Ne.symm n48,dl_s,e_hit,e_miss n48,e_miss (Ne.symm n48),↓U11,↓XP,↓XU,XW0,XW1,qa,qb,qc,qd,qe,qf,reduceCtorEq,TYX]
   refine ⟨.slc [],b4,.cells [.int .i64 0,.int .i64 0],.cells [.int .i64 0,.int .i64 0],?_,.inr (by simp),?_,fun H1 h1=>f_compact0 (l := []) (by simp) ⟨rfl,(set_self h1).symm⟩,?_⟩
   ·rw [h_miss n48,h_miss (Ne.symm n34),h_miss (Ne.symm n24)]
    exact freshH_none h4
   ·rw [h_miss n48]; exact h_hit
   rw [set_self (by rw [h_miss n48]; exact h_hit)]
   simp +contextual only [x11,mapD_len,hbd,hxd,h_miss,h_skip,n48,n38,n28,n34,n23,n24,Ne.symm n48,Ne.symm n34,Ne.symm n24,freshH_none h4,↓U11,↓XP,↓XU,XW0,XW1,qa,qb,qc,qd,qe,qf,reduceCtorEq,TYX]
   intros
   refine gh_intro Fz.refl ?_
   simp +contextual only [x11,mapD_len,hbd,hxd,h_miss,h_skip,n48,n38,n28,↓U11,↓XP,↓XU,XW0,XW1,qa,qb,qc,qd,qe,qf,reduceCtorEq,TYX]
   exact h
 ·have hO : ∀ i,outD ⟨i,xs,ob,cap,rest⟩ = .hgs ob xs.length cap := fun _=>by unfold outD; rw [if_neg h0]
  have hH : ∀ i,outH ⟨i,xs,ob,cap,rest⟩ = [(ob,.cells ((mapD Id3.d xs).flatten ++ rest))] := fun _=>by unfold outH; rw [if_neg h0]
  obtain ⟨o8,o4,o3,o2,of_,ocap⟩ := hob h0
  simp only [hO,hH,List.cons_append,List.nil_append]
  show xcode _ _ [z 0,z 1,z 2,z 3,.ptr b4 0,z 5,z 6,z 7,.ptr b8 0,.bool si,.hgs ob xs.length cap,z 11,z 12,z 13,z 14,z 15,z 16,z 17,z 18,z 19,z 20,z 21,.slc (mapD Dt.d l),.int .i64 l.length,.int .i64 ((i : Nat) : Int),z 25,z 26,z 27,z 28,z 29,z 30,z 31,z 32,z 33,z 34,z 35,z 36,z 37,z 38,z 39,z 40,z 41,z 42,z 43,z 44,z 45] _ K
  by_cases hlt : i < l.length
  ·have g := mapD_get (f := Dt.d) hlt
   have hlt' : ((i : Int) < (l.length : Int)) = True := eq_true (by omega)
   have hst := firL_take (t := sc) hlt
   generalize l.getD i default = q at g hst
   have hqd : q.d = [.int .i64 q.id.o,.int .i64 q.id.s,.int .i64 q.id.i,.int .i64 q.sp.a,.int .i64 q.sp.b] := rfl
   by_cases hq : q.sp.a ≤ sc
   ·rw [if_pos hq,hxs] at hst
    simp +contextual only [x11,mapD_len,hbd,hxd,g,hqd,hlt',eq_true hq,h_miss,h_skip,n48,n38,n28,n34,n23,n24,o8,o4,Ne.symm o8,Ne.symm o4,wrap_succ (show i ≤ big by omega),↓U11,↓XP,↓XU,XW0,XW1,qa,qb,qc,qd,qe,qf,reduceCtorEq,TYX]
    rintro b12 ⟨oc,m8,m4,m3,m2,mf⟩ _ _
    refine ⟨ocap,by omega,by rw [id_take]; exact id_plain,fun nb nc m hnf hcap=>?_⟩
    simp only [e_miss oc,e_hit,id_take] at hnf ⊢
    obtain ⟨k12,k8,k4,k3,k2,kf⟩ : nb ≠ b12 ∧ nb ≠ b8 ∧ nb ≠ b4 ∧ nb ≠ b3 ∧ nb ≠ b2 ∧ freshH H nb := by
     simpa [freshH] using hnf
    have hne : xs ++ [q.id] ≠ [] := by simp
    refine hN ⟨i + 1,xs ++ [q.id],nb,nc,List.replicate m .any⟩ _ _ ⟨hlt,hst,fun _=>⟨k8,k4,k3,k2,kf,by dsimp only; rw [List.length_append,id_flat,List.length_append,List.length_replicate]; simp only [List.length_cons,List.length_nil]; omega⟩⟩ (by dsimp only; omega) ?_ (Sbn.sub ?_)
    ·rw [show outD ⟨i + 1,xs ++ [q.id],nb,nc,List.replicate m .any⟩ = .hgs nb (xs.length + 1) nc by unfold outD; rw [if_neg hne,List.length_append]; rfl]
     exact ⟨rfl,rfl,rfl,rfl,rfl,rfl,rfl,rfl,trivial⟩
    ·rw [show outH ⟨i + 1,xs ++ [q.id],nb,nc,List.replicate m .any⟩ = [(nb,.cells ((mapD Id3.d xs).flatten ++ ([[D.int .i64 q.id.o,.int .i64 q.id.s,.int .i64 q.id.i]].flatten ++ List.replicate m .any)))] by unfold outH; rw [if_neg hne]; simp [mapD,Id3.d]]
     exact (List.sublist_cons_self _ _).cons_cons _
   ·rw [if_neg hq,hxs] at hst
    simp +contextual only [x11,mapD_len,hbd,hxd,g,hqd,hlt',eq_false hq,h_miss,h_skip,n48,n38,n28,n34,n23,n24,o8,o4,Ne.symm o8,Ne.symm o4,wrap_succ (show i ≤ big by omega),↓U11,↓XP,↓XU,XW0,XW1,qa,qb,qc,qd,qe,qf,reduceCtorEq,TYX]
    intros
    refine hN ⟨i + 1,xs,ob,cap,rest⟩ _ _ ⟨hlt,hst,hob⟩ (by dsimp only; omega) (by rw [hO]; exact ⟨rfl,rfl,rfl,rfl,rfl,rfl,rfl,rfl,trivial⟩) (Sbn.sub ?_)
    rw [hH]
    exact List.sublist_cons_self _ _
  ·have hin : i = l.length := by omega
   subst hin
   rw [List.take_length] at hxs
   rw [hxs] at h
   simp +contextual only [x11,mapD_len,hbd,hxd,↓U11,↓XP,↓XU,XW0,XW1,qa,qb,qc,qd,qe,qf,reduceCtorEq,TYX]
   intros
   refine hE _ _ _ ?_
   simp +contextual only [x11,mapD_len,hbd,hxd,↓U11,↓XP,↓XU,XW0,XW1,qa,qb,qc,qd,qe,qf,reduceCtorEq,TYX]
   refine gh_intro (Fz.hgs (s := 10) rfl) ?_
   simp +contextual only [x11,mapD_len,hbd,hxd,↓U11,↓XP,↓XU,XW0,XW1,qa,qb,qc,qd,qe,qf,reduceCtorEq,TYX]
   refine f_sort swo_ordI rfl (by kernel_rfl) (fun x y _ _=>f_order rfl) rfl (by rw [← hxs]; intro x hx; unfold firL at hx; obtain ⟨t,ht,rfl⟩ := List.mem_map.1 hx; exact hok t (List.mem_filter.1 ht).1) (by omega) (fun m2 hp hs=>?_)
   simp +contextual only [x11,mapD_len,hbd,hxd,h_miss,h_skip,n48,n38,n28,n34,n23,n24,o8,o4,Ne.symm o8,Ne.symm o4,Ne.symm n48,dl_s,e_hit,e_miss n48,e_miss (Ne.symm n48),e_miss o8,e_miss o4,e_miss (Ne.symm o8),e_miss (Ne.symm o4),↓U11,↓XP,↓XU,XW0,XW1,qa,qb,qc,qd,qe,qf,reduceCtorEq,TYX]
   have hml : m2.length = xs.length := by rw [hp.length_eq]
   have hpos : 0 < xs.length := List.length_pos_iff.2 h0
   refine ⟨.hsl ob (dd m2).length,ob,.cells (row m2 rest),.cells (row (dd m2 ++ List.replicate (xs.length - (dd m2).length) id0) rest),?_,.inr (by simp),h_hit,fun H1 h1=>ACall.box h1 (f_compactV hml hpos (by omega) ⟨rfl,rfl⟩),?_⟩
   ·rw [h_miss o8,h_miss o3,h_miss o2]
    exact freshH_none of_
   rw [h_set]
   simp +contextual only [x11,mapD_len,hbd,hxd,h_miss,h_skip,n48,n38,n28,n34,n23,n24,Ne.symm n48,o8,o4,Ne.symm o8,Ne.symm o4,↓U11,↓XP,↓XU,XW0,XW1,qa,qb,qc,qd,qe,qf,reduceCtorEq,TYX]
   refine ⟨?_,?_⟩
   ·rw [h_miss (Ne.symm n34),h_miss (Ne.symm n24)]
    exact freshH_none h4
   rw [row_app]
   refine gh_intro (fz_row (s := 5) rfl rfl) ?_
   simp +contextual only [x11,mapD_len,hbd,hxd,h_miss,h_skip,n48,n38,n28,↓U11,↓XP,↓XU,XW0,XW1,qa,qb,qc,qd,qe,qf,reduceCtorEq,TYX]
   rw [dd_srt hp (hs.imp fun {x y} hxy hlt=>hxy (ordI_neg.2 hlt))]
   exact h
end Go.Proofs.Ytffbjejmobhpkaa
end
section
namespace Go.Proofs.Ytffbjejmobhpkaa
open Go Go.Aw
theorem opt_dc {o : Option (List Dt)} : (optD false (.osl 0 0 []) (Option.map dtD o)).wkT = .slc (mapD Dt.d (o.getD [])) := by cases o <;> rfl
def chS (b : Bk) (last : Int) (p : Id3 × Int) (x : Id3) : Id3 × Int :=
 if (senP b x).2 = true ∧ last < (senP b x).1.a ∧ (p.2 = 0 ∨ (senP b x).1.b < p.2 ∨ ((senP b x).1.b = p.2 ∧ ordI x p.1 < 0)) then (x,(senP b x).1.b) else p
def chB (b : Bk) (last : Int) (l : List Id3) : Id3 × Int := l.foldl (chS b last) (id0,0)
def chP (b : Bk) (l : List Id3) : Nat → Int → List Id3
 | 0,_=>[]
 | n + 1,last=>if (chB b last l).2 = 0 then [] else (chB b last l).1 :: chP b l n (chB b last l).2
theorem chB_mem {b : Bk} {last : Int} {l : List Id3} : ∀ {m : List Id3} {p : Id3 × Int},(∀ x ∈ m,x ∈ l) → (p.2 ≠ 0 → p.1 ∈ l ∧ (senP b p.1).2 = true ∧ last < (senP b p.1).1.a ∧ p.2 = (senP b p.1).1.b) → (m.foldl (chS b last) p).2 ≠ 0 →
  (m.foldl (chS b last) p).1 ∈ l ∧ (senP b (m.foldl (chS b last) p).1).2 = true ∧ last < (senP b (m.foldl (chS b last) p).1).1.a ∧ (m.foldl (chS b last) p).2 = (senP b (m.foldl (chS b last) p).1).1.b
 | [],p,_,h,h2=>h h2
 | x :: m,p,hm,h,h2=>by
  refine chB_mem (m := m) (p := chS b last p x) (fun y hy=>hm y (.tail _ hy)) (fun h3=>?_) h2
  unfold chS at h3 ⊢
  split
  ·rename_i hc
   exact ⟨hm x (.head _),hc.1,hc.2.1,rfl⟩
  ·rename_i hc
   rw [if_neg hc] at h3
   exact h h3
def cnt (b : Bk) (l : List Id3) (last : Int) : Nat := (l.filter fun x=>decide (last < (senP b x).1.a)).length
theorem cnt_lt {b : Bk} {last to : Int} {y : Id3} (h1 : last < (senP b y).1.a) (h2 : (senP b y).1.a ≤ to) : ∀ {l : List Id3},y ∈ l → cnt b l to < cnt b l last
 | x :: l,hy=>by
  have hle : ∀ m : List Id3,cnt b m to ≤ cnt b m last := fun m=>by
   induction m with
   | nil=>exact Nat.le_refl _
   | cons z m ih =>
    unfold cnt at ih ⊢
    by_cases a1 : to < (senP b z).1.a
    ·rw [List.filter_cons_of_pos (by simpa using a1),List.filter_cons_of_pos (by simp; omega)]
     simp only [List.length_cons]; omega
    ·rw [List.filter_cons_of_neg (by simpa using a1)]
     by_cases a2 : last < (senP b z).1.a
     ·rw [List.filter_cons_of_pos (by simpa using a2)]; simp only [List.length_cons]; omega
     ·rw [List.filter_cons_of_neg (by simpa using a2)]; exact ih
  have hl := hle l
  rcases List.mem_cons.1 hy with e | hy
  ·subst e
   unfold cnt at hl ⊢
   rw [List.filter_cons_of_neg (by simp; omega),List.filter_cons_of_pos (by simpa using h1)]
   simp only [List.length_cons]; omega
  ·have ih := cnt_lt h1 h2 hy
   unfold cnt at ih ⊢
   by_cases a1 : to < (senP b x).1.a
   ·rw [List.filter_cons_of_pos (by simpa using a1),List.filter_cons_of_pos (by simp; omega)]
    simp only [List.length_cons]; omega
   ·rw [List.filter_cons_of_neg (by simpa using a1)]
    by_cases a2 : last < (senP b x).1.a
    ·rw [List.filter_cons_of_pos (by simpa using a2)]; simp only [List.length_cons]; omega
    ·rw [List.filter_cons_of_neg (by simpa using a2)]; exact ih
structure CoSt where
 out : List Id3
 last : Int
 n : Nat
theorem f_chain {b : Bk} (hb : Small b) (hx : IxOk (ixP b)) {l : List Id3} (hl : l.length ≤ 1073741824) (hle : ∀ x ∈ l,(senP b x).2 = true → (senP b x).1.a ≤ (senP b x).1.b) {H : AH} {R : D → AH → Prop} (h : R (.slc (mapD Id3.d (chP b l (l.length + 1) 0))) H) : ACall Try.prog 23 [.agg b.d,.slc (mapD Id3.d l)] H R := by
 refine ACall.view (b23 fun hf=>?_)
 have hbig := big_eq
 have hbd : b.d = [.slc (mapD En.d b.en),.slc (mapD Sn.d b.sn),.slc (mapD Sr.d b.sr),.slc (mapD Qt.d b.qt),.slc (mapD Spl.d b.sl),.slc (mapD Mg.d b.mg),.slc (mapD Ch.d b.ch)] := rfl
 have hcnt0 : cnt b l 0 ≤ l.length := List.length_filter_le _ _
 simp +contextual only [x23,mapD_len,hbd,↓U23,↓XP,↓XU,XW0,XW1,qa,qb,qc,qd,qe,qf,reduceCtorEq,TYX]
 intro b2 h2
 refine f_evidence hb hx (b := b) ?_
 simp +contextual only [x23,mapD_len,hbd,h_miss,h_skip,↓U23,↓XP,↓XU,XW0,XW1,qa,qb,qc,qd,qe,qf,reduceCtorEq,TYX]
 intros
 simp only [← hbd]
 refine XW.loopS Go.Proofs.Ytffbjejmobhpkaa.hm 70 (fun s : CoSt=>[(1,.slc (mapD Id3.d l)),(5,.mpv (mapE Id3.d dtD (evM b))),(6,.own (mapD Id3.d s.out)),(7,.int .i64 s.last)]) (fun s=>(b2,AO.cells b.d) :: H) (fun s=>s.n) (fun s=>s.out ++ chP b l s.n s.last = chP b l (l.length + 1) 0 ∧ cnt b l s.last < s.n ∧ s.out.length + s.n ≤ l.length + 1) ⟨[],0,l.length + 1⟩ ⟨rfl,by dsimp only; omega,by simp⟩ ⟨rfl,rfl,rfl,rfl,rfl,trivial⟩ rfl ?_
 rintro ⟨out,last,n⟩ z ⟨ho,hc,hn⟩ K hN hE hR
 dsimp only at ho hc hn hN
 obtain ⟨n,rfl⟩ : ∃ m,n = m + 1 := ⟨n - 1,by omega⟩
 show xcode _ _ [z 0,.slc (mapD Id3.d l),z 2,z 3,z 4,.mpv (mapE Id3.d dtD (evM b)),.own (mapD Id3.d out),.int .i64 last,z 8,z 9,z 10,z 11,z 12,z 13,z 14,z 15,z 16,z 17,z 18,z 19,z 20,z 21,z 22,z 23,z 24,z 25,z 26,z 27,z 28,z 29,z 30,z 31,z 32,z 33,z 34,z 35,z 36,z 37,z 38,z 39,z 40,z 41,z 42,z 43,z 44,z 45,z 46,z 47,z 48,z 49,z 50,z 51,z 52,z 53,z 54,z 55,z 56,z 57,z 58,z 59,z 60,z 61,z 62,z 63,z 64,z 65,z 66,z 67,z 68,z 69] ((b2,AO.cells b.d) :: H) K
 simp +contextual only [x23,mapD_len,hbd,h_miss,h_skip,↓U23,↓XP,↓XU,XW0,XW1,qa,qb,qc,qd,qe,qf,reduceCtorEq,TYX]
 simp only [← hbd]
 rintro b8 ⟨n28,h8⟩ _
 refine XW.loopS Go.Proofs.Ytffbjejmobhpkaa.hm 70 (fun i : Nat=>[(1,.slc (mapD Id3.d l)),(5,.mpv (mapE Id3.d dtD (evM b))),(6,.own (mapD Id3.d out)),(7,.int .i64 last),(8,.ptr b8 0),(9,.int .i64 ((l.take i).foldl (chS b last) (id0,0)).2),(16,.slc (mapD Id3.d l)),(17,.int .i64 l.length),(18,.int .i64 ((i : Nat) : Int))]) (fun i=>(b8,AO.cells ((l.take i).foldl (chS b last) (id0,0)).1.d) :: (b2,.cells b.d) :: H) (fun i=>l.length - i) (fun i=>i ≤ l.length) 0 (by omega) ⟨rfl,rfl,rfl,rfl,rfl,rfl,rfl,rfl,rfl,rfl,trivial⟩ rfl ?_
 rintro i z hi K2 hN2 hE2 hR2
 have hN2' := hN2 (i + 1)
 clear hN2
 show xcode _ _ [z 0,.slc (mapD Id3.d l),z 2,z 3,z 4,.mpv (mapE Id3.d dtD (evM b)),.own (mapD Id3.d out),.int .i64 last,.ptr b8 0,.int .i64 ((l.take i).foldl (chS b last) (id0,0)).2,z 10,z 11,z 12,z 13,z 14,z 15,.slc (mapD Id3.d l),.int .i64 l.length,.int .i64 ((i : Nat) : Int),z 19,z 20,z 21,z 22,z 23,z 24,z 25,z 26,z 27,z 28,z 29,z 30,z 31,z 32,z 33,z 34,z 35,z 36,z 37,z 38,z 39,z 40,z 41,z 42,z 43,z 44,z 45,z 46,z 47,z 48,z 49,z 50,z 51,z 52,z 53,z 54,z 55,z 56,z 57,z 58,z 59,z 60,z 61,z 62,z 63,z 64,z 65,z 66,z 67,z 68,z 69] _ K2
 by_cases hlt : i < l.length
 ·have g := mapD_get (f := Id3.d) hlt
  have hlt' : ((i : Int) < (l.length : Int)) = True := eq_true (by omega)
  rw [foldl_take hlt] at hN2'
  generalize hp : (l.take i).foldl (chS b last) (id0,0) = p at hN2' ⊢
  have hxl : l.getD i default ∈ l := by rw [List.getD_eq_getElem?_getD,List.getElem?_eq_getElem hlt]; exact List.getElem_mem hlt
  generalize l.getD i default = x at g hN2' hxl
  have hxd : x.d = [.int .i64 x.o,.int .i64 x.s,.int .i64 x.i] := rfl
  obtain ⟨q,to⟩ := p
  have hqd : q.d = [.int .i64 q.o,.int .i64 q.s,.int .i64 q.i] := rfl
  dsimp only at hN2'
  simp +contextual only [x23,mapD_len,hbd,g,hxd,hqd,hlt',keys_id (x := x),look_id (x := x),opt_dc,h_miss,h_skip,n28,↓U23,↓XP,↓XU,XW0,XW1,qa,qb,qc,qd,qe,qf,reduceCtorEq,TYX]
  rintro b11 ⟨n811,n211,h11⟩ _
  refine f_rise ?_
  have hcs : chS b last (q,to) x = if (senP b x).2 = true ∧ last < (senP b x).1.a ∧ (to = 0 ∨ (senP b x).1.b < to ∨ ((senP b x).1.b = to ∧ ordI x q < 0)) then (x,(senP b x).1.b) else (q,to) := rfl
  rw [hcs] at hN2'
  have hsg : riseP ((lookP (evM b) x).getD []) = senP b x := rfl
  rw [hsg]
  generalize senP b x = sb at hN2' ⊢
  obtain ⟨⟨sa,sc⟩,si⟩ := sb
  have hsd : ∀ u w v,spB (⟨u,w⟩,v) = .tup [.agg [.int .i64 u,.int .i64 w],.bool v] := fun _ _ _=>rfl
  dsimp only at hN2'
  have hbdd := hbd
  have hno : (¬ last < sa ∨ (¬ to = 0 ∧ ¬ sc < to ∧ ¬ (sc = to ∧ ordI x q < 0))) → ¬(true = true ∧ last < sa ∧ (to = 0 ∨ sc < to ∨ (sc = to ∧ ordI x q < 0))) := fun h e=>by
   rcases h with h | ⟨h1,h2,h3⟩
   ·exact h e.2.1
   ·rcases e.2.2 with h | h | h
    ·exact h1 h
    ·exact h2 h
    ·exact h3 h
  cases si with
  | false =>
   rw [if_neg (fun e=>nomatch e.1)] at hN2'
   dsimp only at hN2'
   simp +contextual only [x23,mapD_len,hbd,hsd,hxd,hqd,hbdd, h_miss,h_skip,n28,n811,n211,wrap_succ (show i ≤ big by omega),↓U23,↓XP,↓XU,XW0,XW1,qa,qb,qc,qd,qe,qf,reduceCtorEq,TYX]
   rintro b12 ⟨n12,n128,n122,h12⟩
   intros
   exact hN2' _ _ hlt (by omega) ⟨rfl,rfl,rfl,rfl,rfl,rfl,rfl,rfl,rfl,rfl,trivial⟩ (back_2 rfl)
  | true =>
   by_cases c1 : last < sa
   ·by_cases c2 : to = 0
    ·rw [if_pos ⟨rfl,c1,.inl c2⟩] at hN2'
     dsimp only at hN2'
     simp +contextual only [x23,mapD_len,hbd,hsd,hxd,hqd,hbdd,eq_true c1,eq_true c2,h_miss,h_skip,n28,n811,n211,wrap_succ (show i ≤ big by omega),↓U23,↓XP,↓XU,XW0,XW1,qa,qb,qc,qd,qe,qf,reduceCtorEq,TYX]
     rintro b12 ⟨n12,n128,n122,h12⟩
     simp +contextual only [x23,mapD_len,hbd,hxd,hqd,hbdd,eq_true c1,eq_true c2,e_hit,e_miss n128,e_miss n811,h_miss,h_skip,n28,n811,n211,n12,n128,n122,Ne.symm n12,Ne.symm n128,Ne.symm n811,wrap_succ (show i ≤ big by omega),↓U23,↓XP,↓XU,XW0,XW1,qa,qb,qc,qd,qe,qf,reduceCtorEq,TYX]
     intros
     refine ⟨by rw [h_miss (Ne.symm n28)]; exact freshH_none h8,?_⟩
     exact hN2' _ _ hlt (by omega) ⟨rfl,rfl,rfl,rfl,rfl,rfl,rfl,rfl,rfl,rfl,trivial⟩ (back_2 rfl)
    ·by_cases c3 : sc < to
     ·rw [if_pos ⟨rfl,c1,.inr (.inl c3)⟩] at hN2'
      dsimp only at hN2'
      simp +contextual only [x23,mapD_len,hbd,hsd,hxd,hqd,hbdd,eq_true c1,eq_false c2,eq_true c3,h_miss,h_skip,n28,n811,n211,wrap_succ (show i ≤ big by omega),↓U23,↓XP,↓XU,XW0,XW1,qa,qb,qc,qd,qe,qf,reduceCtorEq,TYX]
      rintro b12 ⟨n12,n128,n122,h12⟩
      simp +contextual only [x23,mapD_len,hbd,hxd,hqd,hbdd,eq_true c1,eq_false c2,eq_true c3,e_hit,e_miss n128,e_miss n811,h_miss,h_skip,n28,n811,n211,n12,n128,n122,Ne.symm n12,Ne.symm n128,Ne.symm n811,wrap_succ (show i ≤ big by omega),↓U23,↓XP,↓XU,XW0,XW1,qa,qb,qc,qd,qe,qf,reduceCtorEq,TYX]
      intros
      refine ⟨by rw [h_miss (Ne.symm n28)]; exact freshH_none h8,?_⟩
      exact hN2' _ _ hlt (by omega) ⟨rfl,rfl,rfl,rfl,rfl,rfl,rfl,rfl,rfl,rfl,trivial⟩ (back_2 rfl)
     ·by_cases c4 : sc = to
      ·by_cases c5 : ordI x q < 0
       ·rw [if_pos ⟨rfl,c1,.inr (.inr ⟨c4,c5⟩)⟩] at hN2'
        dsimp only at hN2'
        simp +contextual only [x23,mapD_len,hbd,hsd,hxd,hqd,hbdd,eq_true c1,eq_false c2,eq_false c3,eq_true c4,eq_true c5,h_miss,h_skip,n28,n811,n211,wrap_succ (show i ≤ big by omega),↓U23,↓XP,↓XU,XW0,XW1,qa,qb,qc,qd,qe,qf,reduceCtorEq,TYX]
        rintro b12 ⟨n12,n128,n122,h12⟩
        intro _ _
        refine f_order ?_
        simp +contextual only [x23,mapD_len,hbd,hxd,hqd,hbdd,eq_true c1,eq_false c2,eq_false c3,eq_true c4,eq_true c5,e_hit,e_miss n128,e_miss n811,h_miss,h_skip,n28,n811,n211,n12,n128,n122,Ne.symm n12,Ne.symm n128,Ne.symm n811,wrap_succ (show i ≤ big by omega),↓U23,↓XP,↓XU,XW0,XW1,qa,qb,qc,qd,qe,qf,reduceCtorEq,TYX]
        intros
        refine ⟨by rw [h_miss (Ne.symm n28)]; exact freshH_none h8,?_⟩
        exact hN2' _ _ hlt (by omega) ⟨rfl,rfl,rfl,rfl,rfl,rfl,rfl,rfl,rfl,rfl,trivial⟩ (back_2 rfl)
       ·rw [if_neg (hno (.inr ⟨c2,c3,fun e=>c5 e.2⟩))] at hN2'
        dsimp only at hN2'
        simp +contextual only [x23,mapD_len,hbd,hsd,hxd,hqd,hbdd,eq_true c1,eq_false c2,eq_false c3,eq_true c4,eq_false c5,h_miss,h_skip,n28,n811,n211,wrap_succ (show i ≤ big by omega),↓U23,↓XP,↓XU,XW0,XW1,qa,qb,qc,qd,qe,qf,reduceCtorEq,TYX]
        rintro b12 ⟨n12,n128,n122,h12⟩
        intro _ _
        refine f_order ?_
        simp +contextual only [x23,mapD_len,hbd,hxd,hqd,hbdd,eq_true c1,eq_false c2,eq_false c3,eq_true c4,eq_false c5,e_hit,e_miss n128,e_miss n811,h_miss,h_skip,n28,n811,n211,n12,n128,n122,Ne.symm n12,Ne.symm n128,Ne.symm n811,wrap_succ (show i ≤ big by omega),↓U23,↓XP,↓XU,XW0,XW1,qa,qb,qc,qd,qe,qf,reduceCtorEq,TYX]
        intros
        exact hN2' _ _ hlt (by omega) ⟨rfl,rfl,rfl,rfl,rfl,rfl,rfl,rfl,rfl,rfl,trivial⟩ (back_2 rfl)
      ·rw [if_neg (hno (.inr ⟨c2,c3,fun e=>c4 e.1⟩))] at hN2'
       dsimp only at hN2'
       simp +contextual only [x23,mapD_len,hbd,hsd,hxd,hqd,hbdd,eq_true c1,eq_false c2,eq_false c3,eq_false c4,h_miss,h_skip,n28,n811,n211,wrap_succ (show i ≤ big by omega),↓U23,↓XP,↓XU,XW0,XW1,qa,qb,qc,qd,qe,qf,reduceCtorEq,TYX]
       rintro b12 ⟨n12,n128,n122,h12⟩
       intros
       exact hN2' _ _ hlt (by omega) ⟨rfl,rfl,rfl,rfl,rfl,rfl,rfl,rfl,rfl,rfl,trivial⟩ (back_2 rfl)
   ·rw [if_neg (hno (.inl c1))] at hN2'
    dsimp only at hN2'
    simp +contextual only [x23,mapD_len,hbd,hsd,hxd,hqd,hbdd,eq_false c1,h_miss,h_skip,n28,n811,n211,wrap_succ (show i ≤ big by omega),↓U23,↓XP,↓XU,XW0,XW1,qa,qb,qc,qd,qe,qf,reduceCtorEq,TYX]
    rintro b12 ⟨n12,n128,n122,h12⟩
    intros
    exact hN2' _ _ hlt (by omega) ⟨rfl,rfl,rfl,rfl,rfl,rfl,rfl,rfl,rfl,rfl,trivial⟩ (back_2 rfl)
 ·have hin : i = l.length := by omega
  subst hin
  simp +contextual only [x23,mapD_len,hbd,↓U23,↓XP,↓XU,XW0,XW1,qa,qb,qc,qd,qe,qf,reduceCtorEq,TYX]
  intros
  refine hE2 _ _ _ ?_
  rw [List.take_length]
  have hch : l.foldl (chS b last) (id0,0) = chB b last l := rfl
  rw [hch]
  have hm := chB_mem (b := b) (last := last) (l := l) (m := l) (p := (id0,0)) (fun _ h=>h) (fun e=>absurd rfl e)
  rw [hch] at hm
  have hcp : chP b l (n + 1) last = if (chB b last l).2 = 0 then [] else (chB b last l).1 :: chP b l n (chB b last l).2 := rfl
  rw [hcp] at ho
  generalize chB b last l = p at hm ho ⊢
  obtain ⟨q,to⟩ := p
  dsimp only at hm ho ⊢
  have hqd : q.d = [.int .i64 q.o,.int .i64 q.s,.int .i64 q.i] := rfl
  by_cases ht : to = 0
  ·rw [if_pos ht,List.append_nil] at ho
   rw [← ho] at h
   simp +contextual only [x23,mapD_len,hbd,ht,↓U23,↓XP,↓XU,XW0,XW1,qa,qb,qc,qd,qe,qf,reduceCtorEq,TYX]
   refine hR _ _ ?_
   simp +contextual only [x23,mapD_len,hbd,w_own,↓U23,↓XP,↓XU,XW0,XW1,qa,qb,qc,qd,qe,qf,reduceCtorEq,TYX]
   exact h
  ·rw [if_neg ht] at ho
   have hlast := cnt_lt (hm ht).2.2.1 (to := to) (by have := hle q (hm ht).1 (hm ht).2.1; have := (hm ht).2.2.2; omega) (hm ht).1
   have hap : mapD Id3.d out ++ [[D.int .i64 q.o,.int .i64 q.s,.int .i64 q.i]] = mapD Id3.d (out ++ [q]) := by rw [← mapD_app]; rfl
   simp +contextual only [x23,mapD_len,hbd,eq_false ht,hqd,hap,h_miss,h_skip,n28,↓U23,↓XP,↓XU,XW0,XW1,qa,qb,qc,qd,qe,qf,reduceCtorEq,TYX]
   refine ⟨mapD_sz fun _=>rfl,by omega,hN ⟨out ++ [q],to,n⟩ _ _ ⟨by dsimp only; rw [List.append_assoc]; exact ho,by dsimp only; omega,by dsimp only; rw [List.length_append,List.length_singleton]; omega⟩ (by dsimp only; omega) ⟨rfl,rfl,rfl,rfl,rfl,trivial⟩ (back_1 rfl)⟩
end Go.Proofs.Ytffbjejmobhpkaa
end
section
namespace Go.Aw
open Go Go.RowKit
theorem Fz.eptr {F : List D} {H : AH} {s b : Nat} {cs : List D} (hF : F.getD s .any = .ptr b 0) (hg : getH H b = some (.cells cs)) (hpl : ∀ d ∈ cs,plain d = true) : Fz F H (F.set s (.eptr cs)) (eraseH H b) := by
 intro K w t hs
 obtain ⟨hp,c,T,c1,c2,c3⟩ := hs.hrel.ok b _ (getH_mem hg)
 obtain ⟨hkeep,hkr⟩ := let_go (x := .imm) hs.krel hp (by simp)
 have hlt : s < F.length := by
  rcases Nat.lt_or_ge s F.length with h' | h'
  ·exact h'
  ·simp [List.getD,List.getElem?_eq_none h'] at hF
 have hFs : F[s]? = some (.ptr b 0) := by rw [← hF]; simp [List.getD,List.getElem?_eq_getElem hlt]
 refine ⟨_,hkeep.fk (fun h=>h),hkr,⟨(erase_sub.map (·.1)).nodup hs.hrel.nd,fun c' o' hm=>AO.keep hkeep (erase_ne hs.hrel.nd hm) (fun _ h=>h) (hs.hrel.ok c' o' (erase_sub.subset hm))⟩,by simpa using hs.len,fun i d v hd hv'=>?_⟩
 rcases getElem?_set_some hd with ⟨rfl,rfl,_⟩ | ⟨hne,hd⟩
 ·have hv := RepV.ptr_inv (show RepV K w (.ptr b 0) v from hs.slot s _ v hFs hv')
  rw [hv]
  refine RepV.viewO (RepV.eptr cs b 0 (fun j=>(c[j]?).getD default) ⟨(Array.getElem?_eq_some_iff.1 c1).1,by rw [setK_same]; trivial⟩ (fun j d hj=>?_) (fun j d hj=>?_) (fun j d hj=>?_))
  ·obtain ⟨u,e1,_,_⟩ := c3 j d hj
   rw [Nat.zero_add,cell_at c1,e1]; rfl
  ·obtain ⟨u,e1,e2,_⟩ := c3 j d hj
   rw [e1]; exact e2
  ·obtain ⟨u,e1,_,e3⟩ := c3 j d hj
   rw [e1]
   exact (plain_rep (hpl d (List.mem_of_getElem? hj)) e3).mono hkeep.ext
 ·exact (hs.slot i d v hd hv').keep hkeep (fun _ h=>h)
end Go.Aw
namespace Go.Proofs.Ytffbjejmobhpkaa
open Go Go.Aw
def ordS (b : Bk) (x y : Id3) : Int :=
 if (senP b x).2 = (senP b y).2 then orL [cmpZ (senP b x).1.a (senP b y).1.a,cmpZ (senP b x).1.b (senP b y).1.b,ordI x y]
 else if (senP b x).2 = true then -1 else 1
theorem f_ordS {b : Bk} {x y : Id3} {H : AH} {R : D → AH → Prop} (h : R (.int .i64 (ordS b x y)) H) : ACall Try.prog 43 [.agg x.d,.agg y.d,.eptr [.mpv (mapE Id3.d dtD (evM b))]] H R := by
 refine b43 fun hf=>?_
 have hxd : x.d = [.int .i64 x.o,.int .i64 x.s,.int .i64 x.i] := rfl
 have hyd : y.d = [.int .i64 y.o,.int .i64 y.s,.int .i64 y.i] := rfl
 simp +contextual only [x43,mapD_len,hxd,hyd,keys_id (x := x),look_id (x := x),opt_dt,↓U43,↓XP,↓XU,XW0,XW1,qa,qb,qc,qd,qe,qf,reduceCtorEq,TYX]
 rintro b3 h3 b4 ⟨n34,h4⟩
 intros
 have hsg : ∀ x,riseP ((lookP (evM b) x).getD []) = senP b x := fun _=>rfl
 refine f_rise ?_
 rw [hsg]
 have ho : ordS b x y = if (senP b x).2 = (senP b y).2 then orL [cmpZ (senP b x).1.a (senP b y).1.a,cmpZ (senP b x).1.b (senP b y).1.b,ordI x y] else if (senP b x).2 = true then -1 else 1 := rfl
 rw [ho] at h
 generalize senP b x = sx at h ⊢
 obtain ⟨⟨xa,xb⟩,xi⟩ := sx
 have hsd : ∀ u w v,spB (⟨u,w⟩,v) = .tup [.agg [.int .i64 u,.int .i64 w],.bool v] := fun _ _ _=>rfl
 simp +contextual only [x43,mapD_len,hxd,hyd,hsd,keys_id (x := y),look_id (x := y),opt_dt,h_miss,h_skip,n34,↓U43,↓XP,↓XU,XW0,XW1,qa,qb,qc,qd,qe,qf,reduceCtorEq,TYX]
 rintro b6 ⟨n46,n36,h6⟩
 intros
 refine f_rise ?_
 rw [hsg]
 generalize senP b y = sy at h ⊢
 obtain ⟨⟨ya,yb⟩,yi⟩ := sy
 dsimp only at h
 have hb1 : (false == true) = false := rfl
 have hb2 : (true == false) = false := rfl
 have hfin : R (.int .i64 (orL [cmpZ xa ya,cmpZ xb yb,ordI x y])) H → ∀ b8 : Nat,(¬ b6 = b8 ∧ ¬ b4 = b8 ∧ ¬ b3 = b8 ∧ freshH H b8) → True := fun _ _ _=>trivial
 cases xi <;> cases yi
 ·rw [if_pos rfl] at h
  simp +contextual only [x43,mapD_len,hxd,hyd,hsd,h_miss,h_skip,n34,n46,n36,↓U43,↓XP,↓XU,XW0,XW1,qa,qb,qc,qd,qe,qf,reduceCtorEq,TYX]
  rintro b8 ⟨n68,n48,n38,h8⟩
  intros
  refine ⟨_,fun _ _=>cmp_int ⟨rfl,rfl⟩,?_⟩
  simp +contextual only [x43,mapD_len,hxd,hyd,h_miss,h_skip,n34,n46,n36,n68,n48,n38,↓U43,↓XP,↓XU,XW0,XW1,qa,qb,qc,qd,qe,qf,reduceCtorEq,TYX]
  intros
  refine ⟨_,fun _ _=>cmp_int ⟨rfl,rfl⟩,?_⟩
  simp +contextual only [x43,mapD_len,hxd,hyd,h_miss,h_skip,n34,n46,n36,n68,n48,n38,↓U43,↓XP,↓XU,XW0,XW1,qa,qb,qc,qd,qe,qf,reduceCtorEq,TYX]
  intros
  refine ⟨_,fun _ _=>f_order ⟨rfl,rfl⟩,?_⟩
  simp +contextual only [x43,mapD_len,hxd,hyd,h_miss,h_skip,n34,n46,n36,n68,n48,n38,↓U43,↓XP,↓XU,XW0,XW1,qa,qb,qc,qd,qe,qf,reduceCtorEq,TYX]
  intros
  refine ⟨_,fun _ _=>cmp_or (l := [cmpZ xa ya,cmpZ xb yb,ordI x y]) ⟨rfl,rfl⟩,?_⟩
  simp +contextual only [x43,mapD_len,hxd,hyd,h_miss,h_skip,n34,n46,n36,n68,n48,n38,↓U43,↓XP,↓XU,XW0,XW1,qa,qb,qc,qd,qe,qf,reduceCtorEq,TYX]
  intros
  exact h
 ·rw [if_neg (by decide),if_neg (by decide)] at h
  simp +contextual only [x43,mapD_len,hxd,hyd,hsd,hb1,hb2,h_miss,h_skip,n34,n46,n36,↓U43,↓XP,↓XU,XW0,XW1,qa,qb,qc,qd,qe,qf,reduceCtorEq,TYX]
  intros
  exact h
 ·rw [if_neg (by decide),if_pos rfl] at h
  simp +contextual only [x43,mapD_len,hxd,hyd,hsd,hb1,hb2,h_miss,h_skip,n34,n46,n36,↓U43,↓XP,↓XU,XW0,XW1,qa,qb,qc,qd,qe,qf,reduceCtorEq,TYX]
  intros
  exact h
 ·rw [if_pos rfl] at h
  simp +contextual only [x43,mapD_len,hxd,hyd,hsd,h_miss,h_skip,n34,n46,n36,↓U43,↓XP,↓XU,XW0,XW1,qa,qb,qc,qd,qe,qf,reduceCtorEq,TYX]
  rintro b8 ⟨n68,n48,n38,h8⟩
  intros
  refine ⟨_,fun _ _=>cmp_int ⟨rfl,rfl⟩,?_⟩
  simp +contextual only [x43,mapD_len,hxd,hyd,h_miss,h_skip,n34,n46,n36,n68,n48,n38,↓U43,↓XP,↓XU,XW0,XW1,qa,qb,qc,qd,qe,qf,reduceCtorEq,TYX]
  intros
  refine ⟨_,fun _ _=>cmp_int ⟨rfl,rfl⟩,?_⟩
  simp +contextual only [x43,mapD_len,hxd,hyd,h_miss,h_skip,n34,n46,n36,n68,n48,n38,↓U43,↓XP,↓XU,XW0,XW1,qa,qb,qc,qd,qe,qf,reduceCtorEq,TYX]
  intros
  refine ⟨_,fun _ _=>f_order ⟨rfl,rfl⟩,?_⟩
  simp +contextual only [x43,mapD_len,hxd,hyd,h_miss,h_skip,n34,n46,n36,n68,n48,n38,↓U43,↓XP,↓XU,XW0,XW1,qa,qb,qc,qd,qe,qf,reduceCtorEq,TYX]
  intros
  refine ⟨_,fun _ _=>cmp_or (l := [cmpZ xa ya,cmpZ xb yb,ordI x y]) ⟨rfl,rfl⟩,?_⟩
  simp +contextual only [x43,mapD_len,hxd,hyd,h_miss,h_skip,n34,n46,n36,n68,n48,n38,↓U43,↓XP,↓XU,XW0,XW1,qa,qb,qc,qd,qe,qf,reduceCtorEq,TYX]
  intros
  exact h
def ltS (b : Bk) (x y : Id3) : Prop :=
 if (senP b x).2 = (senP b y).2 then (senP b x).1.a < (senP b y).1.a ∨ (senP b x).1.a = (senP b y).1.a ∧ ((senP b x).1.b < (senP b y).1.b ∨ (senP b x).1.b = (senP b y).1.b ∧ x.lt y)
 else (senP b x).2 = true
theorem orL3 {a c d : Int} : orL [a,c,d] < 0 ↔ a < 0 ∨ a = 0 ∧ (c < 0 ∨ c = 0 ∧ d < 0) := by
 unfold orL orL orL orL
 repeat' split
 all_goals omega
theorem cmpZ_neg {a c : Int} : cmpZ a c < 0 ↔ a < c := by unfold cmpZ; repeat' split <;> omega
theorem cmpZ_zero {a c : Int} : cmpZ a c = 0 ↔ a = c := by unfold cmpZ; repeat' split <;> omega
theorem ordS_neg {b : Bk} {x y : Id3} : ordS b x y < 0 ↔ ltS b x y := by
 unfold ordS ltS
 split
 ·rw [orL3,cmpZ_neg,cmpZ_zero,cmpZ_neg,cmpZ_zero,ordI_neg]
 ·split
  ·rename_i h; simp [h]
  ·rename_i h; simp [h]
theorem ltS_irr {b : Bk} {x : Id3} : ¬ ltS b x x := by
 unfold ltS
 rw [if_pos rfl]
 rintro (h | ⟨_,h | ⟨_,h⟩⟩)
 ·omega
 ·omega
 ·exact lt_irr h
theorem ltS_trans {b : Bk} {x y z : Id3} (h1 : ltS b x y) (h2 : ltS b y z) : ltS b x z := by
 unfold ltS at *
 generalize senP b x = sx at *
 generalize senP b y = sy at *
 generalize senP b z = sz at *
 obtain ⟨⟨a1,b1⟩,i1⟩ := sx
 obtain ⟨⟨a2,b2⟩,i2⟩ := sy
 obtain ⟨⟨a3,b3⟩,i3⟩ := sz
 dsimp only at *
 have key : (a1 < a2 ∨ a1 = a2 ∧ (b1 < b2 ∨ b1 = b2 ∧ x.lt y)) → (a2 < a3 ∨ a2 = a3 ∧ (b2 < b3 ∨ b2 = b3 ∧ y.lt z)) → (a1 < a3 ∨ a1 = a3 ∧ (b1 < b3 ∨ b1 = b3 ∧ x.lt z)) := by
  rintro (h | ⟨h,h' | ⟨h',h''⟩⟩) (g | ⟨g,g' | ⟨g',g''⟩⟩)
  ·exact .inl (by omega)
  ·exact .inl (by omega)
  ·exact .inl (by omega)
  ·exact .inl (by omega)
  ·exact .inr ⟨by omega,.inl (by omega)⟩
  ·exact .inr ⟨by omega,.inl (by omega)⟩
  ·exact .inl (by omega)
  ·exact .inr ⟨by omega,.inl (by omega)⟩
  ·exact .inr ⟨by omega,.inr ⟨by omega,lt_trans h'' g''⟩⟩
 cases i1 <;> cases i2 <;> cases i3 <;> simp at h1 h2 ⊢ <;> exact key h1 h2
theorem ltS_tri {b : Bk} {x y : Id3} : ltS b x y ∨ x = y ∨ ltS b y x := by
 unfold ltS
 generalize senP b x = sx
 generalize senP b y = sy
 obtain ⟨⟨a1,b1⟩,i1⟩ := sx
 obtain ⟨⟨a2,b2⟩,i2⟩ := sy
 dsimp only
 have key : (a1 < a2 ∨ a1 = a2 ∧ (b1 < b2 ∨ b1 = b2 ∧ x.lt y)) ∨ x = y ∨ (a2 < a1 ∨ a2 = a1 ∧ (b2 < b1 ∨ b2 = b1 ∧ y.lt x)) := by
  rcases Int.lt_trichotomy a1 a2 with h | h | h
  ·exact .inl (.inl h)
  ·rcases Int.lt_trichotomy b1 b2 with g | g | g
   ·exact .inl (.inr ⟨h,.inl g⟩)
   ·rcases lt_tri (a := x) (b := y) with k | k | k
    ·exact .inl (.inr ⟨h,.inr ⟨g,k⟩⟩)
    ·exact .inr (.inl k)
    ·exact .inr (.inr (.inr ⟨h.symm,.inr ⟨g.symm,k⟩⟩))
   ·exact .inr (.inr (.inr ⟨h.symm,.inl g⟩))
  ·exact .inr (.inr (.inl h))
 cases i1 <;> cases i2 <;> simp <;> exact key
theorem swo_ordS {b : Bk} : Go.Sort.SWO (ltOf (ordS b)) := by
 have e : ∀ x y,ltOf (ordS b) x y = decide (ordS b x y < 0) := fun x y=>rfl
 refine ⟨fun x=>?_,fun x y z h1 h2=>?_,fun x y z h1 h2=>?_⟩
 ·rw [e]; exact decide_eq_false fun h=>ltS_irr (ordS_neg.1 h)
 ·rw [e] at *; simp only [decide_eq_true_eq,ordS_neg] at *; exact ltS_trans h1 h2
 ·rw [e] at *
  simp only [decide_eq_false_iff_not,ordS_neg] at *
  intro h3
  rcases ltS_tri (b := b) (x := x) (y := y) with h | h | h
  ·exact h1 h
  ·subst h; exact h2 h3
  ·exact h2 (ltS_trans h h3)
theorem f_Order {b : Bk} (hb : Small b) (hx : IxOk (ixP b)) {l : List Id3} (hl : l.length ≤ 1073741824) (hok : ∀ x ∈ l,OkI x) {H : AH} {R : D → AH → Prop} (h : ∀ m,m.Perm l → m.Pairwise (fun x y=>¬ ltS b y x) → R (.slc (mapD Id3.d (dd m))) H) : ACall Try.prog 21 [.agg b.d,.slc (mapD Id3.d l)] H R := by
 refine b21 fun hf=>?_
 have hbig := big_eq
 have hbd : b.d = [.slc (mapD En.d b.en),.slc (mapD Sn.d b.sn),.slc (mapD Sr.d b.sr),.slc (mapD Qt.d b.qt),.slc (mapD Spl.d b.sl),.slc (mapD Mg.d b.mg),.slc (mapD Ch.d b.ch)] := rfl
 simp +contextual only [x21,mapD_len,hbd,↓U21,↓XP,↓XU,XW0,XW1,qa,qb,qc,qd,qe,qf,reduceCtorEq,TYX]
 intro b2 h2
 refine f_evidence hb hx (b := b) ?_
 simp +contextual only [x21,mapD_len,hbd,h_miss,h_skip,↓U21,↓XP,↓XU,XW0,XW1,qa,qb,qc,qd,qe,qf,reduceCtorEq,TYX]
 rintro b5 ⟨n25,h5⟩
 refine f_clone hl (fun e=>?_) (fun e b6 cap m hb6=>?_)
 ·subst e
  simp +contextual only [x21,mapD_len,hbd,↓U21,↓XP,↓XU,XW0,XW1,qa,qb,qc,qd,qe,qf,reduceCtorEq,TYX]
  intros
  refine gh_intro (Fz.eptr (s := 5) (b := b5) (cs := [.mpv (mapE Id3.d dtD (evM b))]) rfl h_hit (by simp [plain])) ?_
  simp +contextual only [x21,mapD_len,hbd,↓U21,↓XP,↓XU,XW0,XW1,qa,qb,qc,qd,qe,qf,reduceCtorEq,TYX]
  refine f_sort0 rfl ?_
  simp +contextual only [x21,mapD_len,hbd,↓U21,↓XP,↓XU,XW0,XW1,qa,qb,qc,qd,qe,qf,reduceCtorEq,TYX]
  refine f_compact0 (l := []) (by simp) ?_
  simp +contextual only [x21,mapD_len,hbd,↓U21,↓XP,↓XU,XW0,XW1,qa,qb,qc,qd,qe,qf,reduceCtorEq,TYX]
  intros
  exact h [] (List.Perm.refl _) List.Pairwise.nil
 ·simp +contextual only [x21,mapD_len,hbd,↓U21,↓XP,↓XU,XW0,XW1,qa,qb,qc,qd,qe,qf,reduceCtorEq,TYX]
  intros
  have n56 := freshH_get hb6 h_hit
  refine gh_intro (Fz.trans (Fz.hgs (s := 6) rfl) (Fz.eptr (s := 5) (b := b5) (cs := [.mpv (mapE Id3.d dtD (evM b))]) rfl (by rw [h_miss n56]; exact h_hit) (by simp [plain]))) ?_
  simp +contextual only [x21,mapD_len,hbd,e_miss n56,e_hit,↓U21,↓XP,↓XU,XW0,XW1,qa,qb,qc,qd,qe,qf,reduceCtorEq,TYX]
  refine f_sort (swo_ordS (b := b)) rfl (by kernel_rfl) (fun x y _ _=>f_ordS rfl) rfl hok (by omega) (fun m2 hp hs=>?_)
  simp +contextual only [x21,mapD_len,hbd,↓U21,↓XP,↓XU,XW0,XW1,qa,qb,qc,qd,qe,qf,reduceCtorEq,TYX]
  refine f_compact (l := m2) hp.length_eq (List.length_pos_iff.2 e) (by omega) ?_
  simp +contextual only [x21,mapD_len,hbd,↓U21,↓XP,↓XU,XW0,XW1,qa,qb,qc,qd,qe,qf,reduceCtorEq,TYX]
  intros
  exact h m2 hp (hs.imp fun {x y} hxy hlt=>hxy (ordS_neg.2 hlt))
end Go.Proofs.Ytffbjejmobhpkaa
end
section
namespace Go.Proofs.Ytffbjejmobhpkaa
open Go Go.Aw
def datA (o : Option Sp) (v : Vl) : Option Sp := if OkSpan v.sp then some (mrg (o.getD v.sp) v.sp) else o
def rDat (l : List Sr) (x : Id3) : Option Sp := match l with
 | []=>none
 | s :: r=>if s.id = x then s.date.foldl datA none else rDat r x
theorem look_datV {id x : Id3} : ∀ {vs : List Vl} {out : List (Id3 × Sp)},lookP (vs.foldl (datV id) out) x = if x = id then vs.foldl datA (lookP out id) else lookP out x
 | [],out=>by
  by_cases h : x = id
  ·subst h; simp
  ·simp [h]
 | v :: vs,out=>by
  rw [List.foldl_cons,List.foldl_cons,look_datV]
  unfold datV datA
  by_cases hv : OkSpan v.sp
  ·simp only [if_pos hv]
   rw [look_upd,look_upd]
   by_cases h : x = id
   ·simp [h]
   ·simp [h]
  ·simp only [if_neg hv]
theorem dat_met {x : Id3} : ∀ {l : List Sr} {st : List (Id3 × Sp) × List (Id3 × Bool)},(lookP st.2 x).getD false = true → lookP (l.foldl datS st).1 x = lookP st.1 x
 | [],st,h=>rfl
 | s :: l,st,h=>by
  rw [List.foldl_cons]
  have hs : (lookP (datS st s).2 x).getD false = true ∧ lookP (datS st s).1 x = lookP st.1 x := by
   unfold datS
   by_cases hm : (lookP st.2 s.id).getD false = true
   ·rw [if_pos hm]; exact ⟨h,rfl⟩
   ·rw [if_neg hm]
    have hne : x ≠ s.id := fun e=>hm (e ▸ h)
    dsimp only
    rw [look_upd,look_datV,if_neg hne,if_neg hne]
    exact ⟨h,rfl⟩
  rw [dat_met hs.1,hs.2]
theorem dat_new {x : Id3} : ∀ {l : List Sr} {st : List (Id3 × Sp) × List (Id3 × Bool)},(lookP st.2 x).getD false = false → lookP st.1 x = none → lookP (l.foldl datS st).1 x = rDat l x
 | [],st,h,h1=>h1
 | s :: l,st,h,h1=>by
  rw [List.foldl_cons]
  unfold rDat
  by_cases hx : s.id = x
  ·subst hx
   rw [if_pos rfl]
   have hs : datS st s = (s.date.foldl (datV s.id) st.1,updP st.2 s.id true) := by unfold datS; rw [if_neg (by rw [h]; decide)]
   rw [hs,dat_met (by dsimp only; rw [look_upd,if_pos rfl]; rfl)]
   dsimp only
   rw [look_datV,if_pos rfl,h1]
  ·rw [if_neg hx]
   have hne : x ≠ s.id := fun e=>hx e.symm
   refine dat_new ?_ ?_
   ·unfold datS
    split
    ·exact h
    ·dsimp only; rw [look_upd,if_neg hne]; exact h
   ·unfold datS
    split
    ·exact h1
    ·dsimp only; rw [look_datV,if_neg hne]; exact h1
theorem look_dates {b : Bk} {x : Id3} : lookP (datesP b.sr) x = rDat b.sr x := dat_new rfl rfl
end Go.Proofs.Ytffbjejmobhpkaa
end
section
namespace Go.Proofs.Ytffbjejmobhpkaa
open Go Go.Aw
def evX (b : Bk) (x : Id3) (q : Qt) : Option Dt := match evQ b q with
 | some (y,t)=>if y = x then some t else none
 | none=>none
theorem look_evS {b : Bk} {x : Id3} : ∀ {l : List Qt} {m : List (Id3 × List Dt)},(lookP (l.foldl (evS b) m) x).getD [] = (lookP m x).getD [] ++ l.filterMap (evX b x)
 | [],m=>by simp
 | q :: l,m=>by
  rw [List.foldl_cons,look_evS,List.filterMap_cons]
  unfold evX evS
  cases he : evQ b q with
  | none=>rfl
  | some p =>
   obtain ⟨y,t⟩ := p
   dsimp only
   rw [look_upd]
   by_cases h : y = x
   ·subst h
    simp
   ·have h' : x ≠ y := fun e=>h e.symm
    simp [h,h']
theorem look_evM {b : Bk} {x : Id3} : (lookP (evM b) x).getD [] = b.qt.filterMap (evX b x) := by
 rw [show evM b = b.qt.foldl (evS b) [] from rfl,look_evS]
 simp [lookP]
end Go.Proofs.Ytffbjejmobhpkaa
end
section
namespace Go.Proofs.Ytffbjejmobhpkaa
open Go Go.Aw
theorem ex_gen : Gen exB := by
 refine ⟨by decide,by decide,?_,by decide,?_,by decide,?_,by decide,?_,by decide,?_⟩
 ·intro s hs
  simp only [exB,exSrs,List.mem_cons,List.not_mem_nil,or_false] at hs
  rcases hs with rfl | rfl | rfl | rfl <;> simp [exSr]
 ·intro q hq
  simp only [exB,exQts,List.mem_cons,List.not_mem_nil,or_false] at hq
  rcases hq with rfl | rfl | rfl | rfl <;> exact okz (by simp [exQt,exI])
 ·intro s hs; cases hs
 ·intro s hs; cases hs
 ·intro s hs; cases hs
theorem ex_1 : senP exB (exI 1) = (⟨10,17⟩,true) := by decide
theorem ex_2 : senP exB (exI 2) = (⟨18,30⟩,true) := by decide
theorem ex_3 : senP exB (exI 3) = (⟨40,40⟩,true) := by decide
theorem ex_f : firP exB (exI 1) = [exI 5,exI 6] := by decide
theorem ex_c : chP exB [exI 3,exI 2,exI 1] 4 0 = [exI 1,exI 2,exI 3] := by decide
end Go.Proofs.Ytffbjejmobhpkaa
end
