/- The statement of EvidenceDates in its second form: for every input within the bound the call returns true, writes nothing that was there, and its arguments read as before. Conditions: none but the statement's own bound. -/
import Derived.Test.YtffbjejmobhpkaaE24
set_option linter.unusedVariables false
set_option linter.unusedSimpArgs false
set_option maxRecDepth 100000
set_option maxHeartbeats 16000000
open Nat renaming reduceSub → qa,reduceAdd → qb,reduceMul → qc,reduceEqDiff → qd,reduceLeDiff → qe,reduceBEq → qf
section
namespace Go.Proofs.Ytffbjejmobhpkaa
open Go Go.Aw
structure StrictO (r : Id3 → Id3 → Prop) : Prop where
 irr : ∀ x,¬ r x x
 tr : ∀ {x y z},r x y → r y z → r x z
 tri : ∀ {x y},r x y ∨ x = y ∨ r y x
theorem StrictO.ext {r : Id3 → Id3 → Prop} (hr : StrictO r) : ∀ {a b : List Id3},a.Pairwise r → b.Pairwise r → (∀ x,x ∈ a ↔ x ∈ b) → a = b
 | [],[],_,_,_=>rfl
 | [],y :: b,_,_,h=>absurd ((h y).2 (.head _)) (by simp)
 | x :: a,[],_,_,h=>absurd ((h x).1 (.head _)) (by simp)
 | x :: a,y :: b,ha,hb,h=>by
  have ha' := List.pairwise_cons.1 ha
  have hb' := List.pairwise_cons.1 hb
  have hxy : x = y := by
   rcases List.mem_cons.1 ((h x).1 (.head _)) with h1 | h1
   ·exact h1
   ·rcases List.mem_cons.1 ((h y).2 (.head _)) with h2 | h2
    ·exact h2.symm
    ·exact absurd (hr.tr (ha'.1 y h2) (hb'.1 x h1)) (hr.irr x)
  subst hxy
  rw [hr.ext ha'.2 hb'.2 fun z=>?_]
  have hz := h z
  constructor
  ·intro hm
   rcases List.mem_cons.1 (hz.1 (.tail _ hm)) with h1 | h1
   ·subst h1; exact absurd (ha'.1 _ hm) (hr.irr _)
   ·exact h1
  ·intro hm
   rcases List.mem_cons.1 (hz.2 (.tail _ hm)) with h1 | h1
   ·subst h1; exact absurd (hb'.1 _ hm) (hr.irr _)
   ·exact h1
theorem StrictO.ddgo {r : Id3 → Id3 → Prop} (hr : StrictO r) : ∀ {p : Id3} {l : List Id3},(p :: l).Pairwise (fun x y=>¬ r y x) → (∀ y ∈ dd.go p l,r p y) ∧ (dd.go p l).Pairwise r ∧ ∀ y,y ∈ p :: dd.go p l ↔ y ∈ p :: l
 | p,[],_=>⟨by simp [dd.go],by simp [dd.go],fun y=>by simp [dd.go]⟩
 | p,x :: l,h=>by
  have h1 := List.pairwise_cons.1 h
  rw [dd.go]
  split
  ·rename_i e
   subst e
   obtain ⟨q1,q2,q3⟩ := hr.ddgo (p := x) (l := l) h1.2
   refine ⟨q1,q2,fun y=>?_⟩
   rw [q3 y]
   simp
  ·rename_i e
   obtain ⟨q1,q2,q3⟩ := hr.ddgo (p := x) (l := l) h1.2
   have hpx : r p x := (hr.tri (x := p) (y := x)).elim id fun h=>h.elim (fun h=>absurd h.symm e) fun h=>absurd h (h1.1 x (.head _))
   refine ⟨fun y hy=>?_,List.pairwise_cons.2 ⟨q1,q2⟩,fun y=>?_⟩
   ·rcases List.mem_cons.1 hy with h3 | h3
    ·exact h3 ▸ hpx
    ·exact hr.tr hpx (q1 y h3)
   ·rw [List.mem_cons,q3 y]
    simp
theorem StrictO.dd {r : Id3 → Id3 → Prop} (hr : StrictO r) {m : List Id3} (h : m.Pairwise (fun x y=>¬ r y x)) : (dd m).Pairwise r ∧ ∀ y,y ∈ Go.Proofs.Ytffbjejmobhpkaa.dd m ↔ y ∈ m := by
 cases m with
 | nil=>simp [Go.Proofs.Ytffbjejmobhpkaa.dd]
 | cons x l =>
  obtain ⟨q1,q2,q3⟩ := hr.ddgo h
  exact ⟨List.pairwise_cons.2 ⟨q1,q2⟩,q3⟩
theorem ltS_strict {b : Bk} : StrictO (ltS b) := ⟨fun _=>ltS_irr,ltS_trans,ltS_tri⟩
theorem ord_of {b : Bk} {m l a : List Id3} (hp : m.Perm l) (h : m.Pairwise (fun x y=>¬ ltS b y x)) (ha : a.Pairwise (ltS b)) (hm : ∀ y,y ∈ a ↔ y ∈ l) : dd m = a := by
 obtain ⟨h1,h2⟩ := ltS_strict.dd h
 exact ltS_strict.ext h1 ha fun y=>by rw [h2,hp.mem_iff,hm]
instance {b : Bk} {x y : Id3} : Decidable (ltS b x y) := by unfold ltS; exact inferInstance
theorem ex_o : [exI 1,exI 2,exI 3].Pairwise (ltS exB) := by decide
end Go.Proofs.Ytffbjejmobhpkaa
end
section
namespace Go.Proofs.Ytffbjejmobhpkaa
open Go Go.Aw
theorem ex_sm : Small exB := ex_gen.small
theorem ex_ix : IxOk (ixP exB) := ex_gen.ix
theorem okS {b : Bk} (hg : Gen b) {x : Id3} : (senL b x).length ≤ 1073741824 ∧ ∀ t ∈ senL b x,OkI t.id := by
 have h1 : senL b x = b.qt.filterMap (evX b x) := look_evM
 refine ⟨?_,fun t ht=>?_⟩
 ·rw [h1]
  have := List.length_filterMap_le (evX b x) b.qt
  have := hg.qt
  omega
 ·rw [h1] at ht
  obtain ⟨q,hq,he⟩ := List.mem_filterMap.1 ht
  unfold evX at he
  split at he
  ·rename_i y t' hh
   split at he
   ·injection he with he
    subst he
    unfold evQ at hh
    split at hh
    ·split at hh
     ·injection hh with hh
      injection hh with _ hh
      rw [← hh]
      exact hg.qi q hq
     ·cases hh
    ·cases hh
   ·cases he
  ·cases he
theorem f_lives {H : AH} {R : D → AH → Prop} (h : R (.bool true) H) : ACall Try.prog 17 [] H R := by
 refine b17 fun hf=>?_
 have hbig := big_eq
 simp +contextual only [x17,mapD_len,↓U17,↓XP,↓XU,XW0,XW1,qa,qb,qc,qd,qe,qf,reduceCtorEq,TYX]
 refine f_example ?_
 have hbd : exB.d = [.slc (mapD En.d exB.en),.slc (mapD Sn.d exB.sn),.slc (mapD Sr.d exB.sr),.slc (mapD Qt.d exB.qt),.slc (mapD Spl.d exB.sl),.slc (mapD Mg.d exB.mg),.slc (mapD Ch.d exB.ch)] := rfl
 have hid : ∀ i : Int,Id3.d ⟨0,1,i⟩ = [.int .i64 0,.int .i64 1,.int .i64 i] := fun _=>rfl
 simp +contextual only [x17,mapD_len,hbd,↓U17,↓XP,↓XU,XW0,XW1,qa,qb,qc,qd,qe,qf,reduceCtorEq,TYX]
 intro b1 h1
 refine ⟨_,fun _ _=>f_id ⟨rfl,rfl⟩,?_⟩
 simp +contextual only [x17,mapD_len,hid,↓U17,↓XP,↓XU,XW0,XW1,qa,qb,qc,qd,qe,qf,reduceCtorEq,TYX]
 refine ⟨_,fun _ _=>f_first (b := exB) ex_sm ex_ix (x := exI 1) (okS ex_gen).1 (okS ex_gen).2 ⟨rfl,rfl⟩,?_⟩
 rw [ex_1,ex_f]
 have hs1 : Sp.d ⟨10,17⟩ = [.int .i64 10,.int .i64 17] := rfl
 simp +contextual only [x17,mapD_len,hs1,↓U17,↓XP,↓XU,XW0,XW1,qa,qb,qc,qd,qe,qf,reduceCtorEq,TYX]
 refine fun _=>⟨by omega,?_⟩
 rintro b2 ⟨n12,h2⟩
 intros
 refine ⟨_,fun _ _=>f_id ⟨rfl,rfl⟩,?_⟩
 simp +contextual only [x17,mapD_len,hid,h_miss,h_skip,n12,↓U17,↓XP,↓XU,XW0,XW1,qa,qb,qc,qd,qe,qf,reduceCtorEq,TYX]
 refine ⟨_,fun _ _=>f_attested (b := exB) ex_sm ex_ix (x := exI 1) (t := 12) ⟨rfl,rfl⟩,?_⟩
 rw [show attP exB (exI 1) 12 = (false,true) by unfold attP; rw [ex_1]; rfl]
 simp +contextual only [x17,mapD_len,h_miss,h_skip,n12,↓U17,↓XP,↓XU,XW0,XW1,qa,qb,qc,qd,qe,qf,reduceCtorEq,TYX]
 refine ⟨_,fun _ _=>f_id ⟨rfl,rfl⟩,?_⟩
 simp +contextual only [x17,mapD_len,hid,h_miss,h_skip,n12,↓U17,↓XP,↓XU,XW0,XW1,qa,qb,qc,qd,qe,qf,reduceCtorEq,TYX]
 refine ⟨_,fun _ _=>f_attested (b := exB) ex_sm ex_ix (x := exI 1) (t := 17) ⟨rfl,rfl⟩,?_⟩
 rw [show attP exB (exI 1) 17 = (true,true) by unfold attP; rw [ex_1]; rfl]
 simp +contextual only [x17,mapD_len,h_miss,h_skip,n12,↓U17,↓XP,↓XU,XW0,XW1,qa,qb,qc,qd,qe,qf,reduceCtorEq,TYX]
 refine ⟨_,fun _ _=>f_id ⟨rfl,rfl⟩,?_⟩
 simp +contextual only [x17,mapD_len,hid,h_miss,h_skip,n12,↓U17,↓XP,↓XU,XW0,XW1,qa,qb,qc,qd,qe,qf,reduceCtorEq,TYX]
 refine ⟨_,fun _ _=>f_attested (b := exB) ex_sm ex_ix (x := exI 1) (t := 9) ⟨rfl,rfl⟩,?_⟩
 rw [show attP exB (exI 1) 9 = (false,false) by unfold attP; rw [ex_1]; rfl]
 simp +contextual only [x17,mapD_len,h_miss,h_skip,n12,↓U17,↓XP,↓XU,XW0,XW1,qa,qb,qc,qd,qe,qf,reduceCtorEq,TYX]
 refine f_id ?_
 simp +contextual only [x17,mapD_len,hid,h_miss,h_skip,n12,↓U17,↓XP,↓XU,XW0,XW1,qa,qb,qc,qd,qe,qf,reduceCtorEq,TYX]
 refine f_id ?_
 simp +contextual only [x17,mapD_len,hid,h_miss,h_skip,n12,↓U17,↓XP,↓XU,XW0,XW1,qa,qb,qc,qd,qe,qf,reduceCtorEq,TYX]
 refine f_id ?_
 simp +contextual only [x17,mapD_len,hid,h_miss,h_skip,n12,↓U17,↓XP,↓XU,XW0,XW1,qa,qb,qc,qd,qe,qf,reduceCtorEq,TYX]
 refine f_id ?_
 simp +contextual only [x17,mapD_len,hid,h_miss,h_skip,n12,↓U17,↓XP,↓XU,XW0,XW1,qa,qb,qc,qd,qe,qf,reduceCtorEq,TYX]
 refine f_id ?_
 simp +contextual only [x17,mapD_len,hid,h_miss,h_skip,n12,↓U17,↓XP,↓XU,XW0,XW1,qa,qb,qc,qd,qe,qf,reduceCtorEq,TYX]
 refine f_id ?_
 simp +contextual only [x17,mapD_len,hid,h_miss,h_skip,n12,↓U17,↓XP,↓XU,XW0,XW1,qa,qb,qc,qd,qe,qf,reduceCtorEq,TYX]
 refine f_id ?_
 simp +contextual only [x17,mapD_len,hid,h_miss,h_skip,n12,↓U17,↓XP,↓XU,XW0,XW1,qa,qb,qc,qd,qe,qf,reduceCtorEq,TYX]
 refine f_id ?_
 simp +contextual only [x17,mapD_len,hid,h_miss,h_skip,n12,↓U17,↓XP,↓XU,XW0,XW1,qa,qb,qc,qd,qe,qf,reduceCtorEq,TYX]
 refine f_same (l := [exI 5,exI 6]) (q := [exI 5,exI 6]) ?_
 rw [decide_eq_true rfl]
 simp +contextual only [x17,mapD_len,h_miss,h_skip,n12,↓U17,↓XP,↓XU,XW0,XW1,qa,qb,qc,qd,qe,qf,reduceCtorEq,TYX]
 refine f_Order (b := exB) ex_sm ex_ix (l := [exI 3,exI 2,exI 1]) (by simp) (fun x hx=>by simp only [List.mem_cons,List.not_mem_nil,or_false] at hx; rcases hx with rfl | rfl | rfl <;> exact okz (by simp [exI])) fun m hp hs=>?_
 rw [ord_of hp hs ex_o (fun y=>List.Perm.mem_iff (by decide))]
 simp +contextual only [x17,mapD_len,h_miss,h_skip,n12,↓U17,↓XP,↓XU,XW0,XW1,qa,qb,qc,qd,qe,qf,reduceCtorEq,TYX]
 intros
 refine f_same (l := [exI 1,exI 2,exI 3]) (q := [exI 1,exI 2,exI 3]) ?_
 rw [decide_eq_true rfl]
 simp +contextual only [x17,mapD_len,h_miss,h_skip,n12,↓U17,↓XP,↓XU,XW0,XW1,qa,qb,qc,qd,qe,qf,reduceCtorEq,TYX]
 refine f_chain (b := exB) ex_sm ex_ix (l := [exI 3,exI 2,exI 1]) (by simp) (fun x hx=>by simp only [List.mem_cons,List.not_mem_nil,or_false] at hx; rcases hx with rfl | rfl | rfl <;> simp [ex_1,ex_2,ex_3]) ?_
 rw [show chP exB [exI 3,exI 2,exI 1] ([exI 3,exI 2,exI 1].length + 1) 0 = [exI 1,exI 2,exI 3] from ex_c]
 simp +contextual only [x17,mapD_len,h_miss,h_skip,n12,↓U17,↓XP,↓XU,XW0,XW1,qa,qb,qc,qd,qe,qf,reduceCtorEq,TYX]
 intros
 refine f_same (l := [exI 1,exI 2,exI 3]) (q := [exI 1,exI 2,exI 3]) ?_
 rw [decide_eq_true rfl]
 simp +contextual only [x17,mapD_len,h_miss,h_skip,n12,↓U17,↓XP,↓XU,XW0,XW1,qa,qb,qc,qd,qe,qf,reduceCtorEq,TYX]
 refine ⟨_,fun _ _=>f_id ⟨rfl,rfl⟩,?_⟩
 simp +contextual only [x17,mapD_len,hid,h_miss,h_skip,n12,↓U17,↓XP,↓XU,XW0,XW1,qa,qb,qc,qd,qe,qf,reduceCtorEq,TYX]
 refine ⟨_,fun _ _=>f_id ⟨rfl,rfl⟩,?_⟩
 simp +contextual only [x17,mapD_len,hid,h_miss,h_skip,n12,↓U17,↓XP,↓XU,XW0,XW1,qa,qb,qc,qd,qe,qf,reduceCtorEq,TYX]
 refine ⟨_,fun _ _=>f_before (b := exB) ex_sm ex_ix (x := exI 1) (y := exI 2) ⟨rfl,rfl⟩,?_⟩
 rw [show befP exB (exI 1) (exI 2) = true by unfold befP; rw [ex_1,ex_2]; rfl]
 simp +contextual only [x17,mapD_len,h_miss,h_skip,n12,↓U17,↓XP,↓XU,XW0,XW1,qa,qb,qc,qd,qe,qf,reduceCtorEq,TYX]
 refine ⟨_,fun _ _=>f_id ⟨rfl,rfl⟩,?_⟩
 simp +contextual only [x17,mapD_len,hid,h_miss,h_skip,n12,↓U17,↓XP,↓XU,XW0,XW1,qa,qb,qc,qd,qe,qf,reduceCtorEq,TYX]
 refine ⟨_,fun _ _=>f_id ⟨rfl,rfl⟩,?_⟩
 simp +contextual only [x17,mapD_len,hid,h_miss,h_skip,n12,↓U17,↓XP,↓XU,XW0,XW1,qa,qb,qc,qd,qe,qf,reduceCtorEq,TYX]
 refine ⟨_,fun _ _=>f_before (b := exB) ex_sm ex_ix (x := exI 2) (y := exI 1) ⟨rfl,rfl⟩,?_⟩
 rw [show befP exB (exI 2) (exI 1) = false by unfold befP; rw [ex_1,ex_2]; rfl]
 simp +contextual only [x17,mapD_len,h_miss,h_skip,n12,↓U17,↓XP,↓XU,XW0,XW1,qa,qb,qc,qd,qe,qf,reduceCtorEq,TYX]
 exact h
end Go.Proofs.Ytffbjejmobhpkaa
end
section
namespace Go.Proofs.Ytffbjejmobhpkaa
open Go Go.Aw
end Go.Proofs.Ytffbjejmobhpkaa
end
section
namespace Go.Proofs.Ytffbjejmobhpkaa
open Go Go.Aw
def lastI (l : List Id3) : Id3 := l.getD (l.length - 1) default
theorem rSen_mem {b : Bk} {x : Id3} (h : rSen b x = true) : x ∈ b.sn.map Sn.id := by
 unfold rSen at h
 obtain ⟨s,hs,he⟩ := List.any_eq_true.1 h
 exact List.mem_map.2 ⟨s,hs,by simpa using he⟩
structure WayR (b : Bk) (way : List Id3) : Prop where
 ne : way ≠ []
 nd : way.Nodup
 sen : ∀ y ∈ way.dropLast,rSen b y = true
theorem WayR.len {b : Bk} {way : List Id3} (h : WayR b way) : way.length ≤ b.sn.length + 1 := by
 have h1 : way.dropLast.Nodup := (List.dropLast_sublist way).nodup h.nd
 have h2 := len_le_of_sub (b := b.sn.map Sn.id) h1 fun y hy=>rSen_mem (h.sen y hy)
 rw [List.length_dropLast,List.length_map] at h2
 omega
theorem last_split {way : List Id3} (h : way ≠ []) : way = way.dropLast ++ [lastI way] := by
 have h1 : 0 < way.length := List.length_pos_iff.2 h
 rw [show lastI way = way.getLast h by
  unfold lastI
  rw [List.getD_eq_getElem?_getD,List.getElem?_eq_getElem (by omega),List.getLast_eq_getElem]
  rfl]
 exact (List.dropLast_concat_getLast h).symm
theorem WayR.add {b : Bk} {way : List Id3} (h : WayR b way) {x : Id3} (hs : rSen b (lastI way) = true) (hx : x ∉ way) : WayR b (way ++ [x]) := by
 refine ⟨by simp,?_,fun y hy=>?_⟩
 ·rw [List.nodup_append]
  exact ⟨h.nd,by simp,fun a ha c hc e=>hx (by rw [← List.mem_singleton.1 hc,← e]; exact ha)⟩
 ·rw [List.dropLast_concat] at hy
  rw [last_split h.ne] at hy
  rcases List.mem_append.1 hy with hy | hy
  ·exact h.sen y hy
  ·rw [List.mem_singleton.1 hy]; exact hs
end Go.Proofs.Ytffbjejmobhpkaa
end
section
namespace Go.Proofs.Ytffbjejmobhpkaa
open Go Go.Aw
end Go.Proofs.Ytffbjejmobhpkaa
end
section
namespace Go.Proofs.Ytffbjejmobhpkaa
open Go Go.Aw
structure EvRel (e : Ev) (r : REv) : Prop where
 n : r.n = e.n
 pos : 0 ≤ e.n
 all : r.all = srt e.all
 z : e.n = 0 → e.one = [] ∧ r.one = []
 o : e.n = 1 → r.one = e.one
theorem EvRel.zero : EvRel ev0 ⟨0,[],[]⟩ := ⟨rfl,by decide,rfl,fun _=>⟨rfl,rfl⟩,fun h=>by cases h⟩
end Go.Proofs.Ytffbjejmobhpkaa
end
section
namespace Go.Proofs.Ytffbjejmobhpkaa
open Go Go.Aw
def rDt (b : Bk) (x : Id3) : Sp × Bool := ((rDat b.sr x).getD sp0,(rDat b.sr x).isSome)
structure DaLp where
 k : Nat
 o : Option Sp
theorem rDat_cons {s : Sr} {r : List Sr} {x : Id3} : rDat (s :: r) x = if s.id = x then s.date.foldl datA none else rDat r x := rfl
theorem f_rDate {b : Bk} (hb : SmallR b) {x : Id3} {H : AH} {R : D → AH → Prop} (h : R (spB (rDt b x)) H) : ACall Try.prog 27 [.agg b.d,.agg x.d] H R := by
 refine b27 fun hf=>?_
 have hbig := big_eq
 have hsr := hb.sr
 have hbd : b.d = [.slc (mapD En.d b.en),.slc (mapD Sn.d b.sn),.slc (mapD Sr.d b.sr),.slc (mapD Qt.d b.qt),.slc (mapD Spl.d b.sl),.slc (mapD Mg.d b.mg),.slc (mapD Ch.d b.ch)] := rfl
 have hxd : x.d = [.int .i64 x.o,.int .i64 x.s,.int .i64 x.i] := rfl
 have hk : ∀ u v w,rDt b x = (⟨u,v⟩,w) → R (.tup [.agg [.int .i64 u,.int .i64 v],.bool w]) H := fun u v w e=>by rw [e] at h; exact h
 simp +contextual only [x27,mapD_len,hbd,hxd,↓U27,↓XP,↓XU,XW0,XW1,qa,qb,qc,qd,qe,qf,reduceCtorEq,TYX]
 rintro b2 h2 b3 ⟨n23,h3⟩ b4 ⟨n34,n24,h4⟩
 simp only [← hbd,← hxd]
 refine XW.loopS Go.Proofs.Ytffbjejmobhpkaa.hm 68 (fun i : Nat=>[(2,.ptr b2 0),(3,.ptr b3 0),(4,.ptr b4 0),(6,.int .i64 ((i : Nat) : Int))]) (fun i=>(b4,AO.cells [.int .i64 0,.int .i64 0]) :: (b3,AO.cells x.d) :: (b2,.cells b.d) :: H) (fun i=>b.sr.length - i) (fun i=>i ≤ b.sr.length ∧ rDat (b.sr.drop i) x = rDat b.sr x) 0 ⟨by omega,rfl⟩ ⟨rfl,rfl,rfl,rfl,rfl,trivial⟩ rfl ?_
 rintro i z ⟨hi,hn⟩ K hN hE hR
 show xcode _ _ [z 0,z 1,.ptr b2 0,.ptr b3 0,.ptr b4 0,z 5,.int .i64 ((i : Nat) : Int),z 7,z 8,z 9,z 10,z 11,z 12,z 13,z 14,z 15,z 16,z 17,z 18,z 19,z 20,z 21,z 22,z 23,z 24,z 25,z 26,z 27,z 28,z 29,z 30,z 31,z 32,z 33,z 34,z 35,z 36,z 37,z 38,z 39,z 40,z 41,z 42,z 43,z 44,z 45,z 46,z 47,z 48,z 49,z 50,z 51,z 52,z 53,z 54,z 55,z 56,z 57,z 58,z 59,z 60,z 61,z 62,z 63,z 64,z 65,z 66,z 67] _ K
 by_cases hlt : i < b.sr.length
 ·have g := mapD_get (f := Sr.d) hlt
  have hlt' : ((i : Int) < (b.sr.length : Int)) = True := eq_true (by omega)
  rw [drop_cons hlt,rDat_cons] at hn
  have hdl := hb.dt _ (getD_mem hlt)
  generalize b.sr.getD i default = s at g hn hdl
  have hsd : s.d = [.int .i64 s.id.o,.int .i64 s.id.s,.int .i64 s.id.i,.str s.title,.str s.owner,.slc (mapD Vl.d s.date)] := rfl
  have hd := id_dec (x := s.id) (y := x)
  by_cases h0 : s.id = x
  ·rw [if_pos h0] at hn
   simp +contextual only [x27,mapD_len,hbd,hxd,g,hsd,hd,hlt',eq_true h0,h_miss,h_skip,n23,n34,n24,↓U27,↓XP,↓XU,XW0,XW1,qa,qb,qc,qd,qe,qf,reduceCtorEq,TYX]
   rintro _ b7 ⟨n47,n37,n27,h7⟩
   simp only [← hbd,← hxd]
   refine XW.loopS Go.Proofs.Ytffbjejmobhpkaa.hm 68 (fun s : DaLp=>[(2,.ptr b2 0),(3,.ptr b3 0),(4,.ptr b4 0),(6,.int .i64 ((i : Nat) : Int)),(7,.ptr b7 0),(8,.bool s.o.isSome),(9,.int .i64 ((s.k : Nat) : Int))]) (fun s=>(b7,AO.cells (s.o.getD sp0).d) :: (b4,AO.cells [.int .i64 0,.int .i64 0]) :: (b3,AO.cells x.d) :: (b2,.cells b.d) :: H) (fun t=>s.date.length - t.k) (fun t=>t.k ≤ s.date.length ∧ (s.date.take t.k).foldl datA none = t.o) ⟨0,none⟩ ⟨by simp,rfl⟩ ⟨rfl,rfl,rfl,rfl,rfl,rfl,rfl,rfl,trivial⟩ rfl ?_
   rintro ⟨k,o⟩ z ⟨hk1,ho⟩ K2 hN2 hE2 hR2
   dsimp only at hk1 ho
   show xcode _ _ [z 0,z 1,.ptr b2 0,.ptr b3 0,.ptr b4 0,z 5,.int .i64 ((i : Nat) : Int),.ptr b7 0,.bool o.isSome,.int .i64 ((k : Nat) : Int),z 10,z 11,z 12,z 13,z 14,z 15,z 16,z 17,z 18,z 19,z 20,z 21,z 22,z 23,z 24,z 25,z 26,z 27,z 28,z 29,z 30,z 31,z 32,z 33,z 34,z 35,z 36,z 37,z 38,z 39,z 40,z 41,z 42,z 43,z 44,z 45,z 46,z 47,z 48,z 49,z 50,z 51,z 52,z 53,z 54,z 55,z 56,z 57,z 58,z 59,z 60,z 61,z 62,z 63,z 64,z 65,z 66,z 67] ((b7,AO.cells (o.getD sp0).d) :: (b4,AO.cells [.int .i64 0,.int .i64 0]) :: (b3,AO.cells x.d) :: (b2,.cells b.d) :: H) K2
   have hod : (o.getD sp0).d = [.int .i64 (o.getD sp0).a,.int .i64 (o.getD sp0).b] := rfl
   by_cases hlt2 : k < s.date.length
   ·have g2 := mapD_get (f := Vl.d) hlt2
    have hlt2' : ((k : Int) < (s.date.length : Int)) = True := eq_true (by omega)
    have hs2 := foldl_takeR (f := datA) (b := none) hlt2
    rw [ho] at hs2
    generalize s.date.getD k default = v at g2 hs2
    have hvd : v.d = [.str v.text,.int .i64 v.n,.int .i64 v.sp.a,.int .i64 v.sp.b,.int .i64 v.by_.o,.int .i64 v.by_.s,.int .i64 v.by_.i] := rfl
    simp +contextual only [x27,mapD_len,hbd,hxd,g,hsd,hlt',g2,hvd,hlt2',hod,h_miss,h_skip,n23,n34,n24,n47,n37,n27,↓U27,↓XP,↓XU,XW0,XW1,qa,qb,qc,qd,qe,qf,reduceCtorEq,TYX]
    intros
    rename_i b10 qb10
    obtain ⟨n710,n410,n310,n210,h10⟩ := qb10
    refine f_rSpan (x := v.sp) ?_
    by_cases hv : OkSpan v.sp
    ·rw [show datA o v = some (mrg (o.getD v.sp) v.sp) by unfold datA; rw [if_pos hv]] at hs2
     cases o with
     | none =>
      simp +contextual only [x27,mapD_len,hbd,hxd,decide_eq_true hv,hod,Option.isSome_none,Option.getD_none,h_miss,h_skip,n23,n34,n24,n47,n37,n27,n710,n410,n310,n210,wrap_succ (show k ≤ big by omega),↓U27,↓XP,↓XU,XW0,XW1,qa,qb,qc,qd,qe,qf,reduceCtorEq,TYX]
      simp only [← hbd,← hxd]
      intros
      rw [show mrg ((none : Option Sp).getD v.sp) v.sp = v.sp by simp [mrg]] at hs2
      refine hN2 ⟨k + 1,some v.sp⟩ _ _ ⟨hlt2,hs2⟩ (by dsimp only; omega) ⟨rfl,rfl,rfl,rfl,rfl,rfl,rfl,rfl,trivial⟩ (back_1 rfl)
     | some w =>
      simp +contextual only [x27,mapD_len,hbd,hxd,decide_eq_true hv,hod,Option.isSome_some,Option.getD_some,h_miss,h_skip,n23,n34,n24,n47,n37,n27,n710,n410,n310,n210,wrap_succ (show k ≤ big by omega),↓U27,↓XP,↓XU,XW0,XW1,qa,qb,qc,qd,qe,qf,reduceCtorEq,TYX]
      simp only [← hbd,← hxd]
      intros
      refine hN2 ⟨k + 1,some (mrg w v.sp)⟩ _ _ ⟨hlt2,hs2⟩ (by dsimp only; omega) ⟨rfl,rfl,rfl,rfl,rfl,rfl,rfl,rfl,trivial⟩ (back_1 rfl)
    ·rw [show datA o v = o by unfold datA; rw [if_neg hv]] at hs2
     simp +contextual only [x27,mapD_len,hbd,hxd,decide_eq_false hv,h_miss,h_skip,n23,n34,n24,n47,n37,n27,n710,n410,n310,n210,wrap_succ (show k ≤ big by omega),↓U27,↓XP,↓XU,XW0,XW1,qa,qb,qc,qd,qe,qf,reduceCtorEq,TYX]
     simp only [← hbd,← hxd,← hod]
     intros
     exact hN2 ⟨k + 1,o⟩ _ _ ⟨hlt2,hs2⟩ (by dsimp only; omega) ⟨rfl,rfl,rfl,rfl,rfl,rfl,rfl,rfl,trivial⟩ (back_1 rfl)
   ·have hkn : k = s.date.length := by omega
    subst hkn
    rw [List.take_length] at ho
    have he : rDt b x = (o.getD sp0,o.isSome) := by unfold rDt; rw [← hn,ho]
    generalize o.isSome = os at he
    generalize o.getD sp0 = og at he hod
    simp +contextual only [x27,mapD_len,hbd,hxd,g,hsd,hlt',hod,h_miss,h_skip,n23,n34,n24,n47,n37,n27,↓U27,↓XP,↓XU,XW0,XW1,qa,qb,qc,qd,qe,qf,reduceCtorEq,TYX]
    intros
    refine hE2 _ _ _ ?_
    simp +contextual only [x27,mapD_len,hbd,hxd,hod,h_miss,h_skip,n23,n34,n24,n47,n37,n27,↓U27,↓XP,↓XU,XW0,XW1,qa,qb,qc,qd,qe,qf,reduceCtorEq,TYX]
    refine hR _ _ ?_
    simp +contextual only [x27,mapD_len,hbd,hxd,hod,h_miss,h_skip,n23,n34,n24,n47,n37,n27,↓U27,↓XP,↓XU,XW0,XW1,qa,qb,qc,qd,qe,qf,reduceCtorEq,TYX]
    exact hk _ _ _ he
  ·rw [if_neg h0] at hn
   simp +contextual only [x27,mapD_len,hbd,hxd,g,hsd,hd,hlt',eq_false h0,h_miss,h_skip,n23,n34,n24,wrap_succ (show i ≤ big by omega),↓U27,↓XP,↓XU,XW0,XW1,qa,qb,qc,qd,qe,qf,reduceCtorEq,TYX]
   simp only [← hbd,← hxd]
   intros
   exact hN (i + 1) _ _ ⟨hlt,hn⟩ (by omega) ⟨rfl,rfl,rfl,rfl,rfl,trivial⟩ (back_0 rfl)
 ·have hik : i = b.sr.length := by omega
  subst hik
  rw [List.drop_length] at hn
  have he : rDt b x = (sp0,false) := by unfold rDt; rw [← hn]; rfl
  simp +contextual only [x27,mapD_len,hbd,hxd,h_miss,h_skip,n23,n34,n24,↓U27,↓XP,↓XU,XW0,XW1,qa,qb,qc,qd,qe,qf,reduceCtorEq,TYX]
  intros
  refine hE _ _ _ ?_
  simp +contextual only [x27,mapD_len,hbd,hxd,h_miss,h_skip,n23,n34,n24,↓U27,↓XP,↓XU,XW0,XW1,qa,qb,qc,qd,qe,qf,reduceCtorEq,TYX]
  exact hk _ _ _ he
end Go.Proofs.Ytffbjejmobhpkaa
end
section
namespace Go.Proofs.Ytffbjejmobhpkaa
open Go Go.Aw
end Go.Proofs.Ytffbjejmobhpkaa
end
section
namespace Go.Proofs.Ytffbjejmobhpkaa
open Go Go.Aw
end Go.Proofs.Ytffbjejmobhpkaa
end
section
namespace Go.Proofs.Ytffbjejmobhpkaa
open Go Go.Aw
end Go.Proofs.Ytffbjejmobhpkaa
end
section
namespace Go.Proofs.Ytffbjejmobhpkaa
open Go Go.Aw
end Go.Proofs.Ytffbjejmobhpkaa
end
section
namespace Go.Proofs.Ytffbjejmobhpkaa
open Go Go.Aw
end Go.Proofs.Ytffbjejmobhpkaa
end
section
namespace Go.Proofs.Ytffbjejmobhpkaa
open Go Go.Aw
theorem dat_eq {b : Bk} {x : Id3} : datP b x = rDt b x := by unfold datP rDt; rw [look_dates]
end Go.Proofs.Ytffbjejmobhpkaa
end
section
namespace Go.Proofs.Ytffbjejmobhpkaa
open Go Go.Aw
theorem l_mDates {F : List D} {b : Bk} {b9 : Nat} {H : AH} {Q : AQ} (hb : SmallR b) (hF : Fr 79 [(9,.ptr b9 0),(10,.int .i64 (((0 : Nat) : Int) - 1))] F) (hQ : ∀ F',Fr 79 [(9,.ptr b9 0)] F' → Q (.exit 0) F' ((b9,.cells b.d) :: H)) : XW Try.prog x7v_L7 F ((b9,.cells b.d) :: H) Q := by
 have hbig := big_eq
 have hbd : b.d = [.slc (mapD En.d b.en),.slc (mapD Sn.d b.sn),.slc (mapD Sr.d b.sr),.slc (mapD Qt.d b.qt),.slc (mapD Spl.d b.sl),.slc (mapD Mg.d b.mg),.slc (mapD Ch.d b.ch)] := rfl
 refine XW.loopS Go.Proofs.Ytffbjejmobhpkaa.hm 79 (fun i : Nat=>[(9,.ptr b9 0),(10,.int .i64 (((i : Nat) : Int) - 1))]) (fun i=>(b9,AO.cells b.d) :: H) (fun i=>7 - i) (fun i=>i ≤ 7) 0 (by omega) hF rfl ?_
 rintro i z hi K hN hE hR
 have hN' := hN (i + 1)
 clear hN
 show xcode _ _ [z 0,z 1,z 2,z 3,z 4,z 5,z 6,z 7,z 8,.ptr b9 0,.int .i64 (((i : Nat) : Int) - 1),z 11,z 12,z 13,z 14,z 15,z 16,z 17,z 18,z 19,z 20,z 21,z 22,z 23,z 24,z 25,z 26,z 27,z 28,z 29,z 30,z 31,z 32,z 33,z 34,z 35,z 36,z 37,z 38,z 39,z 40,z 41,z 42,z 43,z 44,z 45,z 46,z 47,z 48,z 49,z 50,z 51,z 52,z 53,z 54,z 55,z 56,z 57,z 58,z 59,z 60,z 61,z 62,z 63,z 64,z 65,z 66,z 67,z 68,z 69,z 70,z 71,z 72,z 73,z 74,z 75,z 76,z 77,z 78] _ K
 by_cases hlt : i < 7
 ·have hlt' : (((i : Nat) : Int) - 1 < 6) = True := eq_true (by omega)
  have hw : IntKind.i64.wrap (((i : Nat) : Int) - 1 + 1) = ((i + 1 : Nat) : Int) - 1 := by rw [wrap_id (by omega) (by omega)]; omega
  simp +contextual only [x7v,mapD_len,hbd,hlt',↓U7v,↓XP,↓XU,XW0,XW1,qa,qb,qc,qd,qe,qf,reduceCtorEq,TYX]
  intro b11
  rintro ⟨n911,h11⟩
  have hcall := fun H R h=>f_rDate hb (H := H) (R := R) (x := ⟨6,1,((i : Nat) : Int) - 1⟩) h
  have hcal2 := fun H R h=>f_date (b := b) (H := H) (R := R) (x := ⟨6,1,((i : Nat) : Int) - 1⟩) h
  simp only [dat_eq] at hcal2
  generalize rDt b ⟨6,1,((i : Nat) : Int) - 1⟩ = rd at hcall hcal2
  obtain ⟨⟨u,w⟩,v⟩ := rd
  have hsd : spB (⟨u,w⟩,v) = .tup [.agg [.int .i64 u,.int .i64 w],.bool v] := rfl
  refine hcal2 _ _ ?_
  simp +contextual only [x7v,mapD_len,hbd,hsd,h_miss,h_skip,n911,↓U7v,↓XP,↓XU,XW0,XW1,qa,qb,qc,qd,qe,qf,reduceCtorEq,TYX]
  intros
  rename_i b12 qb12
  obtain ⟨n1112,n912,h12⟩ := qb12
  refine hcall _ _ ?_
  simp +contextual only [x7v,mapD_len,hbd,hsd,h_miss,h_skip,n911,n1112,n912,↓U7v,↓XP,↓XU,XW0,XW1,qa,qb,qc,qd,qe,qf,reduceCtorEq,TYX]
  intros
  rename_i b14 qb14
  obtain ⟨n1214,n1114,n914,h14⟩ := qb14
  cases v <;> simp +contextual only [x7v,mapD_len,hbd,hsd,hw,eq_self,decide_true,h_miss,h_skip,n911,n1112,n912,n1214,n1114,n914,↓U7v,↓XP,↓XU,XW0,XW1,qa,qb,qc,qd,qe,qf,reduceCtorEq,TYX]
  all_goals intros
  all_goals simp only [← hbd]
  all_goals exact hN' _ _ hlt (by omega) ⟨rfl,rfl,rfl,trivial⟩ (back_3 rfl)
 ·have hi7 : i = 7 := by omega
  subst hi7
  have hlt' : (((7 : Nat) : Int) - 1 < 6) = False := eq_false (by decide)
  simp +contextual only [x7v,mapD_len,hlt',↓U7v,↓XP,↓XU,XW0,XW1,qa,qb,qc,qd,qe,qf,reduceCtorEq,TYX]
  intros
  refine hE _ _ _ ?_
  exact hQ _ ⟨rfl,rfl,trivial⟩
theorem f_mDates {l m : List Int} {fr to : Int} {H : AH} {R : D → AH → Prop} (h : ∀ H',R (.bool true) H') : ACall Try.prog 7 [.slc (mapD intD l),.slc (mapD intD m),.int .i64 fr,.int .i64 to] H R := by
 refine b7v fun hf=>?_
 have hbig := big_eq
 have fin : ∀ (b9 : Nat) (b : Bk) (Hx : AH) (n : Nat) (F' : List D),Fr 79 [(9,.ptr b9 0)] F' → blockQ 0 (seqQ Try.prog ((XC.reg [⟨.call ⟨.value (.func 17),#[],#[]⟩,some 78,none,true,false⟩,⟨.assign (.tmp 78),some 8,none,false,false⟩]).seq XC.ret) (retQ Try.prog [ResultVar.tmp 8] n R)) (.exit 0) F' ((b9,.cells b.d) :: Hx) := by
  intro b9 b Hx n F' hF'
  obtain ⟨z,rfl⟩ := hF'.lit
  show blockQ _ _ _ [z 0,z 1,z 2,z 3,z 4,z 5,z 6,z 7,z 8,.ptr b9 0,z 10,z 11,z 12,z 13,z 14,z 15,z 16,z 17,z 18,z 19,z 20,z 21,z 22,z 23,z 24,z 25,z 26,z 27,z 28,z 29,z 30,z 31,z 32,z 33,z 34,z 35,z 36,z 37,z 38,z 39,z 40,z 41,z 42,z 43,z 44,z 45,z 46,z 47,z 48,z 49,z 50,z 51,z 52,z 53,z 54,z 55,z 56,z 57,z 58,z 59,z 60,z 61,z 62,z 63,z 64,z 65,z 66,z 67,z 68,z 69,z 70,z 71,z 72,z 73,z 74,z 75,z 76,z 77,z 78] _
  simp +contextual only [x7v,mapD_len,↓U7v,↓XP,↓XU,XW0,XW1,qa,qb,qc,qd,qe,qf,reduceCtorEq,TYX]
  refine f_lives ?_
  simp +contextual only [x7v,mapD_len,↓U7v,↓XP,↓XU,XW0,XW1,qa,qb,qc,qd,qe,qf,reduceCtorEq,TYX]
  exact h _
 simp +contextual only [x7v,mapD_len,↓U7v,↓XP,↓XU,XW0,XW1,qa,qb,qc,qd,qe,qf,reduceCtorEq,TYX]
 refine f_book21V (fun b hg hsn hsr=>?_) (fun b q r ob cap db dc rest hg hsn hsr hcap hob=>?_)
 ·have hbd : b.d = [.slc (mapD En.d b.en),.slc (mapD Sn.d b.sn),.slc (mapD Sr.d b.sr),.slc (mapD Qt.d b.qt),.slc (mapD Spl.d b.sl),.slc (mapD Mg.d b.mg),.slc (mapD Ch.d b.ch)] := rfl
  have hz : ((0 : Int) < (b.sr.length : Int)) = False := by rw [hsr]; simp
  rw [hbd]
  simp +contextual only [x7v,mapD_len,hz,↓U7v,↓XP,↓XU,XW0,XW1,qa,qb,qc,qd,qe,qf,reduceCtorEq,TYX]
  intro b9 h9
  intros
  refine gh_intro Fz.refl ?_
  simp +contextual only [x7v,mapD_len,↓U7v,↓XP,↓XU,XW0,XW1,qa,qb,qc,qd,qe,qf,reduceCtorEq,TYX]
  simp only [← hbd]
  exact l_mDates hg.smallR ⟨rfl,rfl,rfl,trivial⟩ fun F' hF'=>fin _ _ _ _ F' hF'
 ·have hbd : bxd b ob (r.length + 1) cap = [.slc (mapD En.d b.en),.slc (mapD Sn.d b.sn),.hgs ob (r.length + 1) cap,.slc (mapD Qt.d b.qt),.slc (mapD Spl.d b.sl),.slc (mapD Mg.d b.mg),.slc (mapD Ch.d b.ch)] := rfl
  have hz : ((0 : Int) < ((r.length + 1 : Nat) : Int)) = True := eq_true (by omega)
  rw [hbd]
  simp +contextual only [x7v,mapD_len,hz,↓U7v,↓XP,↓XU,XW0,XW1,qa,qb,qc,qd,qe,qf,reduceCtorEq,TYX]
  intro b9
  rintro ⟨n9o,h9⟩
  rw [c_gh]
  refine Gz.then (Gz.sb (H' := (ob,.cells (rowS q r db dc rest)) :: (roomS q db dc ++ ((b9,.cells [.slc (mapD En.d b.en),.slc (mapD Sn.d b.sn),.hgs ob (r.length + 1) cap,.slc (mapD Qt.d b.qt),.slc (mapD Spl.d b.sl),.slc (mapD Mg.d b.mg),.slc (mapD Ch.d b.ch)]) :: H))) (Sbn.perm ?_) ?_)
  ·show (((ob,AO.cells (rowS q r db dc rest)) :: roomS q db dc) ++ _ :: H).Perm _
   exact List.perm_middle
  refine Gz.take (bx := ob) (j := 5) (b := db) (cap := dc) (xs := mapD Vl.d q.date) rfl (fun hne=>?_) ?_
  ·have hqd : ¬ q.date = [] := fun e=>hne (by rw [e]; rfl)
   unfold roomS
   rw [if_neg hqd]
   exact h_hit
  have hdr : ∀ T : AH,dropR (roomS q db dc ++ T) db (mapD Vl.d q.date) = T := fun T=>by
   unfold dropR roomS
   by_cases hqd : q.date = []
   ·rw [if_pos hqd,if_pos (by rw [hqd]; rfl)]; rfl
   ·rw [if_neg hqd,if_neg (fun e=>hqd (by cases hq : q.date with | nil=>rfl | cons _ _=>rw [hq] at e; cases e))]
    exact e_hit
  rw [hdr]
  have hrow : (rowS q r db dc rest).set 5 (.own (mapD Vl.d q.date)) = [.int .i64 q.id.o,.int .i64 q.id.s,.int .i64 q.id.i,.str q.title,.str q.owner,.own (mapD Vl.d q.date)] ++ ((mapD Sr.d r).flatten ++ rest) := rfl
  rw [hrow]
  generalize hT : (mapD Sr.d r).flatten ++ rest = T
  simp +contextual only [x7v,mapD_len,h_miss,h_skip,n9o,Ne.symm n9o,↓U7v,↓XP,↓XU,XW0,XW1,qa,qb,qc,qd,qe,qf,reduceCtorEq,TYX]
  have hdt := (hg.dt q (by rw [hsr]; exact .head _)).1
  have hap : mapD Vl.d q.date ++ [[D.str [],.int .i64 0,.int .i64 fr,.int .i64 to,.int .i64 0,.int .i64 0,.int .i64 0]] = mapD Vl.d (q.date ++ [⟨[],0,⟨fr,to⟩,id0⟩]) := by rw [← mapD_app]; rfl
  refine ⟨by omega,.inl (freshH_none hob),mapD_sz fun _=>rfl,by omega,by omega,by omega,?_⟩
  rw [hap]
  generalize hvs : q.date ++ [(⟨[],0,⟨fr,to⟩,id0⟩ : Vl)] = vs
  have hvl : vs.length ≤ 3 := by rw [← hvs,List.length_append,List.length_singleton]; omega
  rw [c_gh]
  refine Gz.then (Gz.viewC (bx := ob) (j := 5) (xs := mapD Vl.d vs) h_hit rfl ?_)
  simp only [h_set]
  refine Gz.of_fz (Fz.ownC (b' := b9) (j := 2) (b := ob) (n := r.length + 1) (cap := cap) (sz := 6) (xs := mapD Sr.d (⟨q.id,q.title,q.owner,vs⟩ :: r)) (rest := rest) (Ne.symm n9o) (by rw [h_miss (Ne.symm n9o)]; exact h_hit) rfl h_hit (by rw [← hT]; rfl) ?_ (by rw [mapD_len]; rfl) (by omega) (mapD_sz fun _=>rfl) (by omega) ?_) ?_
  ·rw [← hcap,← hT]
   rfl
  ·intro y hy d hd
   obtain ⟨t,_,rfl⟩ := List.mem_map.1 hy
   simp only [Sr.d,List.mem_cons,List.not_mem_nil,or_false] at hd
   rcases hd with rfl | rfl | rfl | rfl | rfl | rfl <;> rfl
  have hl1 : ((⟨q.id,q.title,q.owner,vs⟩ : Sr) :: r).length = r.length + 1 := rfl
  have g0 : (mapD Sr.d (⟨q.id,q.title,q.owner,vs⟩ :: r)).getD 0 [] = [.int .i64 q.id.o,.int .i64 q.id.s,.int .i64 q.id.i,.str q.title,.str q.owner,.slc (mapD Vl.d vs)] := rfl
  have hp1 : ((0 : Int) < (((⟨q.id,q.title,q.owner,vs⟩ : Sr) :: r).length : Int)) = True := eq_true (by rw [hl1]; omega)
  have hap2 : ∀ l : List Sr,mapD Sr.d l ++ [[D.int .i64 q.id.o,.int .i64 q.id.s,.int .i64 q.id.i,.str [],.str [],.slc [[.str [],.int .i64 0,.int .i64 1,.int .i64 1,.int .i64 0,.int .i64 0,.int .i64 0]]]] = mapD Sr.d (l ++ [⟨q.id,[],[],[⟨[],0,⟨1,1⟩,id0⟩]⟩]) := fun l=>by rw [← mapD_app]; rfl
  generalize hss : (⟨q.id,q.title,q.owner,vs⟩ : Sr) :: r = srs at hl1 g0 hp1
  simp +contextual only [x7v,mapD_len,h_miss,h_skip,n9o,Ne.symm n9o,e_hit,g0,hp1,hap2,↓U7v,↓XP,↓XU,XW0,XW1,qa,qb,qc,qd,qe,qf,reduceCtorEq,TYX]
  intro _
  have hrl : r.length ≤ 4 := by have := hg.sr; rw [hsr,List.length_cons] at this; omega
  refine ⟨mapD_sz fun _=>rfl,by omega,by omega,?_⟩
  rw [c_gh]
  refine Gz.then (Gz.viewC (bx := b9) (j := 2) (xs := mapD Sr.d (srs ++ [⟨q.id,[],[],[⟨[],0,⟨1,1⟩,id0⟩]⟩])) h_hit rfl ?_)
  simp only [h_set]
  have hR := hg.smallR
  obtain ⟨b2,hb2⟩ : ∃ b2 : Bk,b2 = ⟨b.en,b.sn,srs ++ [⟨q.id,[],[],[⟨[],0,⟨1,1⟩,id0⟩]⟩],b.qt,b.sl,b.mg,b.ch⟩ := ⟨_,rfl⟩
  have hb2d : [D.slc (mapD En.d b.en),.slc (mapD Sn.d b.sn),.own (mapD Sr.d (srs ++ [⟨q.id,[],[],[⟨[],0,⟨1,1⟩,id0⟩]⟩])),.slc (mapD Qt.d b.qt),.slc (mapD Spl.d b.sl),.slc (mapD Mg.d b.mg),.slc (mapD Ch.d b.ch)].set 2 (.slc (mapD Sr.d (srs ++ [⟨q.id,[],[],[⟨[],0,⟨1,1⟩,id0⟩]⟩]))) = b2.d := by rw [hb2]; rfl
  have hb2R : SmallR b2 := by
   rw [hb2]
   refine ⟨hR.sl,hR.mg,hR.ch,hR.pl,hR.sn,by dsimp only; rw [List.length_append,List.length_singleton]; omega,hR.qt,fun s hs=>?_⟩
   dsimp only at hs
   rcases List.mem_append.1 hs with hs | hs
   ·rw [← hss] at hs
    rcases List.mem_cons.1 hs with e | hs
    ·rw [e]; dsimp only; omega
    ·exact hR.dt s (by rw [hsr]; exact .tail _ hs)
   ·rw [List.mem_singleton.1 hs]; simp
  rw [hb2d]
  refine Gz.of_fz Fz.refl ?_
  simp +contextual only [x7v,mapD_len,↓U7v,↓XP,↓XU,XW0,XW1,qa,qb,qc,qd,qe,qf,reduceCtorEq,TYX]
  exact l_mDates hb2R ⟨rfl,rfl,rfl,trivial⟩ fun F' hF'=>fin _ _ _ _ F' hF'
end Go.Proofs.Ytffbjejmobhpkaa
end
section
namespace Go.Proofs.Ytffbjejmobhpkaa.dates
open Go Go.Aw Go.RowKit Go.ChangeShapes Go.WideShapes Go.ChangeAt
theorem contract (H : Type) (enc : TypeId × Value → H) (W : World) (base : Nat) (args : Array Value) (ds gs : List (DataW H)) (before : List MemPlace)
  (hval : ∀ (j : Nat) t v,Try.f7.params[j]? = some t → args[j]? = some v → Value.okWide Try.prog W .any base t v)
  (hW : DataW.Whole enc Try.prog Try.f7.params.toList Rows.evidenceDatesSpec.vars false W args.toList ds gs before) (hk : Rows.uptoSmall H (ds ++ gs) = true) :
  Calls Try.prog 7 args W fun e W'=>∃ v,e = .returned v ∧ Rows.evidenceDatesSpec.post enc Try.prog Try.f7 false true false false W args v W' := by
 have hW' := hW
 have hbd := bound hk
 obtain ⟨p,q,hA0,hV,rfl,hfz,hnd⟩ := hW
 have hA : DataW.TrodAll enc Try.prog W 0 (fun _=>true) true Try.f7.params.toList args.toList ds p := hA0
 rw [Try.params7] at hA hval
 obtain ⟨v0,vs0,d0,ds0,p0,q0,hargs,rfl,rfl,h0,r0⟩ := trodAll_cons hA
 obtain ⟨v1,vs1,d1,ds1,p1,q1,rfl,rfl,rfl,h1,r1⟩ := trodAll_cons r0
 obtain ⟨v2,vs2,d2,ds2,p2,q2,rfl,rfl,rfl,h2,r2⟩ := trodAll_cons r1
 obtain ⟨v3,vs3,d3,ds3,p3,q3,rfl,rfl,rfl,h3,r3⟩ := trodAll_cons r2
 obtain ⟨rfl,rfl,rfl⟩ := trodAll_nil r3
 obtain rfl : args = #[v0,v1,v2,v3] := by cases args; simp_all
 obtain ⟨rfl,rfl⟩ := trodVars_none hV
 simp only [List.append_nil,Rows.uptoBulkAll] at hbd
 obtain ⟨l,hq0,e0⟩ := rd_ints.arg1 (by kernel_rfl) (hval 0 _ v0 rfl rfl) h0 (by omega)
 obtain ⟨m,hq1,e1⟩ := rd_ints.arg1 (by kernel_rfl) (hval 1 _ v1 rfl rfl) h1 (by omega)
 obtain ⟨fr,hq2,e2⟩ := rd_int.arg1 (by kernel_rfl) (hval 2 _ v2 rfl rfl) h2 (by omega)
 obtain ⟨to,hq3,e3⟩ := rd_int.arg1 (by kernel_rfl) (hval 3 _ v3 rfl rfl) h3 (by omega)
 refine ((f_mDates (l := l) (m := m) (fr := fr) (to := to) (H := []) (R := fun d H=>d = .bool true) fun _=>rfl).calls W _ rfl ?_).mono ?_
 ·intro j d v hd hv
  match j with
  | 0=>cases hd; cases hv; exact e0
  | 1=>cases hd; cases hv; exact e1
  | 2=>cases hd; cases hv; exact e2
  | 3=>cases hd; cases hv; exact e3
  | j + 4=>cases hd
 ·rintro e W' ⟨v,d,H',K',rfl,rfl,hb,hr⟩
  have hv : v = .bool true := by cases hr with | bool=>rfl
  subst hv
  exact ⟨_,rfl,post_true kids full (by rw [Try.params7]; decide) hW' rfl hb rfl Try.underlying4 rfl⟩
theorem lifted (os : Os) (started : os.Started) (H : Type) (enc : TypeId × Value → H) (F : Stop.Interp) :
  ReturnsInHanded {} Try.checked os 7 .any ((Rows.OpenSpec.upto Rows.evidenceDatesSpec).pre6 enc Try.prog Try.f7 Rows.evidenceDatesUptoRow.domain false) (((Rows.OpenSpec.upto Rows.evidenceDatesSpec).at F).post enc Try.prog Try.f7 false true false false) := by
 refine returnsInHanded_of_cond (C := Try.checked) (s := Rows.OpenSpec.upto Rows.evidenceDatesSpec) (k := Rows.uptoSmall) rfl own started (by kernel_rfl) Try.func7
  (OpenSpec.witness (enc := enc) (C := Try.checked) (s := Rows.OpenSpec.upto Rows.evidenceDatesSpec) (k := Rows.uptoSmall) rfl false ⟨#[],#[.slice none 0 0,.slice none 0 0,.int .i64 0,.int .i64 0],[]⟩ 8 (by kernel_rfl) (by kernel_rfl) (by kernel_rfl)
   (x := ([.nil,.nil,.lit (.int .i64 0),.lit (.int .i64 0)],[],[])) (by kernel_rfl) rfl (by kernel_rfl)) ?_
 intro W base args ds gs before hval hW _ hk _
 exact contract H enc W base args ds gs before hval hW hk
theorem proved : Rows.EvidenceDatesUptoSaid :=
 OpenClaim.holds_of_cond 7 Try.f7 rfl rfl rfl rfl rfl rfl rfl ⟨rfl,rfl,rfl,rfl,rfl⟩ rfl rfl rfl rfl rfl (by kernel_rfl) Try.func7 (by kernel_rfl)
  (of_decide_eq_true (by kernel_rfl)) (by unfold Func.isWrapper; first | (rw [if_pos (by decide +kernel)]; kernel_rfl) | (rw [if_neg (by decide +kernel)]; exact ⟨rfl,rfl⟩))
  (fun os started H enc _ F=>lifted os started H enc F)
end Go.Proofs.Ytffbjejmobhpkaa.dates
end
