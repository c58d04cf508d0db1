/- A part of the proof of what the last text says: Ew9, Ep6, Er5, Er6, Er7, Es1, Ewb, Ewc, Ewd. Conditions: those in each theorem. -/
import Derived.Test.YtffbjejmobhpkaaA18
set_option linter.unusedVariables false
set_option linter.unusedSimpArgs false
set_option maxRecDepth 100000
set_option maxHeartbeats 16000000
open Nat renaming reduceSub → qa,reduceAdd → qb,reduceMul → qc,reduceEqDiff → qd,reduceLeDiff → qe,reduceBEq → qf
section
namespace Go.Proofs.Ytffbjejmobhpkaa
open Go Go.Aw
structure Dt where
 id : Id3
 sp : Sp
instance : Inhabited Dt := ⟨⟨id0,sp0⟩⟩
def Dt.d (x : Dt) : List D := [.int .i64 x.id.o,.int .i64 x.id.s,.int .i64 x.id.i,.int .i64 x.sp.a,.int .i64 x.sp.b]
def rmin (o : Sp) (q : Dt) : Sp := ⟨if q.sp.a < o.a then q.sp.a else o.a,if q.sp.b < o.b then q.sp.b else o.b⟩
def riseP (l : List Dt) : Sp × Bool := match l with
 | []=>(sp0,false)
 | x :: r=>((x :: r).foldl rmin x.sp,true)
def spB (p : Sp × Bool) : D := .tup [.agg p.1.d,.bool p.2]
theorem f_rise {l : List Dt} {H : AH} {R : D → AH → Prop} (h : R (spB (riseP l)) H) : ACall Try.prog 33 [.slc (mapD Dt.d l)] H R := by
 refine b33 fun hf=>?_
 have hbig := big_eq
 by_cases h0 : l = []
 ·subst h0
  simp +contextual only [x33,mapD_len,↓U33,↓XP,↓XU,XW0,XW1,qa,qb,qc,qd,qe,qf,reduceCtorEq,TYX]
  exact fun _ _ _=>⟨fun _=>h,fun e=>absurd rfl e⟩
 ·have hpos := List.length_pos_iff.2 h0
  have hne : ((l.length : Int) = 0) = False := eq_false (by omega)
  have hp0 : ((0 : Int) < (l.length : Int)) = True := eq_true (by omega)
  have g0 := mapD_get (f := Dt.d) hpos
  obtain ⟨x,r,hl⟩ : ∃ x r,l = x :: r := by cases l with | nil=>exact absurd rfl h0 | cons x r=>exact ⟨x,r,rfl⟩
  have hr : riseP l = (l.foldl rmin x.sp,true) := by subst hl; rfl
  rw [hr] at h
  have hx0 : l.getD 0 default = x := by rw [hl]; rfl
  rw [hx0] at g0
  have hxd : x.d = [.int .i64 x.id.o,.int .i64 x.id.s,.int .i64 x.id.i,.int .i64 x.sp.a,.int .i64 x.sp.b] := rfl
  simp +contextual only [x33,mapD_len,g0,hxd,hne,hp0,↓U33,↓XP,↓XU,XW0,XW1,qa,qb,qc,qd,qe,qf,reduceCtorEq,TYX]
  rintro b2 h2 hlb b4 ⟨n24,h4⟩
  refine XW.loopS Go.Proofs.Ytffbjejmobhpkaa.hm 36 (fun i : Nat=>[(0,.slc (mapD Dt.d l)),(2,.ptr b2 0),(4,.ptr b4 0),(15,.slc (mapD Dt.d l)),(16,.int .i64 l.length),(17,.int .i64 ((i : Nat) : Int))]) (fun i=>(b4,AO.cells ((l.take i).foldl rmin x.sp).d) :: (b2,AO.cells [.int .i64 0,.int .i64 0]) :: H) (fun i=>l.length - i) (fun i=>i ≤ l.length) 0 (by omega) ⟨rfl,rfl,rfl,rfl,rfl,rfl,rfl,trivial⟩ rfl ?_
  rintro i z hi K hN hE hR
  have hN' := hN (i + 1)
  clear hN
  show xcode _ _ [.slc (mapD Dt.d l),z 1,.ptr b2 0,z 3,.ptr b4 0,z 5,z 6,z 7,z 8,z 9,z 10,z 11,z 12,z 13,z 14,.slc (mapD Dt.d l),.int .i64 l.length,.int .i64 ((i : Nat) : Int),z 18,z 19,z 20,z 21,z 22,z 23,z 24,z 25,z 26,z 27,z 28,z 29,z 30,z 31,z 32,z 33,z 34,z 35] _ K
  by_cases hlt : i < l.length
  ·have g := mapD_get (f := Dt.d) hlt
   have hlt' : ((i : Int) < (l.length : Int)) = True := eq_true (by omega)
   rw [foldl_take hlt] at hN'
   generalize (l.take i).foldl rmin x.sp = o at hN'
   generalize l.getD i default = q at g hN'
   have hqd : q.d = [.int .i64 q.id.o,.int .i64 q.id.s,.int .i64 q.id.i,.int .i64 q.sp.a,.int .i64 q.sp.b] := rfl
   have hod : o.d = [.int .i64 o.a,.int .i64 o.b] := rfl
   simp +contextual only [x33,mapD_len,g,hqd,hod,hlt',h_miss,h_skip,n24,wrap_succ (show i ≤ big by omega),↓U33,↓XP,↓XU,XW0,XW1,qa,qb,qc,qd,qe,qf,reduceCtorEq,TYX]
   intros
   exact hN' _ _ hlt (by omega) ⟨rfl,rfl,rfl,rfl,rfl,rfl,rfl,trivial⟩ (back_1 rfl)
  ·have hin : i = l.length := by omega
   subst hin
   rw [List.take_length]
   have hod : (l.foldl rmin x.sp).d = [.int .i64 (l.foldl rmin x.sp).a,.int .i64 (l.foldl rmin x.sp).b] := rfl
   simp +contextual only [x33,mapD_len,↓U33,↓XP,↓XU,XW0,XW1,qa,qb,qc,qd,qe,qf,reduceCtorEq,TYX]
   intros
   refine hE _ _ _ ?_
   simp +contextual only [x33,mapD_len,hod,h_miss,h_skip,n24,↓U33,↓XP,↓XU,XW0,XW1,qa,qb,qc,qd,qe,qf,reduceCtorEq,TYX]
   exact h
end Go.Proofs.Ytffbjejmobhpkaa
end
section
namespace Go.Proofs.Ytffbjejmobhpkaa
open Go Go.Aw
def datA (o : Option Sp) (v : Vl) : Option Sp := if OkSpan v.sp then some (mrg (o.getD v.sp) v.sp) else o
def rDat (l : List Sr) (x : Id3) : Option Sp := match l with
 | []=>none
 | s :: r=>if s.id = x then s.date.foldl datA none else rDat r x
theorem look_datV {id x : Id3} : ∀ {vs : List Vl} {out : List (Id3 × Sp)},lookP (vs.foldl (datV id) out) x = if x = id then vs.foldl datA (lookP out id) else lookP out x
 | [],out=>by
  by_cases h : x = id
  ·subst h; simp
  ·simp [h]
 | v :: vs,out=>by
  rw [List.foldl_cons,List.foldl_cons,look_datV]
  unfold datV datA
  by_cases hv : OkSpan v.sp
  ·simp only [if_pos hv]
   rw [look_upd,look_upd]
   by_cases h : x = id
   ·simp [h]
   ·simp [h]
  ·simp only [if_neg hv]
theorem dat_met {x : Id3} : ∀ {l : List Sr} {st : List (Id3 × Sp) × List (Id3 × Bool)},(lookP st.2 x).getD false = true → lookP (l.foldl datS st).1 x = lookP st.1 x
 | [],st,h=>rfl
 | s :: l,st,h=>by
  rw [List.foldl_cons]
  have hs : (lookP (datS st s).2 x).getD false = true ∧ lookP (datS st s).1 x = lookP st.1 x := by
   unfold datS
   by_cases hm : (lookP st.2 s.id).getD false = true
   ·rw [if_pos hm]; exact ⟨h,rfl⟩
   ·rw [if_neg hm]
    have hne : x ≠ s.id := fun e=>hm (e ▸ h)
    dsimp only
    rw [look_upd,look_datV,if_neg hne,if_neg hne]
    exact ⟨h,rfl⟩
  rw [dat_met hs.1,hs.2]
theorem dat_new {x : Id3} : ∀ {l : List Sr} {st : List (Id3 × Sp) × List (Id3 × Bool)},(lookP st.2 x).getD false = false → lookP st.1 x = none → lookP (l.foldl datS st).1 x = rDat l x
 | [],st,h,h1=>h1
 | s :: l,st,h,h1=>by
  rw [List.foldl_cons]
  unfold rDat
  by_cases hx : s.id = x
  ·subst hx
   rw [if_pos rfl]
   have hs : datS st s = (s.date.foldl (datV s.id) st.1,updP st.2 s.id true) := by unfold datS; rw [if_neg (by rw [h]; decide)]
   rw [hs,dat_met (by dsimp only; rw [look_upd,if_pos rfl]; rfl)]
   dsimp only
   rw [look_datV,if_pos rfl,h1]
  ·rw [if_neg hx]
   have hne : x ≠ s.id := fun e=>hx e.symm
   refine dat_new ?_ ?_
   ·unfold datS
    split
    ·exact h
    ·dsimp only; rw [look_upd,if_neg hne]; exact h
   ·unfold datS
    split
    ·exact h1
    ·dsimp only; rw [look_datV,if_neg hne]; exact h1
theorem look_dates {b : Bk} {x : Id3} : lookP (datesP b.sr) x = rDat b.sr x := dat_new rfl rfl
end Go.Proofs.Ytffbjejmobhpkaa
end
section
namespace Go.Proofs.Ytffbjejmobhpkaa
open Go Go.Aw
def rDt (b : Bk) (x : Id3) : Sp × Bool := ((rDat b.sr x).getD sp0,(rDat b.sr x).isSome)
end Go.Proofs.Ytffbjejmobhpkaa
end
section
namespace Go.Proofs.Ytffbjejmobhpkaa
open Go Go.Aw
def isEv (b : Bk) (x : Id3) (q : Qt) : Bool := decide ((rRes b id0 q.sense).2 = 0) && (decide ((rRes b id0 q.sense).1 = x) && (rDt b q.source).2)
def rEvd (b : Bk) (x : Id3) : List Qt := b.qt.filter (isEv b x)
def spQ (b : Bk) (q : Qt) : Sp := (rDt b q.source).1
def rmnS (o s : Sp) : Sp := ⟨if s.a < o.a then s.a else o.a,if s.b < o.b then s.b else o.b⟩
def risO (b : Bk) (l : List Qt) : Sp := match l with
 | []=>sp0
 | q :: r=>(q :: r).foldl (fun o q=>rmnS o (spQ b q)) (spQ b q)
def rRis (b : Bk) (x : Id3) : Sp × Bool := (risO b (rEvd b x),decide (0 < (rEvd b x).length))
end Go.Proofs.Ytffbjejmobhpkaa
end
section
namespace Go.Proofs.Ytffbjejmobhpkaa
open Go Go.Aw
end Go.Proofs.Ytffbjejmobhpkaa
end
section
namespace Go.Proofs.Ytffbjejmobhpkaa
open Go Go.Aw
def idA (n : Nat) (v : Int) : Id3 := idR (around v ((n : Int) + 1)).toNat
def rIDs (b : Bk) (l : List Int) : List Id3 := (l.take 8).map (idA b.sn.length)
theorem rIDs_len {b : Bk} {l : List Int} : (rIDs b l).length ≤ 8 := by unfold rIDs; rw [List.length_map,List.length_take]; omega
theorem rIDs_ok {b : Bk} (hg : SmallR b) {l : List Int} : ∀ x ∈ rIDs b l,OkI x := fun x hx=>by
 unfold rIDs at hx
 obtain ⟨v,_,rfl⟩ := List.mem_map.1 hx
 have h := around_range (n := v) (most := (b.sn.length : Int) + 1) (by omega)
 have := hg.sn
 show OkI (idR _)
 exact okR (by omega)
theorem f_rIDs {b : Bk} (hb : SmallR b) {l : List Int} {H : AH} {R : D → AH → Prop} (h : R (.slc (mapD Id3.d (rIDs b l))) H) : ACall Try.prog 18 [.agg b.d,.slc (mapD intD l)] H R := by
 refine ACall.view (b18 fun hf=>?_)
 have hbig := big_eq
 have hsn := hb.sn
 have hlen : (mapD intD l).length ≤ big := hf.2.1
 rw [mapD_len] at hlen
 have hbd : b.d = [.slc (mapD En.d b.en),.slc (mapD Sn.d b.sn),.slc (mapD Sr.d b.sr),.slc (mapD Qt.d b.qt),.slc (mapD Spl.d b.sl),.slc (mapD Mg.d b.mg),.slc (mapD Ch.d b.ch)] := rfl
 simp +contextual only [x18,mapD_len,hbd,↓U18,↓XP,↓XU,XW0,XW1,qa,qb,qc,qd,qe,qf,reduceCtorEq,TYX]
 intro b2 h2
 simp only [← hbd]
 refine XW.loopS Go.Proofs.Ytffbjejmobhpkaa.hm 31 (fun i : Nat=>[(1,.slc (mapD intD l)),(2,.ptr b2 0),(5,.own (mapD Id3.d ((l.take i).map (idA b.sn.length)))),(6,.int .i64 ((i : Nat) : Int))]) (fun i=>(b2,AO.cells b.d) :: H) (fun i=>9 - i) (fun i=>i ≤ l.length ∧ i ≤ 8) 0 (by omega) ⟨rfl,rfl,rfl,rfl,rfl,trivial⟩ rfl ?_
 rintro i z ⟨hi,hi8⟩ K hN hE hR
 have hN' := hN (i + 1)
 clear hN
 show xcode _ _ [z 0,.slc (mapD intD l),.ptr b2 0,z 3,z 4,.own (mapD Id3.d ((l.take i).map (idA b.sn.length))),.int .i64 ((i : Nat) : Int),z 7,z 8,z 9,z 10,z 11,z 12,z 13,z 14,z 15,z 16,z 17,z 18,z 19,z 20,z 21,z 22,z 23,z 24,z 25,z 26,z 27,z 28,z 29,z 30] _ K
 have hrl : ((l.take i).map (idA b.sn.length)).length = i := by rw [List.length_map,List.length_take]; omega
 have hend : (¬ i < l.length ∨ ¬ i < 8) → (l.take i).map (idA b.sn.length) = rIDs b l := fun h=>by
  unfold rIDs
  rcases h with h | h
  ·rw [List.take_of_length_le (by omega),List.take_of_length_le (by omega)]
  ·rw [show i = 8 by omega]
 by_cases hlt : i < l.length
 ·have hlt' : ((i : Int) < (l.length : Int)) = True := eq_true (by omega)
  by_cases h8 : i < 8
  ·have h8' : ((i : Int) < 8) = True := eq_true (by omega)
   have g := mapD_get (f := intD) hlt
   rw [take_succ hlt,List.map_append,List.map_cons,List.map_nil] at hN'
   generalize (l.take i).map (idA b.sn.length) = out at hN' hrl ⊢
   generalize l.getD i default = v at g hN'
   have hvd : intD v = [.int .i64 v] := rfl
   have har := around_range (n := v) (most := (b.sn.length : Int) + 1) (by omega)
   simp +contextual only [x18,mapD_len,hbd,g,hvd,hlt',h8',Int.toNat_natCast,wrap_id (n := (b.sn.length : Int) + 1) (by omega) (by omega),↓U18,↓XP,↓XU,XW0,XW1,qa,qb,qc,qd,qe,qf,reduceCtorEq,TYX]
   intros
   refine ⟨_,fun _ _=>f_around (by omega) ⟨rfl,rfl⟩,?_⟩
   simp +contextual only [x18,mapD_len,hbd,↓U18,↓XP,↓XU,XW0,XW1,qa,qb,qc,qd,qe,qf,reduceCtorEq,TYX]
   intros
   refine ⟨_,fun _ _=>f_IDz (by omega) ⟨rfl,rfl⟩,?_⟩
   rw [show idR (around v ((b.sn.length : Int) + 1)).toNat = idA b.sn.length v from rfl]
   generalize idA b.sn.length v = y at hN' ⊢
   have hyd : y.d = [.int .i64 y.o,.int .i64 y.s,.int .i64 y.i] := rfl
   have hap : mapD Id3.d out ++ [[.int .i64 y.o,.int .i64 y.s,.int .i64 y.i]] = mapD Id3.d (out ++ [y]) := by rw [← mapD_app]; rfl
   simp +contextual only [x18,mapD_len,hbd,hyd,hap,wrap_succ (show i ≤ big by omega),↓U18,↓XP,↓XU,XW0,XW1,qa,qb,qc,qd,qe,qf,reduceCtorEq,TYX]
   simp only [← hbd]
   intros
   exact ⟨mapD_sz fun _=>rfl,by omega,hN' _ _ ⟨hlt,by omega⟩ (by omega) ⟨rfl,rfl,rfl,rfl,rfl,trivial⟩ (back_0 rfl)⟩
  ·have h8' : ((i : Int) < 8) = False := eq_false (by omega)
   rw [hend (.inr h8)]
   simp +contextual only [x18,mapD_len,hbd,hlt',h8',↓U18,↓XP,↓XU,XW0,XW1,qa,qb,qc,qd,qe,qf,reduceCtorEq,TYX]
   intros
   refine hE _ _ _ ?_
   simp +contextual only [x18,mapD_len,hbd,↓U18,↓XP,↓XU,XW0,XW1,qa,qb,qc,qd,qe,qf,reduceCtorEq,TYX]
   exact h
 ·have hlt' : ((i : Int) < (l.length : Int)) = False := eq_false (by omega)
  rw [hend (.inl hlt)]
  simp +contextual only [x18,mapD_len,hbd,hlt',↓U18,↓XP,↓XU,XW0,XW1,qa,qb,qc,qd,qe,qf,reduceCtorEq,TYX]
  intros
  refine hE _ _ _ ?_
  simp +contextual only [x18,mapD_len,hbd,↓U18,↓XP,↓XU,XW0,XW1,qa,qb,qc,qd,qe,qf,reduceCtorEq,TYX]
  exact h
end Go.Proofs.Ytffbjejmobhpkaa
end
section
namespace Go.Proofs.Ytffbjejmobhpkaa
open Go Go.Aw
theorem of_L2 {b1 b2 b3 m1 m2 m3 : Nat} {b : Bk} (hl : b.sn.length ≤ big) (hd : Ds6 b1 b2 b3 m1 m2 m3) {H : AH} {F : List D} (hF : Fr 146 [(1,.ptr b1 0),(2,.ptr b2 0),(3,.ptr b3 0),(20,.slc (mapD Sn.d b.sn)),(21,.int .i64 b.sn.length),(22,.int .i64 0)] F) {Q : AQ} (hQ : ∀ F',Fr 146 [(1,.ptr b1 0),(2,.ptr b2 0),(3,.ptr b3 0)] F' → Q (.exit 0) F' (ofH b1 b2 b3 m1 m2 m3 b (sensP b) [] [] H)) : XW Try.prog x55_L2 F (ofH b1 b2 b3 m1 m2 m3 b [] [] [] H) Q := by
 have hbig := big_eq
 obtain ⟨n12,n1m1,n1m2,n1m3,n13,n2m1,n2m2,n2m3,n23,m12,m13,m1b,m23,m2b,m3b⟩ := hd
 refine XW.loopS Go.Proofs.Ytffbjejmobhpkaa.hm 146 (fun i : Nat=>[(1,.ptr b1 0),(2,.ptr b2 0),(3,.ptr b3 0),(20,.slc (mapD Sn.d b.sn)),(21,.int .i64 b.sn.length),(22,.int .i64 ((i : Nat) : Int))]) (fun i=>ofH b1 b2 b3 m1 m2 m3 b ((b.sn.take i).foldl sensS []) [] [] H) (fun i=>b.sn.length - i) (fun i=>i ≤ b.sn.length) 0 (by omega) hF rfl ?_
 rintro i z hi K hN hE hR
 have hN' := hN (i + 1)
 clear hN
 show xcode _ _ [z 0,.ptr b1 0,.ptr b2 0,.ptr b3 0,z 4,z 5,z 6,z 7,z 8,z 9,z 10,z 11,z 12,z 13,z 14,z 15,z 16,z 17,z 18,z 19,.slc (mapD Sn.d b.sn),.int .i64 b.sn.length,.int .i64 ((i : Nat) : Int),z 23,z 24,z 25,z 26,z 27,z 28,z 29,z 30,z 31,z 32,z 33,z 34,z 35,z 36,z 37,z 38,z 39,z 40,z 41,z 42,z 43,z 44,z 45,z 46,z 47,z 48,z 49,z 50,z 51,z 52,z 53,z 54,z 55,z 56,z 57,z 58,z 59,z 60,z 61,z 62,z 63,z 64,z 65,z 66,z 67,z 68,z 69,z 70,z 71,z 72,z 73,z 74,z 75,z 76,z 77,z 78,z 79,z 80,z 81,z 82,z 83,z 84,z 85,z 86,z 87,z 88,z 89,z 90,z 91,z 92,z 93,z 94,z 95,z 96,z 97,z 98,z 99,z 100,z 101,z 102,z 103,z 104,z 105,z 106,z 107,z 108,z 109,z 110,z 111,z 112,z 113,z 114,z 115,z 116,z 117,z 118,z 119,z 120,z 121,z 122,z 123,z 124,z 125,z 126,z 127,z 128,z 129,z 130,z 131,z 132,z 133,z 134,z 135,z 136,z 137,z 138,z 139,z 140,z 141,z 142,z 143,z 144,z 145] _ K
 by_cases hlt : i < b.sn.length
 ·have g := mapD_get (f := Sn.d) hlt
  have hlt' : ((i : Int) < (b.sn.length : Int)) = True := eq_true (by omega)
  rw [foldl_take hlt] at hN'
  unfold ofH at hN' ⊢
  generalize (b.sn.take i).foldl sensS [] = o at hN'
  generalize b.sn.getD i default = s at g hN'
  have hsd : s.d = [.int .i64 s.id.o,.int .i64 s.id.s,.int .i64 s.id.i,.int .i64 s.par.o,.int .i64 s.par.s,.int .i64 s.par.i,.slc (mapD Vl.d s.gl),.slc (mapD Vl.d s.ord),.slc (mapD Vl.d s.pub),.slc (mapD Vl.d s.wo),.slc (mapD Tr.d s.tr),.slc (mapD Bn.d s.bi),.slc (mapD strD s.la),.slc (mapD Id3.d s.li)] := rfl
  simp +contextual only [x55,mapD_len,g,hsd,hlt',h_miss,h_skip,n12,n1m1,n1m2,n1m3,n13,n2m1,n2m2,n2m3,n23,m12,m13,m1b,m23,m2b,m3b,keys_id (x := s.id),upd_id (x := s.id),wrap_succ (show i ≤ big by omega),↓U55,↓XP,↓XU,XW0,XW1,qa,qb,qc,qd,qe,qf,reduceCtorEq,TYX]
  intros
  exact hN' _ _ hlt (by omega) ⟨rfl,rfl,rfl,rfl,rfl,rfl,rfl,trivial⟩ (back_1 rfl)
 ·have hin : i = b.sn.length := by omega
  subst hin
  rw [List.take_length]
  simp +contextual only [x55,mapD_len,↓U55,↓XP,↓XU,XW0,XW1,qa,qb,qc,qd,qe,qf,reduceCtorEq,TYX]
  intros
  refine hE _ _ _ ?_
  exact hQ _ ⟨rfl,rfl,rfl,rfl,trivial⟩
end Go.Proofs.Ytffbjejmobhpkaa
end
section
namespace Go.Proofs.Ytffbjejmobhpkaa
open Go Go.Aw
theorem of_s7 {b1 b2 b3 m1 m2 m3 b7 b8 i : Nat} {b : Bk} {s : Spl} {n : Int} {c : ClA} {c2 : D} {se : List (Id3 × Bool)} {ev : List (Id3 × EvA)} {ch : List ((Id3 × Id3) × ClA)} (hd : Ds6 b1 b2 b3 m1 m2 m3)
  (h7 : ¬ b3 = b7 ∧ ¬ m3 = b7 ∧ ¬ m2 = b7 ∧ ¬ m1 = b7 ∧ ¬ b2 = b7 ∧ ¬ b1 = b7) (h8 : ¬ b7 = b8 ∧ ¬ b3 = b8 ∧ ¬ m3 = b8 ∧ ¬ m2 = b8 ∧ ¬ m1 = b8 ∧ ¬ b2 = b8 ∧ ¬ b1 = b8)
  (hn : 0 ≤ n ∧ n ≤ 65536) (hcl : c.xs.length ≤ 4294967296) (hp : s.parts ≠ [] ∧ s.parts.length ≤ 65536) {H : AH}
  (hc : c.xs ≠ [] → getH H c.b = some (.room c.cap (mapD Id3.d c.xs)) ∧ c.b ∉ [b1,b2,b3,m1,m2,m3,b7,b8])
  {F : List D} (hF : Fr 146 [(1,.ptr b1 0),(2,.ptr b2 0),(3,.ptr b3 0),(7,.ptr b7 0),(8,.ptr b8 0),(32,.slc (mapD Spl.d b.sl)),(33,.int .i64 b.sl.length),(34,.int .i64 ((i : Nat) : Int))] F) {Q : AQ} (hQ : ∀ b' cap' F',¬ b8 = b' ∧ ¬ b7 = b' ∧ ¬ b3 = b' ∧ ¬ m3 = b' ∧ ¬ m2 = b' ∧ ¬ m1 = b' ∧ ¬ b2 = b' ∧ ¬ b1 = b' ∧ freshH (cut H c) b' → Fr 146 [(1,.ptr b1 0),(2,.ptr b2 0),(3,.ptr b3 0),(32,.slc (mapD Spl.d b.sl)),(33,.int .i64 b.sl.length),(34,.int .i64 ((i : Nat) : Int))] F' →
   ∀ cs,Q .normal F' ((b',.room cap' (mapD Id3.d (c.xs ++ s.parts))) :: (b8,.cells cs) :: (b7,.cells s.d) :: ofH b1 b2 b3 m1 m2 m3 b se (updP ev s.on ⟨n + 1,⟨b',cap',c.xs ++ s.parts⟩,defl s⟩) ch (cut H c))) :
  xcode Try.prog x55_s7 F ((b8,.cells [.int .i64 n,c.d,c2]) :: (b7,.cells s.d) :: ofH b1 b2 b3 m1 m2 m3 b se ev ch H) Q := by
 have hbig := big_eq
 obtain ⟨n12,n1m1,n1m2,n1m3,n13,n2m1,n2m2,n2m3,n23,m12,m13,m1b,m23,m2b,m3b⟩ := hd
 obtain ⟨n37,nm37,nm27,nm17,n27,n17⟩ := h7
 obtain ⟨n78,n38,nm38,nm28,nm18,n28,n18⟩ := h8
 obtain ⟨z,rfl⟩ : ∃ z : Nat → D,_ = z 0 :: .ptr b1 0 :: .ptr b2 0 :: .ptr b3 0 :: zz z 4 3 (.ptr b7 0 :: .ptr b8 0 :: zz z 9 23 (.slc (mapD Spl.d b.sl) :: .int .i64 b.sl.length :: .int .i64 ((i : Nat) : Int) :: zz z 35 111 [])) := hF.lit
 try dsimp only [zz,qb] at *
 clear hF
 have hsd : s.d = [.int .i64 s.by_.o,.int .i64 s.by_.s,.int .i64 s.by_.i,.int .i64 s.on.o,.int .i64 s.on.s,.int .i64 s.on.i,.slc (mapD Id3.d s.parts),.int .i64 s.df] := rfl
 have hw : IntKind.i64.wrap (n + 1) = n + 1 := wrap_id (by omega) (by omega)
 have hcd : c.d = .osl c.b c.cap (mapD Id3.d c.xs) := rfl
 have hav : c.xs ≠ [] → (c.b ≠ b1 ∧ c.b ≠ b2 ∧ c.b ≠ b3 ∧ c.b ≠ m1 ∧ c.b ≠ m2 ∧ c.b ≠ m3 ∧ c.b ≠ b7 ∧ c.b ≠ b8) := fun hx=>by
  have := (hc hx).2
  simp only [List.mem_cons,List.not_mem_nil,or_false,not_or] at this
  exact this
 have hme : mapD Id3.d c.xs = [] ↔ c.xs = [] := by simp [mapD]
 have hdrop : dropR ((b7,.cells s.d) :: ofH b1 b2 b3 m1 m2 m3 b se ev ch H) c.b (mapD Id3.d c.xs) = (b7,.cells s.d) :: ofH b1 b2 b3 m1 m2 m3 b se ev ch (cut H c) := by
  unfold dropR cut
  by_cases hx : c.xs = []
  ·rw [if_pos (hme.2 hx),if_pos hx]
  ·obtain ⟨q1,q2,q3,q4,q5,q6,q7,q8⟩ := hav hx
   rw [if_neg (fun e=>hx (hme.1 e)),if_neg hx]
   unfold ofH
   rw [e_miss q7,e_miss q3,e_miss q6,e_miss q5,e_miss q4,e_miss q2,e_miss q1]
 have hroom : mapD Id3.d c.xs ≠ [] → getH ((b7,.cells s.d) :: ofH b1 b2 b3 m1 m2 m3 b se ev ch H) c.b = some (.room c.cap (mapD Id3.d c.xs)) := fun hx0=>by
  have hx : c.xs ≠ [] := fun e=>hx0 (hme.2 e)
  obtain ⟨q1,q2,q3,q4,q5,q6,q7,q8⟩ := hav hx
  unfold ofH
  rw [h_miss q7,h_miss q3,h_miss q6,h_miss q5,h_miss q4,h_miss q2,h_miss q1]
  exact (hc hx).1
 simp +contextual only [x55,mapD_len,hw,h_miss,h_skip,n12,n1m1,n1m2,n1m3,n13,n2m1,n2m2,n2m3,n23,m12,m13,m1b,m23,m2b,m3b,n37,nm37,nm27,nm17,n27,n17,n78,n38,nm38,nm28,nm18,n28,n18,↓U55,↓XP,↓XU,XW0,XW1,qa,qb,qc,qd,qe,qf,reduceCtorEq,TYX]
 intro _
 rw [c_gh]
 refine Gz.take (j := 1) (b := c.b) (cap := c.cap) (xs := mapD Id3.d c.xs) rfl hroom ?_
 rw [hdrop]
 have hsz : ∀ q : List Id3,∀ y ∈ mapD Id3.d q,y.length = 3 := fun q=>mapD_sz fun _=>rfl
 simp +contextual only [x55,mapD_len,hsd,mapD_app,h_miss,h_skip,n12,n1m1,n1m2,n1m3,n13,n2m1,n2m2,n2m3,n23,m12,m13,m1b,m23,m2b,m3b,n37,nm37,nm27,nm17,n27,n17,n78,n38,nm38,nm28,nm18,n28,n18,↓U55,↓XP,↓XU,XW0,XW1,qa,qb,qc,qd,qe,qf,reduceCtorEq,TYX]
 intro _
 refine ⟨hsz _,hsz _,by omega,?_⟩
 have hgive : ∀ c3 : D,∀ F',Fr 146 [(1,.ptr b1 0),(2,.ptr b2 0),(3,.ptr b3 0),(7,.ptr b7 0),(8,.ptr b8 0),(32,.slc (mapD Spl.d b.sl)),(33,.int .i64 b.sl.length),(34,.int .i64 ((i : Nat) : Int))] F' → (∃ o,c3 = .slc o ∧ o = mapD Id3.d (defl s)) ∨ (∃ o,c3 = .own o ∧ o = mapD Id3.d (defl s)) → xcode Try.prog x55_s4 F' ((b8,.cells [.int .i64 (n + 1),.own (mapD Id3.d (c.xs ++ s.parts)),c3]) :: (b7,.cells s.d) :: ofH b1 b2 b3 m1 m2 m3 b se ev ch (cut H c)) Q := by
  intro c3 F' hF' hc3
  obtain ⟨z,rfl⟩ : ∃ z : Nat → D,_ = z 0 :: .ptr b1 0 :: .ptr b2 0 :: .ptr b3 0 :: zz z 4 3 (.ptr b7 0 :: .ptr b8 0 :: zz z 9 23 (.slc (mapD Spl.d b.sl) :: .int .i64 b.sl.length :: .int .i64 ((i : Nat) : Int) :: zz z 35 111 [])) := hF'.lit
  try dsimp only [zz,qb] at *
  clear hF'
  have hne : mapD Id3.d (c.xs ++ s.parts) ≠ [] := by simp [mapD,hp.1]
  have hc3v : c3.view1 = .slc (mapD Id3.d (defl s)) := by rcases hc3 with ⟨o,rfl,rfl⟩ | ⟨o,rfl,rfl⟩ <;> rfl
  have hlk : ofH b1 b2 b3 m1 m2 m3 b se ev ch (cut H c) = (b3,.cells [.mp (some m1),.mp (some m2),.mp (some m3)]) :: (m3,.mp (mapE qD ClA.d ch)) :: (m2,.mp (mapE Id3.d EvA.d ev)) :: (m1,.mp (mapE Id3.d D.bool se)) :: (b2,.cells [.mp none,.mp none,.mp none]) :: (b1,.cells b.d) :: cut H c := rfl
  rw [hlk]
  simp +contextual only [x55,mapD_len,↓U55,↓XP,↓XU,XW0,XW1,qa,qb,qc,qd,qe,qf,reduceCtorEq,TYX]
  refine Gz.give (bx := b8) (j := 1) (xs := mapD Id3.d (c.xs ++ s.parts)) (cs := [.int .i64 (n + 1),.own (mapD Id3.d (c.xs ++ s.parts)),c3]) hne (by simp [getH]) rfl fun b' cap' hf=>?_
  obtain ⟨f1,f2,f3,f4,f5,f6,f7,f8,f9⟩ := hf
  have u1 : updD (mapE Id3.d EvA.d ev) (.agg [.int .i64 s.on.o,.int .i64 s.on.s,.int .i64 s.on.i]) (.agg [.int .i64 (n + 1),.osl b' cap' (mapD Id3.d (c.xs ++ s.parts)),.slc (mapD Id3.d (defl s))]) = mapE Id3.d EvA.d (updP ev s.on ⟨n + 1,⟨b',cap',c.xs ++ s.parts⟩,defl s⟩) := upd_id (vd := EvA.d) (v := ⟨n + 1,⟨b',cap',c.xs ++ s.parts⟩,defl s⟩)
  simp +contextual only [x55,mapD_len,hsd,hc3v,u1,keys_id (x := s.on),h_miss,h_skip,n12,n1m1,n1m2,n1m3,n13,n2m1,n2m2,n2m3,n23,m12,m13,m1b,m23,m2b,m3b,n37,nm37,nm27,nm17,n27,n17,n78,n38,nm38,nm28,nm18,n28,n18,Ne.symm f1,Ne.symm f2,Ne.symm f3,Ne.symm f4,Ne.symm f5,Ne.symm f6,Ne.symm f7,Ne.symm f8,h_set,↓U55,↓XP,↓XU,XW0,XW1,qa,qb,qc,qd,qe,qf,reduceCtorEq,TYX]
  intros
  exact hQ b' cap' _ ⟨Ne.symm f1,Ne.symm f2,Ne.symm f3,Ne.symm f4,Ne.symm f5,Ne.symm f6,Ne.symm f7,Ne.symm f8,f9⟩ ⟨rfl,rfl,rfl,rfl,rfl,rfl,rfl,trivial⟩ _
 have hwd : 0 ≤ s.df → s.df < s.parts.length → IntKind.i64.wrap (s.df + 1) = s.df + 1 := fun _ _=>wrap_id (by omega) (by omega)
 refine ⟨by omega,fun _=>⟨fun h0=>⟨fun h1=>⟨hsz _,?_⟩,fun h1=>?_⟩,fun h0=>?_⟩⟩
 ·rw [hwd h0 h1]
  refine ⟨by omega,by omega,hgive _ _ ⟨rfl,rfl,rfl,rfl,rfl,rfl,rfl,rfl,rfl,trivial⟩ (.inl ⟨_,rfl,?_⟩)⟩
  obtain ⟨q,hq⟩ := Int.eq_ofNat_of_zero_le h0
  have hlt : q < s.parts.length := by omega
  rw [hq,show ((q : Int) + 1).toNat = q + 1 by omega,Int.toNat_natCast,mapD_take,mapD_drop]
  unfold defl
  rw [hq,if_pos ⟨by omega,by omega⟩,Int.toNat_natCast,take_succ hlt,List.drop_append_of_le_length (by simp; omega),List.drop_of_length_le (by simp; omega),List.nil_append]
 ·refine hgive _ _ ⟨rfl,rfl,rfl,rfl,rfl,rfl,rfl,rfl,rfl,trivial⟩ (.inr ⟨_,rfl,?_⟩)
  unfold defl
  rw [if_neg (fun e=>absurd e.2 (by omega))]
  rfl
 ·refine hgive _ _ ⟨rfl,rfl,rfl,rfl,rfl,rfl,rfl,rfl,rfl,trivial⟩ (.inr ⟨_,rfl,?_⟩)
  unfold defl
  rw [if_neg (fun e=>absurd e.1 (by omega))]
  rfl
theorem Sbn_room {fx H : AH} {x : Nat × AO} {bs fx' : AH} (h : ∀ p ∈ fx',p ∈ fx) (hk : fx'.map (·.1) = fx.map (·.1)) : Sbn (fx' ++ x :: H) (x :: (bs ++ (fx ++ H))) := by
 intro hn
 have hp : (x :: (bs ++ (fx ++ H))).Perm (bs ++ (fx ++ x :: H)) := by
  rw [← List.append_assoc,← List.append_assoc]
  exact (List.perm_middle (a := x) (l₁ := bs ++ fx) (l₂ := H)).symm
 have h2 := (hp.map (·.1)).nodup_iff.1 hn
 refine ⟨?_,fun p hm=>?_⟩
 ·rw [List.map_append,List.nodup_append] at h2
  rw [List.map_append,List.map_cons,hk,← List.map_cons,← List.map_append]
  exact h2.2.1
 ·rcases List.mem_append.1 hm with hm | hm
  ·exact .tail _ (List.mem_append_right _ (List.mem_append_left _ (h p hm)))
  ·rcases List.mem_cons.1 hm with hm | hm
   ·subst hm; exact .head _
   ·exact .tail _ (List.mem_append_right _ (List.mem_append_right _ hm))
structure EvOk (fx : List Nat) (nb xb : Nat) (m : List (Id3 × EvA)) (p : List (Id3 × Ev)) (R : AH) : Prop where
 pool : Pool fx (m.map fun p=>p.2.c) R
 val : m.map (fun p=>(p.1,p.2.p)) = p
 sz : ∀ q ∈ m,0 ≤ q.2.n ∧ q.2.n ≤ nb ∧ q.2.c.xs.length ≤ xb
theorem of_L10 {b1 b2 b3 m1 m2 m3 : Nat} {b : Bk} (hb : Small b) (hd : Ds6 b1 b2 b3 m1 m2 m3) {se : List (Id3 × Bool)} {H : AH} {F : List D} (hF : Fr 146 [(1,.ptr b1 0),(2,.ptr b2 0),(3,.ptr b3 0),(32,.slc (mapD Spl.d b.sl)),(33,.int .i64 b.sl.length),(34,.int .i64 0)] F) {Q : AQ}
  (hQ : ∀ F' ev R,Fr 146 [(1,.ptr b1 0),(2,.ptr b2 0),(3,.ptr b3 0)] F' → EvOk [b1,b2,b3,m1,m2,m3] 65536 4294967296 ev (b.sl.foldl ofS []) R → Q (.exit 2) F' (ofH b1 b2 b3 m1 m2 m3 b se ev [] (R ++ H))) : XW Try.prog x55_L10 F (ofH b1 b2 b3 m1 m2 m3 b se [] [] H) Q := by
 have hbig := big_eq
 have hd0 := hd
 obtain ⟨n12,n1m1,n1m2,n1m3,n13,n2m1,n2m2,n2m3,n23,m12,m13,m1b,m23,m2b,m3b⟩ := hd
 refine XW.loopSR Go.Proofs.Ytffbjejmobhpkaa.hm 146 (fun s : Nat × List (Id3 × EvA) × AH=>[(1,.ptr b1 0),(2,.ptr b2 0),(3,.ptr b3 0),(32,.slc (mapD Spl.d b.sl)),(33,.int .i64 b.sl.length),(34,.int .i64 ((s.1 : Nat) : Int))]) (fun s=>ofH b1 b2 b3 m1 m2 m3 b se s.2.1 [] (s.2.2 ++ H)) (fun s=>b.sl.length - s.1) (fun s=>s.1 ≤ b.sl.length ∧ EvOk [b1,b2,b3,m1,m2,m3] s.1 (65536 * s.1) s.2.1 ((b.sl.take s.1).foldl ofS []) s.2.2) (0,[],[]) ⟨by omega,Pool.nil,rfl,by simp⟩ hF rfl ?_
 rintro ⟨i,ev,R⟩ z ⟨hi,hev⟩ K hN hE hR
 dsimp only at hi hev hN
 show xcode _ _ [z 0,.ptr b1 0,.ptr b2 0,.ptr b3 0,z 4,z 5,z 6,z 7,z 8,z 9,z 10,z 11,z 12,z 13,z 14,z 15,z 16,z 17,z 18,z 19,z 20,z 21,z 22,z 23,z 24,z 25,z 26,z 27,z 28,z 29,z 30,z 31,.slc (mapD Spl.d b.sl),.int .i64 b.sl.length,.int .i64 ((i : Nat) : Int),z 35,z 36,z 37,z 38,z 39,z 40,z 41,z 42,z 43,z 44,z 45,z 46,z 47,z 48,z 49,z 50,z 51,z 52,z 53,z 54,z 55,z 56,z 57,z 58,z 59,z 60,z 61,z 62,z 63,z 64,z 65,z 66,z 67,z 68,z 69,z 70,z 71,z 72,z 73,z 74,z 75,z 76,z 77,z 78,z 79,z 80,z 81,z 82,z 83,z 84,z 85,z 86,z 87,z 88,z 89,z 90,z 91,z 92,z 93,z 94,z 95,z 96,z 97,z 98,z 99,z 100,z 101,z 102,z 103,z 104,z 105,z 106,z 107,z 108,z 109,z 110,z 111,z 112,z 113,z 114,z 115,z 116,z 117,z 118,z 119,z 120,z 121,z 122,z 123,z 124,z 125,z 126,z 127,z 128,z 129,z 130,z 131,z 132,z 133,z 134,z 135,z 136,z 137,z 138,z 139,z 140,z 141,z 142,z 143,z 144,z 145] (ofH b1 b2 b3 m1 m2 m3 b se ev [] (R ++ H)) K
 have hlk : ofH b1 b2 b3 m1 m2 m3 b se ev [] (R ++ H) = (b3,.cells [.mp (some m1),.mp (some m2),.mp (some m3)]) :: (m3,.mp (mapE qD ClA.d [])) :: (m2,.mp (mapE Id3.d EvA.d ev)) :: (m1,.mp (mapE Id3.d D.bool se)) :: (b2,.cells [.mp none,.mp none,.mp none]) :: (b1,.cells b.d) :: (R ++ H) := rfl
 by_cases hlt : i < b.sl.length
 ·have g := mapD_get (f := Spl.d) hlt
  have hlt' : ((i : Int) < (b.sl.length : Int)) = True := eq_true (by omega)
  have hstep := foldl_take (f := ofS) (b := []) hlt
  have hsm := (hb.pl _ (getD_mem hlt)).imp_right fun h=>(Nat.le_trans h (by omega) : _ ≤ 65536)
  generalize b.sl.getD i default = s at g hstep hsm
  have hsd : s.d = [.int .i64 s.by_.o,.int .i64 s.by_.s,.int .i64 s.by_.i,.int .i64 s.on.o,.int .i64 s.on.s,.int .i64 s.on.i,.slc (mapD Id3.d s.parts),.int .i64 s.df] := rfl
  have hsl := hb.sl
  -- what is left of a round
  have fin : ∀ (n : Int) (c : ClA) (c2 : D) (b7 b8 : Nat) (F' : List D),((lookP ev s.on).map (·.c)).getD ⟨0,0,[]⟩ = c → ((lookP ev s.on).map (·.n)).getD 0 = n →
    (¬ b3 = b7 ∧ ¬ m3 = b7 ∧ ¬ m2 = b7 ∧ ¬ m1 = b7 ∧ ¬ b2 = b7 ∧ ¬ b1 = b7 ∧ freshH (R ++ H) b7) → (¬ b7 = b8 ∧ ¬ b3 = b8 ∧ ¬ m3 = b8 ∧ ¬ m2 = b8 ∧ ¬ m1 = b8 ∧ ¬ b2 = b8 ∧ ¬ b1 = b8 ∧ freshH (R ++ H) b8) →
    Fr 146 [(1,.ptr b1 0),(2,.ptr b2 0),(3,.ptr b3 0),(7,.ptr b7 0),(8,.ptr b8 0),(32,.slc (mapD Spl.d b.sl)),(33,.int .i64 b.sl.length),(34,.int .i64 ((i : Nat) : Int))] F' → xcode Try.prog x55_s7 F' ((b8,.cells [.int .i64 n,c.d,c2]) :: (b7,.cells s.d) :: ofH b1 b2 b3 m1 m2 m3 b se ev [] (R ++ H)) (blockQ 3 (seqQ Try.prog (.reg [⟨.binOp .add 3 (.tmp 34) (.const (.int .i64 1)) 3,some 79,none,false,false⟩,⟨.move (.tmp 79),some 34,none,false,false⟩]) K)) := by
   intro n c c2 b7 b8 F' hc hn h7 h8 hF'
   have hnn : 0 ≤ n ∧ n ≤ i ∧ c.xs.length ≤ 65536 * i := by
    cases hlo : lookP ev s.on with
    | none=>rw [hlo] at hc hn; subst hc hn; simp
    | some e=>rw [hlo] at hc hn; subst hc hn; exact hev.sz _ (look_mem hlo)
   have hrm : c.xs ≠ [] → getH R c.b = some (.room c.cap (mapD Id3.d c.xs)) ∧ c.b ∉ [b1,b2,b3,m1,m2,m3] := fun hx=>by
    cases hlo : lookP ev s.on with
    | none=>rw [hlo] at hc; subst hc; exact absurd rfl hx
    | some e=>rw [hlo] at hc; subst hc; exact pool_look hev.pool hlo hx
   have hcut : cut (R ++ H) c = cut R c ++ H := by
    unfold cut
    by_cases hx : c.xs = []
    ·rw [if_pos hx,if_pos hx]
    ·rw [if_neg hx,if_neg hx,erase_app (hrm hx).1]
   refine of_s7 hd0 ⟨h7.1,h7.2.1,h7.2.2.1,h7.2.2.2.1,h7.2.2.2.2.1,h7.2.2.2.2.2.1⟩ ⟨h8.1,h8.2.1,h8.2.2.1,h8.2.2.2.1,h8.2.2.2.2.1,h8.2.2.2.2.2.1,h8.2.2.2.2.2.2.1⟩ ⟨hnn.1,by omega⟩ (by omega) hsm (fun hx=>?_) hF' ?_
   ·obtain ⟨q1,q2⟩ := hrm hx
    have q3 := getH_app (H := H) q1
    refine ⟨q3,?_⟩
    have q4 := fresh_ne2 h7.2.2.2.2.2.2 q3
    have q5 := fresh_ne2 h8.2.2.2.2.2.2.2 q3
    simp only [List.mem_cons,List.not_mem_nil,or_false,not_or] at q2 ⊢
    exact ⟨q2.1,q2.2.1,q2.2.2.1,q2.2.2.2.1,q2.2.2.2.2.1,q2.2.2.2.2.2,q4,q5⟩
   ·intro b' cap' F' hf hF' cs
    obtain ⟨z,rfl⟩ : ∃ z : Nat → D,_ = z 0 :: .ptr b1 0 :: .ptr b2 0 :: .ptr b3 0 :: zz z 4 28 (.slc (mapD Spl.d b.sl) :: .int .i64 b.sl.length :: .int .i64 ((i : Nat) : Int) :: zz z 35 111 []) := hF'.lit
    try dsimp only [zz,qb] at *
    simp +contextual only [x55,mapD_len,wrap_succ (show i ≤ big by omega),↓U55,↓XP,↓XU,XW0,XW1,qa,qb,qc,qd,qe,qf,reduceCtorEq,TYX]
    rw [hcut] at hf ⊢
    have hcv : (((lookP ev s.on).map EvA.c).getD ⟨0,0,[]⟩) = c := hc
    refine hN (i + 1,updP ev s.on ⟨n + 1,⟨b',cap',c.xs ++ s.parts⟩,defl s⟩,(b',.room cap' (mapD Id3.d (c.xs ++ s.parts))) :: cut R c) _ _ ⟨hlt,?_,?_,?_⟩ (by dsimp only; omega) ⟨rfl,rfl,rfl,rfl,rfl,rfl,rfl,trivial⟩ ?_
    ·refine pool_upd (f := EvA.c) hev.pool rfl (by simp [hsm.1]) ?_ hc (fresh_app hf.2.2.2.2.2.2.2.2)
     simp only [List.mem_cons,List.not_mem_nil,or_false,not_or]
     exact ⟨Ne.symm hf.2.2.2.2.2.2.2.1,Ne.symm hf.2.2.2.2.2.2.1,Ne.symm hf.2.2.1,Ne.symm hf.2.2.2.2.2.1,Ne.symm hf.2.2.2.2.1,Ne.symm hf.2.2.2.1⟩
    ·dsimp only
     rw [upd_map (f := EvA.p),hev.val,hstep]
     rw [ofS]
     have e1 : lookP ((b.sl.take i).foldl ofS []) s.on = (lookP ev s.on).map EvA.p := by rw [← hev.val,look_map]
     rw [e1]
     cases hlo : lookP ev s.on with
     | none=>rw [hlo] at hc hn; subst hc hn; rfl
     | some e=>rw [hlo] at hc hn; subst hc hn; rfl
    ·intro q hq
     dsimp only at hq ⊢
     rcases upd_mem hq with rfl | hq
     ·dsimp only
      rw [List.length_append]
      have := hsm.2
      omega
     ·have := hev.sz q hq
      omega
    ·exact Sbn_room (fx := [(b3,.cells [.mp (some m1),.mp (some m2),.mp (some m3)]),(m3,.mp (mapE qD ClA.d [])),(m2,.mp (mapE Id3.d EvA.d (updP ev s.on ⟨n + 1,⟨b',cap',c.xs ++ s.parts⟩,defl s⟩))),(m1,.mp (mapE Id3.d D.bool se)),(b2,.cells [.mp none,.mp none,.mp none]),(b1,.cells b.d)]) (bs := [(b8,.cells cs),(b7,.cells s.d)]) (fun p hp=>hp) rfl
  cases hlo : lookP ev s.on with
  | none =>
   rw [hlk]
   simp +contextual only [↓u55_L10,↓u55_s9,↓u55_s8,mapD_len,g,hsd,hlt',keys_id (x := s.on),look_id (x := s.on),hlo,h_miss,h_skip,n12,n1m1,n1m2,n1m3,n13,n2m1,n2m2,n2m3,n23,m12,m13,m1b,m23,m2b,m3b,↓u55_s0,↓u55_s1,↓u55_L2,↓u55_c3,↓u55_s4,↓u55_s5,↓u55_s6,↓u55_s7,↓u55_s8,↓u55_s9,↓u55_L10,↓u55_s11,↓u55_s12,↓u55_s13,↓u55_s14,↓u55_s15,↓u55_s16,↓u55_L17,↓u55_c18,↓u55_s19,↓u55_s20,↓u55_s21,↓u55_L22,↓u55_s23,↓u55_s24,↓u55_s25,↓u55_s26,↓u55_s27,↓XP,↓XU,XW0,XW1,qa,qb,qc,qd,qe,qf,reduceCtorEq,TYX,-u55_s7]
   intro b7 h7 b8 h8
   refine fin 0 ⟨0,0,[]⟩ _ b7 b8 _ ?_ ?_ h7 h8 ?_
   ·rw [hlo]; rfl
   ·rw [hlo]; rfl
   ·exact ⟨rfl,rfl,rfl,rfl,rfl,rfl,rfl,rfl,rfl,trivial⟩
  | some e =>
   rw [hlk]
   have hed : EvA.d e = .agg [.int .i64 e.n,.osl e.c.b e.c.cap (mapD Id3.d e.c.xs),.slc (mapD Id3.d e.one)] := rfl
   simp +contextual only [↓u55_L10,↓u55_s9,↓u55_s8,mapD_len,g,hsd,hlt',keys_id (x := s.on),look_id (x := s.on),hlo,hed,h_miss,h_skip,n12,n1m1,n1m2,n1m3,n13,n2m1,n2m2,n2m3,n23,m12,m13,m1b,m23,m2b,m3b,↓u55_s0,↓u55_s1,↓u55_L2,↓u55_c3,↓u55_s4,↓u55_s5,↓u55_s6,↓u55_s7,↓u55_s8,↓u55_s9,↓u55_L10,↓u55_s11,↓u55_s12,↓u55_s13,↓u55_s14,↓u55_s15,↓u55_s16,↓u55_L17,↓u55_c18,↓u55_s19,↓u55_s20,↓u55_s21,↓u55_L22,↓u55_s23,↓u55_s24,↓u55_s25,↓u55_s26,↓u55_s27,↓XP,↓XU,XW0,XW1,qa,qb,qc,qd,qe,qf,reduceCtorEq,TYX,-u55_s7]
   intro b7 h7 b8 h8
   refine fin e.n e.c _ b7 b8 _ ?_ ?_ h7 h8 ?_
   ·rw [hlo]; rfl
   ·rw [hlo]; rfl
   ·exact ⟨rfl,rfl,rfl,rfl,rfl,rfl,rfl,rfl,rfl,trivial⟩
 ·have hin : i = b.sl.length := by omega
  subst hin
  rw [List.take_length] at hev
  simp +contextual only [x55,mapD_len,↓U55,↓XP,↓XU,XW0,XW1,qa,qb,qc,qd,qe,qf,reduceCtorEq,TYX]
  intros
  refine hE _ _ _ ?_
  have hsl := hb.sl
  exact hQ _ _ _ ⟨rfl,rfl,rfl,rfl,trivial⟩ ⟨hev.pool,hev.val,fun q hq=>by have := hev.sz q hq; omega⟩
end Go.Proofs.Ytffbjejmobhpkaa
end
section
namespace Go.Proofs.Ytffbjejmobhpkaa
open Go Go.Aw
theorem of_s14 {b1 b2 b3 m1 m2 m3 b7 b8 i : Nat} {b : Bk} {s : Mg} {n : Int} {c : ClA} {c2 : D} {se : List (Id3 × Bool)} {ev : List (Id3 × EvA)} {ch : List ((Id3 × Id3) × ClA)} (hd : Ds6 b1 b2 b3 m1 m2 m3)
  (h7 : ¬ b3 = b7 ∧ ¬ m3 = b7 ∧ ¬ m2 = b7 ∧ ¬ m1 = b7 ∧ ¬ b2 = b7 ∧ ¬ b1 = b7) (h8 : ¬ b7 = b8 ∧ ¬ b3 = b8 ∧ ¬ m3 = b8 ∧ ¬ m2 = b8 ∧ ¬ m1 = b8 ∧ ¬ b2 = b8 ∧ ¬ b1 = b8)
  (hn : 0 ≤ n ∧ n ≤ 131072) (hcl : c.xs.length ≤ 8589934592) {H : AH}
  (hc : c.xs ≠ [] → getH H c.b = some (.room c.cap (mapD Id3.d c.xs)) ∧ c.b ∉ [b1,b2,b3,m1,m2,m3,b7,b8])
  {F : List D} (hF : Fr 146 [(1,.ptr b1 0),(2,.ptr b2 0),(3,.ptr b3 0),(10,.ptr b7 0),(11,.ptr b8 0),(81,.slc (mapD Mg.d b.mg)),(82,.int .i64 b.mg.length),(83,.int .i64 ((i : Nat) : Int))] F) {Q : AQ} (hQ : ∀ b' cap' F',¬ b8 = b' ∧ ¬ b7 = b' ∧ ¬ b3 = b' ∧ ¬ m3 = b' ∧ ¬ m2 = b' ∧ ¬ m1 = b' ∧ ¬ b2 = b' ∧ ¬ b1 = b' ∧ freshH (cut H c) b' → Fr 146 [(1,.ptr b1 0),(2,.ptr b2 0),(3,.ptr b3 0),(81,.slc (mapD Mg.d b.mg)),(82,.int .i64 b.mg.length),(83,.int .i64 ((i : Nat) : Int))] F' →
   ∀ cs,Q .normal F' ((b',.room cap' (mapD Id3.d (c.xs ++ [s.to]))) :: (b8,.cells cs) :: (b7,.cells s.d) :: ofH b1 b2 b3 m1 m2 m3 b se (updP ev s.on ⟨n + 1,⟨b',cap',c.xs ++ [s.to]⟩,[s.to]⟩) ch (cut H c))) :
  xcode Try.prog x55_s14 F ((b8,.cells [.int .i64 n,c.d,c2]) :: (b7,.cells s.d) :: ofH b1 b2 b3 m1 m2 m3 b se ev ch H) Q := by
 have hbig := big_eq
 obtain ⟨n12,n1m1,n1m2,n1m3,n13,n2m1,n2m2,n2m3,n23,m12,m13,m1b,m23,m2b,m3b⟩ := hd
 obtain ⟨n37,nm37,nm27,nm17,n27,n17⟩ := h7
 obtain ⟨n78,n38,nm38,nm28,nm18,n28,n18⟩ := h8
 obtain ⟨z,rfl⟩ : ∃ z : Nat → D,_ = z 0 :: .ptr b1 0 :: .ptr b2 0 :: .ptr b3 0 :: zz z 4 6 (.ptr b7 0 :: .ptr b8 0 :: zz z 12 69 (.slc (mapD Mg.d b.mg) :: .int .i64 b.mg.length :: .int .i64 ((i : Nat) : Int) :: zz z 84 62 [])) := hF.lit
 try dsimp only [zz,qb] at *
 clear hF
 have hsd : s.d = [.int .i64 s.by_.o,.int .i64 s.by_.s,.int .i64 s.by_.i,.int .i64 s.on.o,.int .i64 s.on.s,.int .i64 s.on.i,.int .i64 s.to.o,.int .i64 s.to.s,.int .i64 s.to.i] := rfl
 have hw : IntKind.i64.wrap (n + 1) = n + 1 := wrap_id (by omega) (by omega)
 have hcd : c.d = .osl c.b c.cap (mapD Id3.d c.xs) := rfl
 have hav : c.xs ≠ [] → (c.b ≠ b1 ∧ c.b ≠ b2 ∧ c.b ≠ b3 ∧ c.b ≠ m1 ∧ c.b ≠ m2 ∧ c.b ≠ m3 ∧ c.b ≠ b7 ∧ c.b ≠ b8) := fun hx=>by
  have := (hc hx).2
  simp only [List.mem_cons,List.not_mem_nil,or_false,not_or] at this
  exact this
 have hme : mapD Id3.d c.xs = [] ↔ c.xs = [] := by simp [mapD]
 have hdrop : dropR ((b7,.cells s.d) :: ofH b1 b2 b3 m1 m2 m3 b se ev ch H) c.b (mapD Id3.d c.xs) = (b7,.cells s.d) :: ofH b1 b2 b3 m1 m2 m3 b se ev ch (cut H c) := by
  unfold dropR cut
  by_cases hx : c.xs = []
  ·rw [if_pos (hme.2 hx),if_pos hx]
  ·obtain ⟨q1,q2,q3,q4,q5,q6,q7,q8⟩ := hav hx
   rw [if_neg (fun e=>hx (hme.1 e)),if_neg hx]
   unfold ofH
   rw [e_miss q7,e_miss q3,e_miss q6,e_miss q5,e_miss q4,e_miss q2,e_miss q1]
 have hroom : mapD Id3.d c.xs ≠ [] → getH ((b7,.cells s.d) :: ofH b1 b2 b3 m1 m2 m3 b se ev ch H) c.b = some (.room c.cap (mapD Id3.d c.xs)) := fun hx0=>by
  have hx : c.xs ≠ [] := fun e=>hx0 (hme.2 e)
  obtain ⟨q1,q2,q3,q4,q5,q6,q7,q8⟩ := hav hx
  unfold ofH
  rw [h_miss q7,h_miss q3,h_miss q6,h_miss q5,h_miss q4,h_miss q2,h_miss q1]
  exact (hc hx).1
 simp +contextual only [x55,mapD_len,hw,h_miss,h_skip,n12,n1m1,n1m2,n1m3,n13,n2m1,n2m2,n2m3,n23,m12,m13,m1b,m23,m2b,m3b,n37,nm37,nm27,nm17,n27,n17,n78,n38,nm38,nm28,nm18,n28,n18,↓U55,↓XP,↓XU,XW0,XW1,qa,qb,qc,qd,qe,qf,reduceCtorEq,TYX]
 intro _
 rw [c_gh]
 refine Gz.take (j := 1) (b := c.b) (cap := c.cap) (xs := mapD Id3.d c.xs) rfl hroom ?_
 rw [hdrop]
 have hsz : ∀ q : List Id3,∀ y ∈ mapD Id3.d q,y.length = 3 := fun q=>mapD_sz fun _=>rfl
 simp +contextual only [x55,mapD_len,hsd,ids_1 (x := s.to),mapD_app,h_miss,h_skip,n12,n1m1,n1m2,n1m3,n13,n2m1,n2m2,n2m3,n23,m12,m13,m1b,m23,m2b,m3b,n37,nm37,nm27,nm17,n27,n17,n78,n38,nm38,nm28,nm18,n28,n18,↓U55,↓XP,↓XU,XW0,XW1,qa,qb,qc,qd,qe,qf,reduceCtorEq,TYX]
 skip
 have hgive : ∀ c3 : D,∀ F',Fr 146 [(1,.ptr b1 0),(2,.ptr b2 0),(3,.ptr b3 0),(10,.ptr b7 0),(11,.ptr b8 0),(81,.slc (mapD Mg.d b.mg)),(82,.int .i64 b.mg.length),(83,.int .i64 ((i : Nat) : Int))] F' → (∃ o,c3 = .slc o ∧ o = mapD Id3.d ([s.to])) ∨ (∃ o,c3 = .own o ∧ o = mapD Id3.d ([s.to])) → xcode Try.prog x55_s11 F' ((b8,.cells [.int .i64 (n + 1),.own (mapD Id3.d (c.xs ++ [s.to])),c3]) :: (b7,.cells s.d) :: ofH b1 b2 b3 m1 m2 m3 b se ev ch (cut H c)) Q := by
  intro c3 F' hF' hc3
  obtain ⟨z,rfl⟩ : ∃ z : Nat → D,_ = z 0 :: .ptr b1 0 :: .ptr b2 0 :: .ptr b3 0 :: zz z 4 6 (.ptr b7 0 :: .ptr b8 0 :: zz z 12 69 (.slc (mapD Mg.d b.mg) :: .int .i64 b.mg.length :: .int .i64 ((i : Nat) : Int) :: zz z 84 62 [])) := hF'.lit
  try dsimp only [zz,qb] at *
  clear hF'
  have hne : mapD Id3.d (c.xs ++ [s.to]) ≠ [] := by simp [mapD]
  have hc3v : c3.view1 = .slc (mapD Id3.d ([s.to])) := by rcases hc3 with ⟨o,rfl,rfl⟩ | ⟨o,rfl,rfl⟩ <;> rfl
  have hlk : ofH b1 b2 b3 m1 m2 m3 b se ev ch (cut H c) = (b3,.cells [.mp (some m1),.mp (some m2),.mp (some m3)]) :: (m3,.mp (mapE qD ClA.d ch)) :: (m2,.mp (mapE Id3.d EvA.d ev)) :: (m1,.mp (mapE Id3.d D.bool se)) :: (b2,.cells [.mp none,.mp none,.mp none]) :: (b1,.cells b.d) :: cut H c := rfl
  rw [hlk]
  simp +contextual only [x55,mapD_len,↓U55,↓XP,↓XU,XW0,XW1,qa,qb,qc,qd,qe,qf,reduceCtorEq,TYX]
  refine Gz.give (bx := b8) (j := 1) (xs := mapD Id3.d (c.xs ++ [s.to])) (cs := [.int .i64 (n + 1),.own (mapD Id3.d (c.xs ++ [s.to])),c3]) hne (by simp [getH]) rfl fun b' cap' hf=>?_
  obtain ⟨f1,f2,f3,f4,f5,f6,f7,f8,f9⟩ := hf
  have u1 : updD (mapE Id3.d EvA.d ev) (.agg [.int .i64 s.on.o,.int .i64 s.on.s,.int .i64 s.on.i]) (.agg [.int .i64 (n + 1),.osl b' cap' (mapD Id3.d (c.xs ++ [s.to])),.slc (mapD Id3.d ([s.to]))]) = mapE Id3.d EvA.d (updP ev s.on ⟨n + 1,⟨b',cap',c.xs ++ [s.to]⟩,[s.to]⟩) := upd_id (vd := EvA.d) (v := ⟨n + 1,⟨b',cap',c.xs ++ [s.to]⟩,[s.to]⟩)
  simp +contextual only [x55,mapD_len,hsd,hc3v,u1,keys_id (x := s.on),h_miss,h_skip,n12,n1m1,n1m2,n1m3,n13,n2m1,n2m2,n2m3,n23,m12,m13,m1b,m23,m2b,m3b,n37,nm37,nm27,nm17,n27,n17,n78,n38,nm38,nm28,nm18,n28,n18,Ne.symm f1,Ne.symm f2,Ne.symm f3,Ne.symm f4,Ne.symm f5,Ne.symm f6,Ne.symm f7,Ne.symm f8,h_set,↓U55,↓XP,↓XU,XW0,XW1,qa,qb,qc,qd,qe,qf,reduceCtorEq,TYX]
  intros
  exact hQ b' cap' _ ⟨Ne.symm f1,Ne.symm f2,Ne.symm f3,Ne.symm f4,Ne.symm f5,Ne.symm f6,Ne.symm f7,Ne.symm f8,f9⟩ ⟨rfl,rfl,rfl,rfl,rfl,rfl,rfl,trivial⟩ _
 exact ⟨hsz _,hsz _,by omega,by omega,hgive _ _ ⟨rfl,rfl,rfl,rfl,rfl,rfl,rfl,rfl,rfl,trivial⟩ (.inr ⟨_,rfl,rfl⟩)⟩
theorem of_L17 {b1 b2 b3 m1 m2 m3 : Nat} {b : Bk} (hb : Small b) (hd : Ds6 b1 b2 b3 m1 m2 m3) {se : List (Id3 × Bool)} {H : AH} {ev0 : List (Id3 × EvA)} {R0 : AH} {p0 : List (Id3 × Ev)} (hev0 : EvOk [b1,b2,b3,m1,m2,m3] 65536 4294967296 ev0 p0 R0) {F : List D} (hF : Fr 146 [(1,.ptr b1 0),(2,.ptr b2 0),(3,.ptr b3 0),(81,.slc (mapD Mg.d b.mg)),(82,.int .i64 b.mg.length),(83,.int .i64 0)] F) {Q : AQ}
  (hQ : ∀ F' ev R,Fr 146 [(1,.ptr b1 0),(2,.ptr b2 0),(3,.ptr b3 0)] F' → EvOk [b1,b2,b3,m1,m2,m3] 131072 8589934592 ev (b.mg.foldl ofM p0) R → Q (.exit 4) F' (ofH b1 b2 b3 m1 m2 m3 b se ev [] (R ++ H))) : XW Try.prog x55_L17 F (ofH b1 b2 b3 m1 m2 m3 b se ev0 [] (R0 ++ H)) Q := by
 have hbig := big_eq
 have hd0 := hd
 obtain ⟨n12,n1m1,n1m2,n1m3,n13,n2m1,n2m2,n2m3,n23,m12,m13,m1b,m23,m2b,m3b⟩ := hd
 refine XW.loopSR Go.Proofs.Ytffbjejmobhpkaa.hm 146 (fun s : Nat × List (Id3 × EvA) × AH=>[(1,.ptr b1 0),(2,.ptr b2 0),(3,.ptr b3 0),(81,.slc (mapD Mg.d b.mg)),(82,.int .i64 b.mg.length),(83,.int .i64 ((s.1 : Nat) : Int))]) (fun s=>ofH b1 b2 b3 m1 m2 m3 b se s.2.1 [] (s.2.2 ++ H)) (fun s=>b.mg.length - s.1) (fun s=>s.1 ≤ b.mg.length ∧ EvOk [b1,b2,b3,m1,m2,m3] (65536 + s.1) (4294967296 + s.1) s.2.1 ((b.mg.take s.1).foldl ofM p0) s.2.2) (0,ev0,R0) ⟨by omega,hev0.pool,hev0.val,hev0.sz⟩ hF rfl ?_
 rintro ⟨i,ev,R⟩ z ⟨hi,hev⟩ K hN hE hR
 dsimp only at hi hev hN
 show xcode _ _ [z 0,.ptr b1 0,.ptr b2 0,.ptr b3 0,z 4,z 5,z 6,z 7,z 8,z 9,z 10,z 11,z 12,z 13,z 14,z 15,z 16,z 17,z 18,z 19,z 20,z 21,z 22,z 23,z 24,z 25,z 26,z 27,z 28,z 29,z 30,z 31,z 32,z 33,z 34,z 35,z 36,z 37,z 38,z 39,z 40,z 41,z 42,z 43,z 44,z 45,z 46,z 47,z 48,z 49,z 50,z 51,z 52,z 53,z 54,z 55,z 56,z 57,z 58,z 59,z 60,z 61,z 62,z 63,z 64,z 65,z 66,z 67,z 68,z 69,z 70,z 71,z 72,z 73,z 74,z 75,z 76,z 77,z 78,z 79,z 80,.slc (mapD Mg.d b.mg),.int .i64 b.mg.length,.int .i64 ((i : Nat) : Int),z 84,z 85,z 86,z 87,z 88,z 89,z 90,z 91,z 92,z 93,z 94,z 95,z 96,z 97,z 98,z 99,z 100,z 101,z 102,z 103,z 104,z 105,z 106,z 107,z 108,z 109,z 110,z 111,z 112,z 113,z 114,z 115,z 116,z 117,z 118,z 119,z 120,z 121,z 122,z 123,z 124,z 125,z 126,z 127,z 128,z 129,z 130,z 131,z 132,z 133,z 134,z 135,z 136,z 137,z 138,z 139,z 140,z 141,z 142,z 143,z 144,z 145] (ofH b1 b2 b3 m1 m2 m3 b se ev [] (R ++ H)) K
 have hlk : ofH b1 b2 b3 m1 m2 m3 b se ev [] (R ++ H) = (b3,.cells [.mp (some m1),.mp (some m2),.mp (some m3)]) :: (m3,.mp (mapE qD ClA.d [])) :: (m2,.mp (mapE Id3.d EvA.d ev)) :: (m1,.mp (mapE Id3.d D.bool se)) :: (b2,.cells [.mp none,.mp none,.mp none]) :: (b1,.cells b.d) :: (R ++ H) := rfl
 by_cases hlt : i < b.mg.length
 ·have g := mapD_get (f := Mg.d) hlt
  have hlt' : ((i : Int) < (b.mg.length : Int)) = True := eq_true (by omega)
  have hstep := foldl_take (f := ofM) (b := p0) hlt
  generalize b.mg.getD i default = s at g hstep
  have hsd : s.d = [.int .i64 s.by_.o,.int .i64 s.by_.s,.int .i64 s.by_.i,.int .i64 s.on.o,.int .i64 s.on.s,.int .i64 s.on.i,.int .i64 s.to.o,.int .i64 s.to.s,.int .i64 s.to.i] := rfl
  have hsl := hb.mg
  -- what is left of a round
  have fin : ∀ (n : Int) (c : ClA) (c2 : D) (b7 b8 : Nat) (F' : List D),((lookP ev s.on).map (·.c)).getD ⟨0,0,[]⟩ = c → ((lookP ev s.on).map (·.n)).getD 0 = n →
    (¬ b3 = b7 ∧ ¬ m3 = b7 ∧ ¬ m2 = b7 ∧ ¬ m1 = b7 ∧ ¬ b2 = b7 ∧ ¬ b1 = b7 ∧ freshH (R ++ H) b7) → (¬ b7 = b8 ∧ ¬ b3 = b8 ∧ ¬ m3 = b8 ∧ ¬ m2 = b8 ∧ ¬ m1 = b8 ∧ ¬ b2 = b8 ∧ ¬ b1 = b8 ∧ freshH (R ++ H) b8) →
    Fr 146 [(1,.ptr b1 0),(2,.ptr b2 0),(3,.ptr b3 0),(10,.ptr b7 0),(11,.ptr b8 0),(81,.slc (mapD Mg.d b.mg)),(82,.int .i64 b.mg.length),(83,.int .i64 ((i : Nat) : Int))] F' → xcode Try.prog x55_s14 F' ((b8,.cells [.int .i64 n,c.d,c2]) :: (b7,.cells s.d) :: ofH b1 b2 b3 m1 m2 m3 b se ev [] (R ++ H)) (blockQ 5 (seqQ Try.prog (.reg [⟨.binOp .add 3 (.tmp 83) (.const (.int .i64 1)) 3,some 112,none,false,false⟩,⟨.move (.tmp 112),some 83,none,false,false⟩]) K)) := by
   intro n c c2 b7 b8 F' hc hn h7 h8 hF'
   have hnn : 0 ≤ n ∧ n ≤ (65536 + i : Nat) ∧ c.xs.length ≤ 4294967296 + i := by
    cases hlo : lookP ev s.on with
    | none=>rw [hlo] at hc hn; subst hc hn; simp; omega
    | some e=>rw [hlo] at hc hn; subst hc hn; exact hev.sz _ (look_mem hlo)
   have hrm : c.xs ≠ [] → getH R c.b = some (.room c.cap (mapD Id3.d c.xs)) ∧ c.b ∉ [b1,b2,b3,m1,m2,m3] := fun hx=>by
    cases hlo : lookP ev s.on with
    | none=>rw [hlo] at hc; subst hc; exact absurd rfl hx
    | some e=>rw [hlo] at hc; subst hc; exact pool_look hev.pool hlo hx
   have hcut : cut (R ++ H) c = cut R c ++ H := by
    unfold cut
    by_cases hx : c.xs = []
    ·rw [if_pos hx,if_pos hx]
    ·rw [if_neg hx,if_neg hx,erase_app (hrm hx).1]
   refine of_s14 hd0 ⟨h7.1,h7.2.1,h7.2.2.1,h7.2.2.2.1,h7.2.2.2.2.1,h7.2.2.2.2.2.1⟩ ⟨h8.1,h8.2.1,h8.2.2.1,h8.2.2.2.1,h8.2.2.2.2.1,h8.2.2.2.2.2.1,h8.2.2.2.2.2.2.1⟩ ⟨hnn.1,by omega⟩ (by omega) (fun hx=>?_) hF' ?_
   ·obtain ⟨q1,q2⟩ := hrm hx
    have q3 := getH_app (H := H) q1
    refine ⟨q3,?_⟩
    have q4 := fresh_ne2 h7.2.2.2.2.2.2 q3
    have q5 := fresh_ne2 h8.2.2.2.2.2.2.2 q3
    simp only [List.mem_cons,List.not_mem_nil,or_false,not_or] at q2 ⊢
    exact ⟨q2.1,q2.2.1,q2.2.2.1,q2.2.2.2.1,q2.2.2.2.2.1,q2.2.2.2.2.2,q4,q5⟩
   ·intro b' cap' F' hf hF' cs
    obtain ⟨z,rfl⟩ : ∃ z : Nat → D,_ = z 0 :: .ptr b1 0 :: .ptr b2 0 :: .ptr b3 0 :: zz z 4 77 (.slc (mapD Mg.d b.mg) :: .int .i64 b.mg.length :: .int .i64 ((i : Nat) : Int) :: zz z 84 62 []) := hF'.lit
    try dsimp only [zz,qb] at *
    simp +contextual only [x55,mapD_len,wrap_succ (show i ≤ big by omega),↓U55,↓XP,↓XU,XW0,XW1,qa,qb,qc,qd,qe,qf,reduceCtorEq,TYX]
    rw [hcut] at hf ⊢
    have hcv : (((lookP ev s.on).map EvA.c).getD ⟨0,0,[]⟩) = c := hc
    refine hN (i + 1,updP ev s.on ⟨n + 1,⟨b',cap',c.xs ++ [s.to]⟩,[s.to]⟩,(b',.room cap' (mapD Id3.d (c.xs ++ [s.to]))) :: cut R c) _ _ ⟨hlt,?_,?_,?_⟩ (by dsimp only; omega) ⟨rfl,rfl,rfl,rfl,rfl,rfl,rfl,trivial⟩ ?_
    ·refine pool_upd (f := EvA.c) hev.pool rfl (by simp) ?_ hc (fresh_app hf.2.2.2.2.2.2.2.2)
     simp only [List.mem_cons,List.not_mem_nil,or_false,not_or]
     exact ⟨Ne.symm hf.2.2.2.2.2.2.2.1,Ne.symm hf.2.2.2.2.2.2.1,Ne.symm hf.2.2.1,Ne.symm hf.2.2.2.2.2.1,Ne.symm hf.2.2.2.2.1,Ne.symm hf.2.2.2.1⟩
    ·dsimp only
     rw [upd_map (f := EvA.p),hev.val,hstep]
     rw [ofM]
     have e1 : lookP ((b.mg.take i).foldl ofM p0) s.on = (lookP ev s.on).map EvA.p := by rw [← hev.val,look_map]
     rw [e1]
     cases hlo : lookP ev s.on with
     | none=>rw [hlo] at hc hn; subst hc hn; rfl
     | some e=>rw [hlo] at hc hn; subst hc hn; rfl
    ·intro q hq
     dsimp only at hq ⊢
     rcases upd_mem hq with rfl | hq
     ·dsimp only
      simp only [List.length_append,List.length_cons,List.length_nil]
      omega
     ·have := hev.sz q hq
      omega
    ·exact Sbn_room (fx := [(b3,.cells [.mp (some m1),.mp (some m2),.mp (some m3)]),(m3,.mp (mapE qD ClA.d [])),(m2,.mp (mapE Id3.d EvA.d (updP ev s.on ⟨n + 1,⟨b',cap',c.xs ++ [s.to]⟩,[s.to]⟩))),(m1,.mp (mapE Id3.d D.bool se)),(b2,.cells [.mp none,.mp none,.mp none]),(b1,.cells b.d)]) (bs := [(b8,.cells cs),(b7,.cells s.d)]) (fun p hp=>hp) rfl
  cases hlo : lookP ev s.on with
  | none =>
   rw [hlk]
   simp +contextual only [↓u55_L17,↓u55_s16,↓u55_s15,mapD_len,g,hsd,hlt',keys_id (x := s.on),look_id (x := s.on),hlo,h_miss,h_skip,n12,n1m1,n1m2,n1m3,n13,n2m1,n2m2,n2m3,n23,m12,m13,m1b,m23,m2b,m3b,↓u55_s0,↓u55_s1,↓u55_L2,↓u55_c3,↓u55_s4,↓u55_s5,↓u55_s6,↓u55_s7,↓u55_s8,↓u55_s9,↓u55_L10,↓u55_s11,↓u55_s12,↓u55_s13,↓u55_s14,↓u55_s15,↓u55_s16,↓u55_L17,↓u55_c18,↓u55_s19,↓u55_s20,↓u55_s21,↓u55_L22,↓u55_s23,↓u55_s24,↓u55_s25,↓u55_s26,↓u55_s27,↓XP,↓XU,XW0,XW1,qa,qb,qc,qd,qe,qf,reduceCtorEq,TYX,-u55_s14]
   intro b7 h7 b8 h8
   refine fin 0 ⟨0,0,[]⟩ _ b7 b8 _ ?_ ?_ h7 h8 ?_
   ·rw [hlo]; rfl
   ·rw [hlo]; rfl
   ·exact ⟨rfl,rfl,rfl,rfl,rfl,rfl,rfl,rfl,rfl,trivial⟩
  | some e =>
   rw [hlk]
   have hed : EvA.d e = .agg [.int .i64 e.n,.osl e.c.b e.c.cap (mapD Id3.d e.c.xs),.slc (mapD Id3.d e.one)] := rfl
   simp +contextual only [↓u55_L17,↓u55_s16,↓u55_s15,mapD_len,g,hsd,hlt',keys_id (x := s.on),look_id (x := s.on),hlo,hed,h_miss,h_skip,n12,n1m1,n1m2,n1m3,n13,n2m1,n2m2,n2m3,n23,m12,m13,m1b,m23,m2b,m3b,↓u55_s0,↓u55_s1,↓u55_L2,↓u55_c3,↓u55_s4,↓u55_s5,↓u55_s6,↓u55_s7,↓u55_s8,↓u55_s9,↓u55_L10,↓u55_s11,↓u55_s12,↓u55_s13,↓u55_s14,↓u55_s15,↓u55_s16,↓u55_L17,↓u55_c18,↓u55_s19,↓u55_s20,↓u55_s21,↓u55_L22,↓u55_s23,↓u55_s24,↓u55_s25,↓u55_s26,↓u55_s27,↓XP,↓XU,XW0,XW1,qa,qb,qc,qd,qe,qf,reduceCtorEq,TYX,-u55_s14]
   intro b7 h7 b8 h8
   refine fin e.n e.c _ b7 b8 _ ?_ ?_ h7 h8 ?_
   ·rw [hlo]; rfl
   ·rw [hlo]; rfl
   ·exact ⟨rfl,rfl,rfl,rfl,rfl,rfl,rfl,rfl,rfl,trivial⟩
 ·have hin : i = b.mg.length := by omega
  subst hin
  rw [List.take_length] at hev
  simp +contextual only [x55,mapD_len,↓U55,↓XP,↓XU,XW0,XW1,qa,qb,qc,qd,qe,qf,reduceCtorEq,TYX]
  intros
  refine hE _ _ _ ?_
  have hsl := hb.mg
  exact hQ _ _ _ ⟨rfl,rfl,rfl,rfl,trivial⟩ ⟨hev.pool,hev.val,fun q hq=>by have := hev.sz q hq; omega⟩
end Go.Proofs.Ytffbjejmobhpkaa
end
