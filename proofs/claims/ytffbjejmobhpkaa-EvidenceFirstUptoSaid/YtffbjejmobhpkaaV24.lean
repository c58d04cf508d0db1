/- A part of the proof of what the last text says: Ewj, Ew9, Ep5, Ewk, Ep6, Ep7, Er5, Er6. Conditions: those in each theorem. -/
import Derived.Test.YtffbjejmobhpkaaV23
set_option linter.unusedVariables false
set_option linter.unusedSimpArgs false
set_option maxRecDepth 100000
set_option maxHeartbeats 16000000
open Nat renaming reduceSub → qa,reduceAdd → qb,reduceMul → qc,reduceEqDiff → qd,reduceLeDiff → qe,reduceBEq → qf
section
namespace Go.Proofs.Ytffbjejmobhpkaa
open Go Go.Aw
theorem f_Resolve {b : Bk} (hb : Small b) (hx : IxOk (ixP b)) {fr to : Id3} {H : AH} {R : D → AH → Prop} (h : R (.tup [.agg (resP (ixP b) fr to).1.d,.int .i64 (resP (ixP b) fr to).2]) H) : ACall Try.prog 50 [.agg b.d,.agg fr.d,.agg to.d] H R := by
  refine b50 fun hf => ?_
  have hbd : b.d = [.slc (mapD En.d b.en),.slc (mapD Sn.d b.sn),.slc (mapD Sr.d b.sr),.slc (mapD Qt.d b.qt),.slc (mapD Spl.d b.sl),.slc (mapD Mg.d b.mg),.slc (mapD Ch.d b.ch)] := rfl
  have hfd : fr.d = [.int .i64 fr.o,.int .i64 fr.s,.int .i64 fr.i] := rfl
  have htd : to.d = [.int .i64 to.o,.int .i64 to.s,.int .i64 to.i] := rfl
  simp +contextual only [x50,mapD_len,hbd,hfd,htd,↓U50,↓XP,↓XU,XW0,XW1,qa,qb,qc,qd,qe,qf,reduceCtorEq,TYX]
  rintro b3 h3 b4 ⟨n34,h4⟩ b5 ⟨n45,n35,h5⟩ b6 ⟨n56,n46,n36,h6⟩
  simp +contextual only [x50,mapD_len,hbd,hfd,htd,h_miss,h_skip,n34,n45,n35,n56,n46,n36,↓U50,↓XP,↓XU,XW0,XW1,qa,qb,qc,qd,qe,qf,reduceCtorEq,TYX]
  refine ⟨_,fun _ _ => f_of hb ⟨rfl,rfl⟩,?_⟩
  simp +contextual only [x50,mapD_len,hbd,hfd,htd,h_miss,h_skip,n34,n45,n35,n56,n46,n36,↓U50,↓XP,↓XU,XW0,XW1,qa,qb,qc,qd,qe,qf,reduceCtorEq,TYX]
  intros
  refine ⟨_,fun _ _ => f_resolve hx (fr := fr) (to := to) fun y hy => ⟨by rw [hy],rfl⟩,?_⟩
  generalize (resP (ixP b) fr to).1 = y at h
  generalize (resP (ixP b) fr to).2 = e at h
  generalize (wayP (ixP b) fr to).getD ((wayP (ixP b) fr to).length - 1) default = l
  have hyd : y.d = [.int .i64 y.o,.int .i64 y.s,.int .i64 y.i] := rfl
  have hld : l.d = [.int .i64 l.o,.int .i64 l.s,.int .i64 l.i] := rfl
  simp +contextual only [x50,mapD_len,hbd,hfd,htd,hyd,hld,h_miss,h_skip,n34,n45,n35,n56,n46,n36,↓U50,↓XP,↓XU,XW0,XW1,qa,qb,qc,qd,qe,qf,reduceCtorEq,TYX]
  exact fun _ => ⟨by omega,by omega,fun _ _ _ _ => h⟩
end Go.Proofs.Ytffbjejmobhpkaa
end
section
namespace Go.Proofs.Ytffbjejmobhpkaa
open Go Go.Aw
structure Dt where
  id : Id3
  sp : Sp
instance : Inhabited Dt := ⟨⟨id0,sp0⟩⟩
def Dt.d (x : Dt) : List D := [.int .i64 x.id.o,.int .i64 x.id.s,.int .i64 x.id.i,.int .i64 x.sp.a,.int .i64 x.sp.b]
def rmin (o : Sp) (q : Dt) : Sp := ⟨if q.sp.a < o.a then q.sp.a else o.a,if q.sp.b < o.b then q.sp.b else o.b⟩
def riseP (l : List Dt) : Sp × Bool := match l with
  | [] => (sp0,false)
  | x :: r => ((x :: r).foldl rmin x.sp,true)
def spB (p : Sp × Bool) : D := .tup [.agg p.1.d,.bool p.2]
theorem f_rise {l : List Dt} {H : AH} {R : D → AH → Prop} (h : R (spB (riseP l)) H) : ACall Try.prog 33 [.slc (mapD Dt.d l)] H R := by
  refine b33 fun hf => ?_
  have hbig := big_eq
  by_cases h0 : l = []
  · subst h0
    simp +contextual only [x33,mapD_len,↓U33,↓XP,↓XU,XW0,XW1,qa,qb,qc,qd,qe,qf,reduceCtorEq,TYX]
    exact fun _ _ _ => ⟨fun _ => h,fun e => absurd rfl e⟩
  · have hpos := List.length_pos_iff.2 h0
    have hne : ((l.length : Int) = 0) = False := eq_false (by omega)
    have hp0 : ((0 : Int) < (l.length : Int)) = True := eq_true (by omega)
    have g0 := mapD_get (f := Dt.d) hpos
    obtain ⟨x,r,hl⟩ : ∃ x r,l = x :: r := by cases l with | nil => exact absurd rfl h0 | cons x r => exact ⟨x,r,rfl⟩
    have hr : riseP l = (l.foldl rmin x.sp,true) := by subst hl; rfl
    rw [hr] at h
    have hx0 : l.getD 0 default = x := by rw [hl]; rfl
    rw [hx0] at g0
    have hxd : x.d = [.int .i64 x.id.o,.int .i64 x.id.s,.int .i64 x.id.i,.int .i64 x.sp.a,.int .i64 x.sp.b] := rfl
    simp +contextual only [x33,mapD_len,g0,hxd,hne,hp0,↓U33,↓XP,↓XU,XW0,XW1,qa,qb,qc,qd,qe,qf,reduceCtorEq,TYX]
    rintro b2 h2 hlb b4 ⟨n24,h4⟩
    refine XW.loopS Go.Proofs.Ytffbjejmobhpkaa.hm 36 (fun i : Nat => [(0,.slc (mapD Dt.d l)),(2,.ptr b2 0),(4,.ptr b4 0),(15,.slc (mapD Dt.d l)),(16,.int .i64 l.length),(17,.int .i64 ((i : Nat) : Int))]) (fun i => (b4,AO.cells ((l.take i).foldl rmin x.sp).d) :: (b2,AO.cells [.int .i64 0,.int .i64 0]) :: H) (fun i => l.length - i) (fun i => i ≤ l.length) 0 (by omega) ⟨rfl,rfl,rfl,rfl,rfl,rfl,rfl,trivial⟩ rfl ?_
    rintro i z hi K hN hE hR
    have hN' := hN (i + 1)
    clear hN
    show xcode _ _ [.slc (mapD Dt.d l),z 1,.ptr b2 0,z 3,.ptr b4 0,z 5,z 6,z 7,z 8,z 9,z 10,z 11,z 12,z 13,z 14,.slc (mapD Dt.d l),.int .i64 l.length,.int .i64 ((i : Nat) : Int),z 18,z 19,z 20,z 21,z 22,z 23,z 24,z 25,z 26,z 27,z 28,z 29,z 30,z 31,z 32,z 33,z 34,z 35] _ K
    by_cases hlt : i < l.length
    · have g := mapD_get (f := Dt.d) hlt
      have hlt' : ((i : Int) < (l.length : Int)) = True := eq_true (by omega)
      rw [foldl_take hlt] at hN'
      generalize (l.take i).foldl rmin x.sp = o at hN'
      generalize l.getD i default = q at g hN'
      have hqd : q.d = [.int .i64 q.id.o,.int .i64 q.id.s,.int .i64 q.id.i,.int .i64 q.sp.a,.int .i64 q.sp.b] := rfl
      have hod : o.d = [.int .i64 o.a,.int .i64 o.b] := rfl
      simp +contextual only [x33,mapD_len,g,hqd,hod,hlt',h_miss,h_skip,n24,wrap_succ (show i ≤ big by omega),↓U33,↓XP,↓XU,XW0,XW1,qa,qb,qc,qd,qe,qf,reduceCtorEq,TYX]
      intros
      exact hN' _ _ hlt (by omega) ⟨rfl,rfl,rfl,rfl,rfl,rfl,rfl,trivial⟩ (back_1 rfl)
    · have hin : i = l.length := by omega
      subst hin
      rw [List.take_length]
      have hod : (l.foldl rmin x.sp).d = [.int .i64 (l.foldl rmin x.sp).a,.int .i64 (l.foldl rmin x.sp).b] := rfl
      simp +contextual only [x33,mapD_len,↓U33,↓XP,↓XU,XW0,XW1,qa,qb,qc,qd,qe,qf,reduceCtorEq,TYX]
      intros
      refine hE _ _ _ ?_
      simp +contextual only [x33,mapD_len,hod,h_miss,h_skip,n24,↓U33,↓XP,↓XU,XW0,XW1,qa,qb,qc,qd,qe,qf,reduceCtorEq,TYX]
      exact h
end Go.Proofs.Ytffbjejmobhpkaa
end
section
namespace Go.Proofs.Ytffbjejmobhpkaa
open Go Go.Aw
structure DlA where
  b : Nat
  cap : Nat
  xs : List Dt
def DlA.d (c : DlA) : D := .osl c.b c.cap (mapD Dt.d c.xs)
def bsLD (cs : List DlA) : List Nat := (cs.filter fun c => decide (c.xs ≠ [])).map (·.b)
theorem bsLD_mem {cs : List DlA} {c : DlA} (h : c ∈ cs) (hx : c.xs ≠ []) : c.b ∈ bsLD cs := List.mem_map.2 ⟨c,List.mem_filter.2 ⟨h,by simpa using hx⟩,rfl⟩
theorem bsLD_app {a b : List DlA} : bsLD (a ++ b) = bsLD a ++ bsLD b := by simp [bsLD]
theorem bsLD_cons {c : DlA} {b : List DlA} : bsLD (c :: b) = if c.xs ≠ [] then c.b :: bsLD b else bsLD b := by
  unfold bsLD
  rw [List.filter_cons]
  by_cases h : c.xs = [] <;> simp [h]
structure PoolD (fx : List Nat) (cs : List DlA) (R : AH) : Prop where
  rm : ∀ c ∈ cs,c.xs ≠ [] → getH R c.b = some (.room c.cap (mapD Dt.d c.xs))
  av : ∀ c ∈ cs,c.xs ≠ [] → c.b ∉ fx
  ds : (bsLD cs).Nodup
theorem PoolD.nil {fx : List Nat} {R : AH} : PoolD fx [] R := ⟨by simp,by simp,by simp [bsLD]⟩
def cutD (R : AH) (c : DlA) : AH := if c.xs = [] then R else eraseH R c.b
theorem PoolD.upd {fx : List Nat} {A B : List DlA} {c : DlA} {R : AH} (h : PoolD fx (A ++ c :: B) R) {b' cap' : Nat} {xs' : List Dt} (hx : xs' ≠ []) (hb : b' ∉ fx) (hf : freshH (cutD R c) b') :
    PoolD fx (A ++ ⟨b',cap',xs'⟩ :: B) ((b',.room cap' (mapD Dt.d xs')) :: cutD R c) := by
  have hnd := h.ds
  rw [bsLD_app,bsLD_cons] at hnd
  have hAB : ∀ d ∈ A ++ B,d.xs ≠ [] → getH (cutD R c) d.b = some (.room d.cap (mapD Dt.d d.xs)) := fun d hd hdx => by
    have hm : d ∈ A ++ c :: B := by
      rcases List.mem_append.1 hd with h1 | h1
      · exact List.mem_append_left _ h1
      · exact List.mem_append_right _ (.tail _ h1)
    have h1 := h.rm d hm hdx
    unfold cutD
    split
    · exact h1
    · rename_i hc
      rw [if_pos hc,nodup_mid] at hnd
      rw [getH_erase,h1]
      intro e
      have := bsLD_mem hd hdx
      rw [bsLD_app,e] at this
      exact hnd.1 this
  have hnd2 : (bsLD A ++ bsLD B).Nodup := by
    split at hnd
    · rw [nodup_mid] at hnd; exact hnd.2
    · exact hnd
  have hnm : b' ∉ bsLD A ++ bsLD B := fun hm => by
    rw [← bsLD_app] at hm
    obtain ⟨d,hd,e⟩ := List.mem_map.1 hm
    obtain ⟨hd1,hd2⟩ := List.mem_filter.1 hd
    exact fresh_ne2 hf (hAB d hd1 (by simpa using hd2)) e
  refine ⟨fun d hd hdx => ?_,fun d hd hdx => ?_,?_⟩
  · rcases List.mem_append.1 hd with h1 | h1
    · have := hAB d (List.mem_append_left _ h1) hdx
      simp only [getH,if_neg (fresh_ne2 hf this)]
      exact this
    · rcases List.mem_cons.1 h1 with h1 | h1
      · subst h1; simp [getH]
      · have := hAB d (List.mem_append_right _ h1) hdx
        simp only [getH,if_neg (fresh_ne2 hf this)]
        exact this
  · rcases List.mem_append.1 hd with h1 | h1
    · exact h.av d (List.mem_append_left _ h1) hdx
    · rcases List.mem_cons.1 h1 with h1 | h1
      · subst h1; exact hb
      · exact h.av d (List.mem_append_right _ (.tail _ h1)) hdx
  · rw [bsLD_app,bsLD_cons,if_pos hx,nodup_mid]
    exact ⟨hnm,hnd2⟩
theorem PoolD.add {fx : List Nat} {A : List DlA} {R : AH} (h : PoolD fx A R) {b' cap' : Nat} {xs' : List Dt} (hx : xs' ≠ []) (hb : b' ∉ fx) (hf : freshH R b') :
    PoolD fx (A ++ [⟨b',cap',xs'⟩]) ((b',.room cap' (mapD Dt.d xs')) :: R) := by
  have h2 : PoolD fx (A ++ (⟨0,0,[]⟩ : DlA) :: []) R := by
    refine ⟨fun d hd hdx => ?_,fun d hd hdx => ?_,?_⟩
    · rcases List.mem_append.1 hd with h1 | h1
      · exact h.rm d h1 hdx
      · rcases List.mem_cons.1 h1 with h1 | h1
        · subst h1; exact absurd rfl hdx
        · cases h1
    · rcases List.mem_append.1 hd with h1 | h1
      · exact h.av d h1 hdx
      · rcases List.mem_cons.1 h1 with h1 | h1
        · subst h1; exact absurd rfl hdx
        · cases h1
    · rw [bsLD_app,bsLD_cons,if_neg (by simp)]
      simpa [bsLD] using h.ds
  exact h2.upd hx hb (by simpa [cutD] using hf)
theorem poolD_look {κ α : Type} [DecidableEq κ] {fx : List Nat} {m : List (κ × α)} {f : α → DlA} {R : AH} (h : PoolD fx (m.map fun p => f p.2) R) {k : κ} {e : α} (hl : lookP m k = some e) (hx : (f e).xs ≠ []) : getH R (f e).b = some (.room (f e).cap (mapD Dt.d (f e).xs)) ∧ (f e).b ∉ fx := by
  have hm : f e ∈ m.map fun p => f p.2 := List.mem_map.2 ⟨(k,e),look_mem hl,rfl⟩
  exact ⟨h.rm _ hm hx,h.av _ hm hx⟩
theorem poolD_upd {κ α : Type} [DecidableEq κ] {fx : List Nat} {m : List (κ × α)} {f : α → DlA} {R : AH} (h : PoolD fx (m.map fun p => f p.2) R) {k : κ} {e' : α} {b' cap' : Nat} {xs' : List Dt} (he : f e' = ⟨b',cap',xs'⟩) (hx : xs' ≠ []) (hb : b' ∉ fx) {c : DlA} (hc : ((lookP m k).map f).getD ⟨0,0,[]⟩ = c) (hf : freshH (cutD R c) b') :
    PoolD fx ((updP m k e').map fun p => f p.2) ((b',.room cap' (mapD Dt.d xs')) :: cutD R c) := by
  subst hc
  cases hl : lookP m k with
  | none =>
    rw [hl] at hf
    rw [look_none hl,List.map_append]
    simp only [List.map_cons,List.map_nil,he,Option.map_none,Option.getD_none]
    simp only [Option.map_none,Option.getD_none,cut,if_true] at hf ⊢
    exact h.add hx hb hf
  | some e =>
    rw [hl] at hf
    obtain ⟨A,B,h1,h2⟩ := look_split hl
    rw [h1] at h
    rw [h2,List.map_append,List.map_cons,he]
    rw [List.map_append,List.map_cons] at h
    exact h.upd hx hb hf
end Go.Proofs.Ytffbjejmobhpkaa
end
section
namespace Go.Proofs.Ytffbjejmobhpkaa
open Go Go.Aw
def dtD (l : List Dt) : D := .slc (mapD Dt.d l)
def idD (x : Id3) : D := .agg x.d
def evQ (b : Bk) (q : Qt) : Option (Id3 × Dt) := match lookP (datesP b.sr) q.source with
  | some d => if (resP (ixP b) id0 q.sense).2 = 0 then some ((resP (ixP b) id0 q.sense).1,⟨q.id,d⟩) else none
  | none => none
def evS (b : Bk) (m : List (Id3 × List Dt)) (q : Qt) : List (Id3 × List Dt) := match evQ b q with
  | some (x,t) => updP m x ((lookP m x).getD [] ++ [t])
  | none => m
def evM (b : Bk) : List (Id3 × List Dt) := b.qt.foldl (evS b) []
theorem getD_dl {o : Option DlA} : (Option.map DlA.d o).getD (.osl 0 0 []) = DlA.d (o.getD ⟨0,0,[]⟩) := by cases o <;> rfl
structure MmOk (b : Bk) (mm : List (Id3 × Id3)) (oo : List (Id3 × Bool)) : Prop where
  ok : ∀ k v,lookP mm k = some v → v = (resP (ixP b) id0 k).1 ∧ lookP oo k = some (!decide ((resP (ixP b) id0 k).2 = 0))
structure OmOk (fx : List Nat) (nb : Nat) (m : List (Id3 × DlA)) (p : List (Id3 × List Dt)) (R : AH) : Prop where
  pool : PoolD fx (m.map fun p => p.2) R
  val : m.map (fun p => (p.1,p.2.xs)) = p
  sz : m.length ≤ nb ∧ ∀ q ∈ m,q.2.xs.length ≤ nb
structure EvSt where
  i : Nat
  mm : List (Id3 × Id3)
  oo : List (Id3 × Bool)
  om : List (Id3 × DlA)
  R : AH
theorem f_evidence {b : Bk} (hb : Small b) (hx : IxOk (ixP b)) {H : AH} {R : D → AH → Prop} (h : R (.mpv (mapE Id3.d dtD (evM b))) H) : ACall Try.prog 32 [.agg b.d] H R := by
  refine b32 fun hf => ?_
  have hbig := big_eq
  have hqt := hb.qt
  have hbd : b.d = [.slc (mapD En.d b.en),.slc (mapD Sn.d b.sn),.slc (mapD Sr.d b.sr),.slc (mapD Qt.d b.qt),.slc (mapD Spl.d b.sl),.slc (mapD Mg.d b.mg),.slc (mapD Ch.d b.ch)] := rfl
  simp +contextual only [x32,mapD_len,hbd,↓U32,↓XP,↓XU,XW0,XW1,qa,qb,qc,qd,qe,qf,reduceCtorEq,TYX]
  intro b1 h1
  refine f_dates (b := b) ?_
  simp +contextual only [x32,mapD_len,hbd,↓U32,↓XP,↓XU,XW0,XW1,qa,qb,qc,qd,qe,qf,reduceCtorEq,TYX]
  rintro m4 ⟨n14,h4⟩ m5 ⟨n45,n15,h5⟩ m6 ⟨n56,n46,n16,h6⟩
  simp +contextual only [x32,mapD_len,hbd,h_miss,h_skip,n14,n45,n15,n56,n46,n16,↓U32,↓XP,↓XU,XW0,XW1,qa,qb,qc,qd,qe,qf,reduceCtorEq,TYX]
  simp only [← hbd]
  intro _
  refine XW.loopSR Go.Proofs.Ytffbjejmobhpkaa.hm 85 (fun s : EvSt => [(1,.ptr b1 0),(3,.mpv (mapE Id3.d spD (datesP b.sr))),(4,.mp (some m4)),(5,.mp (some m5)),(6,.mp (some m6)),(22,.slc (mapD Qt.d b.qt)),(23,.int .i64 b.qt.length),(24,.int .i64 ((s.i : Nat) : Int))]) (fun s => (m6,.mp (mapE Id3.d DlA.d s.om)) :: (m5,.mp (mapE Id3.d D.bool s.oo)) :: (m4,.mp (mapE Id3.d idD s.mm)) :: (b1,.cells b.d) :: (s.R ++ H)) (fun s => b.qt.length - s.i) (fun s => s.i ≤ b.qt.length ∧ MmOk b s.mm s.oo ∧ OmOk [b1,m4,m5,m6] s.i s.om ((b.qt.take s.i).foldl (evS b) []) s.R) ⟨0,[],[],[],[]⟩ ⟨by simp,⟨fun k v e => by cases e⟩,⟨by simp,by simp,by simp [bsLD]⟩,rfl,by simp⟩ ⟨rfl,rfl,rfl,rfl,rfl,rfl,rfl,rfl,rfl,trivial⟩ rfl ?_
  rintro ⟨i,mm,oo,om,R0⟩ z ⟨hi,hmm,hom⟩ K hN hE hR
  dsimp only at hi hmm hom hN
  show xcode _ _ [z 0,.ptr b1 0,z 2,.mpv (mapE Id3.d spD (datesP b.sr)),.mp (some m4),.mp (some m5),.mp (some m6),z 7,z 8,z 9,z 10,z 11,z 12,z 13,z 14,z 15,z 16,z 17,z 18,z 19,z 20,z 21,.slc (mapD Qt.d b.qt),.int .i64 b.qt.length,.int .i64 ((i : Nat) : Int),z 25,z 26,z 27,z 28,z 29,z 30,z 31,z 32,z 33,z 34,z 35,z 36,z 37,z 38,z 39,z 40,z 41,z 42,z 43,z 44,z 45,z 46,z 47,z 48,z 49,z 50,z 51,z 52,z 53,z 54,z 55,z 56,z 57,z 58,z 59,z 60,z 61,z 62,z 63,z 64,z 65,z 66,z 67,z 68,z 69,z 70,z 71,z 72,z 73,z 74,z 75,z 76,z 77,z 78,z 79,z 80,z 81,z 82,z 83,z 84] ((m6,.mp (mapE Id3.d DlA.d om)) :: (m5,.mp (mapE Id3.d D.bool oo)) :: (m4,.mp (mapE Id3.d idD mm)) :: (b1,.cells b.d) :: (R0 ++ H)) K
  by_cases hlt : i < b.qt.length
  · have g := mapD_get (f := Qt.d) hlt
    have hlt' : ((i : Int) < (b.qt.length : Int)) = True := eq_true (by omega)
    have hstep := foldl_take (f := evS b) (b := []) hlt
    generalize b.qt.getD i default = q at g hstep
    have hqd : q.d = [.int .i64 q.id.o,.int .i64 q.id.s,.int .i64 q.id.i,.int .i64 q.sense.o,.int .i64 q.sense.s,.int .i64 q.sense.i,.int .i64 q.source.o,.int .i64 q.source.s,.int .i64 q.source.i,.int .i64 q.page,.str q.text] := rfl
    cases hld : lookP (datesP b.sr) q.source with
    | none =>
      have hev : evS b ((b.qt.take i).foldl (evS b) []) q = (b.qt.take i).foldl (evS b) [] := by unfold evS evQ; rw [hld]
      simp +contextual only [x32,mapD_len,g,hqd,hlt',hld,keys_id (x := q.source),look_id (x := q.source),keys_id (x := q.sense),look_id (x := q.sense),upd_id (x := q.sense),opt_b,h_miss,h_skip,n14,n45,n15,n56,n46,n16,wrap_succ (show i ≤ big by omega),↓U32,↓XP,↓XU,XW0,XW1,qa,qb,qc,qd,qe,qf,reduceCtorEq,TYX]
      intros
      refine hN ⟨i + 1,mm,oo,om,R0⟩ _ _ ⟨hlt,hmm,hom.pool,by dsimp only; rw [hom.val,hstep,hev],by have := hom.sz.1; dsimp only; omega,fun q hq => by have := hom.sz.2 q hq; dsimp only; omega⟩ (by dsimp only; omega) ⟨rfl,rfl,rfl,rfl,rfl,rfl,rfl,rfl,rfl,trivial⟩ (Sbn.sub ?_)
      exact (List.sublist_cons_self _ _).trans (List.sublist_cons_self _ _)
    | some dd =>
      have hdd : spD dd = .agg [.int .i64 dd.a,.int .i64 dd.b] := rfl
      obtain ⟨y,e,hye⟩ : ∃ y e,resP (ixP b) id0 q.sense = (y,e) := ⟨_,_,rfl⟩
      have hyd : y.d = [.int .i64 y.o,.int .i64 y.s,.int .i64 y.i] := rfl
      have hyI : idD y = .agg [.int .i64 y.o,.int .i64 y.s,.int .i64 y.i] := rfl
      have hlen : (mapE Id3.d DlA.d om).length ≤ 140737488355328 := by rw [mapE_len]; have := hom.sz.1; omega
      obtain ⟨c,hc⟩ : ∃ c,(lookP om y).getD ⟨0,0,[]⟩ = c := ⟨_,rfl⟩
      have hcd : DlA.d c = .osl c.b c.cap (mapD Dt.d c.xs) := rfl
      have hev0 : e = 0 → evS b ((b.qt.take i).foldl (evS b) []) q = updP ((b.qt.take i).foldl (evS b) []) y ((lookP ((b.qt.take i).foldl (evS b) []) y).getD [] ++ [⟨q.id,dd⟩]) := fun he => by
        unfold evS evQ
        rw [hld,hye]
        simp only [he,if_true]
      have hev1 : e ≠ 0 → evS b ((b.qt.take i).foldl (evS b) []) q = (b.qt.take i).foldl (evS b) [] := fun he => by
        unfold evS evQ
        rw [hld,hye]
        simp only [he,if_false]
      cases hlm : lookP mm q.sense with
      | none =>
        have hmm2 : MmOk b (updP mm q.sense y) (updP oo q.sense (!decide (e = 0))) := ⟨fun k v hk => by
          rw [look_upd] at hk ⊢
          split at hk
          · rename_i ek
            injection hk with hk
            subst ek hk
            rw [hye,if_pos rfl]
            exact ⟨rfl,rfl⟩
          · rename_i ek
            rw [if_neg ek]
            exact hmm.ok k v hk⟩
        have hu1 : lookP (updP mm q.sense y) q.sense = some y := by rw [look_upd,if_pos rfl]
        have hu2 : ∀ v,lookP (updP oo q.sense v) q.sense = some v := fun v => by rw [look_upd,if_pos rfl]
        have hmm3 : ∀ v,(!decide (e = 0)) = v → MmOk b (updP mm q.sense y) (updP oo q.sense v) := fun v hv => hv ▸ hmm2
        have upI : updD (mapE Id3.d idD mm) (.agg [.int .i64 q.sense.o,.int .i64 q.sense.s,.int .i64 q.sense.i]) (.agg [.int .i64 y.o,.int .i64 y.s,.int .i64 y.i]) = mapE Id3.d idD (updP mm q.sense y) := upd_id (vd := idD) (v := y)
        simp +contextual only [x32,mapD_len,g,hqd,hbd,hlt',hld,hdd,hlm,keys_id (x := q.source),look_id (x := q.source),keys_id (x := q.sense),look_id (x := q.sense),upd_id (x := q.sense),opt_b,h_miss,h_skip,n14,n45,n15,n56,n46,n16,↓U32,↓XP,↓XU,XW0,XW1,qa,qb,qc,qd,qe,qf,reduceCtorEq,TYX]
        rintro b8 ⟨a86,a85,a84,a81,f8⟩ b9 ⟨a98,a96,a95,a94,a91,f9⟩ b11 ⟨c9,c8,c6,c5,c4,c1,f11⟩
        refine f_Resolve hb hx (fr := id0) (to := q.sense) ?_
        rw [hye]
        dsimp only
        by_cases he : e = 0
        · simp +contextual only [x32,mapD_len,hqd,hyd,hyI,upI,hu1,hu2,he,decide_true,Bool.not_true,keys_id (x := q.source),look_id (x := q.source),keys_id (x := q.sense),look_id (x := q.sense),upd_id (x := q.sense),opt_b,keys_id (x := y),look_id (x := y),upd_id (x := y),getD_dl,hc,hlen,h_miss,h_skip,n14,n45,n15,n56,n46,n16,a86,a85,a84,a81,a98,a96,a95,a94,a91,c9,c8,c6,c5,c4,c1,↓U32,↓XP,↓XU,XW0,XW1,qa,qb,qc,qd,qe,qf,reduceCtorEq,TYX]
          rintro _ b13 ⟨d11,d9,d8,d6,d5,d4,d1,f13⟩ b15 ⟨j13,j11,j9,j8,j6,j5,j4,j1,f15⟩ _
          rw [x_apg]
          have hrm : c.xs ≠ [] → getH R0 c.b = some (.room c.cap (mapD Dt.d c.xs)) ∧ c.b ∉ [b1,m4,m5,m6] := fun hx => by
            cases hlo : lookP om y with
            | none => rw [hlo] at hc; subst hc; exact absurd rfl hx
            | some e => rw [hlo] at hc; subst hc; exact poolD_look (f := fun c => c) hom.pool hlo hx
          have hcs : c.xs.length ≤ i := by
            cases hlo : lookP om y with
            | none => rw [hlo] at hc; subst hc; simp
            | some e => rw [hlo] at hc; subst hc; exact hom.sz.2 _ (look_mem hlo)
          have hcut : cutD (R0 ++ H) c = cutD R0 c ++ H := by
            unfold cutD
            by_cases hx : c.xs = []
            · rw [if_pos hx,if_pos hx]
            · rw [if_neg hx,if_neg hx,erase_app (hrm hx).1]
          have hav : c.xs ≠ [] → (c.b ≠ b15 ∧ c.b ≠ b13 ∧ c.b ≠ b11 ∧ c.b ≠ b9 ∧ c.b ≠ b8 ∧ c.b ≠ m6 ∧ c.b ≠ m5 ∧ c.b ≠ m4 ∧ c.b ≠ b1) := fun hx => by
            obtain ⟨q1,q2⟩ := hrm hx
            have q3 := getH_app (H := H) q1
            simp only [List.mem_cons,List.not_mem_nil,or_false,not_or] at q2
            exact ⟨fresh_ne2 f15 q3,fresh_ne2 f13 q3,fresh_ne2 f11 q3,fresh_ne2 f9 q3,fresh_ne2 f8 q3,q2.2.2.2,q2.2.2.1,q2.2.1,q2.1⟩
          have hme : mapD Dt.d c.xs = [] ↔ c.xs = [] := by simp [mapD]
          have hdrop : ∀ x0 x1 x2 x3 x4 x5 x6 x7 x8 : AO,dropR ((b15,x0) :: (b13,x1) :: (b11,x2) :: (b9,x3) :: (b8,x4) :: (m6,x5) :: (m5,x6) :: (m4,x7) :: (b1,x8) :: (R0 ++ H)) c.b (mapD Dt.d c.xs) = (b15,x0) :: (b13,x1) :: (b11,x2) :: (b9,x3) :: (b8,x4) :: (m6,x5) :: (m5,x6) :: (m4,x7) :: (b1,x8) :: (cutD R0 c ++ H) := fun x0 x1 x2 x3 x4 x5 x6 x7 x8 => by
            rw [← hcut]
            unfold dropR cutD
            by_cases hx : c.xs = []
            · rw [if_pos (hme.2 hx),if_pos hx]
            · obtain ⟨q0,q1,q2,q3,q4,q5,q6,q7,q8⟩ := hav hx
              rw [if_neg (fun e => hx (hme.1 e)),if_neg hx,e_miss q0,e_miss q1,e_miss q2,e_miss q3,e_miss q4,e_miss q5,e_miss q6,e_miss q7,e_miss q8]
          refine Gz.takeS (s := 74) (b := c.b) (cap := c.cap) (xs := mapD Dt.d c.xs) rfl (fun hx0 => ?_) ?_
          · have hx : c.xs ≠ [] := fun e => hx0 (hme.2 e)
            obtain ⟨q0,q1,q2,q3,q4,q5,q6,q7,q8⟩ := hav hx
            rw [h_miss q0,h_miss q1,h_miss q2,h_miss q3,h_miss q4,h_miss q5,h_miss q6,h_miss q7,h_miss q8]
            exact getH_app (hrm hx).1
          rw [hdrop]
          have hsz : ∀ l : List Dt,∀ y ∈ mapD Dt.d l,y.length = 5 := fun l => mapD_sz fun _ => rfl
          have ht1 : [[.int .i64 q.id.o,.int .i64 q.id.s,.int .i64 q.id.i,.int .i64 dd.a,.int .i64 dd.b]] = mapD Dt.d [(⟨q.id,dd⟩ : Dt)] := rfl
          simp +contextual only [x32,mapD_len,ht1,mapD_app,h_miss,h_skip,n14,n45,n15,n56,n46,n16,a86,a85,a84,a81,a98,a96,a95,a94,a91,c9,c8,c6,c5,c4,c1,d11,d9,d8,d6,d5,d4,d1,j13,j11,j9,j8,j6,j5,j4,j1,↓U32,↓XP,↓XU,XW0,XW1,qa,qb,qc,qd,qe,qf,reduceCtorEq,TYX]
          have hI : (idxD (mapE Id3.d DlA.d om) [.int .i64 y.o,.int .i64 y.s,.int .i64 y.i]).getD (mapE Id3.d DlA.d om).length < (mapE Id3.d DlA.d (updP om y c)).length := by
            rw [← upd_id]
            exact idx_upd (i := .agg [.int .i64 y.o,.int .i64 y.s,.int .i64 y.i])
          have hset : ∀ c' : DlA,setV (mapE Id3.d DlA.d (updP om y c)) ((idxD (mapE Id3.d DlA.d om) [.int .i64 y.o,.int .i64 y.s,.int .i64 y.i]).getD (mapE Id3.d DlA.d om).length) (.osl c'.b c'.cap (mapD Dt.d c'.xs)) = mapE Id3.d DlA.d (updP om y c') := fun c' => by
            rw [← upd_id,← upd_id]
            exact setV_upd (i := .agg [.int .i64 y.o,.int .i64 y.s,.int .i64 y.i])
          generalize (idxD (mapE Id3.d DlA.d om) [.int .i64 y.o,.int .i64 y.s,.int .i64 y.i]).getD (mapE Id3.d DlA.d om).length = I at hI hset
          refine ⟨hsz _,hsz _,by omega,fun _ => ?_⟩
          refine Gz.giveS (s := 81) (xs := mapD Dt.d (c.xs ++ [(⟨q.id,dd⟩ : Dt)])) (by simp [mapD]) rfl fun b' cap' hf => ?_
          obtain ⟨g0,g1,g2,g3,g4,g5,g6,g7,g8,gf⟩ := hf
          have hset' := hset ⟨b',cap',c.xs ++ [⟨q.id,dd⟩]⟩
          dsimp only at hset'
          simp +contextual only [x32,mapD_len,Int.toNat_natCast,hset',h_miss,h_skip,n14,n45,n15,n56,n46,n16,a86,a85,a84,a81,a98,a96,a95,a94,a91,c9,c8,c6,c5,c4,c1,d11,d9,d8,d6,d5,d4,d1,j13,j11,j9,j8,j6,j5,j4,j1,Ne.symm g0,Ne.symm g1,Ne.symm g2,Ne.symm g3,Ne.symm g4,Ne.symm g5,Ne.symm g6,Ne.symm g7,Ne.symm g8,wrap_succ (show i ≤ big by omega),↓U32,↓XP,↓XU,XW0,XW1,qa,qb,qc,qd,qe,qf,reduceCtorEq,TYX]
          refine ⟨by omega,?_⟩
          refine hN ⟨i + 1,updP mm q.sense y,updP oo q.sense false,updP om y ⟨b',cap',c.xs ++ [⟨q.id,dd⟩]⟩,(b',.room cap' (mapD Dt.d (c.xs ++ [(⟨q.id,dd⟩ : Dt)]))) :: cutD R0 c⟩ _ _ ⟨hlt,hmm3 false (by simp [he]),?_,?_,?_,?_⟩ (by dsimp only; omega) ⟨rfl,rfl,rfl,rfl,rfl,rfl,rfl,rfl,rfl,trivial⟩ ?_
          · refine poolD_upd (f := fun c => c) hom.pool rfl (by simp) ?_ (c := c) (by rw [← hc]; simp) (fresh_app gf)
            simp only [List.mem_cons,List.not_mem_nil,or_false,not_or]
            exact ⟨g8,g7,g6,g5⟩
          · dsimp only
            rw [upd_map (f := DlA.xs),hom.val,hstep,hev0 he]
            have e1 : lookP ((b.qt.take i).foldl (evS b) []) y = (lookP om y).map DlA.xs := by rw [← hom.val,look_map]
            rw [e1]
            cases hlo : lookP om y with
            | none => rw [hlo] at hc; subst hc; rfl
            | some e => rw [hlo] at hc; subst hc; rfl
          · have h1 := hom.sz.1
            have h2 := upd_len (m := om) (k := y) (v := (⟨b',cap',c.xs ++ [⟨q.id,dd⟩]⟩ : DlA))
            dsimp only
            omega
          · intro q hq
            dsimp only at hq ⊢
            rcases upd_mem hq with rfl | hq
            · simp only [List.length_append,List.length_cons,List.length_nil]
              omega
            · have := hom.sz.2 q hq
              omega
          · exact Sbn_room (fx := [(m6,.mp (mapE Id3.d DlA.d (updP om y ⟨b',cap',c.xs ++ [⟨q.id,dd⟩]⟩))),(m5,.mp (mapE Id3.d D.bool (updP oo q.sense false))),(m4,.mp (mapE Id3.d idD (updP mm q.sense y))),(b1,.cells b.d)]) (bs := [(b15,_),(b13,_),(b11,_),(b9,_),(b8,_)]) (fun p hp => hp) rfl
        · simp +contextual only [x32,mapD_len,hqd,hyd,hyI,upI,hu1,hu2,eq_false he,decide_false,Bool.not_false,wrap_succ (show i ≤ big by omega),keys_id (x := q.source),look_id (x := q.source),keys_id (x := q.sense),look_id (x := q.sense),upd_id (x := q.sense),opt_b,h_miss,h_skip,n14,n45,n15,n56,n46,n16,a86,a85,a84,a81,a98,a96,a95,a94,a91,c9,c8,c6,c5,c4,c1,↓U32,↓XP,↓XU,XW0,XW1,qa,qb,qc,qd,qe,qf,reduceCtorEq,TYX]
          rintro _ b13 ⟨d11,d9,d8,d6,d5,d4,d1,f13⟩
          refine hN ⟨i + 1,updP mm q.sense y,updP oo q.sense true,om,R0⟩ _ _ ⟨hlt,hmm3 true (by simp [he]),hom.pool,by dsimp only; rw [hom.val,hstep,hev1 he],by have := hom.sz.1; dsimp only; omega,fun q hq => by have := hom.sz.2 q hq; dsimp only; omega⟩ (by dsimp only; omega) ⟨rfl,rfl,rfl,rfl,rfl,rfl,rfl,rfl,rfl,trivial⟩ (Sbn.sub ?_)
          exact (List.sublist_append_right [(b13,_),(b11,_),(b9,_),(b8,_)] _)
      | some v =>
        obtain ⟨hv,ho⟩ := hmm.ok _ _ hlm
        rw [hye] at hv ho
        dsimp only at hv ho
        replace hv := hv.symm
        subst hv
        by_cases he : e = 0
        · simp +contextual only [x32,mapD_len,g,hqd,hlt',hld,hdd,hlm,ho,hyI,he,decide_true,Bool.not_true,keys_id (x := q.source),look_id (x := q.source),keys_id (x := q.sense),look_id (x := q.sense),upd_id (x := q.sense),opt_b,keys_id (x := y),look_id (x := y),upd_id (x := y),getD_dl,hc,hlen,h_miss,h_skip,n14,n45,n15,n56,n46,n16,↓U32,↓XP,↓XU,XW0,XW1,qa,qb,qc,qd,qe,qf,reduceCtorEq,TYX]
          rintro b8 ⟨a86,a85,a84,a81,f8⟩ b9 ⟨a98,a96,a95,a94,a91,f9⟩ b11 ⟨c9,c8,c6,c5,c4,c1,f11⟩ b15 ⟨j11,j9,j8,j6,j5,j4,j1,f15⟩ _
          rw [x_apg]
          have hrm : c.xs ≠ [] → getH R0 c.b = some (.room c.cap (mapD Dt.d c.xs)) ∧ c.b ∉ [b1,m4,m5,m6] := fun hx => by
            cases hlo : lookP om y with
            | none => rw [hlo] at hc; subst hc; exact absurd rfl hx
            | some e => rw [hlo] at hc; subst hc; exact poolD_look (f := fun c => c) hom.pool hlo hx
          have hcs : c.xs.length ≤ i := by
            cases hlo : lookP om y with
            | none => rw [hlo] at hc; subst hc; simp
            | some e => rw [hlo] at hc; subst hc; exact hom.sz.2 _ (look_mem hlo)
          have hcut : cutD (R0 ++ H) c = cutD R0 c ++ H := by
            unfold cutD
            by_cases hx : c.xs = []
            · rw [if_pos hx,if_pos hx]
            · rw [if_neg hx,if_neg hx,erase_app (hrm hx).1]
          have hav : c.xs ≠ [] → (c.b ≠ b15 ∧ c.b ≠ b11 ∧ c.b ≠ b9 ∧ c.b ≠ b8 ∧ c.b ≠ m6 ∧ c.b ≠ m5 ∧ c.b ≠ m4 ∧ c.b ≠ b1) := fun hx => by
            obtain ⟨q1,q2⟩ := hrm hx
            have q3 := getH_app (H := H) q1
            simp only [List.mem_cons,List.not_mem_nil,or_false,not_or] at q2
            exact ⟨fresh_ne2 f15 q3,fresh_ne2 f11 q3,fresh_ne2 f9 q3,fresh_ne2 f8 q3,q2.2.2.2,q2.2.2.1,q2.2.1,q2.1⟩
          have hme : mapD Dt.d c.xs = [] ↔ c.xs = [] := by simp [mapD]
          have hdrop : ∀ x0 x1 x2 x3 x4 x5 x6 x7 : AO,dropR ((b15,x0) :: (b11,x1) :: (b9,x2) :: (b8,x3) :: (m6,x4) :: (m5,x5) :: (m4,x6) :: (b1,x7) :: (R0 ++ H)) c.b (mapD Dt.d c.xs) = (b15,x0) :: (b11,x1) :: (b9,x2) :: (b8,x3) :: (m6,x4) :: (m5,x5) :: (m4,x6) :: (b1,x7) :: (cutD R0 c ++ H) := fun x0 x1 x2 x3 x4 x5 x6 x7 => by
            rw [← hcut]
            unfold dropR cutD
            by_cases hx : c.xs = []
            · rw [if_pos (hme.2 hx),if_pos hx]
            · obtain ⟨q0,q1,q2,q3,q4,q5,q6,q7⟩ := hav hx
              rw [if_neg (fun e => hx (hme.1 e)),if_neg hx,e_miss q0,e_miss q1,e_miss q2,e_miss q3,e_miss q4,e_miss q5,e_miss q6,e_miss q7]
          refine Gz.takeS (s := 74) (b := c.b) (cap := c.cap) (xs := mapD Dt.d c.xs) rfl (fun hx0 => ?_) ?_
          · have hx : c.xs ≠ [] := fun e => hx0 (hme.2 e)
            obtain ⟨q0,q1,q2,q3,q4,q5,q6,q7⟩ := hav hx
            rw [h_miss q0,h_miss q1,h_miss q2,h_miss q3,h_miss q4,h_miss q5,h_miss q6,h_miss q7]
            exact getH_app (hrm hx).1
          rw [hdrop]
          have hsz : ∀ l : List Dt,∀ y ∈ mapD Dt.d l,y.length = 5 := fun l => mapD_sz fun _ => rfl
          have ht1 : [[.int .i64 q.id.o,.int .i64 q.id.s,.int .i64 q.id.i,.int .i64 dd.a,.int .i64 dd.b]] = mapD Dt.d [(⟨q.id,dd⟩ : Dt)] := rfl
          simp +contextual only [x32,mapD_len,ht1,mapD_app,h_miss,h_skip,n14,n45,n15,n56,n46,n16,a86,a85,a84,a81,a98,a96,a95,a94,a91,c9,c8,c6,c5,c4,c1,j11,j9,j8,j6,j5,j4,j1,↓U32,↓XP,↓XU,XW0,XW1,qa,qb,qc,qd,qe,qf,reduceCtorEq,TYX]
          have hI : (idxD (mapE Id3.d DlA.d om) [.int .i64 y.o,.int .i64 y.s,.int .i64 y.i]).getD (mapE Id3.d DlA.d om).length < (mapE Id3.d DlA.d (updP om y c)).length := by
            rw [← upd_id]
            exact idx_upd (i := .agg [.int .i64 y.o,.int .i64 y.s,.int .i64 y.i])
          have hset : ∀ c' : DlA,setV (mapE Id3.d DlA.d (updP om y c)) ((idxD (mapE Id3.d DlA.d om) [.int .i64 y.o,.int .i64 y.s,.int .i64 y.i]).getD (mapE Id3.d DlA.d om).length) (.osl c'.b c'.cap (mapD Dt.d c'.xs)) = mapE Id3.d DlA.d (updP om y c') := fun c' => by
            rw [← upd_id,← upd_id]
            exact setV_upd (i := .agg [.int .i64 y.o,.int .i64 y.s,.int .i64 y.i])
          generalize (idxD (mapE Id3.d DlA.d om) [.int .i64 y.o,.int .i64 y.s,.int .i64 y.i]).getD (mapE Id3.d DlA.d om).length = I at hI hset
          refine ⟨hsz _,hsz _,by omega,fun _ => ?_⟩
          refine Gz.giveS (s := 81) (xs := mapD Dt.d (c.xs ++ [(⟨q.id,dd⟩ : Dt)])) (by simp [mapD]) rfl fun b' cap' hf => ?_
          obtain ⟨g0,g1,g2,g3,g4,g5,g6,g7,gf⟩ := hf
          have hset' := hset ⟨b',cap',c.xs ++ [⟨q.id,dd⟩]⟩
          dsimp only at hset'
          simp +contextual only [x32,mapD_len,Int.toNat_natCast,hset',h_miss,h_skip,n14,n45,n15,n56,n46,n16,a86,a85,a84,a81,a98,a96,a95,a94,a91,c9,c8,c6,c5,c4,c1,j11,j9,j8,j6,j5,j4,j1,Ne.symm g0,Ne.symm g1,Ne.symm g2,Ne.symm g3,Ne.symm g4,Ne.symm g5,Ne.symm g6,Ne.symm g7,wrap_succ (show i ≤ big by omega),↓U32,↓XP,↓XU,XW0,XW1,qa,qb,qc,qd,qe,qf,reduceCtorEq,TYX]
          refine ⟨by omega,?_⟩
          refine hN ⟨i + 1,mm,oo,updP om y ⟨b',cap',c.xs ++ [⟨q.id,dd⟩]⟩,(b',.room cap' (mapD Dt.d (c.xs ++ [(⟨q.id,dd⟩ : Dt)]))) :: cutD R0 c⟩ _ _ ⟨hlt,hmm,?_,?_,?_,?_⟩ (by dsimp only; omega) ⟨rfl,rfl,rfl,rfl,rfl,rfl,rfl,rfl,rfl,trivial⟩ ?_
          · refine poolD_upd (f := fun c => c) hom.pool rfl (by simp) ?_ (c := c) (by rw [← hc]; simp) (fresh_app gf)
            simp only [List.mem_cons,List.not_mem_nil,or_false,not_or]
            exact ⟨g7,g6,g5,g4⟩
          · dsimp only
            rw [upd_map (f := DlA.xs),hom.val,hstep,hev0 he]
            have e1 : lookP ((b.qt.take i).foldl (evS b) []) y = (lookP om y).map DlA.xs := by rw [← hom.val,look_map]
            rw [e1]
            cases hlo : lookP om y with
            | none => rw [hlo] at hc; subst hc; rfl
            | some e => rw [hlo] at hc; subst hc; rfl
          · have h1 := hom.sz.1
            have h2 := upd_len (m := om) (k := y) (v := (⟨b',cap',c.xs ++ [⟨q.id,dd⟩]⟩ : DlA))
            dsimp only
            omega
          · intro q hq
            dsimp only at hq ⊢
            rcases upd_mem hq with rfl | hq
            · simp only [List.length_append,List.length_cons,List.length_nil]
              omega
            · have := hom.sz.2 q hq
              omega
          · exact Sbn_room (fx := [(m6,.mp (mapE Id3.d DlA.d (updP om y ⟨b',cap',c.xs ++ [⟨q.id,dd⟩]⟩))),(m5,.mp (mapE Id3.d D.bool (oo))),(m4,.mp (mapE Id3.d idD (mm))),(b1,.cells b.d)]) (bs := [(b15,_),(b11,_),(b9,_),(b8,_)]) (fun p hp => hp) rfl
        · simp +contextual only [x32,mapD_len,g,hqd,hlt',hld,hdd,hlm,ho,hyI,eq_false he,decide_false,Bool.not_false,wrap_succ (show i ≤ big by omega),keys_id (x := q.source),look_id (x := q.source),keys_id (x := q.sense),look_id (x := q.sense),upd_id (x := q.sense),opt_b,h_miss,h_skip,n14,n45,n15,n56,n46,n16,↓U32,↓XP,↓XU,XW0,XW1,qa,qb,qc,qd,qe,qf,reduceCtorEq,TYX]
          rintro b8 h8 b9 h9 b11 h11
          refine hN ⟨i + 1,mm,oo,om,R0⟩ _ _ ⟨hlt,hmm,hom.pool,by dsimp only; rw [hom.val,hstep,hev1 he],by have := hom.sz.1; dsimp only; omega,fun q hq => by have := hom.sz.2 q hq; dsimp only; omega⟩ (by dsimp only; omega) ⟨rfl,rfl,rfl,rfl,rfl,rfl,rfl,rfl,rfl,trivial⟩ (Sbn.sub ?_)
          exact (List.sublist_append_right [(b11,_),(b9,_),(b8,_)] _)
  · have hin : i = b.qt.length := by omega
    subst hin
    rw [List.take_length] at hom
    simp +contextual only [x32,mapD_len,↓U32,↓XP,↓XU,XW0,XW1,qa,qb,qc,qd,qe,qf,reduceCtorEq,TYX]
    intros
    refine hE _ _ _ ?_
    simp +contextual only [x32,mapD_len,↓U32,↓XP,↓XU,XW0,XW1,qa,qb,qc,qd,qe,qf,reduceCtorEq,TYX]
    have hmw : mwk (mapE Id3.d DlA.d om) = mapE Id3.d dtD (evM b) := by
      have hv := hom.val
      rw [mwk_mapE,show evM b = b.qt.foldl (evS b) [] from rfl,← hv,← mapE_map]
      rfl
    refine gh_intro (Fz.freezeM (s := 6) (b := m6) (es := mapE Id3.d DlA.d om) rfl (by simp [getH])) ?_
    rw [hmw,e_hit]
    simp +contextual only [x32,mapD_len,↓U32,↓XP,↓XU,XW0,XW1,qa,qb,qc,qd,qe,qf,reduceCtorEq,TYX]
    rw [show ((m5,AO.mp (mapE Id3.d D.bool oo)) :: (m4,AO.mp (mapE Id3.d idD mm)) :: (b1,AO.cells b.d) :: (R0 ++ H)) = ((m5,AO.mp (mapE Id3.d D.bool oo)) :: (m4,AO.mp (mapE Id3.d idD mm)) :: (b1,AO.cells b.d) :: R0) ++ H from rfl,back_app]
    exact h
end Go.Proofs.Ytffbjejmobhpkaa
end
section
namespace Go.Proofs.Ytffbjejmobhpkaa
open Go Go.Aw
def datA (o : Option Sp) (v : Vl) : Option Sp := if OkSpan v.sp then some (mrg (o.getD v.sp) v.sp) else o
def rDat (l : List Sr) (x : Id3) : Option Sp := match l with
  | [] => none
  | s :: r => if s.id = x then s.date.foldl datA none else rDat r x
theorem look_datV {id x : Id3} : ∀ {vs : List Vl} {out : List (Id3 × Sp)},lookP (vs.foldl (datV id) out) x = if x = id then vs.foldl datA (lookP out id) else lookP out x
  | [],out => by
    by_cases h : x = id
    · subst h; simp
    · simp [h]
  | v :: vs,out => by
    rw [List.foldl_cons,List.foldl_cons,look_datV]
    unfold datV datA
    by_cases hv : OkSpan v.sp
    · simp only [if_pos hv]
      rw [look_upd,look_upd]
      by_cases h : x = id
      · simp [h]
      · simp [h]
    · simp only [if_neg hv]
theorem dat_met {x : Id3} : ∀ {l : List Sr} {st : List (Id3 × Sp) × List (Id3 × Bool)},(lookP st.2 x).getD false = true → lookP (l.foldl datS st).1 x = lookP st.1 x
  | [],st,h => rfl
  | s :: l,st,h => by
    rw [List.foldl_cons]
    have hs : (lookP (datS st s).2 x).getD false = true ∧ lookP (datS st s).1 x = lookP st.1 x := by
      unfold datS
      by_cases hm : (lookP st.2 s.id).getD false = true
      · rw [if_pos hm]; exact ⟨h,rfl⟩
      · rw [if_neg hm]
        have hne : x ≠ s.id := fun e => hm (e ▸ h)
        dsimp only
        rw [look_upd,look_datV,if_neg hne,if_neg hne]
        exact ⟨h,rfl⟩
    rw [dat_met hs.1,hs.2]
theorem dat_new {x : Id3} : ∀ {l : List Sr} {st : List (Id3 × Sp) × List (Id3 × Bool)},(lookP st.2 x).getD false = false → lookP st.1 x = none → lookP (l.foldl datS st).1 x = rDat l x
  | [],st,h,h1 => h1
  | s :: l,st,h,h1 => by
    rw [List.foldl_cons]
    unfold rDat
    by_cases hx : s.id = x
    · subst hx
      rw [if_pos rfl]
      have hs : datS st s = (s.date.foldl (datV s.id) st.1,updP st.2 s.id true) := by unfold datS; rw [if_neg (by rw [h]; decide)]
      rw [hs,dat_met (by dsimp only; rw [look_upd,if_pos rfl]; rfl)]
      dsimp only
      rw [look_datV,if_pos rfl,h1]
    · rw [if_neg hx]
      have hne : x ≠ s.id := fun e => hx e.symm
      refine dat_new ?_ ?_
      · unfold datS
        split
        · exact h
        · dsimp only; rw [look_upd,if_neg hne]; exact h
      · unfold datS
        split
        · exact h1
        · dsimp only; rw [look_datV,if_neg hne]; exact h1
theorem look_dates {b : Bk} {x : Id3} : lookP (datesP b.sr) x = rDat b.sr x := dat_new rfl rfl
end Go.Proofs.Ytffbjejmobhpkaa
end
section
namespace Go.Proofs.Ytffbjejmobhpkaa
open Go Go.Aw
def evX (b : Bk) (x : Id3) (q : Qt) : Option Dt := match evQ b q with
  | some (y,t) => if y = x then some t else none
  | none => none
theorem look_evS {b : Bk} {x : Id3} : ∀ {l : List Qt} {m : List (Id3 × List Dt)},(lookP (l.foldl (evS b) m) x).getD [] = (lookP m x).getD [] ++ l.filterMap (evX b x)
  | [],m => by simp
  | q :: l,m => by
    rw [List.foldl_cons,look_evS,List.filterMap_cons]
    unfold evX evS
    cases he : evQ b q with
    | none => rfl
    | some p =>
      obtain ⟨y,t⟩ := p
      dsimp only
      rw [look_upd]
      by_cases h : y = x
      · subst h
        simp
      · have h' : x ≠ y := fun e => h e.symm
        simp [h,h']
theorem look_evM {b : Bk} {x : Id3} : (lookP (evM b) x).getD [] = b.qt.filterMap (evX b x) := by
  rw [show evM b = b.qt.foldl (evS b) [] from rfl,look_evS]
  simp [lookP]
end Go.Proofs.Ytffbjejmobhpkaa
end
section
namespace Go.Proofs.Ytffbjejmobhpkaa
open Go Go.Aw
def rDt (b : Bk) (x : Id3) : Sp × Bool := ((rDat b.sr x).getD sp0,(rDat b.sr x).isSome)
structure DaLp where
  k : Nat
  o : Option Sp
theorem rDat_cons {s : Sr} {r : List Sr} {x : Id3} : rDat (s :: r) x = if s.id = x then s.date.foldl datA none else rDat r x := rfl
theorem f_rDate {b : Bk} (hb : SmallR b) {x : Id3} {H : AH} {R : D → AH → Prop} (h : R (spB (rDt b x)) H) : ACall Try.prog 27 [.agg b.d,.agg x.d] H R := by
  refine b27 fun hf => ?_
  have hbig := big_eq
  have hsr := hb.sr
  have hbd : b.d = [.slc (mapD En.d b.en),.slc (mapD Sn.d b.sn),.slc (mapD Sr.d b.sr),.slc (mapD Qt.d b.qt),.slc (mapD Spl.d b.sl),.slc (mapD Mg.d b.mg),.slc (mapD Ch.d b.ch)] := rfl
  have hxd : x.d = [.int .i64 x.o,.int .i64 x.s,.int .i64 x.i] := rfl
  have hk : ∀ u v w,rDt b x = (⟨u,v⟩,w) → R (.tup [.agg [.int .i64 u,.int .i64 v],.bool w]) H := fun u v w e => by rw [e] at h; exact h
  simp +contextual only [x27,mapD_len,hbd,hxd,↓U27,↓XP,↓XU,XW0,XW1,qa,qb,qc,qd,qe,qf,reduceCtorEq,TYX]
  rintro b2 h2 b3 ⟨n23,h3⟩ b4 ⟨n34,n24,h4⟩
  simp only [← hbd,← hxd]
  refine XW.loopS Go.Proofs.Ytffbjejmobhpkaa.hm 68 (fun i : Nat => [(2,.ptr b2 0),(3,.ptr b3 0),(4,.ptr b4 0),(6,.int .i64 ((i : Nat) : Int))]) (fun i => (b4,AO.cells [.int .i64 0,.int .i64 0]) :: (b3,AO.cells x.d) :: (b2,.cells b.d) :: H) (fun i => b.sr.length - i) (fun i => i ≤ b.sr.length ∧ rDat (b.sr.drop i) x = rDat b.sr x) 0 ⟨by omega,rfl⟩ ⟨rfl,rfl,rfl,rfl,rfl,trivial⟩ rfl ?_
  rintro i z ⟨hi,hn⟩ K hN hE hR
  show xcode _ _ [z 0,z 1,.ptr b2 0,.ptr b3 0,.ptr b4 0,z 5,.int .i64 ((i : Nat) : Int),z 7,z 8,z 9,z 10,z 11,z 12,z 13,z 14,z 15,z 16,z 17,z 18,z 19,z 20,z 21,z 22,z 23,z 24,z 25,z 26,z 27,z 28,z 29,z 30,z 31,z 32,z 33,z 34,z 35,z 36,z 37,z 38,z 39,z 40,z 41,z 42,z 43,z 44,z 45,z 46,z 47,z 48,z 49,z 50,z 51,z 52,z 53,z 54,z 55,z 56,z 57,z 58,z 59,z 60,z 61,z 62,z 63,z 64,z 65,z 66,z 67] _ K
  by_cases hlt : i < b.sr.length
  · have g := mapD_get (f := Sr.d) hlt
    have hlt' : ((i : Int) < (b.sr.length : Int)) = True := eq_true (by omega)
    rw [drop_cons hlt,rDat_cons] at hn
    have hdl := hb.dt _ (getD_mem hlt)
    generalize b.sr.getD i default = s at g hn hdl
    have hsd : s.d = [.int .i64 s.id.o,.int .i64 s.id.s,.int .i64 s.id.i,.str s.title,.str s.owner,.slc (mapD Vl.d s.date)] := rfl
    have hd := id_dec (x := s.id) (y := x)
    by_cases h0 : s.id = x
    · rw [if_pos h0] at hn
      simp +contextual only [x27,mapD_len,hbd,hxd,g,hsd,hd,hlt',eq_true h0,h_miss,h_skip,n23,n34,n24,↓U27,↓XP,↓XU,XW0,XW1,qa,qb,qc,qd,qe,qf,reduceCtorEq,TYX]
      rintro _ b7 ⟨n47,n37,n27,h7⟩
      simp only [← hbd,← hxd]
      refine XW.loopS Go.Proofs.Ytffbjejmobhpkaa.hm 68 (fun s : DaLp => [(2,.ptr b2 0),(3,.ptr b3 0),(4,.ptr b4 0),(6,.int .i64 ((i : Nat) : Int)),(7,.ptr b7 0),(8,.bool s.o.isSome),(9,.int .i64 ((s.k : Nat) : Int))]) (fun s => (b7,AO.cells (s.o.getD sp0).d) :: (b4,AO.cells [.int .i64 0,.int .i64 0]) :: (b3,AO.cells x.d) :: (b2,.cells b.d) :: H) (fun t => s.date.length - t.k) (fun t => t.k ≤ s.date.length ∧ (s.date.take t.k).foldl datA none = t.o) ⟨0,none⟩ ⟨by simp,rfl⟩ ⟨rfl,rfl,rfl,rfl,rfl,rfl,rfl,rfl,trivial⟩ rfl ?_
      rintro ⟨k,o⟩ z ⟨hk1,ho⟩ K2 hN2 hE2 hR2
      dsimp only at hk1 ho
      show xcode _ _ [z 0,z 1,.ptr b2 0,.ptr b3 0,.ptr b4 0,z 5,.int .i64 ((i : Nat) : Int),.ptr b7 0,.bool o.isSome,.int .i64 ((k : Nat) : Int),z 10,z 11,z 12,z 13,z 14,z 15,z 16,z 17,z 18,z 19,z 20,z 21,z 22,z 23,z 24,z 25,z 26,z 27,z 28,z 29,z 30,z 31,z 32,z 33,z 34,z 35,z 36,z 37,z 38,z 39,z 40,z 41,z 42,z 43,z 44,z 45,z 46,z 47,z 48,z 49,z 50,z 51,z 52,z 53,z 54,z 55,z 56,z 57,z 58,z 59,z 60,z 61,z 62,z 63,z 64,z 65,z 66,z 67] ((b7,AO.cells (o.getD sp0).d) :: (b4,AO.cells [.int .i64 0,.int .i64 0]) :: (b3,AO.cells x.d) :: (b2,.cells b.d) :: H) K2
      have hod : (o.getD sp0).d = [.int .i64 (o.getD sp0).a,.int .i64 (o.getD sp0).b] := rfl
      by_cases hlt2 : k < s.date.length
      · have g2 := mapD_get (f := Vl.d) hlt2
        have hlt2' : ((k : Int) < (s.date.length : Int)) = True := eq_true (by omega)
        have hs2 := foldl_takeR (f := datA) (b := none) hlt2
        rw [ho] at hs2
        generalize s.date.getD k default = v at g2 hs2
        have hvd : v.d = [.str v.text,.int .i64 v.n,.int .i64 v.sp.a,.int .i64 v.sp.b,.int .i64 v.by_.o,.int .i64 v.by_.s,.int .i64 v.by_.i] := rfl
        simp +contextual only [x27,mapD_len,hbd,hxd,g,hsd,hlt',g2,hvd,hlt2',hod,h_miss,h_skip,n23,n34,n24,n47,n37,n27,↓U27,↓XP,↓XU,XW0,XW1,qa,qb,qc,qd,qe,qf,reduceCtorEq,TYX]
        intros
        rename_i b10 qb10
        obtain ⟨n710,n410,n310,n210,h10⟩ := qb10
        refine f_rSpan (x := v.sp) ?_
        by_cases hv : OkSpan v.sp
        · rw [show datA o v = some (mrg (o.getD v.sp) v.sp) by unfold datA; rw [if_pos hv]] at hs2
          cases o with
          | none =>
            simp +contextual only [x27,mapD_len,hbd,hxd,decide_eq_true hv,hod,Option.isSome_none,Option.getD_none,h_miss,h_skip,n23,n34,n24,n47,n37,n27,n710,n410,n310,n210,wrap_succ (show k ≤ big by omega),↓U27,↓XP,↓XU,XW0,XW1,qa,qb,qc,qd,qe,qf,reduceCtorEq,TYX]
            simp only [← hbd,← hxd]
            intros
            rw [show mrg ((none : Option Sp).getD v.sp) v.sp = v.sp by simp [mrg]] at hs2
            refine hN2 ⟨k + 1,some v.sp⟩ _ _ ⟨hlt2,hs2⟩ (by dsimp only; omega) ⟨rfl,rfl,rfl,rfl,rfl,rfl,rfl,rfl,trivial⟩ (back_1 rfl)
          | some w =>
            simp +contextual only [x27,mapD_len,hbd,hxd,decide_eq_true hv,hod,Option.isSome_some,Option.getD_some,h_miss,h_skip,n23,n34,n24,n47,n37,n27,n710,n410,n310,n210,wrap_succ (show k ≤ big by omega),↓U27,↓XP,↓XU,XW0,XW1,qa,qb,qc,qd,qe,qf,reduceCtorEq,TYX]
            simp only [← hbd,← hxd]
            intros
            refine hN2 ⟨k + 1,some (mrg w v.sp)⟩ _ _ ⟨hlt2,hs2⟩ (by dsimp only; omega) ⟨rfl,rfl,rfl,rfl,rfl,rfl,rfl,rfl,trivial⟩ (back_1 rfl)
        · rw [show datA o v = o by unfold datA; rw [if_neg hv]] at hs2
          simp +contextual only [x27,mapD_len,hbd,hxd,decide_eq_false hv,h_miss,h_skip,n23,n34,n24,n47,n37,n27,n710,n410,n310,n210,wrap_succ (show k ≤ big by omega),↓U27,↓XP,↓XU,XW0,XW1,qa,qb,qc,qd,qe,qf,reduceCtorEq,TYX]
          simp only [← hbd,← hxd,← hod]
          intros
          exact hN2 ⟨k + 1,o⟩ _ _ ⟨hlt2,hs2⟩ (by dsimp only; omega) ⟨rfl,rfl,rfl,rfl,rfl,rfl,rfl,rfl,trivial⟩ (back_1 rfl)
      · have hkn : k = s.date.length := by omega
        subst hkn
        rw [List.take_length] at ho
        have he : rDt b x = (o.getD sp0,o.isSome) := by unfold rDt; rw [← hn,ho]
        generalize o.isSome = os at he
        generalize o.getD sp0 = og at he hod
        simp +contextual only [x27,mapD_len,hbd,hxd,g,hsd,hlt',hod,h_miss,h_skip,n23,n34,n24,n47,n37,n27,↓U27,↓XP,↓XU,XW0,XW1,qa,qb,qc,qd,qe,qf,reduceCtorEq,TYX]
        intros
        refine hE2 _ _ _ ?_
        simp +contextual only [x27,mapD_len,hbd,hxd,hod,h_miss,h_skip,n23,n34,n24,n47,n37,n27,↓U27,↓XP,↓XU,XW0,XW1,qa,qb,qc,qd,qe,qf,reduceCtorEq,TYX]
        refine hR _ _ ?_
        simp +contextual only [x27,mapD_len,hbd,hxd,hod,h_miss,h_skip,n23,n34,n24,n47,n37,n27,↓U27,↓XP,↓XU,XW0,XW1,qa,qb,qc,qd,qe,qf,reduceCtorEq,TYX]
        exact hk _ _ _ he
    · rw [if_neg h0] at hn
      simp +contextual only [x27,mapD_len,hbd,hxd,g,hsd,hd,hlt',eq_false h0,h_miss,h_skip,n23,n34,n24,wrap_succ (show i ≤ big by omega),↓U27,↓XP,↓XU,XW0,XW1,qa,qb,qc,qd,qe,qf,reduceCtorEq,TYX]
      simp only [← hbd,← hxd]
      intros
      exact hN (i + 1) _ _ ⟨hlt,hn⟩ (by omega) ⟨rfl,rfl,rfl,rfl,rfl,trivial⟩ (back_0 rfl)
  · have hik : i = b.sr.length := by omega
    subst hik
    rw [List.drop_length] at hn
    have he : rDt b x = (sp0,false) := by unfold rDt; rw [← hn]; rfl
    simp +contextual only [x27,mapD_len,hbd,hxd,h_miss,h_skip,n23,n34,n24,↓U27,↓XP,↓XU,XW0,XW1,qa,qb,qc,qd,qe,qf,reduceCtorEq,TYX]
    intros
    refine hE _ _ _ ?_
    simp +contextual only [x27,mapD_len,hbd,hxd,h_miss,h_skip,n23,n34,n24,↓U27,↓XP,↓XU,XW0,XW1,qa,qb,qc,qd,qe,qf,reduceCtorEq,TYX]
    exact hk _ _ _ he
end Go.Proofs.Ytffbjejmobhpkaa
end
section
namespace Go.Proofs.Ytffbjejmobhpkaa
open Go Go.Aw
def isEv (b : Bk) (x : Id3) (q : Qt) : Bool := decide ((rRes b id0 q.sense).2 = 0) && (decide ((rRes b id0 q.sense).1 = x) && (rDt b q.source).2)
def rEvd (b : Bk) (x : Id3) : List Qt := b.qt.filter (isEv b x)
def spQ (b : Bk) (q : Qt) : Sp := (rDt b q.source).1
def rmnS (o s : Sp) : Sp := ⟨if s.a < o.a then s.a else o.a,if s.b < o.b then s.b else o.b⟩
def risO (b : Bk) (l : List Qt) : Sp := match l with
  | [] => sp0
  | q :: r => (q :: r).foldl (fun o q => rmnS o (spQ b q)) (spQ b q)
theorem risO_app {b : Bk} {l : List Qt} {y : Qt} : risO b (l ++ [y]) = rmnS (if l = [] then spQ b y else risO b l) (spQ b y) := by
  cases l with
  | nil => rfl
  | cons q r =>
    rw [if_neg (by simp)]
    unfold risO
    simp only [List.cons_append]
    rw [← List.cons_append,List.foldl_append]
    rfl
def rRis (b : Bk) (x : Id3) : Sp × Bool := (risO b (rEvd b x),decide (0 < (rEvd b x).length))
structure EdLp where
  i : Nat
  l : List Qt
theorem f_rEvd {b : Bk} (hb : SmallR b) {x : Id3} {H : AH} {R : D → AH → Prop} (h : R (.slc (mapD Qt.d (rEvd b x))) H) : ACall Try.prog 37 [.agg b.d,.agg x.d] H R := by
  refine ACall.view (b37 fun hf => ?_)
  have hbig := big_eq
  have hqt := hb.qt
  have hbd : b.d = [.slc (mapD En.d b.en),.slc (mapD Sn.d b.sn),.slc (mapD Sr.d b.sr),.slc (mapD Qt.d b.qt),.slc (mapD Spl.d b.sl),.slc (mapD Mg.d b.mg),.slc (mapD Ch.d b.ch)] := rfl
  have hxd : x.d = [.int .i64 x.o,.int .i64 x.s,.int .i64 x.i] := rfl
  simp +contextual only [x37,mapD_len,hbd,hxd,↓U37,↓XP,↓XU,XW0,XW1,qa,qb,qc,qd,qe,qf,reduceCtorEq,TYX]
  rintro b2 h2 b3 ⟨n23,h3⟩
  simp only [← hbd,← hxd]
  refine XW.loopS Go.Proofs.Ytffbjejmobhpkaa.hm 60 (fun s : EdLp => [(2,.ptr b2 0),(3,.ptr b3 0),(5,.own (mapD Qt.d s.l)),(6,.int .i64 ((s.i : Nat) : Int))]) (fun s => (b3,AO.cells x.d) :: (b2,.cells b.d) :: H) (fun s => b.qt.length - s.i) (fun s => s.i ≤ b.qt.length ∧ (b.qt.take s.i).filter (isEv b x) = s.l) ⟨0,[]⟩ ⟨by simp,rfl⟩ ⟨rfl,rfl,rfl,rfl,rfl,trivial⟩ rfl ?_
  rintro ⟨i,l⟩ z ⟨hi,hst⟩ K hN hE hR
  dsimp only at hi hst
  have hll : l.length ≤ i := by rw [← hst]; exact Nat.le_trans (List.length_filter_le _ _) (by rw [List.length_take]; omega)
  show xcode _ _ [z 0,z 1,.ptr b2 0,.ptr b3 0,z 4,.own (mapD Qt.d l),.int .i64 ((i : Nat) : Int),z 7,z 8,z 9,z 10,z 11,z 12,z 13,z 14,z 15,z 16,z 17,z 18,z 19,z 20,z 21,z 22,z 23,z 24,z 25,z 26,z 27,z 28,z 29,z 30,z 31,z 32,z 33,z 34,z 35,z 36,z 37,z 38,z 39,z 40,z 41,z 42,z 43,z 44,z 45,z 46,z 47,z 48,z 49,z 50,z 51,z 52,z 53,z 54,z 55,z 56,z 57,z 58,z 59] _ K
  by_cases hlt : i < b.qt.length
  · have g := mapD_get (f := Qt.d) hlt
    have hlt' : ((i : Int) < (b.qt.length : Int)) = True := eq_true (by omega)
    have hstep : (b.qt.take (i + 1)).filter (isEv b x) = if isEv b x (b.qt.getD i default) = true then l ++ [b.qt.getD i default] else l := by
      rw [take_succ hlt,List.filter_append,hst]
      split
      · rename_i h; rw [List.filter_cons_of_pos h]; rfl
      · rename_i h; rw [List.filter_cons_of_neg h]; simp
    generalize b.qt.getD i default = q at g hstep
    have hqd : q.d = [.int .i64 q.id.o,.int .i64 q.id.s,.int .i64 q.id.i,.int .i64 q.sense.o,.int .i64 q.sense.s,.int .i64 q.sense.i,.int .i64 q.source.o,.int .i64 q.source.s,.int .i64 q.source.i,.int .i64 q.page,.str q.text] := rfl
    have hap : mapD Qt.d l ++ [[.int .i64 q.id.o,.int .i64 q.id.s,.int .i64 q.id.i,.int .i64 q.sense.o,.int .i64 q.sense.s,.int .i64 q.sense.i,.int .i64 q.source.o,.int .i64 q.source.s,.int .i64 q.source.i,.int .i64 q.page,.str q.text]] = mapD Qt.d (l ++ [q]) := by rw [← mapD_app]; rfl
    have hie : isEv b x q = (decide ((rRes b id0 q.sense).2 = 0) && (decide ((rRes b id0 q.sense).1 = x) && (rDt b q.source).2)) := rfl
    simp +contextual only [x37,mapD_len,hbd,hxd,g,hqd,hlt',h_miss,h_skip,n23,↓U37,↓XP,↓XU,XW0,XW1,qa,qb,qc,qd,qe,qf,reduceCtorEq,TYX]
    intros
    refine ⟨_,fun _ _ => f_rResolve hb (fr := id0) (to := q.sense) ⟨rfl,rfl⟩,?_⟩
    generalize rRes b id0 q.sense = rr at hie
    obtain ⟨y,e⟩ := rr
    dsimp only at hie
    have hyd : y.d = [.int .i64 y.o,.int .i64 y.s,.int .i64 y.i] := rfl
    have hrd : idC (y,e) = .tup [.agg [.int .i64 y.o,.int .i64 y.s,.int .i64 y.i],.int .i64 e] := rfl
    rw [hrd]
    simp +contextual only [x37,mapD_len,hbd,hxd,g,hqd,hlt',h_miss,h_skip,n23,↓U37,↓XP,↓XU,XW0,XW1,qa,qb,qc,qd,qe,qf,reduceCtorEq,TYX]
    refine fun _ => ⟨by omega,?_⟩
    rintro b7 ⟨n37,n27,h7⟩ _
    refine ⟨_,fun _ _ => f_rDate hb (x := q.source) ⟨rfl,rfl⟩,?_⟩
    generalize rDt b q.source = rd at hie
    obtain ⟨⟨u,w⟩,v⟩ := rd
    dsimp only at hie
    have hsd : spB (⟨u,w⟩,v) = .tup [.agg [.int .i64 u,.int .i64 w],.bool v] := rfl
    rw [hsd]
    have hd := id_dec (x := y) (y := x)
    simp +contextual only [x37,mapD_len,hbd,hxd,g,hqd,hlt',h_miss,h_skip,n23,n37,n27,↓U37,↓XP,↓XU,XW0,XW1,qa,qb,qc,qd,qe,qf,reduceCtorEq,TYX]
    refine ⟨by omega,?_⟩
    rintro b9 ⟨n79,n39,n29,h9⟩
    rcases Classical.em (e = 0) with he | he
    · rcases Classical.em (y = x) with hy | hy
      · cases v with
        | true =>
          rw [if_pos (show isEv b x q = true by rw [hie,decide_eq_true he,decide_eq_true hy]; rfl)] at hstep
          simp +contextual only [x37,mapD_len,hbd,hxd,g,hqd,hlt',hd,eq_true he,eq_true hy,hap,h_miss,h_skip,n23,n37,n27,n79,n39,n29,wrap_succ (show i ≤ big by omega),↓U37,↓XP,↓XU,XW0,XW1,qa,qb,qc,qd,qe,qf,reduceCtorEq,TYX]
          simp only [← hbd,← hxd]
          intros
          refine ⟨mapD_sz fun _ => rfl,by omega,hN ⟨i + 1,l ++ [q]⟩ _ _ ⟨hlt,hstep⟩ (by dsimp only; omega) ⟨rfl,rfl,rfl,rfl,rfl,trivial⟩ (back_2 rfl)⟩
        | false =>
          rw [if_neg (show ¬ isEv b x q = true by rw [hie,decide_eq_true he,decide_eq_true hy]; decide)] at hstep
          simp +contextual only [x37,mapD_len,hbd,hxd,g,hqd,hlt',hd,eq_true he,eq_true hy,h_miss,h_skip,n23,n37,n27,n79,n39,n29,wrap_succ (show i ≤ big by omega),↓U37,↓XP,↓XU,XW0,XW1,qa,qb,qc,qd,qe,qf,reduceCtorEq,TYX]
          simp only [← hbd,← hxd]
          intros
          exact hN ⟨i + 1,l⟩ _ _ ⟨hlt,hstep⟩ (by dsimp only; omega) ⟨rfl,rfl,rfl,rfl,rfl,trivial⟩ (back_2 rfl)
      · rw [if_neg (show ¬ isEv b x q = true by rw [hie,decide_eq_true he,decide_eq_false hy]; simp)] at hstep
        simp +contextual only [x37,mapD_len,hbd,hxd,g,hqd,hlt',hd,eq_true he,eq_false hy,h_miss,h_skip,n23,n37,n27,n79,n39,n29,wrap_succ (show i ≤ big by omega),↓U37,↓XP,↓XU,XW0,XW1,qa,qb,qc,qd,qe,qf,reduceCtorEq,TYX]
        simp only [← hbd,← hxd]
        intros
        exact hN ⟨i + 1,l⟩ _ _ ⟨hlt,hstep⟩ (by dsimp only; omega) ⟨rfl,rfl,rfl,rfl,rfl,trivial⟩ (back_2 rfl)
    · rw [if_neg (show ¬ isEv b x q = true by rw [hie,decide_eq_false he]; simp)] at hstep
      simp +contextual only [x37,mapD_len,hbd,hxd,g,hqd,hlt',hd,eq_false he,h_miss,h_skip,n23,n37,n27,n79,n39,n29,wrap_succ (show i ≤ big by omega),↓U37,↓XP,↓XU,XW0,XW1,qa,qb,qc,qd,qe,qf,reduceCtorEq,TYX]
      simp only [← hbd,← hxd]
      intros
      exact hN ⟨i + 1,l⟩ _ _ ⟨hlt,hstep⟩ (by dsimp only; omega) ⟨rfl,rfl,rfl,rfl,rfl,trivial⟩ (back_2 rfl)
  · have hik : i = b.qt.length := by omega
    subst hik
    rw [List.take_length] at hst
    simp +contextual only [x37,mapD_len,hbd,hxd,h_miss,h_skip,n23,↓U37,↓XP,↓XU,XW0,XW1,qa,qb,qc,qd,qe,qf,reduceCtorEq,TYX]
    intros
    refine hE _ _ _ ?_
    simp +contextual only [x37,mapD_len,hbd,hxd,h_miss,h_skip,n23,↓U37,↓XP,↓XU,XW0,XW1,qa,qb,qc,qd,qe,qf,reduceCtorEq,TYX]
    rw [← hst]
    exact h
theorem f_rRise {b : Bk} (hb : SmallR b) {x : Id3} {H : AH} {R : D → AH → Prop} (h : R (spB (rRis b x)) H) : ACall Try.prog 38 [.agg b.d,.agg x.d] H R := by
  refine b38 fun hf => ?_
  have hbig := big_eq
  have hqt := hb.qt
  have hbd : b.d = [.slc (mapD En.d b.en),.slc (mapD Sn.d b.sn),.slc (mapD Sr.d b.sr),.slc (mapD Qt.d b.qt),.slc (mapD Spl.d b.sl),.slc (mapD Mg.d b.mg),.slc (mapD Ch.d b.ch)] := rfl
  have hxd : x.d = [.int .i64 x.o,.int .i64 x.s,.int .i64 x.i] := rfl
  simp +contextual only [x38,mapD_len,hbd,hxd,↓U38,↓XP,↓XU,XW0,XW1,qa,qb,qc,qd,qe,qf,reduceCtorEq,TYX]
  rintro b2 h2 b3 ⟨n23,h3⟩ b4 ⟨n34,n24,h4⟩
  refine f_rEvd hb (x := x) ?_
  have hrr : rRis b x = (risO b (rEvd b x),decide (0 < (rEvd b x).length)) := rfl
  have hll : (rEvd b x).length ≤ 65536 := Nat.le_trans (List.length_filter_le _ _) hqt
  generalize rEvd b x = l at hrr hll
  rw [hrr] at h
  simp +contextual only [x38,mapD_len,hbd,hxd,h_miss,h_skip,n23,n34,n24,↓U38,↓XP,↓XU,XW0,XW1,qa,qb,qc,qd,qe,qf,reduceCtorEq,TYX]
  intros
  rename_i b7 qb7
  obtain ⟨n47,n37,n27,h7⟩ := qb7
  simp only [← hbd,← hxd]
  refine XW.loopS Go.Proofs.Ytffbjejmobhpkaa.hm 49 (fun k : Nat => [(2,.ptr b2 0),(3,.ptr b3 0),(4,.ptr b4 0),(6,.slc (mapD Qt.d l)),(7,.ptr b7 0),(8,.int .i64 ((k : Nat) : Int))]) (fun k => (b7,AO.cells (risO b (l.take k)).d) :: (b4,AO.cells [.int .i64 0,.int .i64 0]) :: (b3,AO.cells x.d) :: (b2,.cells b.d) :: H) (fun k => l.length - k) (fun k => k ≤ l.length) 0 (by omega) ⟨rfl,rfl,rfl,rfl,rfl,rfl,rfl,trivial⟩ rfl ?_
  rintro k z hk K hN hE hR
  show xcode _ _ [z 0,z 1,.ptr b2 0,.ptr b3 0,.ptr b4 0,z 5,.slc (mapD Qt.d l),.ptr b7 0,.int .i64 ((k : Nat) : Int),z 9,z 10,z 11,z 12,z 13,z 14,z 15,z 16,z 17,z 18,z 19,z 20,z 21,z 22,z 23,z 24,z 25,z 26,z 27,z 28,z 29,z 30,z 31,z 32,z 33,z 34,z 35,z 36,z 37,z 38,z 39,z 40,z 41,z 42,z 43,z 44,z 45,z 46,z 47,z 48] _ K
  by_cases hlt : k < l.length
  · have g := mapD_get (f := Qt.d) hlt
    have hlt' : ((k : Int) < (l.length : Int)) = True := eq_true (by omega)
    have hN' := hN (k + 1)
    rw [take_succ hlt,risO_app] at hN'
    clear hN
    have hk0 : l.take k = [] ↔ k = 0 := by
      rw [List.take_eq_nil_iff]
      constructor
      · rintro (e | e)
        · exact e
        · rw [e] at hlt; simp at hlt
      · exact .inl
    generalize l.getD k default = q at g hN'
    have hqd : q.d = [.int .i64 q.id.o,.int .i64 q.id.s,.int .i64 q.id.i,.int .i64 q.sense.o,.int .i64 q.sense.s,.int .i64 q.sense.i,.int .i64 q.source.o,.int .i64 q.source.s,.int .i64 q.source.i,.int .i64 q.page,.str q.text] := rfl
    generalize hro : risO b (l.take k) = ro at hN'
    obtain ⟨ra,rb⟩ := ro
    have hrd : Sp.d ⟨ra,rb⟩ = [.int .i64 ra,.int .i64 rb] := rfl
    simp +contextual only [x38,mapD_len,hbd,hxd,g,hqd,hlt',hrd,h_miss,h_skip,n23,n34,n24,n47,n37,n27,↓U38,↓XP,↓XU,XW0,XW1,qa,qb,qc,qd,qe,qf,reduceCtorEq,TYX]
    intros
    refine ⟨_,fun _ _ => f_rDate hb (x := q.source) ⟨rfl,rfl⟩,?_⟩
    rw [show spQ b q = (rDt b q.source).1 from rfl] at hN'
    generalize rDt b q.source = rd at hN'
    obtain ⟨⟨u,w⟩,v⟩ := rd
    dsimp only at hN'
    have hsd : spB (⟨u,w⟩,v) = .tup [.agg [.int .i64 u,.int .i64 w],.bool v] := rfl
    rw [hsd]
    rcases Classical.em (k = 0) with h0 | h0
    · rw [if_pos (hk0.2 h0),show rmnS ⟨u,w⟩ ⟨u,w⟩ = ⟨u,w⟩ by unfold rmnS; simp] at hN'
      have h0' : ((k : Int) = 0) = True := eq_true (by omega)
      have hw : IntKind.i64.wrap (0 + 1) = ((k + 1 : Nat) : Int) := by rw [wrap_id (by omega) (by omega)]; omega
      simp +contextual only [x38,mapD_len,hbd,hxd,g,hqd,hlt',hrd,h0',h_miss,h_skip,n23,n34,n24,n47,n37,n27,↓U38,↓XP,↓XU,XW0,XW1,qa,qb,qc,qd,qe,qf,reduceCtorEq,TYX]
      refine ⟨by omega,?_⟩
      rintro b9 ⟨n79,n49,n39,n29,h9⟩
      simp +contextual only [x38,mapD_len,hbd,hxd,g,hqd,hlt',hrd,h0',hw,wrap_succ (show k ≤ big by omega),h_miss,h_skip,n23,n34,n24,n47,n37,n27,n79,n49,n39,n29,↓U38,↓XP,↓XU,XW0,XW1,qa,qb,qc,qd,qe,qf,reduceCtorEq,TYX]
      simp only [← hbd,← hxd]
      intros
      exact hN' _ _ hlt (by omega) ⟨rfl,rfl,rfl,rfl,rfl,rfl,rfl,trivial⟩ (back_1 rfl)
    · rw [if_neg (fun e => h0 (hk0.1 e))] at hN'
      have h0' : ((k : Int) = 0) = False := eq_false (by omega)
      simp +contextual only [x38,mapD_len,hbd,hxd,g,hqd,hlt',hrd,h0',h_miss,h_skip,n23,n34,n24,n47,n37,n27,↓U38,↓XP,↓XU,XW0,XW1,qa,qb,qc,qd,qe,qf,reduceCtorEq,TYX]
      refine ⟨by omega,?_⟩
      rintro b9 ⟨n79,n49,n39,n29,h9⟩
      simp +contextual only [x38,mapD_len,hbd,hxd,g,hqd,hlt',hrd,h0',wrap_succ (show k ≤ big by omega),h_miss,h_skip,n23,n34,n24,n47,n37,n27,n79,n49,n39,n29,↓U38,↓XP,↓XU,XW0,XW1,qa,qb,qc,qd,qe,qf,reduceCtorEq,TYX]
      simp only [← hbd,← hxd]
      intros
      exact hN' _ _ hlt (by omega) ⟨rfl,rfl,rfl,rfl,rfl,rfl,rfl,trivial⟩ (back_1 rfl)
  · have hik : k = l.length := by omega
    subst hik
    rw [List.take_length]
    generalize risO b l = ro at h
    obtain ⟨ra,rb⟩ := ro
    have hrd : Sp.d ⟨ra,rb⟩ = [.int .i64 ra,.int .i64 rb] := rfl
    simp +contextual only [x38,mapD_len,hbd,hxd,hrd,h_miss,h_skip,n23,n34,n24,n47,n37,n27,↓U38,↓XP,↓XU,XW0,XW1,qa,qb,qc,qd,qe,qf,reduceCtorEq,TYX]
    intros
    refine hE _ _ _ ?_
    simp +contextual only [x38,mapD_len,hbd,hxd,hrd,h_miss,h_skip,n23,n34,n24,n47,n37,n27,↓U38,↓XP,↓XU,XW0,XW1,qa,qb,qc,qd,qe,qf,reduceCtorEq,TYX]
    intro _
    rw [show decide ((0 : Int) < (l.length : Int)) = decide (0 < l.length) from decide_eq_decide.2 (by omega)]
    exact h
end Go.Proofs.Ytffbjejmobhpkaa
end
