/- A part of the proof of what the last text says: Ep5, Ewk, Ep7, Ewl, Ewx, Ewm. Conditions: those in each theorem. -/
import Derived.Test.YtffbjejmobhpkaaA20
set_option linter.unusedVariables false
set_option linter.unusedSimpArgs false
set_option maxRecDepth 100000
set_option maxHeartbeats 16000000
open Nat renaming reduceSub → qa,reduceAdd → qb,reduceMul → qc,reduceEqDiff → qd,reduceLeDiff → qe,reduceBEq → qf
section
namespace Go.Proofs.Ytffbjejmobhpkaa
open Go Go.Aw
structure DlA where
 b : Nat
 cap : Nat
 xs : List Dt
def DlA.d (c : DlA) : D := .osl c.b c.cap (mapD Dt.d c.xs)
def bsLD (cs : List DlA) : List Nat := (cs.filter fun c=>decide (c.xs ≠ [])).map (·.b)
theorem bsLD_mem {cs : List DlA} {c : DlA} (h : c ∈ cs) (hx : c.xs ≠ []) : c.b ∈ bsLD cs := List.mem_map.2 ⟨c,List.mem_filter.2 ⟨h,by simpa using hx⟩,rfl⟩
theorem bsLD_app {a b : List DlA} : bsLD (a ++ b) = bsLD a ++ bsLD b := by simp [bsLD]
theorem bsLD_cons {c : DlA} {b : List DlA} : bsLD (c :: b) = if c.xs ≠ [] then c.b :: bsLD b else bsLD b := by
 unfold bsLD
 rw [List.filter_cons]
 by_cases h : c.xs = [] <;> simp [h]
structure PoolD (fx : List Nat) (cs : List DlA) (R : AH) : Prop where
 rm : ∀ c ∈ cs,c.xs ≠ [] → getH R c.b = some (.room c.cap (mapD Dt.d c.xs))
 av : ∀ c ∈ cs,c.xs ≠ [] → c.b ∉ fx
 ds : (bsLD cs).Nodup
theorem PoolD.nil {fx : List Nat} {R : AH} : PoolD fx [] R := ⟨by simp,by simp,by simp [bsLD]⟩
def cutD (R : AH) (c : DlA) : AH := if c.xs = [] then R else eraseH R c.b
theorem PoolD.upd {fx : List Nat} {A B : List DlA} {c : DlA} {R : AH} (h : PoolD fx (A ++ c :: B) R) {b' cap' : Nat} {xs' : List Dt} (hx : xs' ≠ []) (hb : b' ∉ fx) (hf : freshH (cutD R c) b') :
  PoolD fx (A ++ ⟨b',cap',xs'⟩ :: B) ((b',.room cap' (mapD Dt.d xs')) :: cutD R c) := by
 have hnd := h.ds
 rw [bsLD_app,bsLD_cons] at hnd
 have hAB : ∀ d ∈ A ++ B,d.xs ≠ [] → getH (cutD R c) d.b = some (.room d.cap (mapD Dt.d d.xs)) := fun d hd hdx=>by
  have hm : d ∈ A ++ c :: B := by
   rcases List.mem_append.1 hd with h1 | h1
   ·exact List.mem_append_left _ h1
   ·exact List.mem_append_right _ (.tail _ h1)
  have h1 := h.rm d hm hdx
  unfold cutD
  split
  ·exact h1
  ·rename_i hc
   rw [if_pos hc,nodup_mid] at hnd
   rw [getH_erase,h1]
   intro e
   have := bsLD_mem hd hdx
   rw [bsLD_app,e] at this
   exact hnd.1 this
 have hnd2 : (bsLD A ++ bsLD B).Nodup := by
  split at hnd
  ·rw [nodup_mid] at hnd; exact hnd.2
  ·exact hnd
 have hnm : b' ∉ bsLD A ++ bsLD B := fun hm=>by
  rw [← bsLD_app] at hm
  obtain ⟨d,hd,e⟩ := List.mem_map.1 hm
  obtain ⟨hd1,hd2⟩ := List.mem_filter.1 hd
  exact fresh_ne2 hf (hAB d hd1 (by simpa using hd2)) e
 refine ⟨fun d hd hdx=>?_,fun d hd hdx=>?_,?_⟩
 ·rcases List.mem_append.1 hd with h1 | h1
  ·have := hAB d (List.mem_append_left _ h1) hdx
   simp only [getH,if_neg (fresh_ne2 hf this)]
   exact this
  ·rcases List.mem_cons.1 h1 with h1 | h1
   ·subst h1; simp [getH]
   ·have := hAB d (List.mem_append_right _ h1) hdx
    simp only [getH,if_neg (fresh_ne2 hf this)]
    exact this
 ·rcases List.mem_append.1 hd with h1 | h1
  ·exact h.av d (List.mem_append_left _ h1) hdx
  ·rcases List.mem_cons.1 h1 with h1 | h1
   ·subst h1; exact hb
   ·exact h.av d (List.mem_append_right _ (.tail _ h1)) hdx
 ·rw [bsLD_app,bsLD_cons,if_pos hx,nodup_mid]
  exact ⟨hnm,hnd2⟩
theorem PoolD.add {fx : List Nat} {A : List DlA} {R : AH} (h : PoolD fx A R) {b' cap' : Nat} {xs' : List Dt} (hx : xs' ≠ []) (hb : b' ∉ fx) (hf : freshH R b') :
  PoolD fx (A ++ [⟨b',cap',xs'⟩]) ((b',.room cap' (mapD Dt.d xs')) :: R) := by
 have h2 : PoolD fx (A ++ (⟨0,0,[]⟩ : DlA) :: []) R := by
  refine ⟨fun d hd hdx=>?_,fun d hd hdx=>?_,?_⟩
  ·rcases List.mem_append.1 hd with h1 | h1
   ·exact h.rm d h1 hdx
   ·rcases List.mem_cons.1 h1 with h1 | h1
    ·subst h1; exact absurd rfl hdx
    ·cases h1
  ·rcases List.mem_append.1 hd with h1 | h1
   ·exact h.av d h1 hdx
   ·rcases List.mem_cons.1 h1 with h1 | h1
    ·subst h1; exact absurd rfl hdx
    ·cases h1
  ·rw [bsLD_app,bsLD_cons,if_neg (by simp)]
   simpa [bsLD] using h.ds
 exact h2.upd hx hb (by simpa [cutD] using hf)
theorem poolD_look {κ α : Type} [DecidableEq κ] {fx : List Nat} {m : List (κ × α)} {f : α → DlA} {R : AH} (h : PoolD fx (m.map fun p=>f p.2) R) {k : κ} {e : α} (hl : lookP m k = some e) (hx : (f e).xs ≠ []) : getH R (f e).b = some (.room (f e).cap (mapD Dt.d (f e).xs)) ∧ (f e).b ∉ fx := by
 have hm : f e ∈ m.map fun p=>f p.2 := List.mem_map.2 ⟨(k,e),look_mem hl,rfl⟩
 exact ⟨h.rm _ hm hx,h.av _ hm hx⟩
theorem poolD_upd {κ α : Type} [DecidableEq κ] {fx : List Nat} {m : List (κ × α)} {f : α → DlA} {R : AH} (h : PoolD fx (m.map fun p=>f p.2) R) {k : κ} {e' : α} {b' cap' : Nat} {xs' : List Dt} (he : f e' = ⟨b',cap',xs'⟩) (hx : xs' ≠ []) (hb : b' ∉ fx) {c : DlA} (hc : ((lookP m k).map f).getD ⟨0,0,[]⟩ = c) (hf : freshH (cutD R c) b') :
  PoolD fx ((updP m k e').map fun p=>f p.2) ((b',.room cap' (mapD Dt.d xs')) :: cutD R c) := by
 subst hc
 cases hl : lookP m k with
 | none =>
  rw [hl] at hf
  rw [look_none hl,List.map_append]
  simp only [List.map_cons,List.map_nil,he,Option.map_none,Option.getD_none]
  simp only [Option.map_none,Option.getD_none,cut,if_true] at hf ⊢
  exact h.add hx hb hf
 | some e =>
  rw [hl] at hf
  obtain ⟨A,B,h1,h2⟩ := look_split hl
  rw [h1] at h
  rw [h2,List.map_append,List.map_cons,he]
  rw [List.map_append,List.map_cons] at h
  exact h.upd hx hb hf
end Go.Proofs.Ytffbjejmobhpkaa
end
section
namespace Go.Proofs.Ytffbjejmobhpkaa
open Go Go.Aw
def dtD (l : List Dt) : D := .slc (mapD Dt.d l)
def idD (x : Id3) : D := .agg x.d
def evQ (b : Bk) (q : Qt) : Option (Id3 × Dt) := match lookP (datesP b.sr) q.source with
 | some d=>if (resP (ixP b) id0 q.sense).2 = 0 then some ((resP (ixP b) id0 q.sense).1,⟨q.id,d⟩) else none
 | none=>none
def evS (b : Bk) (m : List (Id3 × List Dt)) (q : Qt) : List (Id3 × List Dt) := match evQ b q with
 | some (x,t)=>updP m x ((lookP m x).getD [] ++ [t])
 | none=>m
def evM (b : Bk) : List (Id3 × List Dt) := b.qt.foldl (evS b) []
theorem getD_dl {o : Option DlA} : (Option.map DlA.d o).getD (.osl 0 0 []) = DlA.d (o.getD ⟨0,0,[]⟩) := by cases o <;> rfl
structure MmOk (b : Bk) (mm : List (Id3 × Id3)) (oo : List (Id3 × Bool)) : Prop where
 ok : ∀ k v,lookP mm k = some v → v = (resP (ixP b) id0 k).1 ∧ lookP oo k = some (!decide ((resP (ixP b) id0 k).2 = 0))
structure OmOk (fx : List Nat) (nb : Nat) (m : List (Id3 × DlA)) (p : List (Id3 × List Dt)) (R : AH) : Prop where
 pool : PoolD fx (m.map fun p=>p.2) R
 val : m.map (fun p=>(p.1,p.2.xs)) = p
 sz : m.length ≤ nb ∧ ∀ q ∈ m,q.2.xs.length ≤ nb
structure EvSt where
 i : Nat
 mm : List (Id3 × Id3)
 oo : List (Id3 × Bool)
 om : List (Id3 × DlA)
 R : AH
theorem f_evidence {b : Bk} (hb : Small b) (hx : IxOk (ixP b)) {H : AH} {R : D → AH → Prop} (h : R (.mpv (mapE Id3.d dtD (evM b))) H) : ACall Try.prog 32 [.agg b.d] H R := by
 refine b32 fun hf=>?_
 have hbig := big_eq
 have hqt := hb.qt
 have hbd : b.d = [.slc (mapD En.d b.en),.slc (mapD Sn.d b.sn),.slc (mapD Sr.d b.sr),.slc (mapD Qt.d b.qt),.slc (mapD Spl.d b.sl),.slc (mapD Mg.d b.mg),.slc (mapD Ch.d b.ch)] := rfl
 simp +contextual only [x32,mapD_len,hbd,↓U32,↓XP,↓XU,XW0,XW1,qa,qb,qc,qd,qe,qf,reduceCtorEq,TYX]
 intro b1 h1
 refine f_dates (b := b) ?_
 simp +contextual only [x32,mapD_len,hbd,↓U32,↓XP,↓XU,XW0,XW1,qa,qb,qc,qd,qe,qf,reduceCtorEq,TYX]
 rintro m4 ⟨n14,h4⟩ m5 ⟨n45,n15,h5⟩ m6 ⟨n56,n46,n16,h6⟩
 simp +contextual only [x32,mapD_len,hbd,h_miss,h_skip,n14,n45,n15,n56,n46,n16,↓U32,↓XP,↓XU,XW0,XW1,qa,qb,qc,qd,qe,qf,reduceCtorEq,TYX]
 simp only [← hbd]
 intro _
 refine XW.loopSR Go.Proofs.Ytffbjejmobhpkaa.hm 85 (fun s : EvSt=>[(1,.ptr b1 0),(3,.mpv (mapE Id3.d spD (datesP b.sr))),(4,.mp (some m4)),(5,.mp (some m5)),(6,.mp (some m6)),(22,.slc (mapD Qt.d b.qt)),(23,.int .i64 b.qt.length),(24,.int .i64 ((s.i : Nat) : Int))]) (fun s=>(m6,.mp (mapE Id3.d DlA.d s.om)) :: (m5,.mp (mapE Id3.d D.bool s.oo)) :: (m4,.mp (mapE Id3.d idD s.mm)) :: (b1,.cells b.d) :: (s.R ++ H)) (fun s=>b.qt.length - s.i) (fun s=>s.i ≤ b.qt.length ∧ MmOk b s.mm s.oo ∧ OmOk [b1,m4,m5,m6] s.i s.om ((b.qt.take s.i).foldl (evS b) []) s.R) ⟨0,[],[],[],[]⟩ ⟨by simp,⟨fun k v e=>by cases e⟩,⟨by simp,by simp,by simp [bsLD]⟩,rfl,by simp⟩ ⟨rfl,rfl,rfl,rfl,rfl,rfl,rfl,rfl,rfl,trivial⟩ rfl ?_
 rintro ⟨i,mm,oo,om,R0⟩ z ⟨hi,hmm,hom⟩ K hN hE hR
 dsimp only at hi hmm hom hN
 show xcode _ _ [z 0,.ptr b1 0,z 2,.mpv (mapE Id3.d spD (datesP b.sr)),.mp (some m4),.mp (some m5),.mp (some m6),z 7,z 8,z 9,z 10,z 11,z 12,z 13,z 14,z 15,z 16,z 17,z 18,z 19,z 20,z 21,.slc (mapD Qt.d b.qt),.int .i64 b.qt.length,.int .i64 ((i : Nat) : Int),z 25,z 26,z 27,z 28,z 29,z 30,z 31,z 32,z 33,z 34,z 35,z 36,z 37,z 38,z 39,z 40,z 41,z 42,z 43,z 44,z 45,z 46,z 47,z 48,z 49,z 50,z 51,z 52,z 53,z 54,z 55,z 56,z 57,z 58,z 59,z 60,z 61,z 62,z 63,z 64,z 65,z 66,z 67,z 68,z 69,z 70,z 71,z 72,z 73,z 74,z 75,z 76,z 77,z 78,z 79,z 80,z 81,z 82,z 83,z 84] ((m6,.mp (mapE Id3.d DlA.d om)) :: (m5,.mp (mapE Id3.d D.bool oo)) :: (m4,.mp (mapE Id3.d idD mm)) :: (b1,.cells b.d) :: (R0 ++ H)) K
 by_cases hlt : i < b.qt.length
 ·have g := mapD_get (f := Qt.d) hlt
  have hlt' : ((i : Int) < (b.qt.length : Int)) = True := eq_true (by omega)
  have hstep := foldl_take (f := evS b) (b := []) hlt
  generalize b.qt.getD i default = q at g hstep
  have hqd : q.d = [.int .i64 q.id.o,.int .i64 q.id.s,.int .i64 q.id.i,.int .i64 q.sense.o,.int .i64 q.sense.s,.int .i64 q.sense.i,.int .i64 q.source.o,.int .i64 q.source.s,.int .i64 q.source.i,.int .i64 q.page,.str q.text] := rfl
  cases hld : lookP (datesP b.sr) q.source with
  | none =>
   have hev : evS b ((b.qt.take i).foldl (evS b) []) q = (b.qt.take i).foldl (evS b) [] := by unfold evS evQ; rw [hld]
   simp +contextual only [x32,mapD_len,g,hqd,hlt',hld,keys_id (x := q.source),look_id (x := q.source),keys_id (x := q.sense),look_id (x := q.sense),upd_id (x := q.sense),opt_b,h_miss,h_skip,n14,n45,n15,n56,n46,n16,wrap_succ (show i ≤ big by omega),↓U32,↓XP,↓XU,XW0,XW1,qa,qb,qc,qd,qe,qf,reduceCtorEq,TYX]
   intros
   refine hN ⟨i + 1,mm,oo,om,R0⟩ _ _ ⟨hlt,hmm,hom.pool,by dsimp only; rw [hom.val,hstep,hev],by have := hom.sz.1; dsimp only; omega,fun q hq=>by have := hom.sz.2 q hq; dsimp only; omega⟩ (by dsimp only; omega) ⟨rfl,rfl,rfl,rfl,rfl,rfl,rfl,rfl,rfl,trivial⟩ (Sbn.sub ?_)
   exact (List.sublist_cons_self _ _).trans (List.sublist_cons_self _ _)
  | some dd =>
   have hdd : spD dd = .agg [.int .i64 dd.a,.int .i64 dd.b] := rfl
   obtain ⟨y,e,hye⟩ : ∃ y e,resP (ixP b) id0 q.sense = (y,e) := ⟨_,_,rfl⟩
   have hyd : y.d = [.int .i64 y.o,.int .i64 y.s,.int .i64 y.i] := rfl
   have hyI : idD y = .agg [.int .i64 y.o,.int .i64 y.s,.int .i64 y.i] := rfl
   have hlen : (mapE Id3.d DlA.d om).length ≤ 140737488355328 := by rw [mapE_len]; have := hom.sz.1; omega
   obtain ⟨c,hc⟩ : ∃ c,(lookP om y).getD ⟨0,0,[]⟩ = c := ⟨_,rfl⟩
   have hcd : DlA.d c = .osl c.b c.cap (mapD Dt.d c.xs) := rfl
   have hev0 : e = 0 → evS b ((b.qt.take i).foldl (evS b) []) q = updP ((b.qt.take i).foldl (evS b) []) y ((lookP ((b.qt.take i).foldl (evS b) []) y).getD [] ++ [⟨q.id,dd⟩]) := fun he=>by
    unfold evS evQ
    rw [hld,hye]
    simp only [he,if_true]
   have hev1 : e ≠ 0 → evS b ((b.qt.take i).foldl (evS b) []) q = (b.qt.take i).foldl (evS b) [] := fun he=>by
    unfold evS evQ
    rw [hld,hye]
    simp only [he,if_false]
   cases hlm : lookP mm q.sense with
   | none =>
    have hmm2 : MmOk b (updP mm q.sense y) (updP oo q.sense (!decide (e = 0))) := ⟨fun k v hk=>by
     rw [look_upd] at hk ⊢
     split at hk
     ·rename_i ek
      injection hk with hk
      subst ek hk
      rw [hye,if_pos rfl]
      exact ⟨rfl,rfl⟩
     ·rename_i ek
      rw [if_neg ek]
      exact hmm.ok k v hk⟩
    have hu1 : lookP (updP mm q.sense y) q.sense = some y := by rw [look_upd,if_pos rfl]
    have hu2 : ∀ v,lookP (updP oo q.sense v) q.sense = some v := fun v=>by rw [look_upd,if_pos rfl]
    have hmm3 : ∀ v,(!decide (e = 0)) = v → MmOk b (updP mm q.sense y) (updP oo q.sense v) := fun v hv=>hv ▸ hmm2
    have upI : updD (mapE Id3.d idD mm) (.agg [.int .i64 q.sense.o,.int .i64 q.sense.s,.int .i64 q.sense.i]) (.agg [.int .i64 y.o,.int .i64 y.s,.int .i64 y.i]) = mapE Id3.d idD (updP mm q.sense y) := upd_id (vd := idD) (v := y)
    simp +contextual only [x32,mapD_len,g,hqd,hbd,hlt',hld,hdd,hlm,keys_id (x := q.source),look_id (x := q.source),keys_id (x := q.sense),look_id (x := q.sense),upd_id (x := q.sense),opt_b,h_miss,h_skip,n14,n45,n15,n56,n46,n16,↓U32,↓XP,↓XU,XW0,XW1,qa,qb,qc,qd,qe,qf,reduceCtorEq,TYX]
    rintro b8 ⟨a86,a85,a84,a81,f8⟩ b9 ⟨a98,a96,a95,a94,a91,f9⟩ b11 ⟨c9,c8,c6,c5,c4,c1,f11⟩
    refine f_Resolve hb hx (fr := id0) (to := q.sense) ?_
    rw [hye]
    dsimp only
    by_cases he : e = 0
    ·simp +contextual only [x32,mapD_len,hqd,hyd,hyI,upI,hu1,hu2,he,decide_true,Bool.not_true,keys_id (x := q.source),look_id (x := q.source),keys_id (x := q.sense),look_id (x := q.sense),upd_id (x := q.sense),opt_b,keys_id (x := y),look_id (x := y),upd_id (x := y),getD_dl,hc,hlen,h_miss,h_skip,n14,n45,n15,n56,n46,n16,a86,a85,a84,a81,a98,a96,a95,a94,a91,c9,c8,c6,c5,c4,c1,↓U32,↓XP,↓XU,XW0,XW1,qa,qb,qc,qd,qe,qf,reduceCtorEq,TYX]
     rintro _ b13 ⟨d11,d9,d8,d6,d5,d4,d1,f13⟩ b15 ⟨j13,j11,j9,j8,j6,j5,j4,j1,f15⟩ _
     rw [x_apg]
     have hrm : c.xs ≠ [] → getH R0 c.b = some (.room c.cap (mapD Dt.d c.xs)) ∧ c.b ∉ [b1,m4,m5,m6] := fun hx=>by
      cases hlo : lookP om y with
      | none=>rw [hlo] at hc; subst hc; exact absurd rfl hx
      | some e=>rw [hlo] at hc; subst hc; exact poolD_look (f := fun c=>c) hom.pool hlo hx
     have hcs : c.xs.length ≤ i := by
      cases hlo : lookP om y with
      | none=>rw [hlo] at hc; subst hc; simp
      | some e=>rw [hlo] at hc; subst hc; exact hom.sz.2 _ (look_mem hlo)
     have hcut : cutD (R0 ++ H) c = cutD R0 c ++ H := by
      unfold cutD
      by_cases hx : c.xs = []
      ·rw [if_pos hx,if_pos hx]
      ·rw [if_neg hx,if_neg hx,erase_app (hrm hx).1]
     have hav : c.xs ≠ [] → (c.b ≠ b15 ∧ c.b ≠ b13 ∧ c.b ≠ b11 ∧ c.b ≠ b9 ∧ c.b ≠ b8 ∧ c.b ≠ m6 ∧ c.b ≠ m5 ∧ c.b ≠ m4 ∧ c.b ≠ b1) := fun hx=>by
      obtain ⟨q1,q2⟩ := hrm hx
      have q3 := getH_app (H := H) q1
      simp only [List.mem_cons,List.not_mem_nil,or_false,not_or] at q2
      exact ⟨fresh_ne2 f15 q3,fresh_ne2 f13 q3,fresh_ne2 f11 q3,fresh_ne2 f9 q3,fresh_ne2 f8 q3,q2.2.2.2,q2.2.2.1,q2.2.1,q2.1⟩
     have hme : mapD Dt.d c.xs = [] ↔ c.xs = [] := by simp [mapD]
     have hdrop : ∀ x0 x1 x2 x3 x4 x5 x6 x7 x8 : AO,dropR ((b15,x0) :: (b13,x1) :: (b11,x2) :: (b9,x3) :: (b8,x4) :: (m6,x5) :: (m5,x6) :: (m4,x7) :: (b1,x8) :: (R0 ++ H)) c.b (mapD Dt.d c.xs) = (b15,x0) :: (b13,x1) :: (b11,x2) :: (b9,x3) :: (b8,x4) :: (m6,x5) :: (m5,x6) :: (m4,x7) :: (b1,x8) :: (cutD R0 c ++ H) := fun x0 x1 x2 x3 x4 x5 x6 x7 x8=>by
      rw [← hcut]
      unfold dropR cutD
      by_cases hx : c.xs = []
      ·rw [if_pos (hme.2 hx),if_pos hx]
      ·obtain ⟨q0,q1,q2,q3,q4,q5,q6,q7,q8⟩ := hav hx
       rw [if_neg (fun e=>hx (hme.1 e)),if_neg hx,e_miss q0,e_miss q1,e_miss q2,e_miss q3,e_miss q4,e_miss q5,e_miss q6,e_miss q7,e_miss q8]
     refine Gz.takeS (s := 74) (b := c.b) (cap := c.cap) (xs := mapD Dt.d c.xs) rfl (fun hx0=>?_) ?_
     ·have hx : c.xs ≠ [] := fun e=>hx0 (hme.2 e)
      obtain ⟨q0,q1,q2,q3,q4,q5,q6,q7,q8⟩ := hav hx
      rw [h_miss q0,h_miss q1,h_miss q2,h_miss q3,h_miss q4,h_miss q5,h_miss q6,h_miss q7,h_miss q8]
      exact getH_app (hrm hx).1
     rw [hdrop]
     have hsz : ∀ l : List Dt,∀ y ∈ mapD Dt.d l,y.length = 5 := fun l=>mapD_sz fun _=>rfl
     have ht1 : [[.int .i64 q.id.o,.int .i64 q.id.s,.int .i64 q.id.i,.int .i64 dd.a,.int .i64 dd.b]] = mapD Dt.d [(⟨q.id,dd⟩ : Dt)] := rfl
     simp +contextual only [x32,mapD_len,ht1,mapD_app,h_miss,h_skip,n14,n45,n15,n56,n46,n16,a86,a85,a84,a81,a98,a96,a95,a94,a91,c9,c8,c6,c5,c4,c1,d11,d9,d8,d6,d5,d4,d1,j13,j11,j9,j8,j6,j5,j4,j1,↓U32,↓XP,↓XU,XW0,XW1,qa,qb,qc,qd,qe,qf,reduceCtorEq,TYX]
     have hI : (idxD (mapE Id3.d DlA.d om) [.int .i64 y.o,.int .i64 y.s,.int .i64 y.i]).getD (mapE Id3.d DlA.d om).length < (mapE Id3.d DlA.d (updP om y c)).length := by
      rw [← upd_id]
      exact idx_upd (i := .agg [.int .i64 y.o,.int .i64 y.s,.int .i64 y.i])
     have hset : ∀ c' : DlA,setV (mapE Id3.d DlA.d (updP om y c)) ((idxD (mapE Id3.d DlA.d om) [.int .i64 y.o,.int .i64 y.s,.int .i64 y.i]).getD (mapE Id3.d DlA.d om).length) (.osl c'.b c'.cap (mapD Dt.d c'.xs)) = mapE Id3.d DlA.d (updP om y c') := fun c'=>by
      rw [← upd_id,← upd_id]
      exact setV_upd (i := .agg [.int .i64 y.o,.int .i64 y.s,.int .i64 y.i])
     generalize (idxD (mapE Id3.d DlA.d om) [.int .i64 y.o,.int .i64 y.s,.int .i64 y.i]).getD (mapE Id3.d DlA.d om).length = I at hI hset
     refine ⟨hsz _,hsz _,by omega,fun _=>?_⟩
     refine Gz.giveS (s := 81) (xs := mapD Dt.d (c.xs ++ [(⟨q.id,dd⟩ : Dt)])) (by simp [mapD]) rfl fun b' cap' hf=>?_
     obtain ⟨g0,g1,g2,g3,g4,g5,g6,g7,g8,gf⟩ := hf
     have hset' := hset ⟨b',cap',c.xs ++ [⟨q.id,dd⟩]⟩
     dsimp only at hset'
     simp +contextual only [x32,mapD_len,Int.toNat_natCast,hset',h_miss,h_skip,n14,n45,n15,n56,n46,n16,a86,a85,a84,a81,a98,a96,a95,a94,a91,c9,c8,c6,c5,c4,c1,d11,d9,d8,d6,d5,d4,d1,j13,j11,j9,j8,j6,j5,j4,j1,Ne.symm g0,Ne.symm g1,Ne.symm g2,Ne.symm g3,Ne.symm g4,Ne.symm g5,Ne.symm g6,Ne.symm g7,Ne.symm g8,wrap_succ (show i ≤ big by omega),↓U32,↓XP,↓XU,XW0,XW1,qa,qb,qc,qd,qe,qf,reduceCtorEq,TYX]
     refine ⟨by omega,?_⟩
     refine hN ⟨i + 1,updP mm q.sense y,updP oo q.sense false,updP om y ⟨b',cap',c.xs ++ [⟨q.id,dd⟩]⟩,(b',.room cap' (mapD Dt.d (c.xs ++ [(⟨q.id,dd⟩ : Dt)]))) :: cutD R0 c⟩ _ _ ⟨hlt,hmm3 false (by simp [he]),?_,?_,?_,?_⟩ (by dsimp only; omega) ⟨rfl,rfl,rfl,rfl,rfl,rfl,rfl,rfl,rfl,trivial⟩ ?_
     ·refine poolD_upd (f := fun c=>c) hom.pool rfl (by simp) ?_ (c := c) (by rw [← hc]; simp) (fresh_app gf)
      simp only [List.mem_cons,List.not_mem_nil,or_false,not_or]
      exact ⟨g8,g7,g6,g5⟩
     ·dsimp only
      rw [upd_map (f := DlA.xs),hom.val,hstep,hev0 he]
      have e1 : lookP ((b.qt.take i).foldl (evS b) []) y = (lookP om y).map DlA.xs := by rw [← hom.val,look_map]
      rw [e1]
      cases hlo : lookP om y with
      | none=>rw [hlo] at hc; subst hc; rfl
      | some e=>rw [hlo] at hc; subst hc; rfl
     ·have h1 := hom.sz.1
      have h2 := upd_len (m := om) (k := y) (v := (⟨b',cap',c.xs ++ [⟨q.id,dd⟩]⟩ : DlA))
      dsimp only
      omega
     ·intro q hq
      dsimp only at hq ⊢
      rcases upd_mem hq with rfl | hq
      ·simp only [List.length_append,List.length_cons,List.length_nil]
       omega
      ·have := hom.sz.2 q hq
       omega
     ·exact Sbn_room (fx := [(m6,.mp (mapE Id3.d DlA.d (updP om y ⟨b',cap',c.xs ++ [⟨q.id,dd⟩]⟩))),(m5,.mp (mapE Id3.d D.bool (updP oo q.sense false))),(m4,.mp (mapE Id3.d idD (updP mm q.sense y))),(b1,.cells b.d)]) (bs := [(b15,_),(b13,_),(b11,_),(b9,_),(b8,_)]) (fun p hp=>hp) rfl
    ·simp +contextual only [x32,mapD_len,hqd,hyd,hyI,upI,hu1,hu2,eq_false he,decide_false,Bool.not_false,wrap_succ (show i ≤ big by omega),keys_id (x := q.source),look_id (x := q.source),keys_id (x := q.sense),look_id (x := q.sense),upd_id (x := q.sense),opt_b,h_miss,h_skip,n14,n45,n15,n56,n46,n16,a86,a85,a84,a81,a98,a96,a95,a94,a91,c9,c8,c6,c5,c4,c1,↓U32,↓XP,↓XU,XW0,XW1,qa,qb,qc,qd,qe,qf,reduceCtorEq,TYX]
     rintro _ b13 ⟨d11,d9,d8,d6,d5,d4,d1,f13⟩
     refine hN ⟨i + 1,updP mm q.sense y,updP oo q.sense true,om,R0⟩ _ _ ⟨hlt,hmm3 true (by simp [he]),hom.pool,by dsimp only; rw [hom.val,hstep,hev1 he],by have := hom.sz.1; dsimp only; omega,fun q hq=>by have := hom.sz.2 q hq; dsimp only; omega⟩ (by dsimp only; omega) ⟨rfl,rfl,rfl,rfl,rfl,rfl,rfl,rfl,rfl,trivial⟩ (Sbn.sub ?_)
     exact (List.sublist_append_right [(b13,_),(b11,_),(b9,_),(b8,_)] _)
   | some v =>
    obtain ⟨hv,ho⟩ := hmm.ok _ _ hlm
    rw [hye] at hv ho
    dsimp only at hv ho
    replace hv := hv.symm
    subst hv
    by_cases he : e = 0
    ·simp +contextual only [x32,mapD_len,g,hqd,hlt',hld,hdd,hlm,ho,hyI,he,decide_true,Bool.not_true,keys_id (x := q.source),look_id (x := q.source),keys_id (x := q.sense),look_id (x := q.sense),upd_id (x := q.sense),opt_b,keys_id (x := y),look_id (x := y),upd_id (x := y),getD_dl,hc,hlen,h_miss,h_skip,n14,n45,n15,n56,n46,n16,↓U32,↓XP,↓XU,XW0,XW1,qa,qb,qc,qd,qe,qf,reduceCtorEq,TYX]
     rintro b8 ⟨a86,a85,a84,a81,f8⟩ b9 ⟨a98,a96,a95,a94,a91,f9⟩ b11 ⟨c9,c8,c6,c5,c4,c1,f11⟩ b15 ⟨j11,j9,j8,j6,j5,j4,j1,f15⟩ _
     rw [x_apg]
     have hrm : c.xs ≠ [] → getH R0 c.b = some (.room c.cap (mapD Dt.d c.xs)) ∧ c.b ∉ [b1,m4,m5,m6] := fun hx=>by
      cases hlo : lookP om y with
      | none=>rw [hlo] at hc; subst hc; exact absurd rfl hx
      | some e=>rw [hlo] at hc; subst hc; exact poolD_look (f := fun c=>c) hom.pool hlo hx
     have hcs : c.xs.length ≤ i := by
      cases hlo : lookP om y with
      | none=>rw [hlo] at hc; subst hc; simp
      | some e=>rw [hlo] at hc; subst hc; exact hom.sz.2 _ (look_mem hlo)
     have hcut : cutD (R0 ++ H) c = cutD R0 c ++ H := by
      unfold cutD
      by_cases hx : c.xs = []
      ·rw [if_pos hx,if_pos hx]
      ·rw [if_neg hx,if_neg hx,erase_app (hrm hx).1]
     have hav : c.xs ≠ [] → (c.b ≠ b15 ∧ c.b ≠ b11 ∧ c.b ≠ b9 ∧ c.b ≠ b8 ∧ c.b ≠ m6 ∧ c.b ≠ m5 ∧ c.b ≠ m4 ∧ c.b ≠ b1) := fun hx=>by
      obtain ⟨q1,q2⟩ := hrm hx
      have q3 := getH_app (H := H) q1
      simp only [List.mem_cons,List.not_mem_nil,or_false,not_or] at q2
      exact ⟨fresh_ne2 f15 q3,fresh_ne2 f11 q3,fresh_ne2 f9 q3,fresh_ne2 f8 q3,q2.2.2.2,q2.2.2.1,q2.2.1,q2.1⟩
     have hme : mapD Dt.d c.xs = [] ↔ c.xs = [] := by simp [mapD]
     have hdrop : ∀ x0 x1 x2 x3 x4 x5 x6 x7 : AO,dropR ((b15,x0) :: (b11,x1) :: (b9,x2) :: (b8,x3) :: (m6,x4) :: (m5,x5) :: (m4,x6) :: (b1,x7) :: (R0 ++ H)) c.b (mapD Dt.d c.xs) = (b15,x0) :: (b11,x1) :: (b9,x2) :: (b8,x3) :: (m6,x4) :: (m5,x5) :: (m4,x6) :: (b1,x7) :: (cutD R0 c ++ H) := fun x0 x1 x2 x3 x4 x5 x6 x7=>by
      rw [← hcut]
      unfold dropR cutD
      by_cases hx : c.xs = []
      ·rw [if_pos (hme.2 hx),if_pos hx]
      ·obtain ⟨q0,q1,q2,q3,q4,q5,q6,q7⟩ := hav hx
       rw [if_neg (fun e=>hx (hme.1 e)),if_neg hx,e_miss q0,e_miss q1,e_miss q2,e_miss q3,e_miss q4,e_miss q5,e_miss q6,e_miss q7]
     refine Gz.takeS (s := 74) (b := c.b) (cap := c.cap) (xs := mapD Dt.d c.xs) rfl (fun hx0=>?_) ?_
     ·have hx : c.xs ≠ [] := fun e=>hx0 (hme.2 e)
      obtain ⟨q0,q1,q2,q3,q4,q5,q6,q7⟩ := hav hx
      rw [h_miss q0,h_miss q1,h_miss q2,h_miss q3,h_miss q4,h_miss q5,h_miss q6,h_miss q7]
      exact getH_app (hrm hx).1
     rw [hdrop]
     have hsz : ∀ l : List Dt,∀ y ∈ mapD Dt.d l,y.length = 5 := fun l=>mapD_sz fun _=>rfl
     have ht1 : [[.int .i64 q.id.o,.int .i64 q.id.s,.int .i64 q.id.i,.int .i64 dd.a,.int .i64 dd.b]] = mapD Dt.d [(⟨q.id,dd⟩ : Dt)] := rfl
     simp +contextual only [x32,mapD_len,ht1,mapD_app,h_miss,h_skip,n14,n45,n15,n56,n46,n16,a86,a85,a84,a81,a98,a96,a95,a94,a91,c9,c8,c6,c5,c4,c1,j11,j9,j8,j6,j5,j4,j1,↓U32,↓XP,↓XU,XW0,XW1,qa,qb,qc,qd,qe,qf,reduceCtorEq,TYX]
     have hI : (idxD (mapE Id3.d DlA.d om) [.int .i64 y.o,.int .i64 y.s,.int .i64 y.i]).getD (mapE Id3.d DlA.d om).length < (mapE Id3.d DlA.d (updP om y c)).length := by
      rw [← upd_id]
      exact idx_upd (i := .agg [.int .i64 y.o,.int .i64 y.s,.int .i64 y.i])
     have hset : ∀ c' : DlA,setV (mapE Id3.d DlA.d (updP om y c)) ((idxD (mapE Id3.d DlA.d om) [.int .i64 y.o,.int .i64 y.s,.int .i64 y.i]).getD (mapE Id3.d DlA.d om).length) (.osl c'.b c'.cap (mapD Dt.d c'.xs)) = mapE Id3.d DlA.d (updP om y c') := fun c'=>by
      rw [← upd_id,← upd_id]
      exact setV_upd (i := .agg [.int .i64 y.o,.int .i64 y.s,.int .i64 y.i])
     generalize (idxD (mapE Id3.d DlA.d om) [.int .i64 y.o,.int .i64 y.s,.int .i64 y.i]).getD (mapE Id3.d DlA.d om).length = I at hI hset
     refine ⟨hsz _,hsz _,by omega,fun _=>?_⟩
     refine Gz.giveS (s := 81) (xs := mapD Dt.d (c.xs ++ [(⟨q.id,dd⟩ : Dt)])) (by simp [mapD]) rfl fun b' cap' hf=>?_
     obtain ⟨g0,g1,g2,g3,g4,g5,g6,g7,gf⟩ := hf
     have hset' := hset ⟨b',cap',c.xs ++ [⟨q.id,dd⟩]⟩
     dsimp only at hset'
     simp +contextual only [x32,mapD_len,Int.toNat_natCast,hset',h_miss,h_skip,n14,n45,n15,n56,n46,n16,a86,a85,a84,a81,a98,a96,a95,a94,a91,c9,c8,c6,c5,c4,c1,j11,j9,j8,j6,j5,j4,j1,Ne.symm g0,Ne.symm g1,Ne.symm g2,Ne.symm g3,Ne.symm g4,Ne.symm g5,Ne.symm g6,Ne.symm g7,wrap_succ (show i ≤ big by omega),↓U32,↓XP,↓XU,XW0,XW1,qa,qb,qc,qd,qe,qf,reduceCtorEq,TYX]
     refine ⟨by omega,?_⟩
     refine hN ⟨i + 1,mm,oo,updP om y ⟨b',cap',c.xs ++ [⟨q.id,dd⟩]⟩,(b',.room cap' (mapD Dt.d (c.xs ++ [(⟨q.id,dd⟩ : Dt)]))) :: cutD R0 c⟩ _ _ ⟨hlt,hmm,?_,?_,?_,?_⟩ (by dsimp only; omega) ⟨rfl,rfl,rfl,rfl,rfl,rfl,rfl,rfl,rfl,trivial⟩ ?_
     ·refine poolD_upd (f := fun c=>c) hom.pool rfl (by simp) ?_ (c := c) (by rw [← hc]; simp) (fresh_app gf)
      simp only [List.mem_cons,List.not_mem_nil,or_false,not_or]
      exact ⟨g7,g6,g5,g4⟩
     ·dsimp only
      rw [upd_map (f := DlA.xs),hom.val,hstep,hev0 he]
      have e1 : lookP ((b.qt.take i).foldl (evS b) []) y = (lookP om y).map DlA.xs := by rw [← hom.val,look_map]
      rw [e1]
      cases hlo : lookP om y with
      | none=>rw [hlo] at hc; subst hc; rfl
      | some e=>rw [hlo] at hc; subst hc; rfl
     ·have h1 := hom.sz.1
      have h2 := upd_len (m := om) (k := y) (v := (⟨b',cap',c.xs ++ [⟨q.id,dd⟩]⟩ : DlA))
      dsimp only
      omega
     ·intro q hq
      dsimp only at hq ⊢
      rcases upd_mem hq with rfl | hq
      ·simp only [List.length_append,List.length_cons,List.length_nil]
       omega
      ·have := hom.sz.2 q hq
       omega
     ·exact Sbn_room (fx := [(m6,.mp (mapE Id3.d DlA.d (updP om y ⟨b',cap',c.xs ++ [⟨q.id,dd⟩]⟩))),(m5,.mp (mapE Id3.d D.bool (oo))),(m4,.mp (mapE Id3.d idD (mm))),(b1,.cells b.d)]) (bs := [(b15,_),(b11,_),(b9,_),(b8,_)]) (fun p hp=>hp) rfl
    ·simp +contextual only [x32,mapD_len,g,hqd,hlt',hld,hdd,hlm,ho,hyI,eq_false he,decide_false,Bool.not_false,wrap_succ (show i ≤ big by omega),keys_id (x := q.source),look_id (x := q.source),keys_id (x := q.sense),look_id (x := q.sense),upd_id (x := q.sense),opt_b,h_miss,h_skip,n14,n45,n15,n56,n46,n16,↓U32,↓XP,↓XU,XW0,XW1,qa,qb,qc,qd,qe,qf,reduceCtorEq,TYX]
     rintro b8 h8 b9 h9 b11 h11
     refine hN ⟨i + 1,mm,oo,om,R0⟩ _ _ ⟨hlt,hmm,hom.pool,by dsimp only; rw [hom.val,hstep,hev1 he],by have := hom.sz.1; dsimp only; omega,fun q hq=>by have := hom.sz.2 q hq; dsimp only; omega⟩ (by dsimp only; omega) ⟨rfl,rfl,rfl,rfl,rfl,rfl,rfl,rfl,rfl,trivial⟩ (Sbn.sub ?_)
     exact (List.sublist_append_right [(b11,_),(b9,_),(b8,_)] _)
 ·have hin : i = b.qt.length := by omega
  subst hin
  rw [List.take_length] at hom
  simp +contextual only [x32,mapD_len,↓U32,↓XP,↓XU,XW0,XW1,qa,qb,qc,qd,qe,qf,reduceCtorEq,TYX]
  intros
  refine hE _ _ _ ?_
  simp +contextual only [x32,mapD_len,↓U32,↓XP,↓XU,XW0,XW1,qa,qb,qc,qd,qe,qf,reduceCtorEq,TYX]
  have hmw : mwk (mapE Id3.d DlA.d om) = mapE Id3.d dtD (evM b) := by
   have hv := hom.val
   rw [mwk_mapE,show evM b = b.qt.foldl (evS b) [] from rfl,← hv,← mapE_map]
   rfl
  refine gh_intro (Fz.freezeM (s := 6) (b := m6) (es := mapE Id3.d DlA.d om) rfl (by simp [getH])) ?_
  rw [hmw,e_hit]
  simp +contextual only [x32,mapD_len,↓U32,↓XP,↓XU,XW0,XW1,qa,qb,qc,qd,qe,qf,reduceCtorEq,TYX]
  rw [show ((m5,AO.mp (mapE Id3.d D.bool oo)) :: (m4,AO.mp (mapE Id3.d idD mm)) :: (b1,AO.cells b.d) :: (R0 ++ H)) = ((m5,AO.mp (mapE Id3.d D.bool oo)) :: (m4,AO.mp (mapE Id3.d idD mm)) :: (b1,AO.cells b.d) :: R0) ++ H from rfl,back_app]
  exact h
end Go.Proofs.Ytffbjejmobhpkaa
end
section
namespace Go.Proofs.Ytffbjejmobhpkaa
open Go Go.Aw
def evX (b : Bk) (x : Id3) (q : Qt) : Option Dt := match evQ b q with
 | some (y,t)=>if y = x then some t else none
 | none=>none
theorem look_evS {b : Bk} {x : Id3} : ∀ {l : List Qt} {m : List (Id3 × List Dt)},(lookP (l.foldl (evS b) m) x).getD [] = (lookP m x).getD [] ++ l.filterMap (evX b x)
 | [],m=>by simp
 | q :: l,m=>by
  rw [List.foldl_cons,look_evS,List.filterMap_cons]
  unfold evX evS
  cases he : evQ b q with
  | none=>rfl
  | some p =>
   obtain ⟨y,t⟩ := p
   dsimp only
   rw [look_upd]
   by_cases h : y = x
   ·subst h
    simp
   ·have h' : x ≠ y := fun e=>h e.symm
    simp [h,h']
theorem look_evM {b : Bk} {x : Id3} : (lookP (evM b) x).getD [] = b.qt.filterMap (evX b x) := by
 rw [show evM b = b.qt.foldl (evS b) [] from rfl,look_evS]
 simp [lookP]
end Go.Proofs.Ytffbjejmobhpkaa
end
section
namespace Go.Proofs.Ytffbjejmobhpkaa
open Go Go.Aw
def senP (b : Bk) (x : Id3) : Sp × Bool := riseP ((lookP (evM b) x).getD [])
theorem opt_dt {o : Option (List Dt)} : (optD false (.osl 0 0 []) (Option.map dtD o)).wkT.view = .slc (mapD Dt.d (o.getD [])) := by cases o <;> rfl
def attP (b : Bk) (x : Id3) (t : Int) : Bool × Bool := ((senP b x).2 && decide ((senP b x).1.b ≤ t),(senP b x).2 && decide ((senP b x).1.a ≤ t))
def befP (b : Bk) (x y : Id3) : Bool := (senP b x).2 && (senP b y).2 && decide ((senP b x).1.b < (senP b y).1.a)
theorem f_attested {b : Bk} (hb : Small b) (hx : IxOk (ixP b)) {x : Id3} {t : Int} {H : AH} {R : D → AH → Prop} (h : R (.tup [.bool (attP b x t).1,.bool (attP b x t).2]) H) : ACall Try.prog 15 [.agg b.d,.agg x.d,.int .i64 t] H R := by
 refine b15 fun hf=>?_
 have hbig := big_eq
 have hbd : b.d = [.slc (mapD En.d b.en),.slc (mapD Sn.d b.sn),.slc (mapD Sr.d b.sr),.slc (mapD Qt.d b.qt),.slc (mapD Spl.d b.sl),.slc (mapD Mg.d b.mg),.slc (mapD Ch.d b.ch)] := rfl
 have hxd : x.d = [.int .i64 x.o,.int .i64 x.s,.int .i64 x.i] := rfl
 simp +contextual only [x15,mapD_len,hbd,hxd,↓U15,↓XP,↓XU,XW0,XW1,qa,qb,qc,qd,qe,qf,reduceCtorEq,TYX]
 rintro b3 h3 b4 ⟨n34,h4⟩
 refine ⟨_,fun _ _=>f_evidence hb hx (b := b) ⟨rfl,rfl⟩,?_⟩
 simp +contextual only [x15,mapD_len,hbd,hxd,keys_id (x := x),look_id (x := x),opt_dt,h_miss,h_skip,n34,↓U15,↓XP,↓XU,XW0,XW1,qa,qb,qc,qd,qe,qf,reduceCtorEq,TYX]
 intro _
 refine ⟨_,fun _ _=>f_rise ⟨rfl,rfl⟩,?_⟩
 have hsg : riseP ((lookP (evM b) x).getD []) = senP b x := rfl
 rw [hsg]
 have ha : attP b x t = ((senP b x).2 && decide ((senP b x).1.b ≤ t),(senP b x).2 && decide ((senP b x).1.a ≤ t)) := rfl
 rw [ha] at h
 generalize senP b x = sb at h ⊢
 obtain ⟨⟨sa,sc⟩,si⟩ := sb
 have hsd : ∀ v,spB (⟨sa,sc⟩,v) = .tup [.agg [.int .i64 sa,.int .i64 sc],.bool v] := fun _=>rfl
 cases si <;> simp +contextual only [x15,mapD_len,hbd,hxd,hsd,h_miss,h_skip,n34,↓U15,↓XP,↓XU,XW0,XW1,qa,qb,qc,qd,qe,qf,reduceCtorEq,TYX]
 ·exact ⟨by omega,fun _ _=>h⟩
 ·exact ⟨by omega,fun _ _ _ _=>h⟩
theorem f_before {b : Bk} (hb : Small b) (hx : IxOk (ixP b)) {x y : Id3} {H : AH} {R : D → AH → Prop} (h : R (.bool (befP b x y)) H) : ACall Try.prog 19 [.agg b.d,.agg x.d,.agg y.d] H R := by
 refine b19 fun hf=>?_
 have hbig := big_eq
 have hbd : b.d = [.slc (mapD En.d b.en),.slc (mapD Sn.d b.sn),.slc (mapD Sr.d b.sr),.slc (mapD Qt.d b.qt),.slc (mapD Spl.d b.sl),.slc (mapD Mg.d b.mg),.slc (mapD Ch.d b.ch)] := rfl
 have hxd : x.d = [.int .i64 x.o,.int .i64 x.s,.int .i64 x.i] := rfl
 have hyd : y.d = [.int .i64 y.o,.int .i64 y.s,.int .i64 y.i] := rfl
 simp +contextual only [x19,mapD_len,hbd,hxd,hyd,↓U19,↓XP,↓XU,XW0,XW1,qa,qb,qc,qd,qe,qf,reduceCtorEq,TYX]
 rintro b3 h3 b4 ⟨n34,h4⟩ b5 ⟨n45,n35,h5⟩
 refine f_evidence hb hx (b := b) ?_
 simp +contextual only [x19,mapD_len,hbd,hxd,hyd,keys_id (x := x),look_id (x := x),opt_dt,h_miss,h_skip,n34,n45,n35,↓U19,↓XP,↓XU,XW0,XW1,qa,qb,qc,qd,qe,qf,reduceCtorEq,TYX]
 intro _
 refine f_rise ?_
 have hsg : riseP ((lookP (evM b) x).getD []) = senP b x := rfl
 rw [hsg]
 have hbf : befP b x y = ((senP b x).2 && (senP b y).2 && decide ((senP b x).1.b < (senP b y).1.a)) := rfl
 rw [hbf] at h
 generalize senP b x = sb at h ⊢
 obtain ⟨⟨sa,sc⟩,si⟩ := sb
 have hsd : ∀ u w v,spB (⟨u,w⟩,v) = .tup [.agg [.int .i64 u,.int .i64 w],.bool v] := fun _ _ _=>rfl
 simp +contextual only [x19,mapD_len,hbd,hxd,hyd,hsd,keys_id (x := y),look_id (x := y),opt_dt,h_miss,h_skip,n34,n45,n35,↓U19,↓XP,↓XU,XW0,XW1,qa,qb,qc,qd,qe,qf,reduceCtorEq,TYX]
 rintro b8 ⟨n58,n48,n38,h8⟩ _
 refine f_rise ?_
 have hsh : riseP ((lookP (evM b) y).getD []) = senP b y := rfl
 rw [hsh]
 generalize senP b y = sb at h ⊢
 obtain ⟨⟨ta,tc⟩,ti⟩ := sb
 cases si <;> cases ti <;> simp +contextual only [x19,mapD_len,hbd,hxd,hyd,hsd,h_miss,h_skip,n34,n45,n35,n58,n48,n38,↓U19,↓XP,↓XU,XW0,XW1,qa,qb,qc,qd,qe,qf,reduceCtorEq,TYX]
 ·exact fun _ _=>h
 ·exact fun _ _=>h
 ·exact fun _ _=>h
 ·exact fun _ _ _ _=>h
end Go.Proofs.Ytffbjejmobhpkaa
end
section
namespace Go.Proofs.Ytffbjejmobhpkaa
open Go Go.Aw
theorem erase_keep {b c : Nat} {o : AO} (hne : c ≠ b) : ∀ {H : AH},(c,o) ∈ H → (c,o) ∈ eraseH H b
 | (c',o') :: r,h=>by
  unfold eraseH
  split
  ·rename_i e
   rcases List.mem_cons.1 h with h | h
   ·injection h with h1 _
    exact absurd (h1.trans e.symm) hne
   ·exact h
  ·rcases List.mem_cons.1 h with h | h
   ·rw [h]; exact .head _
   ·exact .tail _ (erase_keep hne h)
theorem ACall.box {P : Program} {g : FuncId} {args : List D} {H : AH} {b : Nat} {o o' : AO} {d : D} (hg : getH H b = some o) (h : ACall P g args ((b,o) :: eraseH H b) (fun d' H'=>d' = d ∧ H' = (b,o') :: eraseH H b)) :
  ACall P g args H (fun d' H'=>d' = d ∧ H' = setH H b o') := by
 refine ⟨h.1,fun K w vs h1 h2 h3 h4 h5=>?_⟩
 have hr : HRel K w ((b,o) :: eraseH H b) := by
  refine ⟨?_,fun c x hm=>?_⟩
  ·simp only [List.map_cons,List.nodup_cons]
   refine ⟨fun hm=>?_,((erase_sub (b := b)).map _).nodup h3.nd⟩
   obtain ⟨⟨c,x⟩,hx,e⟩ := List.mem_map.1 hm
   exact erase_ne h3.nd hx e
  ·rcases List.mem_cons.1 hm with hm | hm
   ·injection hm with e1 e2
    subst e1 e2
    exact h3.ok _ _ (getH_mem hg)
   ·exact h3.ok _ _ (erase_sub.subset hm)
 refine (h.2 K w vs h1 h2 hr h4 h5).mono fun e w' ⟨v,d',H',K',g1,⟨g2,g3⟩,g4,g5,g6,g7⟩=>⟨v,d',_,K',g1,⟨g2,rfl⟩,g4,g5,?_,g7⟩
 subst g3
 refine ⟨by rw [keys_set]; exact h3.nd,fun c x hm=>?_⟩
 rcases mem_set h3.nd hm with ⟨e1,e2⟩ | ⟨e1,e2⟩
 ·subst e1 e2
  exact g6.ok _ _ (.head _)
 ·exact g6.ok _ _ (.tail _ (erase_keep e1 e2))
theorem f_compactV {l : List Id3} {b n : Nat} {rest : List D} {H : AH} {R : D → AH → Prop} (hn : l.length = n) (h0 : 0 < n) (hb : n ≤ 1073741824) (h : R (.hsl b (dd l).length) ((b,.cells (row (dd l ++ List.replicate (n - (dd l).length) id0) rest)) :: H)) : ACall Try.prog 36 [.hsl b n] ((b,.cells (row l rest)) :: H) R := by
 refine b36v fun hf=>?_
 have hbig := big_eq
 have hk : ∀ m : List Id3,∀ k : Nat,k ≤ n → m.length = n → dd l = m.take k → m = m.take k ++ List.replicate (n - k) id0 → R (.hsl b k) ((b,.cells (row m rest)) :: H) := fun m k hkn hm e1 e2=>by
  have e3 : (dd l).length = k := by rw [e1,List.length_take]; omega
  rw [e3,e1,← e2] at h
  exact h
 by_cases h2 : n < 2
 ·have h2' : ((n : Int) < 2) = True := eq_true (by omega)
  simp +contextual only [x36v,h2',↓U36v,↓XP,↓XU,XW0,XW1,qa,qb,qc,qd,qe,qf,reduceCtorEq,TYX]
  intros
  refine hk _ _ (Nat.le_refl _) hn ?_ ?_
  ·rw [← hn,List.take_length]
   match l,hn with
   | [x],_=>rfl
   | [],hn=>simp at hn; omega
   | x :: y :: r,hn=>simp at hn; omega
  ·rw [← hn,List.take_length,Nat.sub_self]; simp
 ·have h2' : ((n : Int) < 2) = False := eq_false (by omega)
  simp +contextual only [x36v,h2',↓U36v,↓XP,↓XU,XW0,XW1,qa,qb,qc,qd,qe,qf,reduceCtorEq,TYX]
  have hd0 : l.take 1 ++ dd.go (l.getD 0 default) (l.drop 1) = dd l := by
   cases l with
   | nil=>simp at hn; omega
   | cons x r=>rfl
  refine XW.loopS Go.Proofs.Ytffbjejmobhpkaa.hm 61 (fun j : Nat=>[(0,.hsl b n),(3,.int .i64 ((j + 1 : Nat) : Int))]) (fun j=>(b,AO.cells (row l rest)) :: H) (fun j=>n - j) (fun j=>j + 1 ≤ n ∧ l.take (j + 1) ++ dd.go (l.getD j default) (l.drop (j + 1)) = dd l) 0 ⟨by omega,hd0⟩ ⟨rfl,rfl,rfl,trivial⟩ rfl ?_
  rintro j z ⟨hj,hd⟩ K hN hE hR
  show xcode _ _ [.hsl b n,z 1,z 2,.int .i64 ((j + 1 : Nat) : Int),z 4,z 5,z 6,z 7,z 8,z 9,z 10,z 11,z 12,z 13,z 14,z 15,z 16,z 17,z 18,z 19,z 20,z 21,z 22,z 23,z 24,z 25,z 26,z 27,z 28,z 29,z 30,z 31,z 32,z 33,z 34,z 35,z 36,z 37,z 38,z 39,z 40,z 41,z 42,z 43,z 44,z 45,z 46,z 47,z 48,z 49,z 50,z 51,z 52,z 53,z 54,z 55,z 56,z 57,z 58,z 59,z 60] _ K
  by_cases hlt : j + 1 < n
  ·have hlt' : (((j + 1 : Nat) : Int) < (n : Int)) = True := eq_true (by omega)
   have g1 := row_get (rest := rest) (l := l) (i := j + 1) (by omega)
   have g2 := row_get (rest := rest) (l := l) (i := j) (by omega)
   have hw : IntKind.i64.wrap (((j + 1 : Nat) : Int) - 1) = (j : Int) := by rw [wrap_id (by omega) (by omega)]; omega
   have hdr := drop_cons (l := l) (i := j + 1) (by omega)
   have htk := take_succ (l := l) (i := j + 1) (by omega)
   have hlen := row_len (l := l) (rest := rest)
   have hdr0 := hdr
   rw [hdr] at hd
   generalize hy : l.getD (j + 1) default = y at g1 hd htk hdr0
   generalize hx : l.getD j default = x at g2 hd
   have hyd : y.d = [.int .i64 y.o,.int .i64 y.s,.int .i64 y.i] := rfl
   have hxd : x.d = [.int .i64 x.o,.int .i64 x.s,.int .i64 x.i] := rfl
   have hid := id_dec (x := y) (y := x)
   rw [show dd.go x (y :: l.drop (j + 1 + 1)) = if y = x then dd.go x (l.drop (j + 1 + 1)) else y :: dd.go y (l.drop (j + 1 + 1)) from rfl] at hd
   by_cases hyx : y = x
   ·rw [if_pos hyx] at hd
    simp +contextual only [x36v,hlt',hw,Int.toNat_natCast,g1,g2,hyd,hxd,hid,eq_true hyx,↓U36v,↓XP,↓XU,XW0,XW1,qa,qb,qc,qd,qe,qf,reduceCtorEq,TYX]
    refine ⟨by omega,by omega,by omega,by omega,by omega,?_⟩
    have hst : l.take (j + 1) ++ dd.go (l.getD (j + 1) default) (l.drop (j + 1 + 1)) = dd l := by rw [hy,hyx]; exact hd
    refine XW.loopS Go.Proofs.Ytffbjejmobhpkaa.hm 61 (fun s : Nat × Nat × List Id3=>[(0,.hsl b n),(3,.int .i64 ((s.2.1 : Nat) : Int)),(4,.hso b ((j + 1) * 3) (n - (j + 1))),(5,.int .i64 ((s.1 + 1 : Nat) : Int))]) (fun s=>(b,AO.cells (row s.2.2 rest)) :: H) (fun s=>n - s.1) (fun s=>s.2.2.length = n ∧ j + 1 + (s.1 + 1) ≤ n ∧ j + 1 ≤ s.2.1 ∧ s.2.1 ≤ j + 1 + s.1 ∧ s.2.2.take s.2.1 ++ dd.go (l.getD (j + 1 + s.1) default) (l.drop (j + 1 + s.1 + 1)) = dd l ∧ s.2.2.drop (j + 1 + s.1) = l.drop (j + 1 + s.1)) (0,j + 1,l) ⟨hn,by dsimp only; omega,by dsimp only; omega,by dsimp only; omega,hst,rfl⟩ ⟨rfl,rfl,rfl,rfl,rfl,trivial⟩ rfl ?_
    clear hN hst hd g1 g2 hdr hdr0 htk
    rintro ⟨q,k,m⟩ z2 ⟨hm,hq,hk1,hk2,hd,hdm⟩ K2 hN hE2 hR2
    dsimp only at hm hq hk1 hk2 hd hdm hN
    show xcode _ _ ((List.range 61).map (frm [(0,.hsl b n),(3,.int .i64 ((k : Nat) : Int)),(4,.hso b ((j + 1) * 3) (n - (j + 1))),(5,.int .i64 ((q + 1 : Nat) : Int))] z2)) ((b,AO.cells (row m rest)) :: H) _
    generalize hz : z2 = z
    show xcode _ _ [.hsl b n,z 1,z 2,.int .i64 ((k : Nat) : Int),.hso b ((j + 1) * 3) (n - (j + 1)),.int .i64 ((q + 1 : Nat) : Int),z 6,z 7,z 8,z 9,z 10,z 11,z 12,z 13,z 14,z 15,z 16,z 17,z 18,z 19,z 20,z 21,z 22,z 23,z 24,z 25,z 26,z 27,z 28,z 29,z 30,z 31,z 32,z 33,z 34,z 35,z 36,z 37,z 38,z 39,z 40,z 41,z 42,z 43,z 44,z 45,z 46,z 47,z 48,z 49,z 50,z 51,z 52,z 53,z 54,z 55,z 56,z 57,z 58,z 59,z 60] _ K2
    have hlen := row_len (l := m) (rest := rest)
    by_cases hlt2 : j + 1 + (q + 1) < n
    ·have hlt2' : (((q + 1 : Nat) : Int) < ((n - (j + 1) : Nat) : Int)) = True := eq_true (by omega)
     have g1 := row_get2 (rest := rest) (l := m) (i := j + 1) (j := q + 1) (by omega)
     have g2 := row_get2 (rest := rest) (l := m) (i := j + 1) (j := q) (by omega)
     have g3 : ((row m rest).drop ((j + 1) * 3 + (q + 1) * 3)).take 3 = (m.getD (j + 1 + (q + 1)) default).d := g1
     rw [getD_of_drop hdm (by omega)] at g1 g2
     have hw2 : IntKind.i64.wrap (((q + 1 : Nat) : Int) - 1) = (q : Int) := by rw [wrap_id (by omega) (by omega)]; omega
     have hdr := drop_cons (l := l) (i := j + 1 + q + 1) (by omega)
     rw [hdr] at hd
     have hdm2 : m.drop (j + 1 + (q + 1)) = l.drop (j + 1 + (q + 1)) := by
      have := congrArg (List.drop 1) hdm
      rw [List.drop_drop,List.drop_drop] at this
      exact this
     rw [show j + 1 + (q + 1) = j + 1 + q + 1 by omega] at g1
     generalize hy2 : l.getD (j + 1 + q + 1) default = y2 at g1 hd
     generalize l.getD (j + 1 + q) default = x2 at g2 hd
     have hyd2 : y2.d = [.int .i64 y2.o,.int .i64 y2.s,.int .i64 y2.i] := rfl
     have hxd2 : x2.d = [.int .i64 x2.o,.int .i64 x2.s,.int .i64 x2.i] := rfl
     have hid2 := id_dec (x := y2) (y := x2)
     rw [show dd.go x2 (y2 :: l.drop (j + 1 + q + 1 + 1)) = if y2 = x2 then dd.go x2 (l.drop (j + 1 + q + 1 + 1)) else y2 :: dd.go y2 (l.drop (j + 1 + q + 1 + 1)) from rfl] at hd
     by_cases hyx2 : y2 = x2
     ·rw [if_pos hyx2] at hd
      simp +contextual only [x36v,hlt2',hw2,Int.toNat_natCast,g1,g2,hyd2,hxd2,hid2,eq_true hyx2,wrap_succ (show q + 1 ≤ big by omega),↓U36v,↓XP,↓XU,XW0,XW1,qa,qb,qc,qd,qe,qf,reduceCtorEq,TYX]
      repeat' (first | apply And.intro | intro _)
      all_goals first
       | omega
       | skip
      refine hN (q + 1,k,m) _ _ ⟨hm,by dsimp only; omega,hk1,by dsimp only; omega,?_,hdm2⟩ (by dsimp only; omega) ⟨rfl,rfl,rfl,rfl,rfl,trivial⟩ (back_0 rfl)
      have hd' : m.take k ++ dd.go (l.getD (j + 1 + q + 1) default) (l.drop (j + 1 + q + 1 + 1)) = dd l := by rw [hy2,hyx2]; exact hd
      exact hd'
     ·rw [if_neg hyx2] at hd
      have hrs : (row m rest).take (k * 3) ++ .int .i64 y2.o :: .int .i64 y2.s :: .int .i64 y2.i :: (row m rest).drop (k * 3 + 3) = row (m.set k y2) rest := row_set (rest := rest) (l := m) (i := k) (y := y2) (by omega)
      simp +contextual only [x36v,hlt2',hw2,Int.toNat_natCast,g1,g2,hyd2,hxd2,hid2,eq_false hyx2,hrs,wrap_succ (show q + 1 ≤ big by omega),wrap_succ (show k ≤ big by omega),↓U36v,↓XP,↓XU,XW0,XW1,qa,qb,qc,qd,qe,qf,reduceCtorEq,TYX]
      repeat' (first | apply And.intro | intro _)
      all_goals first
       | omega
       | skip
      have hd' : (m.set k y2).take (k + 1) ++ dd.go (l.getD (j + 1 + q + 1) default) (l.drop (j + 1 + q + 1 + 1)) = dd l := by
       rw [take_succ (by rw [List.length_set]; omega),List.take_set_of_le (by omega),hy2,List.append_assoc]
       have e : (m.set k y2).getD k default = y2 := by simp [show k < m.length by omega]
       rw [e]
       exact hd
      refine hN (q + 1,k + 1,m.set k y2) _ _ ⟨by dsimp only; rw [List.length_set]; exact hm,by dsimp only; omega,by dsimp only; omega,by dsimp only; omega,hd',?_⟩ (by dsimp only; omega) ⟨rfl,rfl,rfl,rfl,rfl,trivial⟩ (back_0 rfl)
      dsimp only
      rw [List.drop_set_of_lt (by omega)]
      exact hdm2
    ·have hqn : j + 1 + (q + 1) = n := by omega
     have hlt2' : (((q + 1 : Nat) : Int) < ((n - (j + 1) : Nat) : Int)) = False := eq_false (by omega)
     rw [show l.drop (j + 1 + q + 1) = [] from List.drop_of_length_le (by omega)] at hd
     rw [show dd.go (l.getD (j + 1 + q) default) [] = [] from rfl,List.append_nil] at hd
     have hcl := row_clear (rest := rest) (l := m) (i := k) (by omega)
     rw [hm] at hcl
     simp +contextual only [x36v,hlt2',↓U36v,↓XP,↓XU,XW0,XW1,qa,qb,qc,qd,qe,qf,reduceCtorEq,TYX]
     intros
     refine hE2 _ _ _ ?_
     simp +contextual only [x36v,Int.toNat_natCast,hcl,↓U36v,↓XP,↓XU,XW0,XW1,qa,qb,qc,qd,qe,qf,reduceCtorEq,TYX]
     refine ⟨by omega,by omega,by omega,?_⟩
     have htk2 : (m.take k ++ List.replicate (n - k) id0).take k = m.take k := by
      rw [List.take_append_of_le_length (by simp; omega),List.take_take,Nat.min_self]
     refine ⟨by omega,by omega,hR _ _ ?_⟩
     simp +contextual only [x36v,↓U36v,↓XP,↓XU,XW0,XW1,qa,qb,qc,qd,qe,qf,reduceCtorEq,TYX]
     refine hk _ _ (by omega) (by simp; omega) (by rw [htk2]; exact hd.symm) (by rw [htk2])
   ·rw [if_neg hyx] at hd
    simp +contextual only [x36v,hlt',hw,Int.toNat_natCast,g1,g2,hyd,hxd,hid,eq_false hyx,wrap_succ (show j + 1 ≤ big by omega),↓U36v,↓XP,↓XU,XW0,XW1,qa,qb,qc,qd,qe,qf,reduceCtorEq,TYX]
    repeat' (first | apply And.intro | intro _)
    all_goals first
     | omega
     | skip
    refine hN (j + 1) _ _ ⟨by omega,?_⟩ (by omega) ⟨rfl,rfl,rfl,trivial⟩ (back_0 rfl)
    rw [htk,List.append_assoc,hy]
    exact hd
  ·have hjn : j + 1 = n := by omega
   have hlt' : (((j + 1 : Nat) : Int) < (n : Int)) = False := eq_false (by omega)
   simp +contextual only [x36v,hlt',↓U36v,↓XP,↓XU,XW0,XW1,qa,qb,qc,qd,qe,qf,reduceCtorEq,TYX]
   intros
   refine hE _ _ _ ?_
   simp +contextual only [x36v,↓U36v,↓XP,↓XU,XW0,XW1,qa,qb,qc,qd,qe,qf,reduceCtorEq,TYX]
   refine hk _ _ (Nat.le_refl _) hn ?_ ?_
   ·rw [← hd,List.take_of_length_le (by omega),List.drop_of_length_le (by omega),← hn,List.take_length]
    simp [dd.go]
   ·rw [← hn,List.take_length,Nat.sub_self]; simp
end Go.Proofs.Ytffbjejmobhpkaa
end
section
namespace Go.Proofs.Ytffbjejmobhpkaa
open Go Go.Aw
theorem opt_dw {o : Option (List Dt)} : (optD false (.osl 0 0 []) (Option.map dtD o)).wkT = .slc (mapD Dt.d (o.getD [])) := by cases o <;> rfl
def senL (b : Bk) (x : Id3) : List Dt := (lookP (evM b) x).getD []
def firL (t : Int) (l : List Dt) : List Id3 := (l.filter fun q=>decide (q.sp.a ≤ t)).map Dt.id
def firP (b : Bk) (x : Id3) : List Id3 := srt (firL (senP b x).1.b (senL b x))
theorem firL_take {t : Int} {l : List Dt} {i : Nat} (h : i < l.length) : firL t (l.take (i + 1)) = if (l.getD i default).sp.a ≤ t then firL t (l.take i) ++ [(l.getD i default).id] else firL t (l.take i) := by
 unfold firL
 rw [show l.take (i + 1) = l.take i ++ [l.getD i default] by
  rw [List.take_succ_eq_append_getElem h,List.getD_eq_getElem?_getD,List.getElem?_eq_getElem h]; rfl]
 rw [List.filter_append,List.map_append]
 by_cases hq : (l.getD i default).sp.a ≤ t
 ·rw [if_pos hq,List.filter_cons_of_pos (by simpa using hq)]; rfl
 ·rw [if_neg hq,List.filter_cons_of_neg (by simpa using hq)]; simp
theorem firL_len {t : Int} {l : List Dt} : (firL t l).length ≤ l.length := by unfold firL; rw [List.length_map]; exact List.length_filter_le _ _
theorem dl_s {l : List (List D)} {H : AH} : delB (.slc l) H = H := .trans rfl rfl
theorem set_self {b : Nat} {o : AO} : ∀ {H : AH},getH H b = some o → setH H b o = H
 | [],h=>rfl
 | (c,x) :: r,h=>by
  by_cases e : b = c
  ·subst e
   rw [h_hit] at h
   injection h with h
   rw [h_set,h]
  ·rw [h_miss e] at h
   rw [h_skip e,set_self h]
theorem row_app {a c : List Id3} {rest : List D} : row (a ++ c) rest = row a (row c rest) := by
 unfold row
 rw [show mapD Id3.d (a ++ c) = mapD Id3.d a ++ mapD Id3.d c by simp [mapD],List.flatten_append,List.append_assoc]
structure FoSt where
 i : Nat
 xs : List Id3
 b : Nat
 cap : Nat
 rest : List D
def outD (s : FoSt) : D := if s.xs = [] then .own [] else .hgs s.b s.xs.length s.cap
def outH (s : FoSt) : AH := if s.xs = [] then [] else [(s.b,.cells ((mapD Id3.d s.xs).flatten ++ s.rest))]
theorem id_flat {l : List Id3} : (mapD Id3.d l).flatten.length = l.length * 3 := by
 induction l with
 | nil=>rfl
 | cons x l ih=>simp only [mapD,List.map_cons,List.flatten_cons,List.length_append,List.length_cons] at ih ⊢; rw [ih]; simp only [Id3.d,List.length_cons,List.length_nil]; omega
theorem id_take {l : List Id3} {rest : List D} : ((mapD Id3.d l).flatten ++ rest).take (l.length * 3) = (mapD Id3.d l).flatten := by
 rw [← id_flat,List.take_left]
theorem id_plain {l : List Id3} : (mapD Id3.d l).flatten.all plain = true := by
 rw [List.all_eq_true]
 intro d hd
 obtain ⟨r,hr,hd⟩ := List.mem_flatten.1 hd
 obtain ⟨t,_,rfl⟩ := List.mem_map.1 hr
 simp only [Id3.d,List.mem_cons,List.not_mem_nil,or_false] at hd
 rcases hd with rfl | rfl | rfl <;> rfl
theorem f_first {b : Bk} (hb : Small b) (hx : IxOk (ixP b)) {x : Id3} (hn : (senL b x).length ≤ 1073741824) (hok : ∀ t ∈ senL b x,OkI t.id) {H : AH} {R : D → AH → Prop} (h : R (.tup [.agg (senP b x).1.d,.slc (mapD Id3.d (firP b x)),.bool (senP b x).2]) H) : ACall Try.prog 11 [.agg b.d,.agg x.d] H R := by
 refine b11 fun hf=>?_
 have hbig := big_eq
 have hbd : b.d = [.slc (mapD En.d b.en),.slc (mapD Sn.d b.sn),.slc (mapD Sr.d b.sr),.slc (mapD Qt.d b.qt),.slc (mapD Spl.d b.sl),.slc (mapD Mg.d b.mg),.slc (mapD Ch.d b.ch)] := rfl
 have hxd : x.d = [.int .i64 x.o,.int .i64 x.s,.int .i64 x.i] := rfl
 simp +contextual only [x11,mapD_len,hbd,hxd,↓U11,↓XP,↓XU,XW0,XW1,qa,qb,qc,qd,qe,qf,reduceCtorEq,TYX]
 rintro b2 h2 b3 ⟨n23,h3⟩ b4 ⟨n34,n24,h4⟩
 refine ⟨_,fun _ _=>f_evidence hb hx (b := b) ⟨rfl,rfl⟩,?_⟩
 simp +contextual only [x11,mapD_len,hbd,hxd,keys_id (x := x),look_id (x := x),opt_dw,h_miss,h_skip,n34,n23,n24,↓U11,↓XP,↓XU,XW0,XW1,qa,qb,qc,qd,qe,qf,reduceCtorEq,TYX]
 intro _
 refine f_rise ?_
 have hsg : riseP ((lookP (evM b) x).getD []) = senP b x := rfl
 have hsl : (lookP (evM b) x).getD [] = senL b x := rfl
 have hfp : firP b x = srt (firL (senP b x).1.b (senL b x)) := rfl
 rw [hfp] at h
 rw [hsg,hsl]
 generalize senP b x = sb at h ⊢
 generalize senL b x = l at h hn hok ⊢
 obtain ⟨⟨sa,sc⟩,si⟩ := sb
 have hsd : ∀ u w v,spB (⟨u,w⟩,v) = .tup [.agg [.int .i64 u,.int .i64 w],.bool v] := fun _ _ _=>rfl
 simp +contextual only [x11,mapD_len,hbd,hxd,hsd,h_miss,h_skip,n34,n23,n24,↓U11,↓XP,↓XU,XW0,XW1,qa,qb,qc,qd,qe,qf,reduceCtorEq,TYX]
 rintro b8 ⟨n48,n38,n28,h8⟩ hlb
 have hbx : freshH H b8 := h8
 refine XW.loopSR Go.Proofs.Ytffbjejmobhpkaa.hm 46 (fun s : FoSt=>[(4,.ptr b4 0),(8,.ptr b8 0),(9,.bool si),(10,outD s),(22,.slc (mapD Dt.d l)),(23,.int .i64 l.length),(24,.int .i64 ((s.i : Nat) : Int))]) (fun s=>outH s ++ ((b8,.cells [.int .i64 sa,.int .i64 sc]) :: (b4,.cells [.int .i64 0,.int .i64 0]) :: (b3,.cells [.int .i64 x.o,.int .i64 x.s,.int .i64 x.i]) :: (b2,.cells [.slc (mapD En.d b.en),.slc (mapD Sn.d b.sn),.slc (mapD Sr.d b.sr),.slc (mapD Qt.d b.qt),.slc (mapD Spl.d b.sl),.slc (mapD Mg.d b.mg),.slc (mapD Ch.d b.ch)]) :: H)) (fun s=>l.length - s.i) (fun s=>s.i ≤ l.length ∧ firL sc (l.take s.i) = s.xs ∧ (s.xs ≠ [] → s.b ≠ b8 ∧ s.b ≠ b4 ∧ s.b ≠ b3 ∧ s.b ≠ b2 ∧ freshH H s.b ∧ ((mapD Id3.d s.xs).flatten ++ s.rest).length = s.cap * 3)) ⟨0,[],0,0,[]⟩ ⟨by simp,rfl,fun e=>absurd rfl e⟩ ⟨rfl,rfl,rfl,rfl,rfl,rfl,rfl,rfl,trivial⟩ rfl ?_
 rintro ⟨i,xs,ob,cap,rest⟩ z ⟨hi,hxs,hob⟩ K hN hE hR
 dsimp only at hi hxs hob
 have hle : xs.length ≤ i := by rw [← hxs]; exact Nat.le_trans firL_len (by rw [List.length_take]; omega)
 by_cases h0 : xs = []
 ·subst h0
  show xcode _ _ [z 0,z 1,z 2,z 3,.ptr b4 0,z 5,z 6,z 7,.ptr b8 0,.bool si,.own [],z 11,z 12,z 13,z 14,z 15,z 16,z 17,z 18,z 19,z 20,z 21,.slc (mapD Dt.d l),.int .i64 l.length,.int .i64 ((i : Nat) : Int),z 25,z 26,z 27,z 28,z 29,z 30,z 31,z 32,z 33,z 34,z 35,z 36,z 37,z 38,z 39,z 40,z 41,z 42,z 43,z 44,z 45] _ K
  simp only [show outH ⟨i,[],ob,cap,rest⟩ = [] from rfl,List.nil_append]
  by_cases hlt : i < l.length
  ·have g := mapD_get (f := Dt.d) hlt
   have hlt' : ((i : Int) < (l.length : Int)) = True := eq_true (by omega)
   have hst := firL_take (t := sc) hlt
   generalize l.getD i default = q at g hst
   have hqd : q.d = [.int .i64 q.id.o,.int .i64 q.id.s,.int .i64 q.id.i,.int .i64 q.sp.a,.int .i64 q.sp.b] := rfl
   by_cases hq : q.sp.a ≤ sc
   ·rw [if_pos hq,hxs] at hst
    simp +contextual only [x11,mapD_len,hbd,hxd,g,hqd,hlt',eq_true hq,h_miss,h_skip,n48,n38,n28,n34,n23,n24,wrap_succ (show i ≤ big by omega),↓U11,↓XP,↓XU,XW0,XW1,qa,qb,qc,qd,qe,qf,reduceCtorEq,TYX]
    rintro b12 _ _ _ nb nc m ⟨_,m8,m4,m3,m2,mf⟩ hcap
    refine hN ⟨i + 1,[q.id],nb,nc,List.replicate m .any⟩ _ _ ⟨hlt,hst,fun _=>⟨Ne.symm m8,Ne.symm m4,Ne.symm m3,Ne.symm m2,mf,by simp [mapD,Id3.d]; omega⟩⟩ (by dsimp only; omega) ⟨rfl,rfl,rfl,rfl,rfl,rfl,rfl,rfl,trivial⟩ (Sbn.sub ?_)
    exact (List.sublist_cons_self _ _).cons_cons _
   ·rw [if_neg hq,hxs] at hst
    simp +contextual only [x11,mapD_len,hbd,hxd,g,hqd,hlt',eq_false hq,h_miss,h_skip,n48,n38,n28,n34,n23,n24,wrap_succ (show i ≤ big by omega),↓U11,↓XP,↓XU,XW0,XW1,qa,qb,qc,qd,qe,qf,reduceCtorEq,TYX]
    intros
    refine hN ⟨i + 1,[],ob,cap,rest⟩ _ _ ⟨hlt,hst,fun e=>absurd rfl e⟩ (by dsimp only; omega) ⟨rfl,rfl,rfl,rfl,rfl,rfl,rfl,rfl,trivial⟩ (Sbn.sub ?_)
    exact List.sublist_cons_self _ _
  ·have hin : i = l.length := by omega
   subst hin
   rw [List.take_length] at hxs
   rw [hxs] at h
   simp +contextual only [x11,mapD_len,hbd,hxd,↓U11,↓XP,↓XU,XW0,XW1,qa,qb,qc,qd,qe,qf,reduceCtorEq,TYX]
   intros
   refine hE _ _ _ ?_
   simp +contextual only [x11,mapD_len,hbd,hxd,↓U11,↓XP,↓XU,XW0,XW1,qa,qb,qc,qd,qe,qf,reduceCtorEq,TYX]
   refine gh_intro (Fz.view (s := 10) (xs := []) rfl) ?_
   simp +contextual only [x11,mapD_len,hbd,hxd,↓U11,↓XP,↓XU,XW0,XW1,qa,qb,qc,qd,qe,qf,reduceCtorEq,TYX]
   refine f_sort0 rfl ?_
   simp +contextual only [x11,mapD_len,hbd,hxd,h_miss,h_skip,n48,n38,n28,n34,n23,n24,Ne.symm n48,dl_s,e_hit,e_miss n48,e_miss (Ne.symm n48),↓U11,↓XP,↓XU,XW0,XW1,qa,qb,qc,qd,qe,qf,reduceCtorEq,TYX]
   refine ⟨.slc [],b4,.cells [.int .i64 0,.int .i64 0],.cells [.int .i64 0,.int .i64 0],?_,.inr (by simp),?_,fun H1 h1=>f_compact0 (l := []) (by simp) ⟨rfl,(set_self h1).symm⟩,?_⟩
   ·rw [h_miss n48,h_miss (Ne.symm n34),h_miss (Ne.symm n24)]
    exact freshH_none h4
   ·rw [h_miss n48]; exact h_hit
   rw [set_self (by rw [h_miss n48]; exact h_hit)]
   simp +contextual only [x11,mapD_len,hbd,hxd,h_miss,h_skip,n48,n38,n28,n34,n23,n24,Ne.symm n48,Ne.symm n34,Ne.symm n24,freshH_none h4,↓U11,↓XP,↓XU,XW0,XW1,qa,qb,qc,qd,qe,qf,reduceCtorEq,TYX]
   intros
   refine gh_intro Fz.refl ?_
   simp +contextual only [x11,mapD_len,hbd,hxd,h_miss,h_skip,n48,n38,n28,↓U11,↓XP,↓XU,XW0,XW1,qa,qb,qc,qd,qe,qf,reduceCtorEq,TYX]
   exact h
 ·have hO : ∀ i,outD ⟨i,xs,ob,cap,rest⟩ = .hgs ob xs.length cap := fun _=>by unfold outD; rw [if_neg h0]
  have hH : ∀ i,outH ⟨i,xs,ob,cap,rest⟩ = [(ob,.cells ((mapD Id3.d xs).flatten ++ rest))] := fun _=>by unfold outH; rw [if_neg h0]
  obtain ⟨o8,o4,o3,o2,of_,ocap⟩ := hob h0
  simp only [hO,hH,List.cons_append,List.nil_append]
  show xcode _ _ [z 0,z 1,z 2,z 3,.ptr b4 0,z 5,z 6,z 7,.ptr b8 0,.bool si,.hgs ob xs.length cap,z 11,z 12,z 13,z 14,z 15,z 16,z 17,z 18,z 19,z 20,z 21,.slc (mapD Dt.d l),.int .i64 l.length,.int .i64 ((i : Nat) : Int),z 25,z 26,z 27,z 28,z 29,z 30,z 31,z 32,z 33,z 34,z 35,z 36,z 37,z 38,z 39,z 40,z 41,z 42,z 43,z 44,z 45] _ K
  by_cases hlt : i < l.length
  ·have g := mapD_get (f := Dt.d) hlt
   have hlt' : ((i : Int) < (l.length : Int)) = True := eq_true (by omega)
   have hst := firL_take (t := sc) hlt
   generalize l.getD i default = q at g hst
   have hqd : q.d = [.int .i64 q.id.o,.int .i64 q.id.s,.int .i64 q.id.i,.int .i64 q.sp.a,.int .i64 q.sp.b] := rfl
   by_cases hq : q.sp.a ≤ sc
   ·rw [if_pos hq,hxs] at hst
    simp +contextual only [x11,mapD_len,hbd,hxd,g,hqd,hlt',eq_true hq,h_miss,h_skip,n48,n38,n28,n34,n23,n24,o8,o4,Ne.symm o8,Ne.symm o4,wrap_succ (show i ≤ big by omega),↓U11,↓XP,↓XU,XW0,XW1,qa,qb,qc,qd,qe,qf,reduceCtorEq,TYX]
    rintro b12 ⟨oc,m8,m4,m3,m2,mf⟩ _ _
    refine ⟨ocap,by omega,by rw [id_take]; exact id_plain,fun nb nc m hnf hcap=>?_⟩
    simp only [e_miss oc,e_hit,id_take] at hnf ⊢
    obtain ⟨k12,k8,k4,k3,k2,kf⟩ : nb ≠ b12 ∧ nb ≠ b8 ∧ nb ≠ b4 ∧ nb ≠ b3 ∧ nb ≠ b2 ∧ freshH H nb := by
     simpa [freshH] using hnf
    have hne : xs ++ [q.id] ≠ [] := by simp
    refine hN ⟨i + 1,xs ++ [q.id],nb,nc,List.replicate m .any⟩ _ _ ⟨hlt,hst,fun _=>⟨k8,k4,k3,k2,kf,by dsimp only; rw [List.length_append,id_flat,List.length_append,List.length_replicate]; simp only [List.length_cons,List.length_nil]; omega⟩⟩ (by dsimp only; omega) ?_ (Sbn.sub ?_)
    ·rw [show outD ⟨i + 1,xs ++ [q.id],nb,nc,List.replicate m .any⟩ = .hgs nb (xs.length + 1) nc by unfold outD; rw [if_neg hne,List.length_append]; rfl]
     exact ⟨rfl,rfl,rfl,rfl,rfl,rfl,rfl,rfl,trivial⟩
    ·rw [show outH ⟨i + 1,xs ++ [q.id],nb,nc,List.replicate m .any⟩ = [(nb,.cells ((mapD Id3.d xs).flatten ++ ([[D.int .i64 q.id.o,.int .i64 q.id.s,.int .i64 q.id.i]].flatten ++ List.replicate m .any)))] by unfold outH; rw [if_neg hne]; simp [mapD,Id3.d]]
     exact (List.sublist_cons_self _ _).cons_cons _
   ·rw [if_neg hq,hxs] at hst
    simp +contextual only [x11,mapD_len,hbd,hxd,g,hqd,hlt',eq_false hq,h_miss,h_skip,n48,n38,n28,n34,n23,n24,o8,o4,Ne.symm o8,Ne.symm o4,wrap_succ (show i ≤ big by omega),↓U11,↓XP,↓XU,XW0,XW1,qa,qb,qc,qd,qe,qf,reduceCtorEq,TYX]
    intros
    refine hN ⟨i + 1,xs,ob,cap,rest⟩ _ _ ⟨hlt,hst,hob⟩ (by dsimp only; omega) (by rw [hO]; exact ⟨rfl,rfl,rfl,rfl,rfl,rfl,rfl,rfl,trivial⟩) (Sbn.sub ?_)
    rw [hH]
    exact List.sublist_cons_self _ _
  ·have hin : i = l.length := by omega
   subst hin
   rw [List.take_length] at hxs
   rw [hxs] at h
   simp +contextual only [x11,mapD_len,hbd,hxd,↓U11,↓XP,↓XU,XW0,XW1,qa,qb,qc,qd,qe,qf,reduceCtorEq,TYX]
   intros
   refine hE _ _ _ ?_
   simp +contextual only [x11,mapD_len,hbd,hxd,↓U11,↓XP,↓XU,XW0,XW1,qa,qb,qc,qd,qe,qf,reduceCtorEq,TYX]
   refine gh_intro (Fz.hgs (s := 10) rfl) ?_
   simp +contextual only [x11,mapD_len,hbd,hxd,↓U11,↓XP,↓XU,XW0,XW1,qa,qb,qc,qd,qe,qf,reduceCtorEq,TYX]
   refine f_sort swo_ordI rfl (by kernel_rfl) (fun x y _ _=>f_order rfl) rfl (by rw [← hxs]; intro x hx; unfold firL at hx; obtain ⟨t,ht,rfl⟩ := List.mem_map.1 hx; exact hok t (List.mem_filter.1 ht).1) (by omega) (fun m2 hp hs=>?_)
   simp +contextual only [x11,mapD_len,hbd,hxd,h_miss,h_skip,n48,n38,n28,n34,n23,n24,o8,o4,Ne.symm o8,Ne.symm o4,Ne.symm n48,dl_s,e_hit,e_miss n48,e_miss (Ne.symm n48),e_miss o8,e_miss o4,e_miss (Ne.symm o8),e_miss (Ne.symm o4),↓U11,↓XP,↓XU,XW0,XW1,qa,qb,qc,qd,qe,qf,reduceCtorEq,TYX]
   have hml : m2.length = xs.length := by rw [hp.length_eq]
   have hpos : 0 < xs.length := List.length_pos_iff.2 h0
   refine ⟨.hsl ob (dd m2).length,ob,.cells (row m2 rest),.cells (row (dd m2 ++ List.replicate (xs.length - (dd m2).length) id0) rest),?_,.inr (by simp),h_hit,fun H1 h1=>ACall.box h1 (f_compactV hml hpos (by omega) ⟨rfl,rfl⟩),?_⟩
   ·rw [h_miss o8,h_miss o3,h_miss o2]
    exact freshH_none of_
   rw [h_set]
   simp +contextual only [x11,mapD_len,hbd,hxd,h_miss,h_skip,n48,n38,n28,n34,n23,n24,Ne.symm n48,o8,o4,Ne.symm o8,Ne.symm o4,↓U11,↓XP,↓XU,XW0,XW1,qa,qb,qc,qd,qe,qf,reduceCtorEq,TYX]
   refine ⟨?_,?_⟩
   ·rw [h_miss (Ne.symm n34),h_miss (Ne.symm n24)]
    exact freshH_none h4
   rw [row_app]
   refine gh_intro (fz_row (s := 5) rfl rfl) ?_
   simp +contextual only [x11,mapD_len,hbd,hxd,h_miss,h_skip,n48,n38,n28,↓U11,↓XP,↓XU,XW0,XW1,qa,qb,qc,qd,qe,qf,reduceCtorEq,TYX]
   rw [dd_srt hp (hs.imp fun {x y} hxy hlt=>hxy (ordI_neg.2 hlt))]
   exact h
end Go.Proofs.Ytffbjejmobhpkaa
end
