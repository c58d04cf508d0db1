/- A part of the proof of what the last text says: Ewe, Ewa, Ewf, Ewg, Ewh, Ewi, Eq1, Ewj. Conditions: those in each theorem. -/
import Derived.Test.YtffbjejmobhpkaaB19
set_option linter.unusedVariables false
set_option linter.unusedSimpArgs false
set_option maxRecDepth 100000
set_option maxHeartbeats 16000000
open Nat renaming reduceSub → qa,reduceAdd → qb,reduceMul → qc,reduceEqDiff → qd,reduceLeDiff → qe,reduceBEq → qf
section
namespace Go.Proofs.Ytffbjejmobhpkaa
open Go Go.Aw
theorem keys_q {α : Type} {vd : α → D} {m : List ((Id3 × Id3) × α)} {x y : Id3} : keysOk true [.i,.i,.i,.i,.i,.i] (mapE qD vd m) (.agg [.int .i64 x.o,.int .i64 x.s,.int .i64 x.i,.int .i64 y.o,.int .i64 y.s,.int .i64 y.i]) := keys_mapE (k := (x,y)) qK
theorem look_q {α : Type} {vd : α → D} {m : List ((Id3 × Id3) × α)} {x y : Id3} : lookD (mapE qD vd m) [.int .i64 x.o,.int .i64 x.s,.int .i64 x.i,.int .i64 y.o,.int .i64 y.s,.int .i64 y.i] = (lookP m (x,y)).map vd := look_mapE (k := (x,y)) qK
theorem upd_q {α : Type} {vd : α → D} {m : List ((Id3 × Id3) × α)} {x y : Id3} {v : α} : updD (mapE qD vd m) (.agg [.int .i64 x.o,.int .i64 x.s,.int .i64 x.i,.int .i64 y.o,.int .i64 y.s,.int .i64 y.i]) (vd v) = mapE qD vd (updP m (x,y) v) := upd_mapE (k := (x,y)) qK
theorem getD_cl {o : Option ClA} : (Option.map ClA.d o).getD (.osl 0 0 []) = ClA.d (o.getD ⟨0,0,[]⟩) := by cases o <;> rfl
theorem idx_upd {es : List (D × D)} {i v : D} : (idxD es (cellsOf i)).getD es.length < (updD es i v).length := by
 induction es with
 | nil=>simp [idxD,updD]
 | cons p r ih =>
  unfold updD idxD
  by_cases h : eqCells (cellsOf i) (cellsOf p.1) = true
  ·rw [if_pos h,if_pos h]; simp
  ·rw [if_neg h,if_neg h]
   cases hx : idxD r (cellsOf i) with
   | none=>rw [hx] at ih; simpa using ih
   | some q=>rw [hx] at ih; simpa using ih
structure ChOk (fx : List Nat) (nb : Nat) (m : List ((Id3 × Id3) × ClA)) (p : List ((Id3 × Id3) × List Id3)) (R : AH) : Prop where
 pool : Pool fx (m.map fun p=>p.2) R
 val : m.map (fun p=>(p.1,p.2.xs)) = p
 sz : m.length ≤ nb ∧ ∀ q ∈ m,q.2.xs.length ≤ nb
theorem of_L22 {b1 b2 b3 m1 m2 m3 : Nat} {b : Bk} (hb : Small b) (hd : Ds6 b1 b2 b3 m1 m2 m3) {se : List (Id3 × Bool)} {ev : List (Id3 × EvA)} {H : AH} {F : List D} (hF : Fr 146 [(1,.ptr b1 0),(2,.ptr b2 0),(3,.ptr b3 0),(114,.slc (mapD Ch.d b.ch)),(115,.int .i64 b.ch.length),(116,.int .i64 0)] F) {Q : AQ}
  (hQ : ∀ F' ch R,Fr 146 [(1,.ptr b1 0),(2,.ptr b2 0),(3,.ptr b3 0)] F' → ChOk [b1,b2,b3,m1,m2,m3] 65536 ch (b.ch.foldl (ofC (ev.map fun p=>(p.1,p.2.p))) []) R → Q (.exit 6) F' (ofH b1 b2 b3 m1 m2 m3 b se ev ch (R ++ H))) : XW Try.prog x55_L22 F (ofH b1 b2 b3 m1 m2 m3 b se ev [] H) Q := by
 have hbig := big_eq
 have hd0 := hd
 have hch := hb.ch
 obtain ⟨n12,n1m1,n1m2,n1m3,n13,n2m1,n2m2,n2m3,n23,m12,m13,m1b,m23,m2b,m3b⟩ := hd
 generalize hp0 : ev.map (fun p=>(p.1,p.2.p)) = pe at hQ
 refine XW.loopSR Go.Proofs.Ytffbjejmobhpkaa.hm 146 (fun s : Nat × List ((Id3 × Id3) × ClA) × AH=>[(1,.ptr b1 0),(2,.ptr b2 0),(3,.ptr b3 0),(114,.slc (mapD Ch.d b.ch)),(115,.int .i64 b.ch.length),(116,.int .i64 ((s.1 : Nat) : Int))]) (fun s=>ofH b1 b2 b3 m1 m2 m3 b se ev s.2.1 (s.2.2 ++ H)) (fun s=>b.ch.length - s.1) (fun s=>s.1 ≤ b.ch.length ∧ ChOk [b1,b2,b3,m1,m2,m3] s.1 s.2.1 ((b.ch.take s.1).foldl (ofC pe) []) s.2.2) (0,[],[]) ⟨by omega,Pool.nil,rfl,by simp⟩ hF rfl ?_
 rintro ⟨i,ch,R⟩ z ⟨hi,hev⟩ K hN hE hR
 dsimp only at hi hev hN
 show xcode _ _ [z 0,.ptr b1 0,.ptr b2 0,.ptr b3 0,z 4,z 5,z 6,z 7,z 8,z 9,z 10,z 11,z 12,z 13,z 14,z 15,z 16,z 17,z 18,z 19,z 20,z 21,z 22,z 23,z 24,z 25,z 26,z 27,z 28,z 29,z 30,z 31,z 32,z 33,z 34,z 35,z 36,z 37,z 38,z 39,z 40,z 41,z 42,z 43,z 44,z 45,z 46,z 47,z 48,z 49,z 50,z 51,z 52,z 53,z 54,z 55,z 56,z 57,z 58,z 59,z 60,z 61,z 62,z 63,z 64,z 65,z 66,z 67,z 68,z 69,z 70,z 71,z 72,z 73,z 74,z 75,z 76,z 77,z 78,z 79,z 80,z 81,z 82,z 83,z 84,z 85,z 86,z 87,z 88,z 89,z 90,z 91,z 92,z 93,z 94,z 95,z 96,z 97,z 98,z 99,z 100,z 101,z 102,z 103,z 104,z 105,z 106,z 107,z 108,z 109,z 110,z 111,z 112,z 113,.slc (mapD Ch.d b.ch),.int .i64 b.ch.length,.int .i64 ((i : Nat) : Int),z 117,z 118,z 119,z 120,z 121,z 122,z 123,z 124,z 125,z 126,z 127,z 128,z 129,z 130,z 131,z 132,z 133,z 134,z 135,z 136,z 137,z 138,z 139,z 140,z 141,z 142,z 143,z 144,z 145] (ofH b1 b2 b3 m1 m2 m3 b se ev ch (R ++ H)) K
 have hlk : ofH b1 b2 b3 m1 m2 m3 b se ev ch (R ++ H) = (b3,.cells [.mp (some m1),.mp (some m2),.mp (some m3)]) :: (m3,.mp (mapE qD ClA.d ch)) :: (m2,.mp (mapE Id3.d EvA.d ev)) :: (m1,.mp (mapE Id3.d D.bool se)) :: (b2,.cells [.mp none,.mp none,.mp none]) :: (b1,.cells b.d) :: (R ++ H) := rfl
 by_cases hlt : i < b.ch.length
 ·have g := mapD_get (f := Ch.d) hlt
  have hlt' : ((i : Int) < (b.ch.length : Int)) = True := eq_true (by omega)
  have hstep := foldl_take (f := ofC pe) (b := []) hlt
  generalize b.ch.getD i default = s at g hstep
  have hsd : s.d = [.int .i64 s.by_.o,.int .i64 s.by_.s,.int .i64 s.by_.i,.int .i64 s.on.o,.int .i64 s.on.s,.int .i64 s.on.i,.int .i64 s.to.o,.int .i64 s.to.s,.int .i64 s.to.i,.int .i64 s.part.o,.int .i64 s.part.s,.int .i64 s.part.i] := rfl
  rw [hlk]
  have hlkp : lookP pe s.to = (lookP ev s.to).map EvA.p := by rw [← hp0,look_map]
  obtain ⟨al,hal⟩ : ∃ al,((lookP pe s.to).getD ev0).all = al := ⟨_,rfl⟩
  have hlook : (optD false (.agg [.int .i64 0,.osl 0 0 [],.osl 0 0 []]) (Option.map EvA.d (lookP ev s.to))).wkT = .agg [.int .i64 ((lookP pe s.to).getD ev0).n,.slc (mapD Id3.d al),.slc (mapD Id3.d ((lookP pe s.to).getD ev0).one)] := by
   rw [← hal,hlkp]
   cases lookP ev s.to <;> rfl
  have hfact : fact (optD false (.agg [.int .i64 0,.osl 0 0 [],.osl 0 0 []]) (Option.map EvA.d (lookP ev s.to))) = True := by
   cases lookP ev s.to <;> rfl
  simp +contextual only [x55,mapD_len,g,hsd,hlt',keys_id (x := s.to),look_id (x := s.to),hlook,hfact,h_miss,h_skip,n12,n1m1,n1m2,n1m3,n13,n2m1,n2m2,n2m3,n23,m12,m13,m1b,m23,m2b,m3b,↓U55,↓XP,↓XU,XW0,XW1,qa,qb,qc,qd,qe,qf,reduceCtorEq,TYX]
  rintro b7 h7 b8 h8 hfl
  obtain ⟨n37,nm37,nm27,nm17,n27,n17,f7⟩ := h7
  obtain ⟨n78,n38,nm38,nm28,nm18,n28,n18,f8⟩ := h8
  refine ⟨_,fun _ _=>f_contains (l := al) (x := s.part) ⟨rfl,rfl⟩,?_⟩
  have hofc : ofC pe ((b.ch.take i).foldl (ofC pe) []) s = if s.part ∈ al then updP ((b.ch.take i).foldl (ofC pe) []) (s.on,s.to) (((lookP ((b.ch.take i).foldl (ofC pe) []) (s.on,s.to)).getD []) ++ [s.part]) else (b.ch.take i).foldl (ofC pe) [] := by
   rw [ofC,hal]
  by_cases hm : s.part ∈ al
  ·rw [if_pos hm] at hofc
   have hlen : (mapE qD ClA.d ch).length ≤ 140737488355328 := by rw [mapE_len]; have := hev.sz.1; omega
   obtain ⟨c,hc⟩ : ∃ c,(lookP ch (s.on,s.to)).getD ⟨0,0,[]⟩ = c := ⟨_,rfl⟩
   have hcd : ClA.d c = .osl c.b c.cap (mapD Id3.d c.xs) := rfl
   simp +contextual only [x55,mapD_len,hsd,decide_eq_true hm,keys_q (x := s.on) (y := s.to),look_q (x := s.on) (y := s.to),upd_q (x := s.on) (y := s.to),getD_cl,hc,hlen,h_miss,h_skip,n12,n1m1,n1m2,n1m3,n13,n2m1,n2m2,n2m3,n23,m12,m13,m1b,m23,m2b,m3b,n37,nm37,nm27,nm17,n27,n17,n78,n38,nm38,nm28,nm18,n28,n18,↓U55,↓XP,↓XU,XW0,XW1,qa,qb,qc,qd,qe,qf,reduceCtorEq,TYX]
   intro _
   rw [x_apg]
   have hrm : c.xs ≠ [] → getH R c.b = some (.room c.cap (mapD Id3.d c.xs)) ∧ c.b ∉ [b1,b2,b3,m1,m2,m3] := fun hx=>by
    cases hlo : lookP ch (s.on,s.to) with
    | none=>rw [hlo] at hc; subst hc; exact absurd rfl hx
    | some e=>rw [hlo] at hc; subst hc; exact pool_look (f := fun c=>c) hev.pool hlo hx
   have hcs : c.xs.length ≤ i := by
    cases hlo : lookP ch (s.on,s.to) with
    | none=>rw [hlo] at hc; subst hc; simp
    | some e=>rw [hlo] at hc; subst hc; exact hev.sz.2 _ (look_mem hlo)
   have hcut : cut (R ++ H) c = cut R c ++ H := by
    unfold cut
    by_cases hx : c.xs = []
    ·rw [if_pos hx,if_pos hx]
    ·rw [if_neg hx,if_neg hx,erase_app (hrm hx).1]
   have hav : c.xs ≠ [] → (c.b ≠ b1 ∧ c.b ≠ b2 ∧ c.b ≠ b3 ∧ c.b ≠ m1 ∧ c.b ≠ m2 ∧ c.b ≠ m3 ∧ c.b ≠ b7 ∧ c.b ≠ b8) := fun hx=>by
    obtain ⟨q1,q2⟩ := hrm hx
    have q3 := getH_app (H := H) q1
    have q4 := fresh_ne2 f7 q3
    have q5 := fresh_ne2 f8 q3
    simp only [List.mem_cons,List.not_mem_nil,or_false,not_or] at q2
    exact ⟨q2.1,q2.2.1,q2.2.2.1,q2.2.2.2.1,q2.2.2.2.2.1,q2.2.2.2.2.2,q4,q5⟩
   have hme : mapD Id3.d c.xs = [] ↔ c.xs = [] := by simp [mapD]
   have hdrop : ∀ x8 x7 x3 y3 y2 y1 x2 x1 : AO,dropR ((b8,x8) :: (b7,x7) :: (b3,x3) :: (m3,y3) :: (m2,y2) :: (m1,y1) :: (b2,x2) :: (b1,x1) :: (R ++ H)) c.b (mapD Id3.d c.xs) = (b8,x8) :: (b7,x7) :: (b3,x3) :: (m3,y3) :: (m2,y2) :: (m1,y1) :: (b2,x2) :: (b1,x1) :: (cut R c ++ H) := fun x8 x7 x3 y3 y2 y1 x2 x1=>by
    rw [← hcut]
    unfold dropR cut
    by_cases hx : c.xs = []
    ·rw [if_pos (hme.2 hx),if_pos hx]
    ·obtain ⟨q1,q2,q3,q4,q5,q6,q7,q8⟩ := hav hx
     rw [if_neg (fun e=>hx (hme.1 e)),if_neg hx,e_miss q8,e_miss q7,e_miss q3,e_miss q6,e_miss q5,e_miss q4,e_miss q2,e_miss q1]
   refine Gz.takeS (s := 137) (b := c.b) (cap := c.cap) (xs := mapD Id3.d c.xs) rfl (fun hx0=>?_) ?_
   ·have hx : c.xs ≠ [] := fun e=>hx0 (hme.2 e)
    obtain ⟨q1,q2,q3,q4,q5,q6,q7,q8⟩ := hav hx
    rw [h_miss q8,h_miss q7,h_miss q3,h_miss q6,h_miss q5,h_miss q4,h_miss q2,h_miss q1]
    exact getH_app (hrm hx).1
   rw [hdrop]
   simp +contextual only [x55,mapD_len,ids_1 (x := s.part),mapD_app,h_miss,h_skip,n12,n1m1,n1m2,n1m3,n13,n2m1,n2m2,n2m3,n23,m12,m13,m1b,m23,m2b,m3b,n37,nm37,nm27,nm17,n27,n17,n78,n38,nm38,nm28,nm18,n28,n18,↓U55,↓XP,↓XU,XW0,XW1,qa,qb,qc,qd,qe,qf,reduceCtorEq,TYX]
   have hsz : ∀ q : List Id3,∀ y ∈ mapD Id3.d q,y.length = 3 := fun q=>mapD_sz fun _=>rfl
   have hI : (idxD (mapE qD ClA.d ch) [.int .i64 s.on.o,.int .i64 s.on.s,.int .i64 s.on.i,.int .i64 s.to.o,.int .i64 s.to.s,.int .i64 s.to.i]).getD (mapE qD ClA.d ch).length < (mapE qD ClA.d (updP ch (s.on,s.to) c)).length := by
    rw [← upd_q]
    exact idx_upd (i := .agg [.int .i64 s.on.o,.int .i64 s.on.s,.int .i64 s.on.i,.int .i64 s.to.o,.int .i64 s.to.s,.int .i64 s.to.i])
   have hset : ∀ c' : ClA,setV (mapE qD ClA.d (updP ch (s.on,s.to) c)) ((idxD (mapE qD ClA.d ch) [.int .i64 s.on.o,.int .i64 s.on.s,.int .i64 s.on.i,.int .i64 s.to.o,.int .i64 s.to.s,.int .i64 s.to.i]).getD (mapE qD ClA.d ch).length) (.osl c'.b c'.cap (mapD Id3.d c'.xs)) = mapE qD ClA.d (updP ch (s.on,s.to) c') := fun c'=>by
    rw [← upd_q,← upd_q]
    exact setV_upd (i := .agg [.int .i64 s.on.o,.int .i64 s.on.s,.int .i64 s.on.i,.int .i64 s.to.o,.int .i64 s.to.s,.int .i64 s.to.i])
   generalize (idxD (mapE qD ClA.d ch) [.int .i64 s.on.o,.int .i64 s.on.s,.int .i64 s.on.i,.int .i64 s.to.o,.int .i64 s.to.s,.int .i64 s.to.i]).getD (mapE qD ClA.d ch).length = I at hI hset
   refine ⟨hsz _,hsz _,by omega,fun _=>?_⟩
   refine Gz.giveS (s := 142) (xs := mapD Id3.d (c.xs ++ [s.part])) (by simp [mapD]) rfl fun b' cap' hf=>?_
   obtain ⟨g1,g2,g3,g4,g5,g6,g7,g8,g9⟩ := hf
   have hset' := hset ⟨b',cap',c.xs ++ [s.part]⟩
   dsimp only at hset'
   simp +contextual only [x55,mapD_len,Int.toNat_natCast,hset',h_miss,h_skip,n12,n1m1,n1m2,n1m3,n13,n2m1,n2m2,n2m3,n23,m12,m13,m1b,m23,m2b,m3b,n37,nm37,nm27,nm17,n27,n17,n78,n38,nm38,nm28,nm18,n28,n18,Ne.symm g1,Ne.symm g2,Ne.symm g3,Ne.symm g4,Ne.symm g5,Ne.symm g6,Ne.symm g7,Ne.symm g8,wrap_succ (show i ≤ big by omega),↓U55,↓XP,↓XU,XW0,XW1,qa,qb,qc,qd,qe,qf,reduceCtorEq,TYX]
   refine ⟨by omega,?_⟩
   refine hN (i + 1,updP ch (s.on,s.to) ⟨b',cap',c.xs ++ [s.part]⟩,(b',.room cap' (mapD Id3.d (c.xs ++ [s.part]))) :: cut R c) _ _ ⟨hlt,?_,?_,?_,?_⟩ (by dsimp only; omega) ⟨rfl,rfl,rfl,rfl,rfl,rfl,rfl,trivial⟩ ?_
   ·refine pool_upd (f := fun c=>c) hev.pool rfl (by simp) ?_ (c := c) (by rw [← hc]; simp) (fresh_app g9)
    simp only [List.mem_cons,List.not_mem_nil,or_false,not_or]
    exact ⟨g8,g7,g3,g6,g5,g4⟩
   ·dsimp only
    rw [upd_map (f := ClA.xs),hev.val,hstep,hofc]
    have e1 : lookP ((b.ch.take i).foldl (ofC pe) []) (s.on,s.to) = (lookP ch (s.on,s.to)).map ClA.xs := by rw [← hev.val,look_map]
    rw [e1]
    cases hlo : lookP ch (s.on,s.to) with
    | none=>rw [hlo] at hc; subst hc; rfl
    | some e=>rw [hlo] at hc; subst hc; rfl
   ·have h1 := hev.sz.1
    have h2 := upd_len (m := ch) (k := (s.on,s.to)) (v := (⟨b',cap',c.xs ++ [s.part]⟩ : ClA))
    dsimp only
    omega
   ·intro q hq
    dsimp only at hq ⊢
    rcases upd_mem hq with rfl | hq
    ·simp only [List.length_append,List.length_cons,List.length_nil]
     omega
    ·have := hev.sz.2 q hq
     omega
   ·exact Sbn_room (fx := [(b3,.cells [.mp (some m1),.mp (some m2),.mp (some m3)]),(m3,.mp (mapE qD ClA.d (updP ch (s.on,s.to) ⟨b',cap',c.xs ++ [s.part]⟩))),(m2,.mp (mapE Id3.d EvA.d ev)),(m1,.mp (mapE Id3.d D.bool se)),(b2,.cells [.mp none,.mp none,.mp none]),(b1,.cells b.d)]) (bs := [(b8,.cells [.int .i64 s.on.o,.int .i64 s.on.s,.int .i64 s.on.i,.int .i64 s.to.o,.int .i64 s.to.s,.int .i64 s.to.i]),(b7,.cells s.d)]) (fun p hp=>hp) rfl
  ·rw [if_neg hm] at hofc
   simp +contextual only [x55,mapD_len,decide_eq_false hm,wrap_succ (show i ≤ big by omega),↓U55,↓XP,↓XU,XW0,XW1,qa,qb,qc,qd,qe,qf,reduceCtorEq,TYX]
   intros
   refine hN (i + 1,ch,R) _ _ ⟨hlt,hev.pool,by dsimp only; rw [hev.val,hstep,hofc],by have := hev.sz.1; dsimp only; omega,fun q hq=>by have := hev.sz.2 q hq; dsimp only; omega⟩ (by dsimp only; omega) ⟨rfl,rfl,rfl,rfl,rfl,rfl,rfl,trivial⟩ (Sbn.sub ?_)
   exact (List.sublist_cons_self _ _).trans (List.sublist_cons_self _ _)
 ·have hin : i = b.ch.length := by omega
  subst hin
  rw [List.take_length] at hev
  simp +contextual only [x55,mapD_len,↓U55,↓XP,↓XU,XW0,XW1,qa,qb,qc,qd,qe,qf,reduceCtorEq,TYX]
  intros
  refine hE _ _ _ ?_
  exact hQ _ _ _ ⟨rfl,rfl,rfl,rfl,trivial⟩ ⟨hev.pool,hev.val,by have := hev.sz; omega,fun q hq=>by have := hev.sz.2 q hq; omega⟩
end Go.Proofs.Ytffbjejmobhpkaa
end
section
namespace Go.Proofs.Ytffbjejmobhpkaa
open Go Go.Aw
theorem back_app {A H : AH} : back H.length (A ++ H) = H := by
 unfold back
 rw [List.length_append,show A.length + H.length - H.length = A.length by omega,List.drop_left]
theorem f_of {b : Bk} (hb : Small b) {H : AH} {R : D → AH → Prop} (h : R (.agg (idxD3 b)) H) : ACall Try.prog 55 [.agg b.d] H R := by
 refine b55 fun hf=>?_
 have hbig := big_eq
 have hbd : b.d = [.slc (mapD En.d b.en),.slc (mapD Sn.d b.sn),.slc (mapD Sr.d b.sr),.slc (mapD Qt.d b.qt),.slc (mapD Spl.d b.sl),.slc (mapD Mg.d b.mg),.slc (mapD Ch.d b.ch)] := rfl
 simp +contextual only [x55,mapD_len,hbd,↓U55,↓XP,↓XU,XW0,XW1,qa,qb,qc,qd,qe,qf,reduceCtorEq,TYX]
 simp only [← hbd]
 rintro b1 h1 b2 ⟨n12,h2⟩ m1 ⟨n2m1,n1m1,h3⟩ m2 ⟨m12,n2m2,n1m2,h4⟩ m3 ⟨m23,m13,n2m3,n1m3,h5⟩ b3 ⟨m3b,m2b,m1b,n23,n13,h6⟩
 have hd : Ds6 b1 b2 b3 m1 m2 m3 := ⟨n12,n1m1,n1m2,n1m3,n13,n2m1,n2m2,n2m3,n23,m12,m13,m1b,m23,m2b,m3b⟩
 simp +contextual only [x55,mapD_len,hbd,h_miss,h_skip,n12,n1m1,n1m2,n1m3,n13,n2m1,n2m2,n2m3,n23,m12,m13,m1b,m23,m2b,m3b,↓U55,↓XP,↓XU,XW0,XW1,qa,qb,qc,qd,qe,qf,reduceCtorEq,TYX]
 simp only [← hbd]
 intros
 refine of_L2 (by assumption) hd ⟨rfl,rfl,rfl,rfl,rfl,rfl,rfl,trivial⟩ fun F' hF'=>?_
 obtain ⟨z,rfl⟩ : ∃ z : Nat → D,_ = z 0 :: .ptr b1 0 :: .ptr b2 0 :: .ptr b3 0 :: zz z 4 142 [] := hF'.lit
 try dsimp only [zz,qb] at *
 clear hF'
 have hlk : ∀ se ev ch G,ofH b1 b2 b3 m1 m2 m3 b se ev ch G = (b3,.cells [.mp (some m1),.mp (some m2),.mp (some m3)]) :: (m3,.mp (mapE qD ClA.d ch)) :: (m2,.mp (mapE Id3.d EvA.d ev)) :: (m1,.mp (mapE Id3.d D.bool se)) :: (b2,.cells [.mp none,.mp none,.mp none]) :: (b1,.cells b.d) :: G := fun _ _ _ _=>rfl
 rw [hlk]
 simp +contextual only [x55,mapD_len,hbd,h_miss,h_skip,n12,n1m1,n1m2,n1m3,n13,n2m1,n2m2,n2m3,n23,m12,m13,m1b,m23,m2b,m3b,↓U55,↓XP,↓XU,XW0,XW1,qa,qb,qc,qd,qe,qf,reduceCtorEq,TYX]
 simp only [← hbd]
 intros
 refine of_L10 hb hd ⟨rfl,rfl,rfl,rfl,rfl,rfl,rfl,trivial⟩ fun F' ev R0 hF' hev=>?_
 obtain ⟨z,rfl⟩ : ∃ z : Nat → D,_ = z 0 :: .ptr b1 0 :: .ptr b2 0 :: .ptr b3 0 :: zz z 4 142 [] := hF'.lit
 try dsimp only [zz,qb] at *
 clear hF'
 rw [hlk]
 simp +contextual only [x55,mapD_len,hbd,h_miss,h_skip,n12,n1m1,n1m2,n1m3,n13,n2m1,n2m2,n2m3,n23,m12,m13,m1b,m23,m2b,m3b,↓U55,↓XP,↓XU,XW0,XW1,qa,qb,qc,qd,qe,qf,reduceCtorEq,TYX]
 simp only [← hbd]
 intros
 refine of_L17 hb hd hev ⟨rfl,rfl,rfl,rfl,rfl,rfl,rfl,trivial⟩ fun F' ev R0 hF' hev=>?_
 obtain ⟨z,rfl⟩ : ∃ z : Nat → D,_ = z 0 :: .ptr b1 0 :: .ptr b2 0 :: .ptr b3 0 :: zz z 4 142 [] := hF'.lit
 try dsimp only [zz,qb] at *
 clear hF'
 rw [hlk]
 simp +contextual only [x55,mapD_len,hbd,h_miss,h_skip,n12,n1m1,n1m2,n1m3,n13,n2m1,n2m2,n2m3,n23,m12,m13,m1b,m23,m2b,m3b,↓U55,↓XP,↓XU,XW0,XW1,qa,qb,qc,qd,qe,qf,reduceCtorEq,TYX]
 simp only [← hbd]
 intros
 refine of_L22 hb hd ⟨rfl,rfl,rfl,rfl,rfl,rfl,rfl,trivial⟩ fun F' ch R2 hF' hch=>?_
 obtain ⟨z,rfl⟩ : ∃ z : Nat → D,_ = z 0 :: .ptr b1 0 :: .ptr b2 0 :: .ptr b3 0 :: zz z 4 142 [] := hF'.lit
 try dsimp only [zz,qb] at *
 clear hF'
 have hev2 : ev.map (fun p=>(p.1,p.2.p)) = evsP b := hev.val
 rw [hev2] at hch
 have hch2 : ch.map (fun p=>(p.1,p.2.xs)) = chsP b := hch.val
 rw [hlk]
 simp +contextual only [x55,mapD_len,hbd,h_miss,h_skip,n12,n1m1,n1m2,n1m3,n13,n2m1,n2m2,n2m3,n23,m12,m13,m1b,m23,m2b,m3b,↓U55,↓XP,↓XU,XW0,XW1,qa,qb,qc,qd,qe,qf,reduceCtorEq,TYX]
 simp only [← hbd]
 have w1 : mwk (mapE Id3.d D.bool (sensP b)) = mapE Id3.d D.bool (sensP b) := mwk_mapE
 have w2 : mwk (mapE Id3.d EvA.d ev) = mapE Id3.d Ev.d (evsP b) := by
  rw [mwk_mapE,← hev2,← mapE_map]
  rfl
 have w3 : mwk (mapE qD ClA.d ch) = mapE qD slD (chsP b) := by
  rw [mwk_mapE,← hch2,← mapE_map]
  rfl
 have z1 : ∀ F : List D,Fz F ((b3,.cells [.mp (some m1),.mp (some m2),.mp (some m3)]) :: (m3,.mp (mapE qD ClA.d ch)) :: (m2,.mp (mapE Id3.d EvA.d ev)) :: (m1,.mp (mapE Id3.d D.bool (sensP b))) :: (b2,.cells [.mp none,.mp none,.mp none]) :: (b1,.cells b.d) :: (R2 ++ (R0 ++ H))) F
   ((b3,.cells [.mpv (mapE Id3.d D.bool (sensP b)),.mp (some m2),.mp (some m3)]) :: (m3,.mp (mapE qD ClA.d ch)) :: (m2,.mp (mapE Id3.d EvA.d ev)) :: (b2,.cells [.mp none,.mp none,.mp none]) :: (b1,.cells b.d) :: (R2 ++ (R0 ++ H))) := fun F=>by
  have h := Fz.freezeMC (F := F) (H := (b3,.cells [.mp (some m1),.mp (some m2),.mp (some m3)]) :: (m3,.mp (mapE qD ClA.d ch)) :: (m2,.mp (mapE Id3.d EvA.d ev)) :: (m1,.mp (mapE Id3.d D.bool (sensP b))) :: (b2,.cells [.mp none,.mp none,.mp none]) :: (b1,.cells b.d) :: (R2 ++ (R0 ++ H))) (b' := b3) (j := 0) (b := m1) (Ne.symm m1b) h_hit rfl (by rw [h_miss m1b,h_miss m13,h_miss m12,h_hit])
  rw [h_set,e_miss m1b,e_miss m13,e_miss m12,e_hit,w1] at h
  exact h
 have z2 : ∀ F : List D,Fz F ((b3,.cells [.mpv (mapE Id3.d D.bool (sensP b)),.mp (some m2),.mp (some m3)]) :: (m3,.mp (mapE qD ClA.d ch)) :: (m2,.mp (mapE Id3.d EvA.d ev)) :: (b2,.cells [.mp none,.mp none,.mp none]) :: (b1,.cells b.d) :: (R2 ++ (R0 ++ H))) F
   ((b3,.cells [.mpv (mapE Id3.d D.bool (sensP b)),.mpv (mapE Id3.d Ev.d (evsP b)),.mp (some m3)]) :: (m3,.mp (mapE qD ClA.d ch)) :: (b2,.cells [.mp none,.mp none,.mp none]) :: (b1,.cells b.d) :: (R2 ++ (R0 ++ H))) := fun F=>by
  have h := Fz.freezeMC (F := F) (H := (b3,.cells [.mpv (mapE Id3.d D.bool (sensP b)),.mp (some m2),.mp (some m3)]) :: (m3,.mp (mapE qD ClA.d ch)) :: (m2,.mp (mapE Id3.d EvA.d ev)) :: (b2,.cells [.mp none,.mp none,.mp none]) :: (b1,.cells b.d) :: (R2 ++ (R0 ++ H))) (b' := b3) (j := 1) (b := m2) (Ne.symm m2b) h_hit rfl (by rw [h_miss m2b,h_miss m23,h_hit])
  rw [h_set,e_miss m2b,e_miss m23,e_hit,w2] at h
  exact h
 have z3 : ∀ F : List D,Fz F ((b3,.cells [.mpv (mapE Id3.d D.bool (sensP b)),.mpv (mapE Id3.d Ev.d (evsP b)),.mp (some m3)]) :: (m3,.mp (mapE qD ClA.d ch)) :: (b2,.cells [.mp none,.mp none,.mp none]) :: (b1,.cells b.d) :: (R2 ++ (R0 ++ H))) F
   ((b3,.cells (idxD3 b)) :: (b2,.cells [.mp none,.mp none,.mp none]) :: (b1,.cells b.d) :: (R2 ++ (R0 ++ H))) := fun F=>by
  have h := Fz.freezeMC (F := F) (H := (b3,.cells [.mpv (mapE Id3.d D.bool (sensP b)),.mpv (mapE Id3.d Ev.d (evsP b)),.mp (some m3)]) :: (m3,.mp (mapE qD ClA.d ch)) :: (b2,.cells [.mp none,.mp none,.mp none]) :: (b1,.cells b.d) :: (R2 ++ (R0 ++ H))) (b' := b3) (j := 2) (b := m3) (Ne.symm m3b) h_hit rfl (by rw [h_miss m3b,h_hit])
  rw [h_set,e_miss m3b,e_hit,w3] at h
  exact h
 refine gh_intro ((z1 _).trans ((z2 _).trans (z3 _))) ?_
 have hix : idxD3 b = [.mpv (mapE Id3.d D.bool (sensP b)),.mpv (mapE Id3.d Ev.d (evsP b)),.mpv (mapE qD slD (chsP b))] := rfl
 simp +contextual only [x55,mapD_len,hix,h_miss,h_skip,n12,n1m1,n1m2,n1m3,n13,n2m1,n2m2,n2m3,n23,m12,m13,m1b,m23,m2b,m3b,↓U55,↓XP,↓XU,XW0,XW1,qa,qb,qc,qd,qe,qf,reduceCtorEq,TYX]
 have e : ∀ x y w : Nat × AO,back H.length (x :: y :: w :: (R2 ++ (R0 ++ H))) = H := fun x y w=>by
  rw [show x :: y :: w :: (R2 ++ (R0 ++ H)) = (x :: y :: w :: (R2 ++ R0)) ++ H by simp]
  exact back_app
 rw [e]
 exact h
end Go.Proofs.Ytffbjejmobhpkaa
end
section
namespace Go.Proofs.Ytffbjejmobhpkaa
open Go Go.Aw
theorem f_cloneO {l : List Id3} {H : AH} {R : D → AH → Prop} (hl : l.length ≤ 1073741824) (h : R (.own (mapD Id3.d l)) H) : ACall Try.prog 42 [.slc (mapD Id3.d l)] H R := by
 refine b42v fun hf=>?_
 have hbig := big_eq
 have hn : mapD Id3.d l = [] → R (.own []) H := fun e=>by rw [e] at h; exact h
 simp +contextual only [x42v,↓U42v,mapD_len,↓XP,↓XU,XW0,XW1,qa,qb,qc,qd,qe,qf,reduceCtorEq,TYX]
 exact ⟨hn,mapD_sz fun _=>rfl,by omega,h⟩
theorem look_ev {o : Option Ev} : (optD false (.agg [.int .i64 0,.osl 0 0 [],.osl 0 0 []]) (Option.map Ev.d o)).wkT = .agg [.int .i64 (o.getD ev0).n,.slc (mapD Id3.d (o.getD ev0).all),.slc (mapD Id3.d (o.getD ev0).one)] := by cases o <;> rfl
theorem fact_ev {o : Option Ev} : fact (optD false (.agg [.int .i64 0,.osl 0 0 [],.osl 0 0 []]) (Option.map Ev.d o)) = True := by cases o <;> rfl
theorem look_sl {o : Option (List Id3)} : (optD false (.osl 0 0 []) (Option.map slD o)).wkT = .slc (mapD Id3.d (o.getD [])) := by cases o <;> rfl
theorem f_next {x : Ix} (hx : IxOk x) {fr to : Id3} {H : AH} {R : D → AH → Prop} (h : R (.tup [.slc (mapD Id3.d (nextP x fr to).1),.int .i64 (nextP x fr to).2]) H) : ACall Try.prog 73 [.agg x.d,.agg fr.d,.agg to.d] H R := by
 refine ACall.view (b73 fun hf=>?_)
 have hbig := big_eq
 have hxd : x.d = [.mpv (mapE Id3.d D.bool x.se),.mpv (mapE Id3.d Ev.d x.ev),.mpv (mapE qD slD x.ch)] := rfl
 have hfd : fr.d = [.int .i64 fr.o,.int .i64 fr.s,.int .i64 fr.i] := rfl
 have htd : to.d = [.int .i64 to.o,.int .i64 to.s,.int .i64 to.i] := rfl
 have hk : ∀ l c,nextP x fr to = (l,c) → R (.tup [.slc (mapD Id3.d l),.int .i64 c]) H := fun l c e=>by rw [e] at h; exact h
 have he : (lookP x.ev to).getD ev0 = x.e to := rfl
 have hc : (lookP x.ch (fr,to)).getD [] = x.c fr to := rfl
 simp +contextual only [x73,mapD_len,hxd,hfd,htd,keys_id (x := to),look_id (x := to),look_ev,fact_ev,he,↓U73,↓XP,↓XU,XW0,XW1,qa,qb,qc,qd,qe,qf,reduceCtorEq,TYX]
 rintro b3 h3 b4 ⟨n34,h4⟩ b5 ⟨n45,n35,h5⟩ b8 ⟨n58,n48,n38,h8⟩
 intro _
 refine ⟨fun h0=>hk [to] 0 (by unfold nextP; rw [if_pos h0]),fun h0=>?_⟩
 have hch := hx.ch fr to
 have hal := hx.all to
 simp +contextual only [x73,mapD_len,keys_q (x := fr) (y := to),look_q (x := fr) (y := to),look_sl,hc,h_miss,h_skip,n34,n45,n35,n58,n48,n38,↓U73,↓XP,↓XU,XW0,XW1,qa,qb,qc,qd,qe,qf,reduceCtorEq,TYX]
 intros
 refine f_sorted (l := x.c fr to) hch.1 hch.2 ?_
 have hsl := srt_len (l := x.c fr to)
 obtain ⟨sl,hsle⟩ : ∃ sl,srt (x.c fr to) = sl := ⟨_,rfl⟩
 have hnx : nextP x fr to = if sl.length = 1 then (sl,0) else if 1 < sl.length then (sl,15) else if (x.e to).n = 1 ∧ (x.e to).one.length = 1 then ((x.e to).one,0) else (srt (x.e to).all,15) := by
  unfold nextP
  rw [if_neg h0,hsle]
 rw [hsle] at hsl ⊢
 by_cases h1 : sl.length = 1
 ·rw [if_pos h1] at hnx
  have h1' : ((sl.length : Int) = 1) = True := eq_true (by omega)
  simp +contextual only [x73,mapD_len,h1',h_miss,h_skip,n34,n45,n35,n58,n48,n38,↓U73,↓XP,↓XU,XW0,XW1,qa,qb,qc,qd,qe,qf,reduceCtorEq,TYX]
  intros
  exact hk _ _ hnx
 ·rw [if_neg h1] at hnx
  have h1' : ((sl.length : Int) = 1) = False := eq_false (by omega)
  by_cases h2 : 1 < sl.length
  ·rw [if_pos h2] at hnx
   have h2' : (1 < (sl.length : Int)) = True := eq_true (by omega)
   simp +contextual only [x73,mapD_len,h1',h2',h_miss,h_skip,n34,n45,n35,n58,n48,n38,↓U73,↓XP,↓XU,XW0,XW1,qa,qb,qc,qd,qe,qf,reduceCtorEq,TYX]
   intros
   exact hk _ _ hnx
  ·rw [if_neg h2] at hnx
   have h2' : (1 < (sl.length : Int)) = False := eq_false (by omega)
   by_cases h3 : (x.e to).n = 1
   ·have h3' : ((x.e to).n = 1) = True := eq_true h3
    by_cases h4 : (x.e to).one.length = 1
    ·rw [if_pos ⟨h3,h4⟩] at hnx
     have h4' : (((x.e to).one.length : Int) = 1) = True := eq_true (by omega)
     simp +contextual only [x73,mapD_len,h1',h2',h3',h4',h_miss,h_skip,n34,n45,n35,n58,n48,n38,↓U73,↓XP,↓XU,XW0,XW1,qa,qb,qc,qd,qe,qf,reduceCtorEq,TYX]
     intros
     refine f_cloneO (by omega) ?_
     simp +contextual only [x73,mapD_len,w_own,h_miss,h_skip,n34,n45,n35,n58,n48,n38,↓U73,↓XP,↓XU,XW0,XW1,qa,qb,qc,qd,qe,qf,reduceCtorEq,TYX]
     intros
     exact hk _ _ hnx
    ·rw [if_neg (fun e=>h4 e.2)] at hnx
     have h4' : (((x.e to).one.length : Int) = 1) = False := eq_false (by omega)
     simp +contextual only [x73,mapD_len,h1',h2',h3',h4',h_miss,h_skip,n34,n45,n35,n58,n48,n38,↓U73,↓XP,↓XU,XW0,XW1,qa,qb,qc,qd,qe,qf,reduceCtorEq,TYX]
     intros
     refine f_sorted hal.1 hal.2 ?_
     simp +contextual only [x73,mapD_len,h_miss,h_skip,n34,n45,n35,n58,n48,n38,↓U73,↓XP,↓XU,XW0,XW1,qa,qb,qc,qd,qe,qf,reduceCtorEq,TYX]
     intros
     exact hk _ _ hnx
   ·have h3' : ((x.e to).n = 1) = False := eq_false h3
    rw [if_neg (fun e=>h3 e.1)] at hnx
    simp +contextual only [x73,mapD_len,h1',h2',h3',h_miss,h_skip,n34,n45,n35,n58,n48,n38,↓U73,↓XP,↓XU,XW0,XW1,qa,qb,qc,qd,qe,qf,reduceCtorEq,TYX]
    intros
    refine f_sorted hal.1 hal.2 ?_
    simp +contextual only [x73,mapD_len,h_miss,h_skip,n34,n45,n35,n58,n48,n38,↓U73,↓XP,↓XU,XW0,XW1,qa,qb,qc,qd,qe,qf,reduceCtorEq,TYX]
    intros
    exact hk _ _ hnx
end Go.Proofs.Ytffbjejmobhpkaa
end
section
namespace Go.Aw
open Go Go.RowKit
section
variable {P : Program} {F : List D} {H : AH} {k : HK} {dst : Option Tmp} {t l : Nat} {tk ta : Bool} {f x : Operand} {tys : Array TypeId}
def ylC (o : Option AO) (P : Program) (l : Nat) (x : D) (dst : Option Tmp) (F : List D) (H : AH) (k : HK) : Prop := match o with
 | some (.lp J pre)=>YStep P l J pre x ∧ k (putF F dst (.bool true)) (setH H l (.lp J (pre ++ [x])))
 | _=>False
def yvD (c : D) (P : Program) (x : Operand) (dst : Option Tmp) (F : List D) (H : AH) (k : HK) : Prop := match c with
 | .yld l=>ylC (getH H l) P l (rv F x) dst F H k
 | _=>False
def ygD (c : D) (P : Program) (f x : Operand) (dst : Option Tmp) (t : Nat) (F : List D) (H : AH) (k : HK) : Prop := match c with
 | .bool true=>yvD (rv (F.set t (.bool true)) f) P x dst (F.set t (.bool true)) H k
 | .bool false=>k (putF (F.set t (.bool false)) dst (.tup [])) H
 | _=>False
theorem y_o : yldO P ⟨.call ⟨.value f,#[x],tys⟩,dst,some (some (t,true)),tk,ta⟩ F H k = ygD (F.getD t .any) P f x dst t F H k := by
 unfold yldO ygD yldX yvD yldC ylC
 dsimp only
 generalize F.getD t .any = c
 cases c with
 | bool b =>
  cases b
  ·exact propext ⟨fun h=>h.2 rfl,fun h=>⟨fun e=>(by cases e),fun _=>h⟩⟩
  ·exact propext ⟨fun h=>h.1 rfl,fun h=>⟨fun _=>h,fun e=>(by cases e)⟩⟩
 | _=>rfl
theorem y_f : ygD (.bool false) P f x dst t F H k = k (putF (F.set t (.bool false)) dst (.tup [])) H := .trans rfl rfl
theorem y_t : ygD (.bool true) P f x dst t F H k = yvD (rv (F.set t (.bool true)) f) P x dst (F.set t (.bool true)) H k := .trans rfl rfl
theorem y_v : yvD (.yld l) P x dst F H k = ylC (getH H l) P l (rv F x) dst F H k := .trans rfl rfl
theorem y_c {J : List D → (Nat → BK) → World → Prop} {pre : List D} {d : D} : ylC (some (.lp J pre)) P l d dst F H k = (YStep P l J pre d ∧ k (putF F dst (.bool true)) (setH H l (.lp J (pre ++ [d])))) := .trans rfl rfl
end
end Go.Aw
namespace Go.Proofs.Ytffbjejmobhpkaa
open Go Go.Aw
def agI (y : Id3) : D := .agg y.d
theorem next_ne {x : Ix} {fr to : Id3} (h : (nextP x fr to).2 = 0) : 0 < (nextP x fr to).1.length := by
 unfold nextP at h ⊢
 split
 ·simp
 ·rename_i h0
  rw [if_neg h0] at h
  split
  ·rename_i h1; show 0 < (srt _).length; omega
  ·rename_i h1
   rw [if_neg h1] at h
   split
   ·rename_i h2; rw [if_pos h2] at h; cases h
   ·rename_i h2
    rw [if_neg h2] at h
    split
    ·rename_i h3; show 0 < (x.e to).one.length; omega
    ·rename_i h3; rw [if_neg h3] at h; cases h
theorem f_way1 {x : Ix} (hx : IxOk x) {fr to : Id3} {L c3 c4 c5 : Nat} {J : List D → (Nat → BK) → World → Prop} {G : AH} (hd : ¬ c5 = L ∧ ¬ c4 = L ∧ ¬ c3 = L ∧ ¬ c4 = c5 ∧ ¬ c3 = c5 ∧ ¬ c3 = c4)
  (hy : ∀ pre z,pre ++ [z] <+: (wayP x fr to).map agI → YStep Try.prog L J pre z) {R : D → AH → Prop}
  (h : ∀ d,R d ((L,.lp J ((wayP x fr to).map agI)) :: (c5,.cells (wayE x fr (wayN x) [] to).d) :: (c4,.cells fr.d) :: (c3,.cells x.d) :: G)) :
  ACall Try.prog 84 [.yld L,.ptr c5 0,.ptr c3 0,.ptr c4 0] ((L,.lp J []) :: (c5,.cells to.d) :: (c4,.cells fr.d) :: (c3,.cells x.d) :: G) R := by
 refine b84 fun hf=>?_
 have hbig := big_eq
 obtain ⟨l5,l4,l3,n54,n53,n43⟩ := hd
 have hxd : x.d = [.mpv (mapE Id3.d D.bool x.se),.mpv (mapE Id3.d Ev.d x.ev),.mpv (mapE qD slD x.ch)] := rfl
 have hfd : fr.d = [.int .i64 fr.o,.int .i64 fr.s,.int .i64 fr.i] := rfl
 simp +contextual only [x84,mapD_len,↓U84,↓XP,↓XU,XW0,XW1,qa,qb,qc,qd,qe,qf,reduceCtorEq,TYX]
 rintro m5 ⟨lm,n5m,n4m,n3m,hm5⟩
 generalize hys : (wayP x fr to).map agI = ys at hy h
 refine XW.loopS Go.Proofs.Ytffbjejmobhpkaa.hm 39 (fun s : Nat × List D × List (Id3 × Bool) × Id3=>[(0,.yld L),(1,.ptr c5 0),(2,.ptr c3 0),(3,.ptr c4 0),(5,.mp (some m5))]) (fun s : Nat × List D × List (Id3 × Bool) × Id3=>(m5,AO.mp (mapE Id3.d D.bool s.2.2.1)) :: (L,AO.lp J s.2.1) :: (c5,AO.cells s.2.2.2.d) :: (c4,AO.cells fr.d) :: (c3,AO.cells x.d) :: G) (fun s=>s.1) (fun s=>s.2.1 ++ (wayF x fr s.1 s.2.2.1 s.2.2.2).map agI = ys ∧ wayE x fr s.1 s.2.2.1 s.2.2.2 = wayE x fr (wayN x) [] to ∧ MetOk x s.2.2.1 ∧ x.se.length + 2 ≤ s.1 + s.2.2.1.length) (wayN x,[],[],to) ⟨hys,rfl,⟨by simp,by simp⟩,by simp [wayN]⟩ ⟨rfl,rfl,rfl,rfl,rfl,rfl,trivial⟩ rfl ?_
 rintro ⟨k,pre,mm,t⟩ z ⟨h1,h2,h3,h4⟩ K hN hE hR
 dsimp only at h1 h2 h3 h4 hN
 have hml := h3.len
 obtain ⟨k,rfl⟩ : ∃ q,k = q + 1 := ⟨k - 1,by omega⟩
 rw [wayF] at h1
 rw [wayE] at h2
 have htd : t.d = [.int .i64 t.o,.int .i64 t.s,.int .i64 t.i] := rfl
 show xcode _ _ [.yld L,.ptr c5 0,.ptr c3 0,.ptr c4 0,z 4,.mp (some m5),z 6,z 7,z 8,z 9,z 10,z 11,z 12,z 13,z 14,z 15,z 16,z 17,z 18,z 19,z 20,z 21,z 22,z 23,z 24,z 25,z 26,z 27,z 28,z 29,z 30,z 31,z 32,z 33,z 34,z 35,z 36,z 37,z 38] ((m5,.mp (mapE Id3.d D.bool mm)) :: (L,.lp J pre) :: (c5,.cells t.d) :: (c4,.cells fr.d) :: (c3,.cells x.d) :: G) K
 by_cases hv : vis mm t = true
 ·rw [if_pos hv] at h1 h2
  have hv' : (lookP mm t).getD false = true := hv
  simp +contextual only [x84,mapD_len,htd,keys_id (x := t),look_id (x := t),opt_b,hv',y_o,y_f,h_miss,h_skip,l5,l4,l3,n54,n53,n43,lm,n5m,n4m,n3m,↓U84,↓XP,↓XU,XW0,XW1,qa,qb,qc,qd,qe,qf,reduceCtorEq,TYX]
  refine hE _ _ _ ?_
  rw [List.map_nil,List.append_nil] at h1
  simp +contextual only [x84,mapD_len,↓U84,↓XP,↓XU,XW0,XW1,qa,qb,qc,qd,qe,qf,reduceCtorEq,TYX]
  rw [← h1,← h2] at h
  exact h _
 ·rw [if_neg hv] at h1 h2
  have hv' : (lookP mm t).getD false = false := by simpa [vis] using hv
  simp +contextual only [x84,mapD_len,htd,hxd,hfd,keys_id (x := t),look_id (x := t),upd_id (x := t),opt_b,hv',y_o,y_t,y_v,y_c,h_miss,h_skip,l5,l4,l3,n54,n53,n43,lm,n5m,n4m,n3m,↓U84,↓XP,↓XU,XW0,XW1,qa,qb,qc,qd,qe,qf,reduceCtorEq,TYX]
  refine ⟨hy pre (agI t) ⟨_,by rw [← h1,List.map_cons,List.append_assoc]; rfl⟩,?_⟩
  intros
  obtain ⟨l,e,hle⟩ : ∃ l e,nextP x fr t = (l,e) := ⟨_,_,rfl⟩
  have hne := next_ne (x := x) (fr := fr) (to := t)
  refine f_next hx (fr := fr) (to := t) ?_
  unfold stopN at h1 h2
  rw [hle] at h1 h2 hne ⊢
  dsimp only at h1 h2 hne ⊢
  by_cases he : e = 0
  ·rw [decide_eq_true he] at h1 h2
   have he' : (e = 0) = True := eq_true he
   by_cases hs : x.s t = true
   ·rw [hs] at h1 h2
    simp only [Bool.not_true,Bool.or_false,Bool.false_eq_true,if_false] at h1 h2
    have hs' : (lookP x.se t).getD false = true := hs
    have hl0 := hne he
    have g := mapD_get (f := Id3.d) hl0
    have hlt : ((0 : Int) < (l.length : Int)) = True := eq_true (by omega)
    have hyd : (hd1 l).d = [.int .i64 (hd1 l).o,.int .i64 (hd1 l).s,.int .i64 (hd1 l).i] := rfl
    have g' : (mapD Id3.d l).getD 0 [] = (hd1 l).d := g
    simp +contextual only [x84,mapD_len,he',hs',hxd,htd,keys_id (x := t),look_id (x := t),opt_b,hlt,g',hyd,h_miss,h_skip,l5,l4,l3,n54,n53,n43,lm,n5m,n4m,n3m,↓U84,↓XP,↓XU,XW0,XW1,qa,qb,qc,qd,qe,qf,reduceCtorEq,TYX]
    intros
    have hvf : vis mm t = false := hv'
    have had := h3.add hvf hs
    refine hN (k,pre ++ [agI t],updP mm t true,hd1 l) _ _ ⟨?_,h2,had.1,?_⟩ (by dsimp only; omega) ⟨rfl,rfl,rfl,rfl,rfl,rfl,trivial⟩ (back_0 rfl)
    ·dsimp only
     rw [List.append_assoc]
     exact h1
    ·have := had.2
     dsimp only
     omega
   ·have hs' : (lookP x.se t).getD false = false := by simpa [Ix.s] using hs
    have hsf : x.s t = false := hs'
    rw [hsf] at h1 h2
    simp only [Bool.not_true,Bool.not_false,Bool.or_true,if_true] at h1 h2
    simp +contextual only [x84,mapD_len,he',hs',hxd,htd,keys_id (x := t),look_id (x := t),opt_b,h_miss,h_skip,l5,l4,l3,n54,n53,n43,lm,n5m,n4m,n3m,↓U84,↓XP,↓XU,XW0,XW1,qa,qb,qc,qd,qe,qf,reduceCtorEq,TYX]
    intros
    refine hR _ _ ?_
    simp +contextual only [x84,mapD_len,↓U84,↓XP,↓XU,XW0,XW1,qa,qb,qc,qd,qe,qf,reduceCtorEq,TYX]
    have hh := h (.tup [])
    rw [← h1,← h2] at hh
    exact hh
  ·rw [decide_eq_false he] at h1 h2
   have he' : (e = 0) = False := eq_false he
   simp only [Bool.not_false,Bool.true_or,if_true] at h1 h2
   simp +contextual only [x84,mapD_len,he',hxd,htd,h_miss,h_skip,l5,l4,l3,n54,n53,n43,lm,n5m,n4m,n3m,↓U84,↓XP,↓XU,XW0,XW1,qa,qb,qc,qd,qe,qf,reduceCtorEq,TYX]
   intros
   refine hR _ _ ?_
   simp +contextual only [x84,mapD_len,↓U84,↓XP,↓XU,XW0,XW1,qa,qb,qc,qd,qe,qf,reduceCtorEq,TYX]
   have hh := h (.tup [])
   rw [← h1,← h2] at hh
   exact hh
end Go.Proofs.Ytffbjejmobhpkaa
end
section
namespace Go.Aw
open Go Go.RowKit
theorem q_nextN {X : List D → AH → Prop} {Q : AQ} {F : List D} {H : AH} : nextQ X Q .normal F H = X F H := .trans rfl rfl
theorem x_cn {P : Program} {F : List D} {H : AH} {k : HK} {r : List XO} {dst : Option Tmp} {g : FuncId} {s : Nat} {tys : Array TypeId} {tk ta : Bool} : xops P false (⟨.call ⟨.builtin .println,#[.func g,.const (.slice none 0 0),.tmp s],tys⟩,dst,none,tk,ta⟩ :: r) F H k = ACall P g [.osl 0 0 [],rv F (.tmp s)] H (callK P r F dst k) := by
 have h0 : xops P false (⟨.call ⟨.builtin .println,#[.func g,.const (.slice none 0 0),.tmp s],tys⟩,dst,none,tk,ta⟩ :: r) F H k = (false = false ∧ ACall P g (capA [.osl 0 0 [],rv F (.tmp s)] []) H fun d H'=>fact d.view → xops P false r (putF F dst d) H' k) := .trans rfl rfl
 rw [h0]
 simp only [true_and]
 rfl
end Go.Aw
namespace Go.Proofs.Ytffbjejmobhpkaa
open Go Go.Aw
theorem agI_cells {ys : List Id3} : (ys.map agI).map cellsOf = mapD Id3.d ys := by
 simp only [List.map_map,mapD]
 rfl
theorem f_apseq {g : FuncId} {caps : List D} (hisb : isB caps = false) (hcall : callOk Try.prog g = true) (hcap : ∀ d ∈ caps,∃ b o,d = .ptr b o) {ys : List Id3} (hys : ys.length ≤ 1073741824) {H H2 : AH} (hlen : H2.length = H.length) {R : D → AH → Prop}
  (hit : ∀ L J,freshH H L → (∀ pre x,pre ++ [x] <+: ys.map agI → YStep Try.prog L J pre x) → ∀ R' : D → AH → Prop,(∀ d,R' d ((L,.lp J (ys.map agI)) :: H2)) → ACall Try.prog g (capA [.yld L] caps) ((L,.lp J []) :: H) R')
  (h : R (.slc (mapD Id3.d ys)) H2) : ACall Try.prog 83 [.osl 0 0 [],.fn g caps] H R := by
 refine b83 fun hf=>?_
 have hbig := big_eq
 simp +contextual only [x83,mapD_len,↓U83,↓XP,↓XU,XW0,XW1,qa,qb,qc,qd,qe,qf,reduceCtorEq,TYX]
 intro b1 h1
 rw [c_gh]
 refine Gz.take (j := 0) (b := 0) (cap := 0) (xs := []) rfl (fun h=>absurd rfl h) ?_
 rw [show dropR H 0 [] = H from if_pos rfl]
 simp +contextual only [x83,mapD_len,↓U83,↓XP,↓XU,XW0,XW1,qa,qb,qc,qd,qe,qf,reduceCtorEq,TYX]
 have hag : ∀ pre x,pre ++ [x] <+: ys.map agI → ∃ y,x = agI y ∧ pre.length < ys.length ∧ ∀ c ∈ pre.map cellsOf,c.length = 3 := fun pre x hp=>by
  obtain ⟨q,hq⟩ := hp
  have hm : ∀ z ∈ pre ++ [x],∃ y,z = agI y := fun z hz=>by
   have : z ∈ ys.map agI := by rw [← hq]; exact List.mem_append_left _ hz
   obtain ⟨y,_,e⟩ := List.mem_map.1 this
   exact ⟨y,e.symm⟩
  obtain ⟨y,e⟩ := hm x (by simp)
  have hl := congrArg List.length hq
  simp at hl
  refine ⟨y,e,by omega,fun c hc=>?_⟩
  obtain ⟨z,hz,rfl⟩ := List.mem_map.1 hc
  obtain ⟨y2,rfl⟩ := hm z (by simp [hz])
  rfl
 refine XRG.collect Go.Proofs.Ytffbjejmobhpkaa.hm (s := 6) (p := 7) (bs := b1) (Fb := [.any,.any,.ptr b1 0,.any,.any,.any,.any,.any,.any,.any,.any,.any,.any]) (g := g) (caps := caps) (xs := []) (ys := ys.map agI) (R := fun G=>G = H2) rfl hisb hcall ?_ (by simp) ?_ ?_ ?_ ?_
 ·intro K w t hs
  refine ⟨by rw [hs.len]; rfl,fun i d v hd hv K' w'=>?_⟩
  by_cases hi : i = 2
  ·subst hi
   have := hs.slot 2 (.ptr b1 0) v rfl hv
   simp only [List.getElem?_cons_succ,List.getElem?_cons_zero,Option.some.injEq] at hd
   subst hd
   have h2 : RepV K w (.ptr b1 0) v := this
   cases h2
   exact RepV.viewO (.ptr b1 0)
  ·have : d = .any := by
    match i,hi,hd with
    | 0,_,hd=>simpa using hd.symm
    | 1,_,hd=>simpa using hd.symm
    | 3,_,hd=>simpa using hd.symm
    | 4,_,hd=>simpa using hd.symm
    | 5,_,hd=>simpa using hd.symm
    | 6,_,hd=>simpa using hd.symm
    | 7,_,hd=>simpa using hd.symm
    | 8,_,hd=>simpa using hd.symm
    | 9,_,hd=>simpa using hd.symm
    | 10,_,hd=>simpa using hd.symm
    | 11,_,hd=>simpa using hd.symm
    | 12,_,hd=>simpa using hd.symm
    | i + 13,_,hd=>simp at hd
   subst this
   exact RepV.viewO (.any v)
 ·intro y hy
  obtain ⟨z,_,rfl⟩ := List.mem_map.1 hy
  exact ⟨rfl,rfl⟩
 ·intro pre x hp
  obtain ⟨y,rfl,hl,h3⟩ := hag pre x hp
  have hyd : agI y = .agg [.int .i64 y.o,.int .i64 y.s,.int .i64 y.i] := rfl
  rw [List.nil_append]
  generalize hpp : pre.map cellsOf = pp at h3
  have hpl : pp.length ≤ 1073741824 := by rw [← hpp,List.length_map]; omega
  rw [hyd]
  simp +contextual only [x83,mapD_len,q_nextN,↓U83,↓XP,↓XU,XW0,XW1,qa,qb,qc,qd,qe,qf,reduceCtorEq,TYX]
  rintro b5 ⟨n15,_⟩
  exact ⟨h3,by omega⟩
 ·intro L J hL hy
  refine hit L J hL hy _ fun d=>⟨H2,rfl,rfl⟩
 ·rintro _ rfl
  rw [List.nil_append,agI_cells]
  simp +contextual only [x83,mapD_len,↓U83,↓XP,↓XU,XW0,XW1,qa,qb,qc,qd,qe,qf,reduceCtorEq,TYX]
  intro _
  rw [back_1 hlen]
  exact h
theorem f_collect {g : FuncId} {caps : List D} (hisb : isB caps = false) (hcall : callOk Try.prog g = true) (hcap : ∀ d ∈ caps,∃ b o,d = .ptr b o) {ys : List Id3} (hys : ys.length ≤ 1073741824) {H H2 : AH} (hlen : H2.length = H.length) {R : D → AH → Prop}
  (hit : ∀ L J,freshH H L → (∀ pre x,pre ++ [x] <+: ys.map agI → YStep Try.prog L J pre x) → ∀ R' : D → AH → Prop,(∀ d,R' d ((L,.lp J (ys.map agI)) :: H2)) → ACall Try.prog g (capA [.yld L] caps) ((L,.lp J []) :: H) R')
  (h : R (.slc (mapD Id3.d ys)) H2) : ACall Try.prog 71 [.fn g caps] H R := by
 refine b71 fun hf=>?_
 have hbig := big_eq
 simp +contextual only [x71,mapD_len,x_cn,↓u71_s0,↓XP,↓XU,XW0,XW1,qa,qb,qc,qd,qe,qf,reduceCtorEq,TYX]
 refine f_apseq hisb hcall hcap hys hlen hit ?_
 simp +contextual only [x71,mapD_len,↓u71_s0,↓XP,↓XU,XW0,XW1,qa,qb,qc,qd,qe,qf,reduceCtorEq,TYX]
 intro _
 rw [← hlen,back_self]
 exact h
end Go.Proofs.Ytffbjejmobhpkaa
end
section
namespace Go.Proofs.Ytffbjejmobhpkaa
open Go Go.Aw
theorem f_way {x : Ix} {fr to : Id3} {H : AH} {R : D → AH → Prop} (h : ∀ c3 c4 c5,freshH H c3 → (¬ c3 = c4 ∧ freshH H c4) → (¬ c4 = c5 ∧ ¬ c3 = c5 ∧ freshH H c5) → R (.fn 84 [.ptr c5 0,.ptr c3 0,.ptr c4 0]) ((c5,.cells to.d) :: (c4,.cells fr.d) :: (c3,.cells x.d) :: H)) :
  ACall Try.prog 72 [.agg x.d,.agg fr.d,.agg to.d] H R := by
 refine r72 fun hf=>?_
 simp +contextual only [x72,↓XP,↓XU,XW0,XW1,qa,qb,qc,qd,qe,qf,reduceCtorEq,TYX]
 intro c3 h3 c4 h4 c5 h5
 exact ⟨_,Sbn.sub (List.Sublist.refl _),h c3 c4 c5 h3 h4 h5⟩
def resP (x : Ix) (fr to : Id3) : Id3 × Int :=
 let way := wayP x fr to
 let last := way.getD (way.length - 1) default
 if x.s last = true then
  if (nextP x fr last).2 = 0 then
   let c := way.drop (way.idxOf (hd1 (nextP x fr last).1))
   (minF ordI (hd1 c) c.tail,0)
  else (id0,(nextP x fr last).2)
 else (id0,14)
theorem back9 {x1 x2 x3 x4 x5 x6 x7 x8 x9 : Nat × AO} {H : AH} {P : AH → Prop} (h : P H) : P (back H.length (x1 :: x2 :: x3 :: x4 :: x5 :: x6 :: x7 :: x8 :: x9 :: H)) := by
 rw [show back H.length (x1 :: x2 :: x3 :: x4 :: x5 :: x6 :: x7 :: x8 :: x9 :: H) = H from back_app (A := [x1,x2,x3,x4,x5,x6,x7,x8,x9])]
 exact h
theorem f_resolve {x : Ix} (hx : IxOk x) {fr to : Id3} {H : AH} {R : D → AH → Prop} (h : ∀ y,y = (wayP x fr to).getD ((wayP x fr to).length - 1) default → R (.tup [.agg (resP x fr to).1.d,.agg (Id3.d y),.int .i64 (resP x fr to).2]) H) : ACall Try.prog 56 [.agg x.d,.agg fr.d,.agg to.d] H R := by
 refine b56 fun hf=>?_
 have hbig := big_eq
 have hxd : x.d = [.mpv (mapE Id3.d D.bool x.se),.mpv (mapE Id3.d Ev.d x.ev),.mpv (mapE qD slD x.ch)] := rfl
 have hfd : fr.d = [.int .i64 fr.o,.int .i64 fr.s,.int .i64 fr.i] := rfl
 have htd : to.d = [.int .i64 to.o,.int .i64 to.s,.int .i64 to.i] := rfl
 simp +contextual only [x56,mapD_len,hxd,hfd,htd,↓U56,↓XP,↓XU,XW0,XW1,qa,qb,qc,qd,qe,qf,reduceCtorEq,TYX]
 rintro b3 h3 b4 ⟨n34,h4⟩ b5 ⟨n45,n35,h5⟩ b6 ⟨n56,n46,n36,h6⟩ b7 ⟨n67,n57,n47,n37,h7⟩
 simp +contextual only [x56,mapD_len,h_miss,h_skip,n34,n45,n35,n56,n46,n36,n67,n57,n47,n37,↓U56,↓XP,↓XU,XW0,XW1,qa,qb,qc,qd,qe,qf,reduceCtorEq,TYX]
 refine f_way (x := x) (fr := fr) (to := to) fun c3 c4 c5 k3 k4 k5=>?_
 obtain ⟨p37,p36,p35,p34,p33,_⟩ := k3
 obtain ⟨n34c,p47,p46,p45,p44,p43,_⟩ := k4
 obtain ⟨n45c,n35c,p57,p56,p55,p54,p53,_⟩ := k5
 simp +contextual only [x56,mapD_len,↓U56,↓XP,↓XU,XW0,XW1,qa,qb,qc,qd,qe,qf,reduceCtorEq,TYX]
 have hwl : (wayP x fr to).length ≤ 1073741824 := by
  have h1 := wayF_len (x := x) (fr := fr) (k := wayN x) (mm := []) (to := to)
  have h2 := hx.se
  unfold wayP
  unfold wayN at h1 ⊢
  omega
 obtain ⟨w0,last,hw,hon⟩ := wayP_on (x := x) (fr := fr) (to := to)
 refine f_collect (g := 84) (caps := [.ptr c5 0,.ptr c3 0,.ptr c4 0]) (ys := wayP x fr to) (H2 := (c5,.cells (wayE x fr (wayN x) [] to).d) :: (c4,.cells fr.d) :: (c3,.cells x.d) :: (b7,.cells [.int .i64 0,.int .i64 0,.int .i64 0]) :: (b6,.cells [.int .i64 0,.int .i64 0,.int .i64 0]) :: (b5,.cells to.d) :: (b4,.cells fr.d) :: (b3,.cells x.d) :: H) rfl (by kernel_rfl) (fun d hd=>by simp only [List.mem_cons,List.not_mem_nil,or_false] at hd; rcases hd with rfl | rfl | rfl <;> exact ⟨_,_,rfl⟩) hwl ?_ (fun L J hL hy R' h'=>?_) ?_
 ·rfl
 ·obtain ⟨q5,q4,q3,_⟩ := hL
  exact f_way1 hx ⟨Ne.symm q5,Ne.symm q4,Ne.symm q3,n45c,n35c,n34c⟩ hy h'
 have hlen : (wayP x fr to).length = w0.length + 1 := by rw [hw]; simp
 have hgl : (mapD Id3.d (wayP x fr to)).getD w0.length [] = last.d := by
  rw [mapD_get (by omega),hw]
  simp
 have hlast : (wayP x fr to).getD ((wayP x fr to).length - 1) default = last := by rw [hlen,hw]; simp
 have hld : last.d = [.int .i64 last.o,.int .i64 last.s,.int .i64 last.i] := rfl
 have hw1 : IntKind.i64.wrap (((wayP x fr to).length : Int) - 1) = ((w0.length : Nat) : Int) := by rw [wrap_id (by omega) (by omega)]; omega
 have hlt : (((w0.length : Nat) : Int) < ((wayP x fr to).length : Int)) = True := eq_true (by omega)
 have hres : resP x fr to = if x.s last = true then (if (nextP x fr last).2 = 0 then (minF ordI (hd1 ((wayP x fr to).drop ((wayP x fr to).idxOf (hd1 (nextP x fr last).1)))) ((wayP x fr to).drop ((wayP x fr to).idxOf (hd1 (nextP x fr last).1))).tail,0) else (id0,(nextP x fr last).2)) else (id0,14) := by
  unfold resP
  simp only [hlast]
 have hk : ∀ y c,resP x fr to = (y,c) → R (.tup [.agg y.d,.agg last.d,.int .i64 c]) H := fun y c e=>by have := h last hlast.symm; rw [e] at this; exact this
 by_cases hs : x.s last = true
 ·rw [if_pos hs] at hres
  have hs' : (lookP x.se last).getD false = true := hs
  simp +contextual only [x56,mapD_len,hxd,hfd,htd,hgl,hld,hw1,hlt,Int.toNat_natCast,keys_id (x := last),look_id (x := last),opt_b,hs',h_miss,h_skip,n34,n45,n35,n56,n46,n36,n67,n57,n47,n37,Ne.symm p37,Ne.symm p36,Ne.symm p35,Ne.symm p34,Ne.symm p33,Ne.symm p47,Ne.symm p46,Ne.symm p45,Ne.symm p44,Ne.symm p43,Ne.symm p57,Ne.symm p56,Ne.symm p55,Ne.symm p54,Ne.symm p53,↓U56,↓XP,↓XU,XW0,XW1,qa,qb,qc,qd,qe,qf,reduceCtorEq,TYX]
  rintro _ b10 ⟨m5,m4,m3,m7,m6,m15,m14,m13,_⟩
  obtain ⟨l,e,hle⟩ : ∃ l e,nextP x fr last = (l,e) := ⟨_,_,rfl⟩
  have hne := next_ne (x := x) (fr := fr) (to := last)
  have hst : stopN x fr last = !decide ((nextP x fr last).2 = 0) := by unfold stopN; rw [hs]; simp
  rw [hst] at hon
  refine f_next hx (fr := fr) (to := last) ?_
  rw [hle] at hres hne hon ⊢
  dsimp only at hres hne hon ⊢
  by_cases he : e = 0
  ·rw [if_pos he] at hres
   have he' : (e = 0) = True := eq_true he
   have hmem := hon (by rw [decide_eq_true he]; rfl)
   have hl0 := hne he
   have g := mapD_get (f := Id3.d) hl0
   have g' : (mapD Id3.d l).getD 0 [] = (hd1 l).d := g
   have hyd : (hd1 l).d = [.int .i64 (hd1 l).o,.int .i64 (hd1 l).s,.int .i64 (hd1 l).i] := rfl
   have hlt2 : ((0 : Int) < (l.length : Int)) = True := eq_true (by omega)
   simp +contextual only [x56,mapD_len,he',hxd,g',hyd,hlt2,h_miss,h_skip,n34,n45,n35,n56,n46,n36,n67,n57,n47,n37,Ne.symm p37,Ne.symm p36,Ne.symm p35,Ne.symm p34,Ne.symm p33,Ne.symm p47,Ne.symm p46,Ne.symm p45,Ne.symm p44,Ne.symm p43,Ne.symm p57,Ne.symm p56,Ne.symm p55,Ne.symm p54,Ne.symm p53,e_miss,e_hit,m5,m4,m3,m7,m6,m15,m14,m13,Ne.symm n56,Ne.symm n46,Ne.symm n36,Ne.symm n57,Ne.symm n47,Ne.symm n37,freshH_none h6,freshH_none h7,↓U56,↓XP,↓XU,XW0,XW1,qa,qb,qc,qd,qe,qf,reduceCtorEq,TYX]
   intros
   refine f_index (x := hd1 l) ?_
   rw [if_pos hmem]
   have hix := List.idxOf_lt_length_of_mem hmem
   obtain ⟨c,hc⟩ : ∃ c,(wayP x fr to).drop ((wayP x fr to).idxOf (hd1 l)) = c := ⟨_,rfl⟩
   rw [hc] at hres
   have hcl : 0 < c.length := by rw [← hc,List.length_drop]; omega
   have hcc : c = hd1 c :: c.tail := by
    cases c with
    | nil=>simp at hcl
    | cons y r=>rfl
   have hdr : (((mapD Id3.d (wayP x fr to)).take (wayP x fr to).length).drop ((wayP x fr to).idxOf (hd1 l))) = mapD Id3.d c := by
    rw [← hc,← mapD_drop,List.take_of_length_le (by rw [mapD_len]; exact Nat.le_refl _)]
   generalize (wayP x fr to).idxOf (hd1 l) = ix at hix hdr
   simp +contextual only [x56,mapD_len,Int.toNat_natCast,hdr,↓U56,↓XP,↓XU,XW0,XW1,qa,qb,qc,qd,qe,qf,reduceCtorEq,TYX]
   intro _
   refine ⟨mapD_sz fun _=>rfl,by omega,_,fun _ _=>f_min hcc (fun x y H' R' h'=>f_iorder h') ⟨rfl,rfl⟩,?_⟩
   generalize minF ordI (hd1 c) c.tail = yr at hres
   have hyr : yr.d = [.int .i64 yr.o,.int .i64 yr.s,.int .i64 yr.i] := rfl
   simp +contextual only [x56,mapD_len,hyr,hld,h_miss,h_skip,n34,n45,n35,n56,n46,n36,n67,n57,n47,n37,Ne.symm p37,Ne.symm p36,Ne.symm p35,Ne.symm p34,Ne.symm p33,Ne.symm p47,Ne.symm p46,Ne.symm p45,Ne.symm p44,Ne.symm p43,Ne.symm p57,Ne.symm p56,Ne.symm p55,Ne.symm p54,Ne.symm p53,e_miss,e_hit,m5,m4,m3,m7,m6,m15,m14,m13,Ne.symm n56,Ne.symm n46,Ne.symm n36,Ne.symm n57,Ne.symm n47,Ne.symm n37,freshH_none h6,freshH_none h7,↓U56,↓XP,↓XU,XW0,XW1,qa,qb,qc,qd,qe,qf,reduceCtorEq,TYX]
   intros
   exact back9 (P := R _) (hk yr 0 hres)
  ·rw [if_neg he] at hres
   have he' : (e = 0) = False := eq_false he
   simp +contextual only [x56,mapD_len,he',hxd,hld,h_miss,h_skip,n34,n45,n35,n56,n46,n36,n67,n57,n47,n37,Ne.symm p37,Ne.symm p36,Ne.symm p35,Ne.symm p34,Ne.symm p33,Ne.symm p47,Ne.symm p46,Ne.symm p45,Ne.symm p44,Ne.symm p43,Ne.symm p57,Ne.symm p56,Ne.symm p55,Ne.symm p54,Ne.symm p53,e_miss,e_hit,m5,m4,m3,m7,m6,m15,m14,m13,Ne.symm n56,Ne.symm n46,Ne.symm n36,Ne.symm n57,Ne.symm n47,Ne.symm n37,freshH_none h6,freshH_none h7,↓U56,↓XP,↓XU,XW0,XW1,qa,qb,qc,qd,qe,qf,reduceCtorEq,TYX]
   intros
   exact back9 (P := R _) (hk id0 e hres)
 ·rw [if_neg hs] at hres
  have hs' : (lookP x.se last).getD false = false := by simpa [Ix.s] using hs
  simp +contextual only [x56,mapD_len,hxd,hfd,htd,hgl,hld,hw1,hlt,Int.toNat_natCast,keys_id (x := last),look_id (x := last),opt_b,hs',h_miss,h_skip,n34,n45,n35,n56,n46,n36,n67,n57,n47,n37,Ne.symm p37,Ne.symm p36,Ne.symm p35,Ne.symm p34,Ne.symm p33,Ne.symm p47,Ne.symm p46,Ne.symm p45,Ne.symm p44,Ne.symm p43,Ne.symm p57,Ne.symm p56,Ne.symm p55,Ne.symm p54,Ne.symm p53,↓U56,↓XP,↓XU,XW0,XW1,qa,qb,qc,qd,qe,qf,reduceCtorEq,TYX]
  rintro _ b10 ⟨m5,m4,m3,m7,m6,m15,m14,m13,_⟩
  simp +contextual only [x56,mapD_len,hld,h_miss,h_skip,n34,n45,n35,n56,n46,n36,n67,n57,n47,n37,Ne.symm p37,Ne.symm p36,Ne.symm p35,Ne.symm p34,Ne.symm p33,Ne.symm p47,Ne.symm p46,Ne.symm p45,Ne.symm p44,Ne.symm p43,Ne.symm p57,Ne.symm p56,Ne.symm p55,Ne.symm p54,Ne.symm p53,e_miss,e_hit,m5,m4,m3,m7,m6,m15,m14,m13,Ne.symm n56,Ne.symm n46,Ne.symm n36,Ne.symm n57,Ne.symm n47,Ne.symm n37,freshH_none h6,freshH_none h7,↓U56,↓XP,↓XU,XW0,XW1,qa,qb,qc,qd,qe,qf,reduceCtorEq,TYX]
  exact back9 (P := R _) (hk id0 14 hres)
end Go.Proofs.Ytffbjejmobhpkaa
end
section
namespace Go.Proofs.Ytffbjejmobhpkaa
open Go Go.Aw
theorem srt_app {l m : List Id3} : m.foldl ins (srt l) = srt (l ++ m) := by
 unfold srt
 rw [List.foldl_append]
 rfl
structure EvRel (e : Ev) (r : REv) : Prop where
 n : r.n = e.n
 pos : 0 ≤ e.n
 all : r.all = srt e.all
 z : e.n = 0 → e.one = [] ∧ r.one = []
 o : e.n = 1 → r.one = e.one
theorem EvRel.zero : EvRel ev0 ⟨0,[],[]⟩ := ⟨rfl,by decide,rfl,fun _=>⟨rfl,rfl⟩,fun h=>by cases h⟩
theorem defl_dfK {s : Spl} : dfK s s.parts.length [] = defl s := by
 unfold dfK defl
 rfl
theorem rel_S {x : Id3} : ∀ {l : List Spl} {m : List (Id3 × Ev)} {r : REv},EvRel ((lookP m x).getD ev0) r → EvRel ((lookP (l.foldl ofS m) x).getD ev0) (l.foldl (rSp x) r)
 | [],m,r,h=>h
 | s :: l,m,r,h=>by
  rw [List.foldl_cons,List.foldl_cons]
  refine rel_S ?_
  unfold ofS rSp
  rw [look_upd]
  by_cases hx : s.on = x
  ·subst hx
   rw [if_pos rfl,if_pos rfl]
   have h1 := h.pos
   refine ⟨by dsimp only [Option.getD_some]; rw [h.n],by dsimp only [Option.getD_some]; omega,by dsimp only [Option.getD_some]; rw [h.all,srt_app],fun e=>?_,fun e=>?_⟩
   ·dsimp only [Option.getD_some] at e; omega
   ·dsimp only [Option.getD_some] at e ⊢
    rw [(h.z (by omega)).2]
    exact defl_dfK
  ·rw [if_neg (fun e=>hx e.symm),if_neg hx]
   exact h
theorem rel_M {x : Id3} : ∀ {l : List Mg} {m : List (Id3 × Ev)} {r : REv},EvRel ((lookP m x).getD ev0) r → EvRel ((lookP (l.foldl ofM m) x).getD ev0) (l.foldl (rMg x) r)
 | [],m,r,h=>h
 | s :: l,m,r,h=>by
  rw [List.foldl_cons,List.foldl_cons]
  refine rel_M ?_
  unfold ofM rMg
  rw [look_upd]
  by_cases hx : s.on = x
  ·subst hx
   rw [if_pos rfl,if_pos rfl]
   have h1 := h.pos
   refine ⟨by dsimp only [Option.getD_some]; rw [h.n],by dsimp only [Option.getD_some]; omega,by dsimp only [Option.getD_some]; rw [h.all]; exact srt_app (m := [s.to]),fun e=>?_,fun e=>?_⟩
   ·dsimp only [Option.getD_some] at e; omega
   ·rfl
  ·rw [if_neg (fun e=>hx e.symm),if_neg hx]
   exact h
theorem ev_rel {b : Bk} {x : Id3} : EvRel ((ixP b).e x) (rEv b x) := rel_M (rel_S (m := []) EvRel.zero)
theorem ch_rel {b : Bk} {fr to : Id3} : ∀ {l : List Ch} {m : List ((Id3 × Id3) × List Id3)} {a : List Id3},a = srt ((lookP m (fr,to)).getD []) →
  l.foldl (rChS fr to (rEv b to).all) a = srt ((lookP (l.foldl (ofC (evsP b)) m) (fr,to)).getD [])
 | [],m,a,h=>h
 | c :: l,m,a,h=>by
  rw [List.foldl_cons,List.foldl_cons]
  refine ch_rel ?_
  unfold rChS ofC
  have hall : ∀ y,y ∈ (rEv b to).all ↔ y ∈ ((lookP (evsP b) to).getD ev0).all := fun y=>by
   rw [(ev_rel (b := b) (x := to)).all,srt_mem]
   rfl
  by_cases hc : c.on = fr ∧ c.to = to
  ·obtain ⟨h1,h2⟩ := hc
   subst h1 h2
   by_cases hp : c.part ∈ (rEv b c.to).all
   ·rw [if_pos ⟨rfl,rfl,hp⟩,if_pos ((hall _).1 hp),look_upd,if_pos rfl,h]
    exact srt_app (m := [c.part])
   ·rw [if_neg (fun e=>hp e.2.2),if_neg (fun e=>hp ((hall _).2 e))]
    exact h
  ·rw [if_neg (fun e=>hc ⟨e.1,e.2.1⟩)]
   split
   ·rw [look_upd,if_neg (fun e=>hc (by injection e with e1 e2; exact ⟨e1.symm,e2.symm⟩))]
    exact h
   ·exact h
theorem next_eq {b : Bk} {fr to : Id3} : nextP (ixP b) fr to = rNext b fr to := by
 have h := ev_rel (b := b) (x := to)
 have hc : rCh b fr to = srt ((ixP b).c fr to) := ch_rel (m := []) rfl
 unfold nextP rNext
 rw [h.n,hc,h.all]
 split
 ·rfl
 ·split
  ·rfl
  ·split
   ·rfl
   ·by_cases h1 : ((ixP b).e to).n = 1
    ·rw [h.o h1]
    ·rw [if_neg (fun e=>h1 e.1),if_neg (fun e=>h1 e.1)]
theorem sen_eq {b : Bk} {x : Id3} : (ixP b).s x = rSen b x := by
 have : ∀ {l : List Sn} {m : List (Id3 × Bool)},(lookP (l.foldl sensS m) x).getD false = ((lookP m x).getD false || l.any fun s=>decide (s.id = x)) := by
  intro l
  induction l with
  | nil=>intro m; simp
  | cons s l ih =>
   intro m
   rw [List.foldl_cons,ih,List.any_cons]
   unfold sensS
   rw [look_upd]
   by_cases hx : x = s.id
   ·subst hx; simp
   ·have hx' : ¬ s.id = x := fun e=>hx e.symm
    simp [hx,hx']
 have h2 := this (l := b.sn) (m := [])
 simpa [lookP,rSen,Ix.s,ixP,sensP] using h2
theorem path_eq {b : Bk} {fr : Id3} : ∀ {n k : Nat} {mm : List (Id3 × Bool)} {pre : List Id3} {to : Id3},WayR b (pre ++ [to]) → n + (pre ++ [to]).length = b.sn.length + 3 → MetOk (ixP b) mm → (ixP b).se.length + 2 ≤ k + mm.length → (∀ y,vis mm y = true ↔ y ∈ pre) →
  rPathF b fr n (pre ++ [to]) = pre ++ wayF (ixP b) fr k mm to
 | 0,k,mm,pre,to,hw,hn,hm,hk,hv=>by have := hw.len; omega
 | n + 1,0,mm,pre,to,hw,hn,hm,hk,hv=>by have := hm.len; omega
 | n + 1,k + 1,mm,pre,to,hw,hn,hm,hk,hv=>by
  have hnp : to ∉ pre := fun h=>by
   have := hw.nd
   rw [List.nodup_append] at this
   exact this.2.2 to h to (by simp) rfl
  have hvt : vis mm to = false := by
   cases hvv : vis mm to with
   | false=>rfl
   | true=>exact absurd ((hv to).1 hvv) hnp
  unfold wayF
  rw [rPathF,lastI_app,if_neg (show ¬ vis mm to = true by rw [hvt]; decide),next_eq,← sen_eq]
  by_cases hs : stopN (ixP b) fr to = true
  ·rw [if_pos hs,if_neg (fun e=>?_)]
   unfold stopN at hs
   rw [next_eq,e.1,decide_eq_true e.2.1] at hs
   cases hs
  ·rw [if_neg hs]
   have hs' : stopN (ixP b) fr to = false := by simpa using hs
   obtain ⟨q1,q2⟩ := stop_s hs'
   rw [next_eq] at q2
   obtain ⟨p1,p2⟩ := hm.add hvt q1
   have hv2 : ∀ y,vis (updP mm to true) y = true ↔ y ∈ pre ++ [to] := fun y=>by
    unfold vis
    rw [look_upd,List.mem_append,List.mem_singleton]
    by_cases hy : y = to
    ·simp [hy]
    ·rw [if_neg hy]
     have := hv y
     unfold vis at this
     rw [this]
     simp [hy]
   generalize hy : hd1 (rNext b fr to).1 = y
   by_cases hmem : y ∈ pre ++ [to]
   ·rw [if_neg (fun e=>e.2.2 hmem)]
    cases k with
    | zero=>unfold wayF; rfl
    | succ k =>
     unfold wayF
     rw [if_pos ((hv2 y).2 hmem)]
   ·rw [if_pos ⟨q1,q2,hmem⟩]
    have hadd := hw.add (x := y) (by rw [lastI_app,← sen_eq]; exact q1) hmem
    rw [path_eq (n := n) (k := k) (mm := updP mm to true) (pre := pre ++ [to]) (to := y) hadd (by rw [List.length_append,List.length_singleton]; omega) p1 (by rw [p2]; omega) hv2]
    simp
theorem way_eq {b : Bk} {fr to : Id3} : rPath b fr to = wayP (ixP b) fr to := by
 have := path_eq (b := b) (fr := fr) (n := b.sn.length + 2) (k := wayN (ixP b)) (mm := []) (pre := []) (to := to) ⟨by simp,by simp,by simp⟩ (by simp) ⟨by simp,by simp⟩ (by simp [wayN]) (fun y=>by simp [vis,lookP])
 exact this
theorem min_eq : ∀ {l : List Id3} {m : Id3},minF ordI m l = l.foldl lesI m
 | [],m=>rfl
 | x :: l,m=>by
  rw [List.foldl_cons,minF,min_eq]
  unfold lesI
  by_cases h : x.lt m
  ·rw [if_pos h,if_pos (ordI_neg.2 h)]
  ·rw [if_neg h,if_neg (fun e=>h (ordI_neg.1 e))]
theorem res_eq {b : Bk} {fr to : Id3} : resP (ixP b) fr to = rRes b fr to := by
 unfold resP rRes
 have hl : (wayP (ixP b) fr to).getD ((wayP (ixP b) fr to).length - 1) default = lastI (wayP (ixP b) fr to) := rfl
 simp only [hl,way_eq,sen_eq,next_eq]
 split
 ·split
  ·rename_i h1 h2
   have hon := (rPath_on (b := b) (fr := fr) (to := to)).2
   rw [way_eq] at hon
   have hmem := hon h1 h2
   have hix := List.idxOf_lt_length_of_mem hmem
   generalize (wayP (ixP b) fr to).idxOf (hd1 (rNext b fr (lastI (wayP (ixP b) fr to))).1) = ix at hix
   generalize wayP (ixP b) fr to = way at hix
   rw [min_eq,drop_cons hix]
   show ((way.drop (ix + 1)).foldl lesI (way.getD ix default),(0 : Int)) = _
   rw [List.foldl_cons,show lesI (way.getD ix default) (way.getD ix default) = way.getD ix default by unfold lesI; rw [if_neg lt_irr]]
  ·rfl
 ·rfl
end Go.Proofs.Ytffbjejmobhpkaa
end
section
namespace Go.Proofs.Ytffbjejmobhpkaa
open Go Go.Aw
theorem f_Resolve {b : Bk} (hb : Small b) (hx : IxOk (ixP b)) {fr to : Id3} {H : AH} {R : D → AH → Prop} (h : R (.tup [.agg (resP (ixP b) fr to).1.d,.int .i64 (resP (ixP b) fr to).2]) H) : ACall Try.prog 50 [.agg b.d,.agg fr.d,.agg to.d] H R := by
 refine b50 fun hf=>?_
 have hbd : b.d = [.slc (mapD En.d b.en),.slc (mapD Sn.d b.sn),.slc (mapD Sr.d b.sr),.slc (mapD Qt.d b.qt),.slc (mapD Spl.d b.sl),.slc (mapD Mg.d b.mg),.slc (mapD Ch.d b.ch)] := rfl
 have hfd : fr.d = [.int .i64 fr.o,.int .i64 fr.s,.int .i64 fr.i] := rfl
 have htd : to.d = [.int .i64 to.o,.int .i64 to.s,.int .i64 to.i] := rfl
 simp +contextual only [x50,mapD_len,hbd,hfd,htd,↓U50,↓XP,↓XU,XW0,XW1,qa,qb,qc,qd,qe,qf,reduceCtorEq,TYX]
 rintro b3 h3 b4 ⟨n34,h4⟩ b5 ⟨n45,n35,h5⟩ b6 ⟨n56,n46,n36,h6⟩
 simp +contextual only [x50,mapD_len,hbd,hfd,htd,h_miss,h_skip,n34,n45,n35,n56,n46,n36,↓U50,↓XP,↓XU,XW0,XW1,qa,qb,qc,qd,qe,qf,reduceCtorEq,TYX]
 refine ⟨_,fun _ _=>f_of hb ⟨rfl,rfl⟩,?_⟩
 simp +contextual only [x50,mapD_len,hbd,hfd,htd,h_miss,h_skip,n34,n45,n35,n56,n46,n36,↓U50,↓XP,↓XU,XW0,XW1,qa,qb,qc,qd,qe,qf,reduceCtorEq,TYX]
 intros
 refine ⟨_,fun _ _=>f_resolve hx (fr := fr) (to := to) fun y hy=>⟨by rw [hy],rfl⟩,?_⟩
 generalize (resP (ixP b) fr to).1 = y at h
 generalize (resP (ixP b) fr to).2 = e at h
 generalize (wayP (ixP b) fr to).getD ((wayP (ixP b) fr to).length - 1) default = l
 have hyd : y.d = [.int .i64 y.o,.int .i64 y.s,.int .i64 y.i] := rfl
 have hld : l.d = [.int .i64 l.o,.int .i64 l.s,.int .i64 l.i] := rfl
 simp +contextual only [x50,mapD_len,hbd,hfd,htd,hyd,hld,h_miss,h_skip,n34,n45,n35,n56,n46,n36,↓U50,↓XP,↓XU,XW0,XW1,qa,qb,qc,qd,qe,qf,reduceCtorEq,TYX]
 exact fun _=>⟨by omega,by omega,fun _ _ _ _=>h⟩
end Go.Proofs.Ytffbjejmobhpkaa
end
