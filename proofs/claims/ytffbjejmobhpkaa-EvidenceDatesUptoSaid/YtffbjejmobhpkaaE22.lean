/- A part of the proof of what the last text says: Ewd, Ewe, Ewa, Ewf, Ep4, Ewg. Conditions: those in each theorem. -/
import Derived.Test.YtffbjejmobhpkaaE21
set_option linter.unusedVariables false
set_option linter.unusedSimpArgs false
set_option maxRecDepth 100000
set_option maxHeartbeats 16000000
open Nat renaming reduceSub → qa,reduceAdd → qb,reduceMul → qc,reduceEqDiff → qd,reduceLeDiff → qe,reduceBEq → qf
section
namespace Go.Proofs.Ytffbjejmobhpkaa
open Go Go.Aw
theorem of_s14 {b1 b2 b3 m1 m2 m3 b7 b8 i : Nat} {b : Bk} {s : Mg} {n : Int} {c : ClA} {c2 : D} {se : List (Id3 × Bool)} {ev : List (Id3 × EvA)} {ch : List ((Id3 × Id3) × ClA)} (hd : Ds6 b1 b2 b3 m1 m2 m3)
  (h7 : ¬ b3 = b7 ∧ ¬ m3 = b7 ∧ ¬ m2 = b7 ∧ ¬ m1 = b7 ∧ ¬ b2 = b7 ∧ ¬ b1 = b7) (h8 : ¬ b7 = b8 ∧ ¬ b3 = b8 ∧ ¬ m3 = b8 ∧ ¬ m2 = b8 ∧ ¬ m1 = b8 ∧ ¬ b2 = b8 ∧ ¬ b1 = b8)
  (hn : 0 ≤ n ∧ n ≤ 131072) (hcl : c.xs.length ≤ 8589934592) {H : AH}
  (hc : c.xs ≠ [] → getH H c.b = some (.room c.cap (mapD Id3.d c.xs)) ∧ c.b ∉ [b1,b2,b3,m1,m2,m3,b7,b8])
  {F : List D} (hF : Fr 146 [(1,.ptr b1 0),(2,.ptr b2 0),(3,.ptr b3 0),(10,.ptr b7 0),(11,.ptr b8 0),(81,.slc (mapD Mg.d b.mg)),(82,.int .i64 b.mg.length),(83,.int .i64 ((i : Nat) : Int))] F) {Q : AQ} (hQ : ∀ b' cap' F',¬ b8 = b' ∧ ¬ b7 = b' ∧ ¬ b3 = b' ∧ ¬ m3 = b' ∧ ¬ m2 = b' ∧ ¬ m1 = b' ∧ ¬ b2 = b' ∧ ¬ b1 = b' ∧ freshH (cut H c) b' → Fr 146 [(1,.ptr b1 0),(2,.ptr b2 0),(3,.ptr b3 0),(81,.slc (mapD Mg.d b.mg)),(82,.int .i64 b.mg.length),(83,.int .i64 ((i : Nat) : Int))] F' →
   ∀ cs,Q .normal F' ((b',.room cap' (mapD Id3.d (c.xs ++ [s.to]))) :: (b8,.cells cs) :: (b7,.cells s.d) :: ofH b1 b2 b3 m1 m2 m3 b se (updP ev s.on ⟨n + 1,⟨b',cap',c.xs ++ [s.to]⟩,[s.to]⟩) ch (cut H c))) :
  xcode Try.prog x55_s14 F ((b8,.cells [.int .i64 n,c.d,c2]) :: (b7,.cells s.d) :: ofH b1 b2 b3 m1 m2 m3 b se ev ch H) Q := by
 have hbig := big_eq
 obtain ⟨n12,n1m1,n1m2,n1m3,n13,n2m1,n2m2,n2m3,n23,m12,m13,m1b,m23,m2b,m3b⟩ := hd
 obtain ⟨n37,nm37,nm27,nm17,n27,n17⟩ := h7
 obtain ⟨n78,n38,nm38,nm28,nm18,n28,n18⟩ := h8
 obtain ⟨z,rfl⟩ : ∃ z : Nat → D,_ = z 0 :: .ptr b1 0 :: .ptr b2 0 :: .ptr b3 0 :: zz z 4 6 (.ptr b7 0 :: .ptr b8 0 :: zz z 12 69 (.slc (mapD Mg.d b.mg) :: .int .i64 b.mg.length :: .int .i64 ((i : Nat) : Int) :: zz z 84 62 [])) := hF.lit
 try dsimp only [zz,qb] at *
 clear hF
 have hsd : s.d = [.int .i64 s.by_.o,.int .i64 s.by_.s,.int .i64 s.by_.i,.int .i64 s.on.o,.int .i64 s.on.s,.int .i64 s.on.i,.int .i64 s.to.o,.int .i64 s.to.s,.int .i64 s.to.i] := rfl
 have hw : IntKind.i64.wrap (n + 1) = n + 1 := wrap_id (by omega) (by omega)
 have hcd : c.d = .osl c.b c.cap (mapD Id3.d c.xs) := rfl
 have hav : c.xs ≠ [] → (c.b ≠ b1 ∧ c.b ≠ b2 ∧ c.b ≠ b3 ∧ c.b ≠ m1 ∧ c.b ≠ m2 ∧ c.b ≠ m3 ∧ c.b ≠ b7 ∧ c.b ≠ b8) := fun hx=>by
  have := (hc hx).2
  simp only [List.mem_cons,List.not_mem_nil,or_false,not_or] at this
  exact this
 have hme : mapD Id3.d c.xs = [] ↔ c.xs = [] := by simp [mapD]
 have hdrop : dropR ((b7,.cells s.d) :: ofH b1 b2 b3 m1 m2 m3 b se ev ch H) c.b (mapD Id3.d c.xs) = (b7,.cells s.d) :: ofH b1 b2 b3 m1 m2 m3 b se ev ch (cut H c) := by
  unfold dropR cut
  by_cases hx : c.xs = []
  ·rw [if_pos (hme.2 hx),if_pos hx]
  ·obtain ⟨q1,q2,q3,q4,q5,q6,q7,q8⟩ := hav hx
   rw [if_neg (fun e=>hx (hme.1 e)),if_neg hx]
   unfold ofH
   rw [e_miss q7,e_miss q3,e_miss q6,e_miss q5,e_miss q4,e_miss q2,e_miss q1]
 have hroom : mapD Id3.d c.xs ≠ [] → getH ((b7,.cells s.d) :: ofH b1 b2 b3 m1 m2 m3 b se ev ch H) c.b = some (.room c.cap (mapD Id3.d c.xs)) := fun hx0=>by
  have hx : c.xs ≠ [] := fun e=>hx0 (hme.2 e)
  obtain ⟨q1,q2,q3,q4,q5,q6,q7,q8⟩ := hav hx
  unfold ofH
  rw [h_miss q7,h_miss q3,h_miss q6,h_miss q5,h_miss q4,h_miss q2,h_miss q1]
  exact (hc hx).1
 simp +contextual only [x55,mapD_len,hw,h_miss,h_skip,n12,n1m1,n1m2,n1m3,n13,n2m1,n2m2,n2m3,n23,m12,m13,m1b,m23,m2b,m3b,n37,nm37,nm27,nm17,n27,n17,n78,n38,nm38,nm28,nm18,n28,n18,↓U55,↓XP,↓XU,XW0,XW1,qa,qb,qc,qd,qe,qf,reduceCtorEq,TYX]
 intro _
 rw [c_gh]
 refine Gz.take (j := 1) (b := c.b) (cap := c.cap) (xs := mapD Id3.d c.xs) rfl hroom ?_
 rw [hdrop]
 have hsz : ∀ q : List Id3,∀ y ∈ mapD Id3.d q,y.length = 3 := fun q=>mapD_sz fun _=>rfl
 simp +contextual only [x55,mapD_len,hsd,ids_1 (x := s.to),mapD_app,h_miss,h_skip,n12,n1m1,n1m2,n1m3,n13,n2m1,n2m2,n2m3,n23,m12,m13,m1b,m23,m2b,m3b,n37,nm37,nm27,nm17,n27,n17,n78,n38,nm38,nm28,nm18,n28,n18,↓U55,↓XP,↓XU,XW0,XW1,qa,qb,qc,qd,qe,qf,reduceCtorEq,TYX]
 skip
 have hgive : ∀ c3 : D,∀ F',Fr 146 [(1,.ptr b1 0),(2,.ptr b2 0),(3,.ptr b3 0),(10,.ptr b7 0),(11,.ptr b8 0),(81,.slc (mapD Mg.d b.mg)),(82,.int .i64 b.mg.length),(83,.int .i64 ((i : Nat) : Int))] F' → (∃ o,c3 = .slc o ∧ o = mapD Id3.d ([s.to])) ∨ (∃ o,c3 = .own o ∧ o = mapD Id3.d ([s.to])) → xcode Try.prog x55_s11 F' ((b8,.cells [.int .i64 (n + 1),.own (mapD Id3.d (c.xs ++ [s.to])),c3]) :: (b7,.cells s.d) :: ofH b1 b2 b3 m1 m2 m3 b se ev ch (cut H c)) Q := by
  intro c3 F' hF' hc3
  obtain ⟨z,rfl⟩ : ∃ z : Nat → D,_ = z 0 :: .ptr b1 0 :: .ptr b2 0 :: .ptr b3 0 :: zz z 4 6 (.ptr b7 0 :: .ptr b8 0 :: zz z 12 69 (.slc (mapD Mg.d b.mg) :: .int .i64 b.mg.length :: .int .i64 ((i : Nat) : Int) :: zz z 84 62 [])) := hF'.lit
  try dsimp only [zz,qb] at *
  clear hF'
  have hne : mapD Id3.d (c.xs ++ [s.to]) ≠ [] := by simp [mapD]
  have hc3v : c3.view1 = .slc (mapD Id3.d ([s.to])) := by rcases hc3 with ⟨o,rfl,rfl⟩ | ⟨o,rfl,rfl⟩ <;> rfl
  have hlk : ofH b1 b2 b3 m1 m2 m3 b se ev ch (cut H c) = (b3,.cells [.mp (some m1),.mp (some m2),.mp (some m3)]) :: (m3,.mp (mapE qD ClA.d ch)) :: (m2,.mp (mapE Id3.d EvA.d ev)) :: (m1,.mp (mapE Id3.d D.bool se)) :: (b2,.cells [.mp none,.mp none,.mp none]) :: (b1,.cells b.d) :: cut H c := rfl
  rw [hlk]
  simp +contextual only [x55,mapD_len,↓U55,↓XP,↓XU,XW0,XW1,qa,qb,qc,qd,qe,qf,reduceCtorEq,TYX]
  refine Gz.give (bx := b8) (j := 1) (xs := mapD Id3.d (c.xs ++ [s.to])) (cs := [.int .i64 (n + 1),.own (mapD Id3.d (c.xs ++ [s.to])),c3]) hne (by simp [getH]) rfl fun b' cap' hf=>?_
  obtain ⟨f1,f2,f3,f4,f5,f6,f7,f8,f9⟩ := hf
  have u1 : updD (mapE Id3.d EvA.d ev) (.agg [.int .i64 s.on.o,.int .i64 s.on.s,.int .i64 s.on.i]) (.agg [.int .i64 (n + 1),.osl b' cap' (mapD Id3.d (c.xs ++ [s.to])),.slc (mapD Id3.d ([s.to]))]) = mapE Id3.d EvA.d (updP ev s.on ⟨n + 1,⟨b',cap',c.xs ++ [s.to]⟩,[s.to]⟩) := upd_id (vd := EvA.d) (v := ⟨n + 1,⟨b',cap',c.xs ++ [s.to]⟩,[s.to]⟩)
  simp +contextual only [x55,mapD_len,hsd,hc3v,u1,keys_id (x := s.on),h_miss,h_skip,n12,n1m1,n1m2,n1m3,n13,n2m1,n2m2,n2m3,n23,m12,m13,m1b,m23,m2b,m3b,n37,nm37,nm27,nm17,n27,n17,n78,n38,nm38,nm28,nm18,n28,n18,Ne.symm f1,Ne.symm f2,Ne.symm f3,Ne.symm f4,Ne.symm f5,Ne.symm f6,Ne.symm f7,Ne.symm f8,h_set,↓U55,↓XP,↓XU,XW0,XW1,qa,qb,qc,qd,qe,qf,reduceCtorEq,TYX]
  intros
  exact hQ b' cap' _ ⟨Ne.symm f1,Ne.symm f2,Ne.symm f3,Ne.symm f4,Ne.symm f5,Ne.symm f6,Ne.symm f7,Ne.symm f8,f9⟩ ⟨rfl,rfl,rfl,rfl,rfl,rfl,rfl,trivial⟩ _
 exact ⟨hsz _,hsz _,by omega,by omega,hgive _ _ ⟨rfl,rfl,rfl,rfl,rfl,rfl,rfl,rfl,rfl,trivial⟩ (.inr ⟨_,rfl,rfl⟩)⟩
theorem of_L17 {b1 b2 b3 m1 m2 m3 : Nat} {b : Bk} (hb : Small b) (hd : Ds6 b1 b2 b3 m1 m2 m3) {se : List (Id3 × Bool)} {H : AH} {ev0 : List (Id3 × EvA)} {R0 : AH} {p0 : List (Id3 × Ev)} (hev0 : EvOk [b1,b2,b3,m1,m2,m3] 65536 4294967296 ev0 p0 R0) {F : List D} (hF : Fr 146 [(1,.ptr b1 0),(2,.ptr b2 0),(3,.ptr b3 0),(81,.slc (mapD Mg.d b.mg)),(82,.int .i64 b.mg.length),(83,.int .i64 0)] F) {Q : AQ}
  (hQ : ∀ F' ev R,Fr 146 [(1,.ptr b1 0),(2,.ptr b2 0),(3,.ptr b3 0)] F' → EvOk [b1,b2,b3,m1,m2,m3] 131072 8589934592 ev (b.mg.foldl ofM p0) R → Q (.exit 4) F' (ofH b1 b2 b3 m1 m2 m3 b se ev [] (R ++ H))) : XW Try.prog x55_L17 F (ofH b1 b2 b3 m1 m2 m3 b se ev0 [] (R0 ++ H)) Q := by
 have hbig := big_eq
 have hd0 := hd
 obtain ⟨n12,n1m1,n1m2,n1m3,n13,n2m1,n2m2,n2m3,n23,m12,m13,m1b,m23,m2b,m3b⟩ := hd
 refine XW.loopSR Go.Proofs.Ytffbjejmobhpkaa.hm 146 (fun s : Nat × List (Id3 × EvA) × AH=>[(1,.ptr b1 0),(2,.ptr b2 0),(3,.ptr b3 0),(81,.slc (mapD Mg.d b.mg)),(82,.int .i64 b.mg.length),(83,.int .i64 ((s.1 : Nat) : Int))]) (fun s=>ofH b1 b2 b3 m1 m2 m3 b se s.2.1 [] (s.2.2 ++ H)) (fun s=>b.mg.length - s.1) (fun s=>s.1 ≤ b.mg.length ∧ EvOk [b1,b2,b3,m1,m2,m3] (65536 + s.1) (4294967296 + s.1) s.2.1 ((b.mg.take s.1).foldl ofM p0) s.2.2) (0,ev0,R0) ⟨by omega,hev0.pool,hev0.val,hev0.sz⟩ hF rfl ?_
 rintro ⟨i,ev,R⟩ z ⟨hi,hev⟩ K hN hE hR
 dsimp only at hi hev hN
 show xcode _ _ [z 0,.ptr b1 0,.ptr b2 0,.ptr b3 0,z 4,z 5,z 6,z 7,z 8,z 9,z 10,z 11,z 12,z 13,z 14,z 15,z 16,z 17,z 18,z 19,z 20,z 21,z 22,z 23,z 24,z 25,z 26,z 27,z 28,z 29,z 30,z 31,z 32,z 33,z 34,z 35,z 36,z 37,z 38,z 39,z 40,z 41,z 42,z 43,z 44,z 45,z 46,z 47,z 48,z 49,z 50,z 51,z 52,z 53,z 54,z 55,z 56,z 57,z 58,z 59,z 60,z 61,z 62,z 63,z 64,z 65,z 66,z 67,z 68,z 69,z 70,z 71,z 72,z 73,z 74,z 75,z 76,z 77,z 78,z 79,z 80,.slc (mapD Mg.d b.mg),.int .i64 b.mg.length,.int .i64 ((i : Nat) : Int),z 84,z 85,z 86,z 87,z 88,z 89,z 90,z 91,z 92,z 93,z 94,z 95,z 96,z 97,z 98,z 99,z 100,z 101,z 102,z 103,z 104,z 105,z 106,z 107,z 108,z 109,z 110,z 111,z 112,z 113,z 114,z 115,z 116,z 117,z 118,z 119,z 120,z 121,z 122,z 123,z 124,z 125,z 126,z 127,z 128,z 129,z 130,z 131,z 132,z 133,z 134,z 135,z 136,z 137,z 138,z 139,z 140,z 141,z 142,z 143,z 144,z 145] (ofH b1 b2 b3 m1 m2 m3 b se ev [] (R ++ H)) K
 have hlk : ofH b1 b2 b3 m1 m2 m3 b se ev [] (R ++ H) = (b3,.cells [.mp (some m1),.mp (some m2),.mp (some m3)]) :: (m3,.mp (mapE qD ClA.d [])) :: (m2,.mp (mapE Id3.d EvA.d ev)) :: (m1,.mp (mapE Id3.d D.bool se)) :: (b2,.cells [.mp none,.mp none,.mp none]) :: (b1,.cells b.d) :: (R ++ H) := rfl
 by_cases hlt : i < b.mg.length
 ·have g := mapD_get (f := Mg.d) hlt
  have hlt' : ((i : Int) < (b.mg.length : Int)) = True := eq_true (by omega)
  have hstep := foldl_take (f := ofM) (b := p0) hlt
  generalize b.mg.getD i default = s at g hstep
  have hsd : s.d = [.int .i64 s.by_.o,.int .i64 s.by_.s,.int .i64 s.by_.i,.int .i64 s.on.o,.int .i64 s.on.s,.int .i64 s.on.i,.int .i64 s.to.o,.int .i64 s.to.s,.int .i64 s.to.i] := rfl
  have hsl := hb.mg
  -- what is left of a round
  have fin : ∀ (n : Int) (c : ClA) (c2 : D) (b7 b8 : Nat) (F' : List D),((lookP ev s.on).map (·.c)).getD ⟨0,0,[]⟩ = c → ((lookP ev s.on).map (·.n)).getD 0 = n →
    (¬ b3 = b7 ∧ ¬ m3 = b7 ∧ ¬ m2 = b7 ∧ ¬ m1 = b7 ∧ ¬ b2 = b7 ∧ ¬ b1 = b7 ∧ freshH (R ++ H) b7) → (¬ b7 = b8 ∧ ¬ b3 = b8 ∧ ¬ m3 = b8 ∧ ¬ m2 = b8 ∧ ¬ m1 = b8 ∧ ¬ b2 = b8 ∧ ¬ b1 = b8 ∧ freshH (R ++ H) b8) →
    Fr 146 [(1,.ptr b1 0),(2,.ptr b2 0),(3,.ptr b3 0),(10,.ptr b7 0),(11,.ptr b8 0),(81,.slc (mapD Mg.d b.mg)),(82,.int .i64 b.mg.length),(83,.int .i64 ((i : Nat) : Int))] F' → xcode Try.prog x55_s14 F' ((b8,.cells [.int .i64 n,c.d,c2]) :: (b7,.cells s.d) :: ofH b1 b2 b3 m1 m2 m3 b se ev [] (R ++ H)) (blockQ 5 (seqQ Try.prog (.reg [⟨.binOp .add 3 (.tmp 83) (.const (.int .i64 1)) 3,some 112,none,false,false⟩,⟨.move (.tmp 112),some 83,none,false,false⟩]) K)) := by
   intro n c c2 b7 b8 F' hc hn h7 h8 hF'
   have hnn : 0 ≤ n ∧ n ≤ (65536 + i : Nat) ∧ c.xs.length ≤ 4294967296 + i := by
    cases hlo : lookP ev s.on with
    | none=>rw [hlo] at hc hn; subst hc hn; simp; omega
    | some e=>rw [hlo] at hc hn; subst hc hn; exact hev.sz _ (look_mem hlo)
   have hrm : c.xs ≠ [] → getH R c.b = some (.room c.cap (mapD Id3.d c.xs)) ∧ c.b ∉ [b1,b2,b3,m1,m2,m3] := fun hx=>by
    cases hlo : lookP ev s.on with
    | none=>rw [hlo] at hc; subst hc; exact absurd rfl hx
    | some e=>rw [hlo] at hc; subst hc; exact pool_look hev.pool hlo hx
   have hcut : cut (R ++ H) c = cut R c ++ H := by
    unfold cut
    by_cases hx : c.xs = []
    ·rw [if_pos hx,if_pos hx]
    ·rw [if_neg hx,if_neg hx,erase_app (hrm hx).1]
   refine of_s14 hd0 ⟨h7.1,h7.2.1,h7.2.2.1,h7.2.2.2.1,h7.2.2.2.2.1,h7.2.2.2.2.2.1⟩ ⟨h8.1,h8.2.1,h8.2.2.1,h8.2.2.2.1,h8.2.2.2.2.1,h8.2.2.2.2.2.1,h8.2.2.2.2.2.2.1⟩ ⟨hnn.1,by omega⟩ (by omega) (fun hx=>?_) hF' ?_
   ·obtain ⟨q1,q2⟩ := hrm hx
    have q3 := getH_app (H := H) q1
    refine ⟨q3,?_⟩
    have q4 := fresh_ne2 h7.2.2.2.2.2.2 q3
    have q5 := fresh_ne2 h8.2.2.2.2.2.2.2 q3
    simp only [List.mem_cons,List.not_mem_nil,or_false,not_or] at q2 ⊢
    exact ⟨q2.1,q2.2.1,q2.2.2.1,q2.2.2.2.1,q2.2.2.2.2.1,q2.2.2.2.2.2,q4,q5⟩
   ·intro b' cap' F' hf hF' cs
    obtain ⟨z,rfl⟩ : ∃ z : Nat → D,_ = z 0 :: .ptr b1 0 :: .ptr b2 0 :: .ptr b3 0 :: zz z 4 77 (.slc (mapD Mg.d b.mg) :: .int .i64 b.mg.length :: .int .i64 ((i : Nat) : Int) :: zz z 84 62 []) := hF'.lit
    try dsimp only [zz,qb] at *
    simp +contextual only [x55,mapD_len,wrap_succ (show i ≤ big by omega),↓U55,↓XP,↓XU,XW0,XW1,qa,qb,qc,qd,qe,qf,reduceCtorEq,TYX]
    rw [hcut] at hf ⊢
    have hcv : (((lookP ev s.on).map EvA.c).getD ⟨0,0,[]⟩) = c := hc
    refine hN (i + 1,updP ev s.on ⟨n + 1,⟨b',cap',c.xs ++ [s.to]⟩,[s.to]⟩,(b',.room cap' (mapD Id3.d (c.xs ++ [s.to]))) :: cut R c) _ _ ⟨hlt,?_,?_,?_⟩ (by dsimp only; omega) ⟨rfl,rfl,rfl,rfl,rfl,rfl,rfl,trivial⟩ ?_
    ·refine pool_upd (f := EvA.c) hev.pool rfl (by simp) ?_ hc (fresh_app hf.2.2.2.2.2.2.2.2)
     simp only [List.mem_cons,List.not_mem_nil,or_false,not_or]
     exact ⟨Ne.symm hf.2.2.2.2.2.2.2.1,Ne.symm hf.2.2.2.2.2.2.1,Ne.symm hf.2.2.1,Ne.symm hf.2.2.2.2.2.1,Ne.symm hf.2.2.2.2.1,Ne.symm hf.2.2.2.1⟩
    ·dsimp only
     rw [upd_map (f := EvA.p),hev.val,hstep]
     rw [ofM]
     have e1 : lookP ((b.mg.take i).foldl ofM p0) s.on = (lookP ev s.on).map EvA.p := by rw [← hev.val,look_map]
     rw [e1]
     cases hlo : lookP ev s.on with
     | none=>rw [hlo] at hc hn; subst hc hn; rfl
     | some e=>rw [hlo] at hc hn; subst hc hn; rfl
    ·intro q hq
     dsimp only at hq ⊢
     rcases upd_mem hq with rfl | hq
     ·dsimp only
      simp only [List.length_append,List.length_cons,List.length_nil]
      omega
     ·have := hev.sz q hq
      omega
    ·exact Sbn_room (fx := [(b3,.cells [.mp (some m1),.mp (some m2),.mp (some m3)]),(m3,.mp (mapE qD ClA.d [])),(m2,.mp (mapE Id3.d EvA.d (updP ev s.on ⟨n + 1,⟨b',cap',c.xs ++ [s.to]⟩,[s.to]⟩))),(m1,.mp (mapE Id3.d D.bool se)),(b2,.cells [.mp none,.mp none,.mp none]),(b1,.cells b.d)]) (bs := [(b8,.cells cs),(b7,.cells s.d)]) (fun p hp=>hp) rfl
  cases hlo : lookP ev s.on with
  | none =>
   rw [hlk]
   simp +contextual only [↓u55_L17,↓u55_s16,↓u55_s15,mapD_len,g,hsd,hlt',keys_id (x := s.on),look_id (x := s.on),hlo,h_miss,h_skip,n12,n1m1,n1m2,n1m3,n13,n2m1,n2m2,n2m3,n23,m12,m13,m1b,m23,m2b,m3b,↓u55_s0,↓u55_s1,↓u55_L2,↓u55_c3,↓u55_s4,↓u55_s5,↓u55_s6,↓u55_s7,↓u55_s8,↓u55_s9,↓u55_L10,↓u55_s11,↓u55_s12,↓u55_s13,↓u55_s14,↓u55_s15,↓u55_s16,↓u55_L17,↓u55_c18,↓u55_s19,↓u55_s20,↓u55_s21,↓u55_L22,↓u55_s23,↓u55_s24,↓u55_s25,↓u55_s26,↓u55_s27,↓XP,↓XU,XW0,XW1,qa,qb,qc,qd,qe,qf,reduceCtorEq,TYX,-u55_s14]
   intro b7 h7 b8 h8
   refine fin 0 ⟨0,0,[]⟩ _ b7 b8 _ ?_ ?_ h7 h8 ?_
   ·rw [hlo]; rfl
   ·rw [hlo]; rfl
   ·exact ⟨rfl,rfl,rfl,rfl,rfl,rfl,rfl,rfl,rfl,trivial⟩
  | some e =>
   rw [hlk]
   have hed : EvA.d e = .agg [.int .i64 e.n,.osl e.c.b e.c.cap (mapD Id3.d e.c.xs),.slc (mapD Id3.d e.one)] := rfl
   simp +contextual only [↓u55_L17,↓u55_s16,↓u55_s15,mapD_len,g,hsd,hlt',keys_id (x := s.on),look_id (x := s.on),hlo,hed,h_miss,h_skip,n12,n1m1,n1m2,n1m3,n13,n2m1,n2m2,n2m3,n23,m12,m13,m1b,m23,m2b,m3b,↓u55_s0,↓u55_s1,↓u55_L2,↓u55_c3,↓u55_s4,↓u55_s5,↓u55_s6,↓u55_s7,↓u55_s8,↓u55_s9,↓u55_L10,↓u55_s11,↓u55_s12,↓u55_s13,↓u55_s14,↓u55_s15,↓u55_s16,↓u55_L17,↓u55_c18,↓u55_s19,↓u55_s20,↓u55_s21,↓u55_L22,↓u55_s23,↓u55_s24,↓u55_s25,↓u55_s26,↓u55_s27,↓XP,↓XU,XW0,XW1,qa,qb,qc,qd,qe,qf,reduceCtorEq,TYX,-u55_s14]
   intro b7 h7 b8 h8
   refine fin e.n e.c _ b7 b8 _ ?_ ?_ h7 h8 ?_
   ·rw [hlo]; rfl
   ·rw [hlo]; rfl
   ·exact ⟨rfl,rfl,rfl,rfl,rfl,rfl,rfl,rfl,rfl,trivial⟩
 ·have hin : i = b.mg.length := by omega
  subst hin
  rw [List.take_length] at hev
  simp +contextual only [x55,mapD_len,↓U55,↓XP,↓XU,XW0,XW1,qa,qb,qc,qd,qe,qf,reduceCtorEq,TYX]
  intros
  refine hE _ _ _ ?_
  have hsl := hb.mg
  exact hQ _ _ _ ⟨rfl,rfl,rfl,rfl,trivial⟩ ⟨hev.pool,hev.val,fun q hq=>by have := hev.sz q hq; omega⟩
end Go.Proofs.Ytffbjejmobhpkaa
end
section
namespace Go.Proofs.Ytffbjejmobhpkaa
open Go Go.Aw
theorem keys_q {α : Type} {vd : α → D} {m : List ((Id3 × Id3) × α)} {x y : Id3} : keysOk true [.i,.i,.i,.i,.i,.i] (mapE qD vd m) (.agg [.int .i64 x.o,.int .i64 x.s,.int .i64 x.i,.int .i64 y.o,.int .i64 y.s,.int .i64 y.i]) := keys_mapE (k := (x,y)) qK
theorem look_q {α : Type} {vd : α → D} {m : List ((Id3 × Id3) × α)} {x y : Id3} : lookD (mapE qD vd m) [.int .i64 x.o,.int .i64 x.s,.int .i64 x.i,.int .i64 y.o,.int .i64 y.s,.int .i64 y.i] = (lookP m (x,y)).map vd := look_mapE (k := (x,y)) qK
theorem upd_q {α : Type} {vd : α → D} {m : List ((Id3 × Id3) × α)} {x y : Id3} {v : α} : updD (mapE qD vd m) (.agg [.int .i64 x.o,.int .i64 x.s,.int .i64 x.i,.int .i64 y.o,.int .i64 y.s,.int .i64 y.i]) (vd v) = mapE qD vd (updP m (x,y) v) := upd_mapE (k := (x,y)) qK
theorem getD_cl {o : Option ClA} : (Option.map ClA.d o).getD (.osl 0 0 []) = ClA.d (o.getD ⟨0,0,[]⟩) := by cases o <;> rfl
theorem idx_upd {es : List (D × D)} {i v : D} : (idxD es (cellsOf i)).getD es.length < (updD es i v).length := by
 induction es with
 | nil=>simp [idxD,updD]
 | cons p r ih =>
  unfold updD idxD
  by_cases h : eqCells (cellsOf i) (cellsOf p.1) = true
  ·rw [if_pos h,if_pos h]; simp
  ·rw [if_neg h,if_neg h]
   cases hx : idxD r (cellsOf i) with
   | none=>rw [hx] at ih; simpa using ih
   | some q=>rw [hx] at ih; simpa using ih
structure ChOk (fx : List Nat) (nb : Nat) (m : List ((Id3 × Id3) × ClA)) (p : List ((Id3 × Id3) × List Id3)) (R : AH) : Prop where
 pool : Pool fx (m.map fun p=>p.2) R
 val : m.map (fun p=>(p.1,p.2.xs)) = p
 sz : m.length ≤ nb ∧ ∀ q ∈ m,q.2.xs.length ≤ nb
theorem of_L22 {b1 b2 b3 m1 m2 m3 : Nat} {b : Bk} (hb : Small b) (hd : Ds6 b1 b2 b3 m1 m2 m3) {se : List (Id3 × Bool)} {ev : List (Id3 × EvA)} {H : AH} {F : List D} (hF : Fr 146 [(1,.ptr b1 0),(2,.ptr b2 0),(3,.ptr b3 0),(114,.slc (mapD Ch.d b.ch)),(115,.int .i64 b.ch.length),(116,.int .i64 0)] F) {Q : AQ}
  (hQ : ∀ F' ch R,Fr 146 [(1,.ptr b1 0),(2,.ptr b2 0),(3,.ptr b3 0)] F' → ChOk [b1,b2,b3,m1,m2,m3] 65536 ch (b.ch.foldl (ofC (ev.map fun p=>(p.1,p.2.p))) []) R → Q (.exit 6) F' (ofH b1 b2 b3 m1 m2 m3 b se ev ch (R ++ H))) : XW Try.prog x55_L22 F (ofH b1 b2 b3 m1 m2 m3 b se ev [] H) Q := by
 have hbig := big_eq
 have hd0 := hd
 have hch := hb.ch
 obtain ⟨n12,n1m1,n1m2,n1m3,n13,n2m1,n2m2,n2m3,n23,m12,m13,m1b,m23,m2b,m3b⟩ := hd
 generalize hp0 : ev.map (fun p=>(p.1,p.2.p)) = pe at hQ
 refine XW.loopSR Go.Proofs.Ytffbjejmobhpkaa.hm 146 (fun s : Nat × List ((Id3 × Id3) × ClA) × AH=>[(1,.ptr b1 0),(2,.ptr b2 0),(3,.ptr b3 0),(114,.slc (mapD Ch.d b.ch)),(115,.int .i64 b.ch.length),(116,.int .i64 ((s.1 : Nat) : Int))]) (fun s=>ofH b1 b2 b3 m1 m2 m3 b se ev s.2.1 (s.2.2 ++ H)) (fun s=>b.ch.length - s.1) (fun s=>s.1 ≤ b.ch.length ∧ ChOk [b1,b2,b3,m1,m2,m3] s.1 s.2.1 ((b.ch.take s.1).foldl (ofC pe) []) s.2.2) (0,[],[]) ⟨by omega,Pool.nil,rfl,by simp⟩ hF rfl ?_
 rintro ⟨i,ch,R⟩ z ⟨hi,hev⟩ K hN hE hR
 dsimp only at hi hev hN
 show xcode _ _ [z 0,.ptr b1 0,.ptr b2 0,.ptr b3 0,z 4,z 5,z 6,z 7,z 8,z 9,z 10,z 11,z 12,z 13,z 14,z 15,z 16,z 17,z 18,z 19,z 20,z 21,z 22,z 23,z 24,z 25,z 26,z 27,z 28,z 29,z 30,z 31,z 32,z 33,z 34,z 35,z 36,z 37,z 38,z 39,z 40,z 41,z 42,z 43,z 44,z 45,z 46,z 47,z 48,z 49,z 50,z 51,z 52,z 53,z 54,z 55,z 56,z 57,z 58,z 59,z 60,z 61,z 62,z 63,z 64,z 65,z 66,z 67,z 68,z 69,z 70,z 71,z 72,z 73,z 74,z 75,z 76,z 77,z 78,z 79,z 80,z 81,z 82,z 83,z 84,z 85,z 86,z 87,z 88,z 89,z 90,z 91,z 92,z 93,z 94,z 95,z 96,z 97,z 98,z 99,z 100,z 101,z 102,z 103,z 104,z 105,z 106,z 107,z 108,z 109,z 110,z 111,z 112,z 113,.slc (mapD Ch.d b.ch),.int .i64 b.ch.length,.int .i64 ((i : Nat) : Int),z 117,z 118,z 119,z 120,z 121,z 122,z 123,z 124,z 125,z 126,z 127,z 128,z 129,z 130,z 131,z 132,z 133,z 134,z 135,z 136,z 137,z 138,z 139,z 140,z 141,z 142,z 143,z 144,z 145] (ofH b1 b2 b3 m1 m2 m3 b se ev ch (R ++ H)) K
 have hlk : ofH b1 b2 b3 m1 m2 m3 b se ev ch (R ++ H) = (b3,.cells [.mp (some m1),.mp (some m2),.mp (some m3)]) :: (m3,.mp (mapE qD ClA.d ch)) :: (m2,.mp (mapE Id3.d EvA.d ev)) :: (m1,.mp (mapE Id3.d D.bool se)) :: (b2,.cells [.mp none,.mp none,.mp none]) :: (b1,.cells b.d) :: (R ++ H) := rfl
 by_cases hlt : i < b.ch.length
 ·have g := mapD_get (f := Ch.d) hlt
  have hlt' : ((i : Int) < (b.ch.length : Int)) = True := eq_true (by omega)
  have hstep := foldl_take (f := ofC pe) (b := []) hlt
  generalize b.ch.getD i default = s at g hstep
  have hsd : s.d = [.int .i64 s.by_.o,.int .i64 s.by_.s,.int .i64 s.by_.i,.int .i64 s.on.o,.int .i64 s.on.s,.int .i64 s.on.i,.int .i64 s.to.o,.int .i64 s.to.s,.int .i64 s.to.i,.int .i64 s.part.o,.int .i64 s.part.s,.int .i64 s.part.i] := rfl
  rw [hlk]
  have hlkp : lookP pe s.to = (lookP ev s.to).map EvA.p := by rw [← hp0,look_map]
  obtain ⟨al,hal⟩ : ∃ al,((lookP pe s.to).getD ev0).all = al := ⟨_,rfl⟩
  have hlook : (optD false (.agg [.int .i64 0,.osl 0 0 [],.osl 0 0 []]) (Option.map EvA.d (lookP ev s.to))).wkT = .agg [.int .i64 ((lookP pe s.to).getD ev0).n,.slc (mapD Id3.d al),.slc (mapD Id3.d ((lookP pe s.to).getD ev0).one)] := by
   rw [← hal,hlkp]
   cases lookP ev s.to <;> rfl
  have hfact : fact (optD false (.agg [.int .i64 0,.osl 0 0 [],.osl 0 0 []]) (Option.map EvA.d (lookP ev s.to))) = True := by
   cases lookP ev s.to <;> rfl
  simp +contextual only [x55,mapD_len,g,hsd,hlt',keys_id (x := s.to),look_id (x := s.to),hlook,hfact,h_miss,h_skip,n12,n1m1,n1m2,n1m3,n13,n2m1,n2m2,n2m3,n23,m12,m13,m1b,m23,m2b,m3b,↓U55,↓XP,↓XU,XW0,XW1,qa,qb,qc,qd,qe,qf,reduceCtorEq,TYX]
  rintro b7 h7 b8 h8 hfl
  obtain ⟨n37,nm37,nm27,nm17,n27,n17,f7⟩ := h7
  obtain ⟨n78,n38,nm38,nm28,nm18,n28,n18,f8⟩ := h8
  refine ⟨_,fun _ _=>f_contains (l := al) (x := s.part) ⟨rfl,rfl⟩,?_⟩
  have hofc : ofC pe ((b.ch.take i).foldl (ofC pe) []) s = if s.part ∈ al then updP ((b.ch.take i).foldl (ofC pe) []) (s.on,s.to) (((lookP ((b.ch.take i).foldl (ofC pe) []) (s.on,s.to)).getD []) ++ [s.part]) else (b.ch.take i).foldl (ofC pe) [] := by
   rw [ofC,hal]
  by_cases hm : s.part ∈ al
  ·rw [if_pos hm] at hofc
   have hlen : (mapE qD ClA.d ch).length ≤ 140737488355328 := by rw [mapE_len]; have := hev.sz.1; omega
   obtain ⟨c,hc⟩ : ∃ c,(lookP ch (s.on,s.to)).getD ⟨0,0,[]⟩ = c := ⟨_,rfl⟩
   have hcd : ClA.d c = .osl c.b c.cap (mapD Id3.d c.xs) := rfl
   simp +contextual only [x55,mapD_len,hsd,decide_eq_true hm,keys_q (x := s.on) (y := s.to),look_q (x := s.on) (y := s.to),upd_q (x := s.on) (y := s.to),getD_cl,hc,hlen,h_miss,h_skip,n12,n1m1,n1m2,n1m3,n13,n2m1,n2m2,n2m3,n23,m12,m13,m1b,m23,m2b,m3b,n37,nm37,nm27,nm17,n27,n17,n78,n38,nm38,nm28,nm18,n28,n18,↓U55,↓XP,↓XU,XW0,XW1,qa,qb,qc,qd,qe,qf,reduceCtorEq,TYX]
   intro _
   rw [x_apg]
   have hrm : c.xs ≠ [] → getH R c.b = some (.room c.cap (mapD Id3.d c.xs)) ∧ c.b ∉ [b1,b2,b3,m1,m2,m3] := fun hx=>by
    cases hlo : lookP ch (s.on,s.to) with
    | none=>rw [hlo] at hc; subst hc; exact absurd rfl hx
    | some e=>rw [hlo] at hc; subst hc; exact pool_look (f := fun c=>c) hev.pool hlo hx
   have hcs : c.xs.length ≤ i := by
    cases hlo : lookP ch (s.on,s.to) with
    | none=>rw [hlo] at hc; subst hc; simp
    | some e=>rw [hlo] at hc; subst hc; exact hev.sz.2 _ (look_mem hlo)
   have hcut : cut (R ++ H) c = cut R c ++ H := by
    unfold cut
    by_cases hx : c.xs = []
    ·rw [if_pos hx,if_pos hx]
    ·rw [if_neg hx,if_neg hx,erase_app (hrm hx).1]
   have hav : c.xs ≠ [] → (c.b ≠ b1 ∧ c.b ≠ b2 ∧ c.b ≠ b3 ∧ c.b ≠ m1 ∧ c.b ≠ m2 ∧ c.b ≠ m3 ∧ c.b ≠ b7 ∧ c.b ≠ b8) := fun hx=>by
    obtain ⟨q1,q2⟩ := hrm hx
    have q3 := getH_app (H := H) q1
    have q4 := fresh_ne2 f7 q3
    have q5 := fresh_ne2 f8 q3
    simp only [List.mem_cons,List.not_mem_nil,or_false,not_or] at q2
    exact ⟨q2.1,q2.2.1,q2.2.2.1,q2.2.2.2.1,q2.2.2.2.2.1,q2.2.2.2.2.2,q4,q5⟩
   have hme : mapD Id3.d c.xs = [] ↔ c.xs = [] := by simp [mapD]
   have hdrop : ∀ x8 x7 x3 y3 y2 y1 x2 x1 : AO,dropR ((b8,x8) :: (b7,x7) :: (b3,x3) :: (m3,y3) :: (m2,y2) :: (m1,y1) :: (b2,x2) :: (b1,x1) :: (R ++ H)) c.b (mapD Id3.d c.xs) = (b8,x8) :: (b7,x7) :: (b3,x3) :: (m3,y3) :: (m2,y2) :: (m1,y1) :: (b2,x2) :: (b1,x1) :: (cut R c ++ H) := fun x8 x7 x3 y3 y2 y1 x2 x1=>by
    rw [← hcut]
    unfold dropR cut
    by_cases hx : c.xs = []
    ·rw [if_pos (hme.2 hx),if_pos hx]
    ·obtain ⟨q1,q2,q3,q4,q5,q6,q7,q8⟩ := hav hx
     rw [if_neg (fun e=>hx (hme.1 e)),if_neg hx,e_miss q8,e_miss q7,e_miss q3,e_miss q6,e_miss q5,e_miss q4,e_miss q2,e_miss q1]
   refine Gz.takeS (s := 137) (b := c.b) (cap := c.cap) (xs := mapD Id3.d c.xs) rfl (fun hx0=>?_) ?_
   ·have hx : c.xs ≠ [] := fun e=>hx0 (hme.2 e)
    obtain ⟨q1,q2,q3,q4,q5,q6,q7,q8⟩ := hav hx
    rw [h_miss q8,h_miss q7,h_miss q3,h_miss q6,h_miss q5,h_miss q4,h_miss q2,h_miss q1]
    exact getH_app (hrm hx).1
   rw [hdrop]
   simp +contextual only [x55,mapD_len,ids_1 (x := s.part),mapD_app,h_miss,h_skip,n12,n1m1,n1m2,n1m3,n13,n2m1,n2m2,n2m3,n23,m12,m13,m1b,m23,m2b,m3b,n37,nm37,nm27,nm17,n27,n17,n78,n38,nm38,nm28,nm18,n28,n18,↓U55,↓XP,↓XU,XW0,XW1,qa,qb,qc,qd,qe,qf,reduceCtorEq,TYX]
   have hsz : ∀ q : List Id3,∀ y ∈ mapD Id3.d q,y.length = 3 := fun q=>mapD_sz fun _=>rfl
   have hI : (idxD (mapE qD ClA.d ch) [.int .i64 s.on.o,.int .i64 s.on.s,.int .i64 s.on.i,.int .i64 s.to.o,.int .i64 s.to.s,.int .i64 s.to.i]).getD (mapE qD ClA.d ch).length < (mapE qD ClA.d (updP ch (s.on,s.to) c)).length := by
    rw [← upd_q]
    exact idx_upd (i := .agg [.int .i64 s.on.o,.int .i64 s.on.s,.int .i64 s.on.i,.int .i64 s.to.o,.int .i64 s.to.s,.int .i64 s.to.i])
   have hset : ∀ c' : ClA,setV (mapE qD ClA.d (updP ch (s.on,s.to) c)) ((idxD (mapE qD ClA.d ch) [.int .i64 s.on.o,.int .i64 s.on.s,.int .i64 s.on.i,.int .i64 s.to.o,.int .i64 s.to.s,.int .i64 s.to.i]).getD (mapE qD ClA.d ch).length) (.osl c'.b c'.cap (mapD Id3.d c'.xs)) = mapE qD ClA.d (updP ch (s.on,s.to) c') := fun c'=>by
    rw [← upd_q,← upd_q]
    exact setV_upd (i := .agg [.int .i64 s.on.o,.int .i64 s.on.s,.int .i64 s.on.i,.int .i64 s.to.o,.int .i64 s.to.s,.int .i64 s.to.i])
   generalize (idxD (mapE qD ClA.d ch) [.int .i64 s.on.o,.int .i64 s.on.s,.int .i64 s.on.i,.int .i64 s.to.o,.int .i64 s.to.s,.int .i64 s.to.i]).getD (mapE qD ClA.d ch).length = I at hI hset
   refine ⟨hsz _,hsz _,by omega,fun _=>?_⟩
   refine Gz.giveS (s := 142) (xs := mapD Id3.d (c.xs ++ [s.part])) (by simp [mapD]) rfl fun b' cap' hf=>?_
   obtain ⟨g1,g2,g3,g4,g5,g6,g7,g8,g9⟩ := hf
   have hset' := hset ⟨b',cap',c.xs ++ [s.part]⟩
   dsimp only at hset'
   simp +contextual only [x55,mapD_len,Int.toNat_natCast,hset',h_miss,h_skip,n12,n1m1,n1m2,n1m3,n13,n2m1,n2m2,n2m3,n23,m12,m13,m1b,m23,m2b,m3b,n37,nm37,nm27,nm17,n27,n17,n78,n38,nm38,nm28,nm18,n28,n18,Ne.symm g1,Ne.symm g2,Ne.symm g3,Ne.symm g4,Ne.symm g5,Ne.symm g6,Ne.symm g7,Ne.symm g8,wrap_succ (show i ≤ big by omega),↓U55,↓XP,↓XU,XW0,XW1,qa,qb,qc,qd,qe,qf,reduceCtorEq,TYX]
   refine ⟨by omega,?_⟩
   refine hN (i + 1,updP ch (s.on,s.to) ⟨b',cap',c.xs ++ [s.part]⟩,(b',.room cap' (mapD Id3.d (c.xs ++ [s.part]))) :: cut R c) _ _ ⟨hlt,?_,?_,?_,?_⟩ (by dsimp only; omega) ⟨rfl,rfl,rfl,rfl,rfl,rfl,rfl,trivial⟩ ?_
   ·refine pool_upd (f := fun c=>c) hev.pool rfl (by simp) ?_ (c := c) (by rw [← hc]; simp) (fresh_app g9)
    simp only [List.mem_cons,List.not_mem_nil,or_false,not_or]
    exact ⟨g8,g7,g3,g6,g5,g4⟩
   ·dsimp only
    rw [upd_map (f := ClA.xs),hev.val,hstep,hofc]
    have e1 : lookP ((b.ch.take i).foldl (ofC pe) []) (s.on,s.to) = (lookP ch (s.on,s.to)).map ClA.xs := by rw [← hev.val,look_map]
    rw [e1]
    cases hlo : lookP ch (s.on,s.to) with
    | none=>rw [hlo] at hc; subst hc; rfl
    | some e=>rw [hlo] at hc; subst hc; rfl
   ·have h1 := hev.sz.1
    have h2 := upd_len (m := ch) (k := (s.on,s.to)) (v := (⟨b',cap',c.xs ++ [s.part]⟩ : ClA))
    dsimp only
    omega
   ·intro q hq
    dsimp only at hq ⊢
    rcases upd_mem hq with rfl | hq
    ·simp only [List.length_append,List.length_cons,List.length_nil]
     omega
    ·have := hev.sz.2 q hq
     omega
   ·exact Sbn_room (fx := [(b3,.cells [.mp (some m1),.mp (some m2),.mp (some m3)]),(m3,.mp (mapE qD ClA.d (updP ch (s.on,s.to) ⟨b',cap',c.xs ++ [s.part]⟩))),(m2,.mp (mapE Id3.d EvA.d ev)),(m1,.mp (mapE Id3.d D.bool se)),(b2,.cells [.mp none,.mp none,.mp none]),(b1,.cells b.d)]) (bs := [(b8,.cells [.int .i64 s.on.o,.int .i64 s.on.s,.int .i64 s.on.i,.int .i64 s.to.o,.int .i64 s.to.s,.int .i64 s.to.i]),(b7,.cells s.d)]) (fun p hp=>hp) rfl
  ·rw [if_neg hm] at hofc
   simp +contextual only [x55,mapD_len,decide_eq_false hm,wrap_succ (show i ≤ big by omega),↓U55,↓XP,↓XU,XW0,XW1,qa,qb,qc,qd,qe,qf,reduceCtorEq,TYX]
   intros
   refine hN (i + 1,ch,R) _ _ ⟨hlt,hev.pool,by dsimp only; rw [hev.val,hstep,hofc],by have := hev.sz.1; dsimp only; omega,fun q hq=>by have := hev.sz.2 q hq; dsimp only; omega⟩ (by dsimp only; omega) ⟨rfl,rfl,rfl,rfl,rfl,rfl,rfl,trivial⟩ (Sbn.sub ?_)
   exact (List.sublist_cons_self _ _).trans (List.sublist_cons_self _ _)
 ·have hin : i = b.ch.length := by omega
  subst hin
  rw [List.take_length] at hev
  simp +contextual only [x55,mapD_len,↓U55,↓XP,↓XU,XW0,XW1,qa,qb,qc,qd,qe,qf,reduceCtorEq,TYX]
  intros
  refine hE _ _ _ ?_
  exact hQ _ _ _ ⟨rfl,rfl,rfl,rfl,trivial⟩ ⟨hev.pool,hev.val,by have := hev.sz; omega,fun q hq=>by have := hev.sz.2 q hq; omega⟩
end Go.Proofs.Ytffbjejmobhpkaa
end
section
namespace Go.Proofs.Ytffbjejmobhpkaa
open Go Go.Aw
theorem back_app {A H : AH} : back H.length (A ++ H) = H := by
 unfold back
 rw [List.length_append,show A.length + H.length - H.length = A.length by omega,List.drop_left]
theorem f_of {b : Bk} (hb : Small b) {H : AH} {R : D → AH → Prop} (h : R (.agg (idxD3 b)) H) : ACall Try.prog 55 [.agg b.d] H R := by
 refine b55 fun hf=>?_
 have hbig := big_eq
 have hbd : b.d = [.slc (mapD En.d b.en),.slc (mapD Sn.d b.sn),.slc (mapD Sr.d b.sr),.slc (mapD Qt.d b.qt),.slc (mapD Spl.d b.sl),.slc (mapD Mg.d b.mg),.slc (mapD Ch.d b.ch)] := rfl
 simp +contextual only [x55,mapD_len,hbd,↓U55,↓XP,↓XU,XW0,XW1,qa,qb,qc,qd,qe,qf,reduceCtorEq,TYX]
 simp only [← hbd]
 rintro b1 h1 b2 ⟨n12,h2⟩ m1 ⟨n2m1,n1m1,h3⟩ m2 ⟨m12,n2m2,n1m2,h4⟩ m3 ⟨m23,m13,n2m3,n1m3,h5⟩ b3 ⟨m3b,m2b,m1b,n23,n13,h6⟩
 have hd : Ds6 b1 b2 b3 m1 m2 m3 := ⟨n12,n1m1,n1m2,n1m3,n13,n2m1,n2m2,n2m3,n23,m12,m13,m1b,m23,m2b,m3b⟩
 simp +contextual only [x55,mapD_len,hbd,h_miss,h_skip,n12,n1m1,n1m2,n1m3,n13,n2m1,n2m2,n2m3,n23,m12,m13,m1b,m23,m2b,m3b,↓U55,↓XP,↓XU,XW0,XW1,qa,qb,qc,qd,qe,qf,reduceCtorEq,TYX]
 simp only [← hbd]
 intros
 refine of_L2 (by assumption) hd ⟨rfl,rfl,rfl,rfl,rfl,rfl,rfl,trivial⟩ fun F' hF'=>?_
 obtain ⟨z,rfl⟩ : ∃ z : Nat → D,_ = z 0 :: .ptr b1 0 :: .ptr b2 0 :: .ptr b3 0 :: zz z 4 142 [] := hF'.lit
 try dsimp only [zz,qb] at *
 clear hF'
 have hlk : ∀ se ev ch G,ofH b1 b2 b3 m1 m2 m3 b se ev ch G = (b3,.cells [.mp (some m1),.mp (some m2),.mp (some m3)]) :: (m3,.mp (mapE qD ClA.d ch)) :: (m2,.mp (mapE Id3.d EvA.d ev)) :: (m1,.mp (mapE Id3.d D.bool se)) :: (b2,.cells [.mp none,.mp none,.mp none]) :: (b1,.cells b.d) :: G := fun _ _ _ _=>rfl
 rw [hlk]
 simp +contextual only [x55,mapD_len,hbd,h_miss,h_skip,n12,n1m1,n1m2,n1m3,n13,n2m1,n2m2,n2m3,n23,m12,m13,m1b,m23,m2b,m3b,↓U55,↓XP,↓XU,XW0,XW1,qa,qb,qc,qd,qe,qf,reduceCtorEq,TYX]
 simp only [← hbd]
 intros
 refine of_L10 hb hd ⟨rfl,rfl,rfl,rfl,rfl,rfl,rfl,trivial⟩ fun F' ev R0 hF' hev=>?_
 obtain ⟨z,rfl⟩ : ∃ z : Nat → D,_ = z 0 :: .ptr b1 0 :: .ptr b2 0 :: .ptr b3 0 :: zz z 4 142 [] := hF'.lit
 try dsimp only [zz,qb] at *
 clear hF'
 rw [hlk]
 simp +contextual only [x55,mapD_len,hbd,h_miss,h_skip,n12,n1m1,n1m2,n1m3,n13,n2m1,n2m2,n2m3,n23,m12,m13,m1b,m23,m2b,m3b,↓U55,↓XP,↓XU,XW0,XW1,qa,qb,qc,qd,qe,qf,reduceCtorEq,TYX]
 simp only [← hbd]
 intros
 refine of_L17 hb hd hev ⟨rfl,rfl,rfl,rfl,rfl,rfl,rfl,trivial⟩ fun F' ev R0 hF' hev=>?_
 obtain ⟨z,rfl⟩ : ∃ z : Nat → D,_ = z 0 :: .ptr b1 0 :: .ptr b2 0 :: .ptr b3 0 :: zz z 4 142 [] := hF'.lit
 try dsimp only [zz,qb] at *
 clear hF'
 rw [hlk]
 simp +contextual only [x55,mapD_len,hbd,h_miss,h_skip,n12,n1m1,n1m2,n1m3,n13,n2m1,n2m2,n2m3,n23,m12,m13,m1b,m23,m2b,m3b,↓U55,↓XP,↓XU,XW0,XW1,qa,qb,qc,qd,qe,qf,reduceCtorEq,TYX]
 simp only [← hbd]
 intros
 refine of_L22 hb hd ⟨rfl,rfl,rfl,rfl,rfl,rfl,rfl,trivial⟩ fun F' ch R2 hF' hch=>?_
 obtain ⟨z,rfl⟩ : ∃ z : Nat → D,_ = z 0 :: .ptr b1 0 :: .ptr b2 0 :: .ptr b3 0 :: zz z 4 142 [] := hF'.lit
 try dsimp only [zz,qb] at *
 clear hF'
 have hev2 : ev.map (fun p=>(p.1,p.2.p)) = evsP b := hev.val
 rw [hev2] at hch
 have hch2 : ch.map (fun p=>(p.1,p.2.xs)) = chsP b := hch.val
 rw [hlk]
 simp +contextual only [x55,mapD_len,hbd,h_miss,h_skip,n12,n1m1,n1m2,n1m3,n13,n2m1,n2m2,n2m3,n23,m12,m13,m1b,m23,m2b,m3b,↓U55,↓XP,↓XU,XW0,XW1,qa,qb,qc,qd,qe,qf,reduceCtorEq,TYX]
 simp only [← hbd]
 have w1 : mwk (mapE Id3.d D.bool (sensP b)) = mapE Id3.d D.bool (sensP b) := mwk_mapE
 have w2 : mwk (mapE Id3.d EvA.d ev) = mapE Id3.d Ev.d (evsP b) := by
  rw [mwk_mapE,← hev2,← mapE_map]
  rfl
 have w3 : mwk (mapE qD ClA.d ch) = mapE qD slD (chsP b) := by
  rw [mwk_mapE,← hch2,← mapE_map]
  rfl
 have z1 : ∀ F : List D,Fz F ((b3,.cells [.mp (some m1),.mp (some m2),.mp (some m3)]) :: (m3,.mp (mapE qD ClA.d ch)) :: (m2,.mp (mapE Id3.d EvA.d ev)) :: (m1,.mp (mapE Id3.d D.bool (sensP b))) :: (b2,.cells [.mp none,.mp none,.mp none]) :: (b1,.cells b.d) :: (R2 ++ (R0 ++ H))) F
   ((b3,.cells [.mpv (mapE Id3.d D.bool (sensP b)),.mp (some m2),.mp (some m3)]) :: (m3,.mp (mapE qD ClA.d ch)) :: (m2,.mp (mapE Id3.d EvA.d ev)) :: (b2,.cells [.mp none,.mp none,.mp none]) :: (b1,.cells b.d) :: (R2 ++ (R0 ++ H))) := fun F=>by
  have h := Fz.freezeMC (F := F) (H := (b3,.cells [.mp (some m1),.mp (some m2),.mp (some m3)]) :: (m3,.mp (mapE qD ClA.d ch)) :: (m2,.mp (mapE Id3.d EvA.d ev)) :: (m1,.mp (mapE Id3.d D.bool (sensP b))) :: (b2,.cells [.mp none,.mp none,.mp none]) :: (b1,.cells b.d) :: (R2 ++ (R0 ++ H))) (b' := b3) (j := 0) (b := m1) (Ne.symm m1b) h_hit rfl (by rw [h_miss m1b,h_miss m13,h_miss m12,h_hit])
  rw [h_set,e_miss m1b,e_miss m13,e_miss m12,e_hit,w1] at h
  exact h
 have z2 : ∀ F : List D,Fz F ((b3,.cells [.mpv (mapE Id3.d D.bool (sensP b)),.mp (some m2),.mp (some m3)]) :: (m3,.mp (mapE qD ClA.d ch)) :: (m2,.mp (mapE Id3.d EvA.d ev)) :: (b2,.cells [.mp none,.mp none,.mp none]) :: (b1,.cells b.d) :: (R2 ++ (R0 ++ H))) F
   ((b3,.cells [.mpv (mapE Id3.d D.bool (sensP b)),.mpv (mapE Id3.d Ev.d (evsP b)),.mp (some m3)]) :: (m3,.mp (mapE qD ClA.d ch)) :: (b2,.cells [.mp none,.mp none,.mp none]) :: (b1,.cells b.d) :: (R2 ++ (R0 ++ H))) := fun F=>by
  have h := Fz.freezeMC (F := F) (H := (b3,.cells [.mpv (mapE Id3.d D.bool (sensP b)),.mp (some m2),.mp (some m3)]) :: (m3,.mp (mapE qD ClA.d ch)) :: (m2,.mp (mapE Id3.d EvA.d ev)) :: (b2,.cells [.mp none,.mp none,.mp none]) :: (b1,.cells b.d) :: (R2 ++ (R0 ++ H))) (b' := b3) (j := 1) (b := m2) (Ne.symm m2b) h_hit rfl (by rw [h_miss m2b,h_miss m23,h_hit])
  rw [h_set,e_miss m2b,e_miss m23,e_hit,w2] at h
  exact h
 have z3 : ∀ F : List D,Fz F ((b3,.cells [.mpv (mapE Id3.d D.bool (sensP b)),.mpv (mapE Id3.d Ev.d (evsP b)),.mp (some m3)]) :: (m3,.mp (mapE qD ClA.d ch)) :: (b2,.cells [.mp none,.mp none,.mp none]) :: (b1,.cells b.d) :: (R2 ++ (R0 ++ H))) F
   ((b3,.cells (idxD3 b)) :: (b2,.cells [.mp none,.mp none,.mp none]) :: (b1,.cells b.d) :: (R2 ++ (R0 ++ H))) := fun F=>by
  have h := Fz.freezeMC (F := F) (H := (b3,.cells [.mpv (mapE Id3.d D.bool (sensP b)),.mpv (mapE Id3.d Ev.d (evsP b)),.mp (some m3)]) :: (m3,.mp (mapE qD ClA.d ch)) :: (b2,.cells [.mp none,.mp none,.mp none]) :: (b1,.cells b.d) :: (R2 ++ (R0 ++ H))) (b' := b3) (j := 2) (b := m3) (Ne.symm m3b) h_hit rfl (by rw [h_miss m3b,h_hit])
  rw [h_set,e_miss m3b,e_hit,w3] at h
  exact h
 refine gh_intro ((z1 _).trans ((z2 _).trans (z3 _))) ?_
 have hix : idxD3 b = [.mpv (mapE Id3.d D.bool (sensP b)),.mpv (mapE Id3.d Ev.d (evsP b)),.mpv (mapE qD slD (chsP b))] := rfl
 simp +contextual only [x55,mapD_len,hix,h_miss,h_skip,n12,n1m1,n1m2,n1m3,n13,n2m1,n2m2,n2m3,n23,m12,m13,m1b,m23,m2b,m3b,↓U55,↓XP,↓XU,XW0,XW1,qa,qb,qc,qd,qe,qf,reduceCtorEq,TYX]
 have e : ∀ x y w : Nat × AO,back H.length (x :: y :: w :: (R2 ++ (R0 ++ H))) = H := fun x y w=>by
  rw [show x :: y :: w :: (R2 ++ (R0 ++ H)) = (x :: y :: w :: (R2 ++ R0)) ++ H by simp]
  exact back_app
 rw [e]
 exact h
end Go.Proofs.Ytffbjejmobhpkaa
end
section
namespace Go.Proofs.Ytffbjejmobhpkaa
open Go Go.Aw
theorem f_cloneO {l : List Id3} {H : AH} {R : D → AH → Prop} (hl : l.length ≤ 1073741824) (h : R (.own (mapD Id3.d l)) H) : ACall Try.prog 42 [.slc (mapD Id3.d l)] H R := by
 refine b42v fun hf=>?_
 have hbig := big_eq
 have hn : mapD Id3.d l = [] → R (.own []) H := fun e=>by rw [e] at h; exact h
 simp +contextual only [x42v,↓U42v,mapD_len,↓XP,↓XU,XW0,XW1,qa,qb,qc,qd,qe,qf,reduceCtorEq,TYX]
 exact ⟨hn,mapD_sz fun _=>rfl,by omega,h⟩
theorem look_ev {o : Option Ev} : (optD false (.agg [.int .i64 0,.osl 0 0 [],.osl 0 0 []]) (Option.map Ev.d o)).wkT = .agg [.int .i64 (o.getD ev0).n,.slc (mapD Id3.d (o.getD ev0).all),.slc (mapD Id3.d (o.getD ev0).one)] := by cases o <;> rfl
theorem fact_ev {o : Option Ev} : fact (optD false (.agg [.int .i64 0,.osl 0 0 [],.osl 0 0 []]) (Option.map Ev.d o)) = True := by cases o <;> rfl
theorem look_sl {o : Option (List Id3)} : (optD false (.osl 0 0 []) (Option.map slD o)).wkT = .slc (mapD Id3.d (o.getD [])) := by cases o <;> rfl
theorem f_next {x : Ix} (hx : IxOk x) {fr to : Id3} {H : AH} {R : D → AH → Prop} (h : R (.tup [.slc (mapD Id3.d (nextP x fr to).1),.int .i64 (nextP x fr to).2]) H) : ACall Try.prog 73 [.agg x.d,.agg fr.d,.agg to.d] H R := by
 refine ACall.view (b73 fun hf=>?_)
 have hbig := big_eq
 have hxd : x.d = [.mpv (mapE Id3.d D.bool x.se),.mpv (mapE Id3.d Ev.d x.ev),.mpv (mapE qD slD x.ch)] := rfl
 have hfd : fr.d = [.int .i64 fr.o,.int .i64 fr.s,.int .i64 fr.i] := rfl
 have htd : to.d = [.int .i64 to.o,.int .i64 to.s,.int .i64 to.i] := rfl
 have hk : ∀ l c,nextP x fr to = (l,c) → R (.tup [.slc (mapD Id3.d l),.int .i64 c]) H := fun l c e=>by rw [e] at h; exact h
 have he : (lookP x.ev to).getD ev0 = x.e to := rfl
 have hc : (lookP x.ch (fr,to)).getD [] = x.c fr to := rfl
 simp +contextual only [x73,mapD_len,hxd,hfd,htd,keys_id (x := to),look_id (x := to),look_ev,fact_ev,he,↓U73,↓XP,↓XU,XW0,XW1,qa,qb,qc,qd,qe,qf,reduceCtorEq,TYX]
 rintro b3 h3 b4 ⟨n34,h4⟩ b5 ⟨n45,n35,h5⟩ b8 ⟨n58,n48,n38,h8⟩
 intro _
 refine ⟨fun h0=>hk [to] 0 (by unfold nextP; rw [if_pos h0]),fun h0=>?_⟩
 have hch := hx.ch fr to
 have hal := hx.all to
 simp +contextual only [x73,mapD_len,keys_q (x := fr) (y := to),look_q (x := fr) (y := to),look_sl,hc,h_miss,h_skip,n34,n45,n35,n58,n48,n38,↓U73,↓XP,↓XU,XW0,XW1,qa,qb,qc,qd,qe,qf,reduceCtorEq,TYX]
 intros
 refine f_sorted (l := x.c fr to) hch.1 hch.2 ?_
 have hsl := srt_len (l := x.c fr to)
 obtain ⟨sl,hsle⟩ : ∃ sl,srt (x.c fr to) = sl := ⟨_,rfl⟩
 have hnx : nextP x fr to = if sl.length = 1 then (sl,0) else if 1 < sl.length then (sl,15) else if (x.e to).n = 1 ∧ (x.e to).one.length = 1 then ((x.e to).one,0) else (srt (x.e to).all,15) := by
  unfold nextP
  rw [if_neg h0,hsle]
 rw [hsle] at hsl ⊢
 by_cases h1 : sl.length = 1
 ·rw [if_pos h1] at hnx
  have h1' : ((sl.length : Int) = 1) = True := eq_true (by omega)
  simp +contextual only [x73,mapD_len,h1',h_miss,h_skip,n34,n45,n35,n58,n48,n38,↓U73,↓XP,↓XU,XW0,XW1,qa,qb,qc,qd,qe,qf,reduceCtorEq,TYX]
  intros
  exact hk _ _ hnx
 ·rw [if_neg h1] at hnx
  have h1' : ((sl.length : Int) = 1) = False := eq_false (by omega)
  by_cases h2 : 1 < sl.length
  ·rw [if_pos h2] at hnx
   have h2' : (1 < (sl.length : Int)) = True := eq_true (by omega)
   simp +contextual only [x73,mapD_len,h1',h2',h_miss,h_skip,n34,n45,n35,n58,n48,n38,↓U73,↓XP,↓XU,XW0,XW1,qa,qb,qc,qd,qe,qf,reduceCtorEq,TYX]
   intros
   exact hk _ _ hnx
  ·rw [if_neg h2] at hnx
   have h2' : (1 < (sl.length : Int)) = False := eq_false (by omega)
   by_cases h3 : (x.e to).n = 1
   ·have h3' : ((x.e to).n = 1) = True := eq_true h3
    by_cases h4 : (x.e to).one.length = 1
    ·rw [if_pos ⟨h3,h4⟩] at hnx
     have h4' : (((x.e to).one.length : Int) = 1) = True := eq_true (by omega)
     simp +contextual only [x73,mapD_len,h1',h2',h3',h4',h_miss,h_skip,n34,n45,n35,n58,n48,n38,↓U73,↓XP,↓XU,XW0,XW1,qa,qb,qc,qd,qe,qf,reduceCtorEq,TYX]
     intros
     refine f_cloneO (by omega) ?_
     simp +contextual only [x73,mapD_len,w_own,h_miss,h_skip,n34,n45,n35,n58,n48,n38,↓U73,↓XP,↓XU,XW0,XW1,qa,qb,qc,qd,qe,qf,reduceCtorEq,TYX]
     intros
     exact hk _ _ hnx
    ·rw [if_neg (fun e=>h4 e.2)] at hnx
     have h4' : (((x.e to).one.length : Int) = 1) = False := eq_false (by omega)
     simp +contextual only [x73,mapD_len,h1',h2',h3',h4',h_miss,h_skip,n34,n45,n35,n58,n48,n38,↓U73,↓XP,↓XU,XW0,XW1,qa,qb,qc,qd,qe,qf,reduceCtorEq,TYX]
     intros
     refine f_sorted hal.1 hal.2 ?_
     simp +contextual only [x73,mapD_len,h_miss,h_skip,n34,n45,n35,n58,n48,n38,↓U73,↓XP,↓XU,XW0,XW1,qa,qb,qc,qd,qe,qf,reduceCtorEq,TYX]
     intros
     exact hk _ _ hnx
   ·have h3' : ((x.e to).n = 1) = False := eq_false h3
    rw [if_neg (fun e=>h3 e.1)] at hnx
    simp +contextual only [x73,mapD_len,h1',h2',h3',h_miss,h_skip,n34,n45,n35,n58,n48,n38,↓U73,↓XP,↓XU,XW0,XW1,qa,qb,qc,qd,qe,qf,reduceCtorEq,TYX]
    intros
    refine f_sorted hal.1 hal.2 ?_
    simp +contextual only [x73,mapD_len,h_miss,h_skip,n34,n45,n35,n58,n48,n38,↓U73,↓XP,↓XU,XW0,XW1,qa,qb,qc,qd,qe,qf,reduceCtorEq,TYX]
    intros
    exact hk _ _ hnx
end Go.Proofs.Ytffbjejmobhpkaa
end
section
namespace Go.Proofs.Ytffbjejmobhpkaa
open Go Go.Aw
def Ix.s (x : Ix) (y : Id3) : Bool := (lookP x.se y).getD false
def vis (mm : List (Id3 × Bool)) (y : Id3) : Bool := (lookP mm y).getD false
def stopN (x : Ix) (fr to : Id3) : Bool := !decide ((nextP x fr to).2 = 0) || !x.s to
def hd1 (l : List Id3) : Id3 := l.getD 0 default
def wayF (x : Ix) (fr : Id3) : Nat → List (Id3 × Bool) → Id3 → List Id3
 | 0,_,_=>[]
 | k + 1,mm,to=>if vis mm to = true then [] else to :: if stopN x fr to = true then [] else wayF x fr k (updP mm to true) (hd1 (nextP x fr to).1)
def wayE (x : Ix) (fr : Id3) : Nat → List (Id3 × Bool) → Id3 → Id3
 | 0,_,to=>to
 | k + 1,mm,to=>if vis mm to = true then to else if stopN x fr to = true then to else wayE x fr k (updP mm to true) (hd1 (nextP x fr to).1)
def wayN (x : Ix) : Nat := x.se.length + 2
def wayP (x : Ix) (fr to : Id3) : List Id3 := wayF x fr (wayN x) [] to
theorem len_le_of_sub {α : Type} [DecidableEq α] : ∀ {a b : List α},a.Nodup → (∀ x ∈ a,x ∈ b) → a.length ≤ b.length
 | [],_,_,_=>by simp
 | x :: a,b,hn,h=>by
  have hn' := List.nodup_cons.1 hn
  have hx : x ∈ b := h x (.head _)
  have ih := len_le_of_sub (a := a) (b := b.erase x) hn'.2 fun y hy=>by
   have hne : y ≠ x := fun e=>hn'.1 (by rw [← e]; exact hy)
   exact (List.mem_erase_of_ne hne).2 (h y (.tail _ hy))
  rw [List.length_erase_of_mem hx] at ih
  have hp : 0 < b.length := List.length_pos_of_mem hx
  simp only [List.length_cons]
  omega
structure MetOk (x : Ix) (mm : List (Id3 × Bool)) : Prop where
 nd : (mm.map (·.1)).Nodup
 sub : ∀ p ∈ mm,p.2 = true ∧ x.s p.1 = true
theorem MetOk.len {x : Ix} {mm : List (Id3 × Bool)} (h : MetOk x mm) : mm.length ≤ x.se.length := by
 have := len_le_of_sub (b := x.se.map (·.1)) h.nd fun y hy=>by
  obtain ⟨p,hp,rfl⟩ := List.mem_map.1 hy
  have h2 := (h.sub p hp).2
  unfold Ix.s at h2
  cases hl : lookP x.se p.1 with
  | none=>rw [hl] at h2; cases h2
  | some v=>exact List.mem_map.2 ⟨_,look_mem hl,rfl⟩
 simpa using this
theorem MetOk.add {x : Ix} {mm : List (Id3 × Bool)} (h : MetOk x mm) {to : Id3} (hv : vis mm to = false) (hs : x.s to = true) : MetOk x (updP mm to true) ∧ (updP mm to true).length = mm.length + 1 := by
 have hl : lookP mm to = none := by
  cases hl : lookP mm to with
  | none=>rfl
  | some v =>
   have := (h.sub _ (look_mem hl)).1
   simp only at this
   subst this
   unfold vis at hv
   rw [hl] at hv
   cases hv
 have hk : to ∉ mm.map (·.1) := fun hm=>by
  obtain ⟨p,hp,e⟩ := List.mem_map.1 hm
  have h2 : ∀ {m : List (Id3 × Bool)},p ∈ m → lookP m p.1 ≠ none := by
   intro m
   induction m with
   | nil=>intro h; cases h
   | cons q r ih =>
    intro h
    simp only [lookP]
    split
    ·simp
    ·rename_i e
     rcases List.mem_cons.1 h with h | h
     ·subst h; exact absurd rfl e
     ·exact ih h
  exact h2 hp (by rw [e]; exact hl)
 rw [look_none hl]
 refine ⟨⟨?_,fun p hp=>?_⟩,by simp⟩
 ·rw [List.map_append,List.map_cons,List.map_nil,nodup_mid,List.append_nil]
  exact ⟨hk,h.nd⟩
 ·rcases List.mem_append.1 hp with hp | hp
  ·exact h.sub p hp
  ·rw [List.mem_singleton.1 hp]; exact ⟨rfl,hs⟩
theorem wayF_len {x : Ix} {fr : Id3} : ∀ {k : Nat} {mm : List (Id3 × Bool)} {to : Id3},(wayF x fr k mm to).length ≤ k
 | 0,mm,to=>by simp [wayF]
 | k + 1,mm,to=>by
  unfold wayF
  split
  ·simp
  ·split
   ·simp
   ·have := wayF_len (x := x) (fr := fr) (k := k) (mm := updP mm to true) (to := hd1 (nextP x fr to).1)
    simp only [List.length_cons]
    omega
theorem stop_s {x : Ix} {fr to : Id3} (h : stopN x fr to = false) : x.s to = true ∧ (nextP x fr to).2 = 0 := by
 unfold stopN at h
 simp only [Bool.or_eq_false_iff,Bool.not_eq_false',decide_eq_true_eq] at h
 exact ⟨h.2,h.1⟩
theorem way_on {x : Ix} {fr : Id3} : ∀ {k : Nat} {mm : List (Id3 × Bool)} {to : Id3} {pre : List Id3},MetOk x mm → x.se.length + 2 ≤ k + mm.length → vis mm to = false → (∀ y,vis mm y = true → y ∈ pre) →
  ∃ w l,wayF x fr k mm to = w ++ [l] ∧ (stopN x fr l = false → hd1 (nextP x fr l).1 ∈ pre ++ (w ++ [l]))
 | 0,mm,to,pre,hm,hk,hv,hp=>by have := hm.len; omega
 | k + 1,mm,to,pre,hm,hk,hv,hp=>by
  unfold wayF
  rw [if_neg (by rw [hv]; simp)]
  by_cases hs : stopN x fr to = true
  ·rw [if_pos hs]
   exact ⟨[],to,rfl,fun h=>by rw [hs] at h; cases h⟩
  ·rw [if_neg hs]
   have hs' : stopN x fr to = false := by simpa using hs
   obtain ⟨h1,h2⟩ := stop_s hs'
   obtain ⟨q1,q2⟩ := hm.add hv h1
   by_cases hv2 : vis (updP mm to true) (hd1 (nextP x fr to).1) = true
   ·have hk0 : k ≠ 0 := by have := hm.len; omega
    obtain ⟨k,rfl⟩ := Nat.exists_eq_succ_of_ne_zero hk0
    rw [show wayF x fr (k + 1) (updP mm to true) (hd1 (nextP x fr to).1) = [] by unfold wayF; rw [if_pos hv2]]
    refine ⟨[],to,rfl,fun _=>?_⟩
    unfold vis at hv2
    rw [look_upd] at hv2
    split at hv2
    ·rename_i e; rw [e]; simp
    ·exact List.mem_append_left _ (hp _ hv2)
   ·have hv2' : vis (updP mm to true) (hd1 (nextP x fr to).1) = false := by simpa using hv2
    obtain ⟨w,l,e1,e2⟩ := way_on (k := k) (pre := pre ++ [to]) q1 (by rw [q2]; omega) hv2' (fun y hy=>by
     unfold vis at hy
     rw [look_upd] at hy
     split at hy
     ·rename_i e; subst e; simp
     ·exact List.mem_append_left _ (hp y hy))
    refine ⟨to :: w,l,by rw [e1]; rfl,fun h=>?_⟩
    have := e2 h
    rw [List.append_assoc] at this
    exact this
theorem wayP_on {x : Ix} {fr to : Id3} : ∃ w l,wayP x fr to = w ++ [l] ∧ (stopN x fr l = false → hd1 (nextP x fr l).1 ∈ wayP x fr to) := by
 obtain ⟨w,l,e1,e2⟩ := way_on (x := x) (fr := fr) (k := wayN x) (mm := []) (to := to) (pre := []) ⟨by simp,by simp⟩ (by simp [wayN]) rfl (fun y hy=>by cases hy)
 exact ⟨w,l,e1,fun h=>by rw [wayP,e1]; simpa using e2 h⟩
end Go.Proofs.Ytffbjejmobhpkaa
end
section
namespace Go.Aw
open Go Go.RowKit
section
variable {P : Program} {F : List D} {H : AH} {k : HK} {dst : Option Tmp} {t l : Nat} {tk ta : Bool} {f x : Operand} {tys : Array TypeId}
def ylC (o : Option AO) (P : Program) (l : Nat) (x : D) (dst : Option Tmp) (F : List D) (H : AH) (k : HK) : Prop := match o with
 | some (.lp J pre)=>YStep P l J pre x ∧ k (putF F dst (.bool true)) (setH H l (.lp J (pre ++ [x])))
 | _=>False
def yvD (c : D) (P : Program) (x : Operand) (dst : Option Tmp) (F : List D) (H : AH) (k : HK) : Prop := match c with
 | .yld l=>ylC (getH H l) P l (rv F x) dst F H k
 | _=>False
def ygD (c : D) (P : Program) (f x : Operand) (dst : Option Tmp) (t : Nat) (F : List D) (H : AH) (k : HK) : Prop := match c with
 | .bool true=>yvD (rv (F.set t (.bool true)) f) P x dst (F.set t (.bool true)) H k
 | .bool false=>k (putF (F.set t (.bool false)) dst (.tup [])) H
 | _=>False
theorem y_o : yldO P ⟨.call ⟨.value f,#[x],tys⟩,dst,some (some (t,true)),tk,ta⟩ F H k = ygD (F.getD t .any) P f x dst t F H k := by
 unfold yldO ygD yldX yvD yldC ylC
 dsimp only
 generalize F.getD t .any = c
 cases c with
 | bool b =>
  cases b
  ·exact propext ⟨fun h=>h.2 rfl,fun h=>⟨fun e=>(by cases e),fun _=>h⟩⟩
  ·exact propext ⟨fun h=>h.1 rfl,fun h=>⟨fun _=>h,fun e=>(by cases e)⟩⟩
 | _=>rfl
theorem y_f : ygD (.bool false) P f x dst t F H k = k (putF (F.set t (.bool false)) dst (.tup [])) H := .trans rfl rfl
theorem y_t : ygD (.bool true) P f x dst t F H k = yvD (rv (F.set t (.bool true)) f) P x dst (F.set t (.bool true)) H k := .trans rfl rfl
theorem y_v : yvD (.yld l) P x dst F H k = ylC (getH H l) P l (rv F x) dst F H k := .trans rfl rfl
theorem y_c {J : List D → (Nat → BK) → World → Prop} {pre : List D} {d : D} : ylC (some (.lp J pre)) P l d dst F H k = (YStep P l J pre d ∧ k (putF F dst (.bool true)) (setH H l (.lp J (pre ++ [d])))) := .trans rfl rfl
end
end Go.Aw
namespace Go.Proofs.Ytffbjejmobhpkaa
open Go Go.Aw
def agI (y : Id3) : D := .agg y.d
theorem next_ne {x : Ix} {fr to : Id3} (h : (nextP x fr to).2 = 0) : 0 < (nextP x fr to).1.length := by
 unfold nextP at h ⊢
 split
 ·simp
 ·rename_i h0
  rw [if_neg h0] at h
  split
  ·rename_i h1; show 0 < (srt _).length; omega
  ·rename_i h1
   rw [if_neg h1] at h
   split
   ·rename_i h2; rw [if_pos h2] at h; cases h
   ·rename_i h2
    rw [if_neg h2] at h
    split
    ·rename_i h3; show 0 < (x.e to).one.length; omega
    ·rename_i h3; rw [if_neg h3] at h; cases h
theorem f_way1 {x : Ix} (hx : IxOk x) {fr to : Id3} {L c3 c4 c5 : Nat} {J : List D → (Nat → BK) → World → Prop} {G : AH} (hd : ¬ c5 = L ∧ ¬ c4 = L ∧ ¬ c3 = L ∧ ¬ c4 = c5 ∧ ¬ c3 = c5 ∧ ¬ c3 = c4)
  (hy : ∀ pre z,pre ++ [z] <+: (wayP x fr to).map agI → YStep Try.prog L J pre z) {R : D → AH → Prop}
  (h : ∀ d,R d ((L,.lp J ((wayP x fr to).map agI)) :: (c5,.cells (wayE x fr (wayN x) [] to).d) :: (c4,.cells fr.d) :: (c3,.cells x.d) :: G)) :
  ACall Try.prog 84 [.yld L,.ptr c5 0,.ptr c3 0,.ptr c4 0] ((L,.lp J []) :: (c5,.cells to.d) :: (c4,.cells fr.d) :: (c3,.cells x.d) :: G) R := by
 refine b84 fun hf=>?_
 have hbig := big_eq
 obtain ⟨l5,l4,l3,n54,n53,n43⟩ := hd
 have hxd : x.d = [.mpv (mapE Id3.d D.bool x.se),.mpv (mapE Id3.d Ev.d x.ev),.mpv (mapE qD slD x.ch)] := rfl
 have hfd : fr.d = [.int .i64 fr.o,.int .i64 fr.s,.int .i64 fr.i] := rfl
 simp +contextual only [x84,mapD_len,↓U84,↓XP,↓XU,XW0,XW1,qa,qb,qc,qd,qe,qf,reduceCtorEq,TYX]
 rintro m5 ⟨lm,n5m,n4m,n3m,hm5⟩
 generalize hys : (wayP x fr to).map agI = ys at hy h
 refine XW.loopS Go.Proofs.Ytffbjejmobhpkaa.hm 39 (fun s : Nat × List D × List (Id3 × Bool) × Id3=>[(0,.yld L),(1,.ptr c5 0),(2,.ptr c3 0),(3,.ptr c4 0),(5,.mp (some m5))]) (fun s : Nat × List D × List (Id3 × Bool) × Id3=>(m5,AO.mp (mapE Id3.d D.bool s.2.2.1)) :: (L,AO.lp J s.2.1) :: (c5,AO.cells s.2.2.2.d) :: (c4,AO.cells fr.d) :: (c3,AO.cells x.d) :: G) (fun s=>s.1) (fun s=>s.2.1 ++ (wayF x fr s.1 s.2.2.1 s.2.2.2).map agI = ys ∧ wayE x fr s.1 s.2.2.1 s.2.2.2 = wayE x fr (wayN x) [] to ∧ MetOk x s.2.2.1 ∧ x.se.length + 2 ≤ s.1 + s.2.2.1.length) (wayN x,[],[],to) ⟨hys,rfl,⟨by simp,by simp⟩,by simp [wayN]⟩ ⟨rfl,rfl,rfl,rfl,rfl,rfl,trivial⟩ rfl ?_
 rintro ⟨k,pre,mm,t⟩ z ⟨h1,h2,h3,h4⟩ K hN hE hR
 dsimp only at h1 h2 h3 h4 hN
 have hml := h3.len
 obtain ⟨k,rfl⟩ : ∃ q,k = q + 1 := ⟨k - 1,by omega⟩
 rw [wayF] at h1
 rw [wayE] at h2
 have htd : t.d = [.int .i64 t.o,.int .i64 t.s,.int .i64 t.i] := rfl
 show xcode _ _ [.yld L,.ptr c5 0,.ptr c3 0,.ptr c4 0,z 4,.mp (some m5),z 6,z 7,z 8,z 9,z 10,z 11,z 12,z 13,z 14,z 15,z 16,z 17,z 18,z 19,z 20,z 21,z 22,z 23,z 24,z 25,z 26,z 27,z 28,z 29,z 30,z 31,z 32,z 33,z 34,z 35,z 36,z 37,z 38] ((m5,.mp (mapE Id3.d D.bool mm)) :: (L,.lp J pre) :: (c5,.cells t.d) :: (c4,.cells fr.d) :: (c3,.cells x.d) :: G) K
 by_cases hv : vis mm t = true
 ·rw [if_pos hv] at h1 h2
  have hv' : (lookP mm t).getD false = true := hv
  simp +contextual only [x84,mapD_len,htd,keys_id (x := t),look_id (x := t),opt_b,hv',y_o,y_f,h_miss,h_skip,l5,l4,l3,n54,n53,n43,lm,n5m,n4m,n3m,↓U84,↓XP,↓XU,XW0,XW1,qa,qb,qc,qd,qe,qf,reduceCtorEq,TYX]
  refine hE _ _ _ ?_
  rw [List.map_nil,List.append_nil] at h1
  simp +contextual only [x84,mapD_len,↓U84,↓XP,↓XU,XW0,XW1,qa,qb,qc,qd,qe,qf,reduceCtorEq,TYX]
  rw [← h1,← h2] at h
  exact h _
 ·rw [if_neg hv] at h1 h2
  have hv' : (lookP mm t).getD false = false := by simpa [vis] using hv
  simp +contextual only [x84,mapD_len,htd,hxd,hfd,keys_id (x := t),look_id (x := t),upd_id (x := t),opt_b,hv',y_o,y_t,y_v,y_c,h_miss,h_skip,l5,l4,l3,n54,n53,n43,lm,n5m,n4m,n3m,↓U84,↓XP,↓XU,XW0,XW1,qa,qb,qc,qd,qe,qf,reduceCtorEq,TYX]
  refine ⟨hy pre (agI t) ⟨_,by rw [← h1,List.map_cons,List.append_assoc]; rfl⟩,?_⟩
  intros
  obtain ⟨l,e,hle⟩ : ∃ l e,nextP x fr t = (l,e) := ⟨_,_,rfl⟩
  have hne := next_ne (x := x) (fr := fr) (to := t)
  refine f_next hx (fr := fr) (to := t) ?_
  unfold stopN at h1 h2
  rw [hle] at h1 h2 hne ⊢
  dsimp only at h1 h2 hne ⊢
  by_cases he : e = 0
  ·rw [decide_eq_true he] at h1 h2
   have he' : (e = 0) = True := eq_true he
   by_cases hs : x.s t = true
   ·rw [hs] at h1 h2
    simp only [Bool.not_true,Bool.or_false,Bool.false_eq_true,if_false] at h1 h2
    have hs' : (lookP x.se t).getD false = true := hs
    have hl0 := hne he
    have g := mapD_get (f := Id3.d) hl0
    have hlt : ((0 : Int) < (l.length : Int)) = True := eq_true (by omega)
    have hyd : (hd1 l).d = [.int .i64 (hd1 l).o,.int .i64 (hd1 l).s,.int .i64 (hd1 l).i] := rfl
    have g' : (mapD Id3.d l).getD 0 [] = (hd1 l).d := g
    simp +contextual only [x84,mapD_len,he',hs',hxd,htd,keys_id (x := t),look_id (x := t),opt_b,hlt,g',hyd,h_miss,h_skip,l5,l4,l3,n54,n53,n43,lm,n5m,n4m,n3m,↓U84,↓XP,↓XU,XW0,XW1,qa,qb,qc,qd,qe,qf,reduceCtorEq,TYX]
    intros
    have hvf : vis mm t = false := hv'
    have had := h3.add hvf hs
    refine hN (k,pre ++ [agI t],updP mm t true,hd1 l) _ _ ⟨?_,h2,had.1,?_⟩ (by dsimp only; omega) ⟨rfl,rfl,rfl,rfl,rfl,rfl,trivial⟩ (back_0 rfl)
    ·dsimp only
     rw [List.append_assoc]
     exact h1
    ·have := had.2
     dsimp only
     omega
   ·have hs' : (lookP x.se t).getD false = false := by simpa [Ix.s] using hs
    have hsf : x.s t = false := hs'
    rw [hsf] at h1 h2
    simp only [Bool.not_true,Bool.not_false,Bool.or_true,if_true] at h1 h2
    simp +contextual only [x84,mapD_len,he',hs',hxd,htd,keys_id (x := t),look_id (x := t),opt_b,h_miss,h_skip,l5,l4,l3,n54,n53,n43,lm,n5m,n4m,n3m,↓U84,↓XP,↓XU,XW0,XW1,qa,qb,qc,qd,qe,qf,reduceCtorEq,TYX]
    intros
    refine hR _ _ ?_
    simp +contextual only [x84,mapD_len,↓U84,↓XP,↓XU,XW0,XW1,qa,qb,qc,qd,qe,qf,reduceCtorEq,TYX]
    have hh := h (.tup [])
    rw [← h1,← h2] at hh
    exact hh
  ·rw [decide_eq_false he] at h1 h2
   have he' : (e = 0) = False := eq_false he
   simp only [Bool.not_false,Bool.true_or,if_true] at h1 h2
   simp +contextual only [x84,mapD_len,he',hxd,htd,h_miss,h_skip,l5,l4,l3,n54,n53,n43,lm,n5m,n4m,n3m,↓U84,↓XP,↓XU,XW0,XW1,qa,qb,qc,qd,qe,qf,reduceCtorEq,TYX]
   intros
   refine hR _ _ ?_
   simp +contextual only [x84,mapD_len,↓U84,↓XP,↓XU,XW0,XW1,qa,qb,qc,qd,qe,qf,reduceCtorEq,TYX]
   have hh := h (.tup [])
   rw [← h1,← h2] at hh
   exact hh
end Go.Proofs.Ytffbjejmobhpkaa
end
