/- A part of the proof of what the last text says: Er9, Era, XcH, Ed0. Conditions: those in each theorem. -/
import Derived.Test.YtffbjejmobhpkaaE19
set_option linter.unusedVariables false
set_option linter.unusedSimpArgs false
set_option maxRecDepth 100000
set_option maxHeartbeats 16000000
open Nat renaming reduceSub → qa,reduceAdd → qb,reduceMul → qc,reduceEqDiff → qd,reduceLeDiff → qe,reduceBEq → qf
section
namespace Go.Proofs.Ytffbjejmobhpkaa
open Go Go.Aw
def bxD (sn : List Sn) (sl : List Spl) (mg : List Mg) (ch : List Ch) : List D := [.own [],.own (mapD Sn.d sn),.own [],.own [],.own (mapD Spl.d sl),.own (mapD Mg.d mg),.own (mapD Ch.d ch)]
def Bk.dz (b : Bk) : List D := [.slc (mapD En.d b.en),.slc (mapD Sn.d b.sn),.osl 0 0 [],.osl 0 0 [],.slc (mapD Spl.d b.sl),.slc (mapD Mg.d b.mg),.slc (mapD Ch.d b.ch)]
structure IdLp where
 i : Nat
 ids : List Id3
structure SnLp where
 i : Nat
 sn : List Sn
structure LiLp where
 k : Nat
 li : List Id3
def snB (x : Id3) (li : List Id3) (bi : List Bn) : List D := [.int .i64 x.o,.int .i64 x.s,.int .i64 x.i,.int .i64 0,.int .i64 0,.int .i64 0,.slc [],.slc [],.slc [],.slc [],.slc [],.own (mapD Bn.d bi),.slc [],.slc (mapD Id3.d li)]
structure SpLp where
 i : Nat
 sl : List Spl
structure PtLp where
 k : Nat
 ps : List Id3
def spB11 (i : Nat) (y : Id3) (df : Int) (ps : List Id3) : List D := [.int .i64 5,.int .i64 1,.int .i64 i,.int .i64 y.o,.int .i64 y.s,.int .i64 y.i,.own (mapD Id3.d ps),.int .i64 df]
structure MgLp where
 i : Nat
 mg : List Mg
structure ChLp where
 i : Nat
 ch : List Ch
theorem ids_len {n : Int} {ids : List Id3} (h0 : 2 ≤ n) (h1 : n < 10) (h : (List.range n.toNat).foldl (fun a i=>insI (idR i) a) [] = ids) : (ids.length : Int) = n := by
 subst h
 have : ∀ k : Nat,k < 10 → ((List.range k).foldl (fun a i=>insI (idR i) a) []).length = k := by decide
 have := this n.toNat (by omega)
 omega
theorem f_book20 {l : List Int} {H : AH} {R : D → AH → Prop} (h : ∀ b : Bk,Gen b → b.en = [] → b.sr = [] → b.qt = [] → 2 ≤ b.sn.length → R (.agg b.dz) H) : ACall Try.prog 31 [.slc (mapD intD l)] H R := by
 refine b31 fun hf=>?_
 have hbig := big_eq
 have hB : ∀ sn sl mg ch,bxD sn sl mg ch = [.own [],.own (mapD Sn.d sn),.own [],.own [],.own (mapD Spl.d sl),.own (mapD Mg.d mg),.own (mapD Ch.d ch)] := fun _ _ _ _=>rfl
 simp +contextual only [x31,mapD_len,↓U31,↓XP,↓XU,XW0,XW1,qa,qb,qc,qd,qe,qf,reduceCtorEq,TYX]
 intro b2 h2
 refine f_atZ (i := 0) (by omega) (by omega) ?_
 have hr := atZ_range (l := l) (i := 0) (most := 8) (by omega)
 generalize atZ l 0 8 = a at hr
 obtain ⟨n,hn⟩ : ∃ n : Int,n = 2 + a := ⟨_,rfl⟩
 simp +contextual only [x31,mapD_len,wrap_id (n := n) (by omega) (by omega),← hn,↓U31,↓XP,↓XU,XW0,XW1,qa,qb,qc,qd,qe,qf,reduceCtorEq,TYX]
 intro _ b4 h4
 obtain ⟨n24,h4⟩ := h4
 refine gh_intro (Fz.view (s := 5) (xs := []) rfl) ?_
 simp +contextual only [x31,mapD_len,↓U31,↓XP,↓XU,XW0,XW1,qa,qb,qc,qd,qe,qf,reduceCtorEq,TYX]
 refine XW.loopS Go.Proofs.Ytffbjejmobhpkaa.hm 249 (fun s : IdLp=>[(0,.slc (mapD intD l)),(2,.ptr b2 0),(3,.int .i64 n),(4,.ptr b4 0),(5,.slc (mapD Id3.d s.ids)),(6,.int .i64 ((s.i : Nat) : Int))]) (fun s=>(b4,AO.cells (bxD [] [] [] [])) :: (b2,AO.cells (bxD [] [] [] [])) :: H) (fun s=>n.toNat - s.i) (fun s=>s.i ≤ n.toNat ∧ (List.range s.i).foldl (fun a i=>insI (idR i) a) [] = s.ids ∧ s.ids.length ≤ s.i) ⟨0,[]⟩ ⟨by simp,rfl,by simp⟩ ⟨rfl,rfl,rfl,rfl,rfl,rfl,rfl,trivial⟩ rfl ?_
 rintro ⟨i,ids⟩ z ⟨hi,hst,hil⟩ K hN hE hR
 dsimp only at hi hst hil
 show xcode _ _ [.slc (mapD intD l),z 1,.ptr b2 0,.int .i64 n,.ptr b4 0,.slc (mapD Id3.d ids),.int .i64 ((i : Nat) : Int),z 7,z 8,z 9,z 10,z 11,z 12,z 13,z 14,z 15,z 16,z 17,z 18,z 19,z 20,z 21,z 22,z 23,z 24,z 25,z 26,z 27,z 28,z 29,z 30,z 31,z 32,z 33,z 34,z 35,z 36,z 37,z 38,z 39,z 40,z 41,z 42,z 43,z 44,z 45,z 46,z 47,z 48,z 49,z 50,z 51,z 52,z 53,z 54,z 55,z 56,z 57,z 58,z 59,z 60,z 61,z 62,z 63,z 64,z 65,z 66,z 67,z 68,z 69,z 70,z 71,z 72,z 73,z 74,z 75,z 76,z 77,z 78,z 79,z 80,z 81,z 82,z 83,z 84,z 85,z 86,z 87,z 88,z 89,z 90,z 91,z 92,z 93,z 94,z 95,z 96,z 97,z 98,z 99,z 100,z 101,z 102,z 103,z 104,z 105,z 106,z 107,z 108,z 109,z 110,z 111,z 112,z 113,z 114,z 115,z 116,z 117,z 118,z 119,z 120,z 121,z 122,z 123,z 124,z 125,z 126,z 127,z 128,z 129,z 130,z 131,z 132,z 133,z 134,z 135,z 136,z 137,z 138,z 139,z 140,z 141,z 142,z 143,z 144,z 145,z 146,z 147,z 148,z 149,z 150,z 151,z 152,z 153,z 154,z 155,z 156,z 157,z 158,z 159,z 160,z 161,z 162,z 163,z 164,z 165,z 166,z 167,z 168,z 169,z 170,z 171,z 172,z 173,z 174,z 175,z 176,z 177,z 178,z 179,z 180,z 181,z 182,z 183,z 184,z 185,z 186,z 187,z 188,z 189,z 190,z 191,z 192,z 193,z 194,z 195,z 196,z 197,z 198,z 199,z 200,z 201,z 202,z 203,z 204,z 205,z 206,z 207,z 208,z 209,z 210,z 211,z 212,z 213,z 214,z 215,z 216,z 217,z 218,z 219,z 220,z 221,z 222,z 223,z 224,z 225,z 226,z 227,z 228,z 229,z 230,z 231,z 232,z 233,z 234,z 235,z 236,z 237,z 238,z 239,z 240,z 241,z 242,z 243,z 244,z 245,z 246,z 247,z 248] _ K
 by_cases hlt : (i : Int) < n
 ·have hstep : (List.range (i + 1)).foldl (fun a i=>insI (idR i) a) [] = insI (idR i) ids := by rw [List.range_succ,List.foldl_append,hst]; rfl
  have hle := insI_len (x := idR i) (l := ids)
  simp +contextual only [x31,mapD_len,eq_true hlt,↓U31,↓XP,↓XU,XW0,XW1,qa,qb,qc,qd,qe,qf,reduceCtorEq,TYX]
  refine f_ID (i := i) ?_
  generalize idR i = x at hstep hle
  have hxd : x.d = [.int .i64 x.o,.int .i64 x.s,.int .i64 x.i] := rfl
  simp +contextual only [x31,mapD_len,hxd,↓U31,↓XP,↓XU,XW0,XW1,qa,qb,qc,qd,qe,qf,reduceCtorEq,TYX]
  refine f_insert (x := x) (l := ids) (by omega) ?_
  simp +contextual only [x31,mapD_len,wrap_succ (show i ≤ big by omega),↓U31,↓XP,↓XU,XW0,XW1,qa,qb,qc,qd,qe,qf,reduceCtorEq,TYX]
  intros
  exact hN ⟨i + 1,insI x ids⟩ _ _ ⟨by dsimp only; omega,hstep,by dsimp only; omega⟩ (by dsimp only; omega) ⟨rfl,rfl,rfl,rfl,rfl,rfl,rfl,trivial⟩ (back_0 rfl)
 ·have hin : i = n.toNat := by omega
  subst hin
  have hln := ids_len (by omega) (by omega) hst
  simp +contextual only [x31,mapD_len,eq_false hlt,↓U31,↓XP,↓XU,XW0,XW1,qa,qb,qc,qd,qe,qf,reduceCtorEq,TYX]
  intros
  refine hE _ _ _ ?_
  clear hN hE hR hst hil hlt hi
  simp +contextual only [x31,mapD_len,↓U31,↓XP,↓XU,XW0,XW1,qa,qb,qc,qd,qe,qf,reduceCtorEq,TYX]
  refine XW.loopS Go.Proofs.Ytffbjejmobhpkaa.hm 249 (fun s : SnLp=>[(0,.slc (mapD intD l)),(2,.ptr b2 0),(3,.int .i64 n),(4,.ptr b4 0),(5,.slc (mapD Id3.d ids)),(7,.int .i64 ((s.i : Nat) : Int))]) (fun s=>(b4,AO.cells (bxD s.sn [] [] [])) :: (b2,AO.cells (bxD [] [] [] [])) :: H) (fun s=>n.toNat - s.i) (fun s=>s.i ≤ n.toNat ∧ s.sn.length = s.i) ⟨0,[]⟩ ⟨by simp,rfl⟩ ⟨rfl,rfl,rfl,rfl,rfl,rfl,rfl,trivial⟩ rfl ?_
  rintro ⟨i,sn⟩ z ⟨hi,hsl⟩ K hN hE hR
  dsimp only at hi hsl
  show xcode _ _ [.slc (mapD intD l),z 1,.ptr b2 0,.int .i64 n,.ptr b4 0,.slc (mapD Id3.d ids),z 6,.int .i64 ((i : Nat) : Int),z 8,z 9,z 10,z 11,z 12,z 13,z 14,z 15,z 16,z 17,z 18,z 19,z 20,z 21,z 22,z 23,z 24,z 25,z 26,z 27,z 28,z 29,z 30,z 31,z 32,z 33,z 34,z 35,z 36,z 37,z 38,z 39,z 40,z 41,z 42,z 43,z 44,z 45,z 46,z 47,z 48,z 49,z 50,z 51,z 52,z 53,z 54,z 55,z 56,z 57,z 58,z 59,z 60,z 61,z 62,z 63,z 64,z 65,z 66,z 67,z 68,z 69,z 70,z 71,z 72,z 73,z 74,z 75,z 76,z 77,z 78,z 79,z 80,z 81,z 82,z 83,z 84,z 85,z 86,z 87,z 88,z 89,z 90,z 91,z 92,z 93,z 94,z 95,z 96,z 97,z 98,z 99,z 100,z 101,z 102,z 103,z 104,z 105,z 106,z 107,z 108,z 109,z 110,z 111,z 112,z 113,z 114,z 115,z 116,z 117,z 118,z 119,z 120,z 121,z 122,z 123,z 124,z 125,z 126,z 127,z 128,z 129,z 130,z 131,z 132,z 133,z 134,z 135,z 136,z 137,z 138,z 139,z 140,z 141,z 142,z 143,z 144,z 145,z 146,z 147,z 148,z 149,z 150,z 151,z 152,z 153,z 154,z 155,z 156,z 157,z 158,z 159,z 160,z 161,z 162,z 163,z 164,z 165,z 166,z 167,z 168,z 169,z 170,z 171,z 172,z 173,z 174,z 175,z 176,z 177,z 178,z 179,z 180,z 181,z 182,z 183,z 184,z 185,z 186,z 187,z 188,z 189,z 190,z 191,z 192,z 193,z 194,z 195,z 196,z 197,z 198,z 199,z 200,z 201,z 202,z 203,z 204,z 205,z 206,z 207,z 208,z 209,z 210,z 211,z 212,z 213,z 214,z 215,z 216,z 217,z 218,z 219,z 220,z 221,z 222,z 223,z 224,z 225,z 226,z 227,z 228,z 229,z 230,z 231,z 232,z 233,z 234,z 235,z 236,z 237,z 238,z 239,z 240,z 241,z 242,z 243,z 244,z 245,z 246,z 247,z 248] ((b4,AO.cells (bxD sn [] [] [])) :: (b2,AO.cells (bxD [] [] [] [])) :: H) K
  by_cases hlt : (i : Int) < n
  ·have g := mapD_get (f := Id3.d) (l := ids) (i := i) (by omega)
   have hlt' : ((i : Int) < (ids.length : Int)) = True := eq_true (by omega)
   generalize ids.getD i default = x at g
   have hxd : x.d = [.int .i64 x.o,.int .i64 x.s,.int .i64 x.i] := rfl
   simp +contextual only [x31,mapD_len,eq_true hlt,g,hxd,hlt',↓U31,↓XP,↓XU,XW0,XW1,qa,qb,qc,qd,qe,qf,reduceCtorEq,TYX]
   rintro b8 ⟨n48,n28,h8⟩
   rw [c_gh]
   refine Gz.then (Gz.take0 (j := 11) rfl (Gz.weak h_hit ?_))
   have hbx : ∀ li bi,snB x li bi = [.int .i64 x.o,.int .i64 x.s,.int .i64 x.i,.int .i64 0,.int .i64 0,.int .i64 0,.slc [],.slc [],.slc [],.slc [],.slc [],.own (mapD Bn.d bi),.slc [],.slc (mapD Id3.d li)] := fun _ _=>rfl
   simp +contextual only [x31,mapD_len,h_set,↓U31,↓XP,↓XU,XW0,XW1,qa,qb,qc,qd,qe,qf,reduceCtorEq,TYX]
   refine XW.loopS Go.Proofs.Ytffbjejmobhpkaa.hm 249 (fun s : LiLp=>[(0,.slc (mapD intD l)),(2,.ptr b2 0),(3,.int .i64 n),(4,.ptr b4 0),(5,.slc (mapD Id3.d ids)),(7,.int .i64 ((i : Nat) : Int)),(8,.ptr b8 0),(9,.int .i64 ((s.k : Nat) : Int))]) (fun s=>(b8,AO.cells (snB x s.li [])) :: (b4,AO.cells (bxD sn [] [] [])) :: (b2,AO.cells (bxD [] [] [] [])) :: H) (fun s=>4 - s.k) (fun s=>s.k ≤ 3 ∧ s.li.length ≤ s.k) ⟨0,[]⟩ ⟨by simp,by simp⟩ ⟨rfl,rfl,rfl,rfl,rfl,rfl,rfl,rfl,rfl,trivial⟩ rfl ?_
   rintro ⟨k,li⟩ z ⟨hk,hli⟩ K2 hN2 hE2 hR2
   dsimp only at hk hli
   show xcode _ _ [.slc (mapD intD l),z 1,.ptr b2 0,.int .i64 n,.ptr b4 0,.slc (mapD Id3.d ids),z 6,.int .i64 ((i : Nat) : Int),.ptr b8 0,.int .i64 ((k : Nat) : Int),z 10,z 11,z 12,z 13,z 14,z 15,z 16,z 17,z 18,z 19,z 20,z 21,z 22,z 23,z 24,z 25,z 26,z 27,z 28,z 29,z 30,z 31,z 32,z 33,z 34,z 35,z 36,z 37,z 38,z 39,z 40,z 41,z 42,z 43,z 44,z 45,z 46,z 47,z 48,z 49,z 50,z 51,z 52,z 53,z 54,z 55,z 56,z 57,z 58,z 59,z 60,z 61,z 62,z 63,z 64,z 65,z 66,z 67,z 68,z 69,z 70,z 71,z 72,z 73,z 74,z 75,z 76,z 77,z 78,z 79,z 80,z 81,z 82,z 83,z 84,z 85,z 86,z 87,z 88,z 89,z 90,z 91,z 92,z 93,z 94,z 95,z 96,z 97,z 98,z 99,z 100,z 101,z 102,z 103,z 104,z 105,z 106,z 107,z 108,z 109,z 110,z 111,z 112,z 113,z 114,z 115,z 116,z 117,z 118,z 119,z 120,z 121,z 122,z 123,z 124,z 125,z 126,z 127,z 128,z 129,z 130,z 131,z 132,z 133,z 134,z 135,z 136,z 137,z 138,z 139,z 140,z 141,z 142,z 143,z 144,z 145,z 146,z 147,z 148,z 149,z 150,z 151,z 152,z 153,z 154,z 155,z 156,z 157,z 158,z 159,z 160,z 161,z 162,z 163,z 164,z 165,z 166,z 167,z 168,z 169,z 170,z 171,z 172,z 173,z 174,z 175,z 176,z 177,z 178,z 179,z 180,z 181,z 182,z 183,z 184,z 185,z 186,z 187,z 188,z 189,z 190,z 191,z 192,z 193,z 194,z 195,z 196,z 197,z 198,z 199,z 200,z 201,z 202,z 203,z 204,z 205,z 206,z 207,z 208,z 209,z 210,z 211,z 212,z 213,z 214,z 215,z 216,z 217,z 218,z 219,z 220,z 221,z 222,z 223,z 224,z 225,z 226,z 227,z 228,z 229,z 230,z 231,z 232,z 233,z 234,z 235,z 236,z 237,z 238,z 239,z 240,z 241,z 242,z 243,z 244,z 245,z 246,z 247,z 248] ((b8,AO.cells (snB x li [])) :: (b4,AO.cells (bxD sn [] [] [])) :: (b2,AO.cells (bxD [] [] [] [])) :: H) K2
   simp +contextual only [x31,mapD_len,wrap_id (n := 1 + (i : Int)) (by omega) (by omega),wrap_id (n := 2 + (i : Int)) (by omega) (by omega),wrap_id (n := 3 + (i : Int)) (by omega) (by omega),wrap_id (n := 4 + (i : Int)) (by omega) (by omega),wrap_id (n := 5 + (i : Int)) (by omega) (by omega),wrap_id (n := n + 1) (by omega) (by omega),↓U31,↓XP,↓XU,XW0,XW1,qa,qb,qc,qd,qe,qf,reduceCtorEq,TYX]
   refine f_atZ (i := 1 + (i : Int)) (by omega) (by omega) ?_
   have hv := atZ_range (l := l) (i := 1 + (i : Int)) (most := 4) (by omega)
   generalize atZ l (1 + (i : Int)) 4 = v at hv
   rcases Classical.em ((k : Int) < v) with hkv | hkv
   ·simp +contextual only [x31,mapD_len,hbx,eq_true hkv,h_miss,h_skip,n48,n28,n24,wrap_id (n := 1 + (i : Int)) (by omega) (by omega),wrap_id (n := 2 + (i : Int)) (by omega) (by omega),wrap_id (n := 3 + (i : Int)) (by omega) (by omega),wrap_id (n := 4 + (i : Int)) (by omega) (by omega),wrap_id (n := 5 + (i : Int)) (by omega) (by omega),wrap_id (n := n + 1) (by omega) (by omega),wrap_id (n := 3 * (k : Int)) (by omega) (by omega),wrap_id (n := 2 + (i : Int) + 3 * (k : Int)) (by omega) (by omega),↓U31,↓XP,↓XU,XW0,XW1,qa,qb,qc,qd,qe,qf,reduceCtorEq,TYX]
    intros
    refine ⟨_,fun _ _=>f_atZ (by omega) (by omega) ⟨rfl,rfl⟩,?_⟩
    have hv2 := atZ_range (l := l) (i := 2 + (i : Int) + 3 * (k : Int)) (most := n + 1) (by omega)
    generalize atZ l (2 + (i : Int) + 3 * (k : Int)) (n + 1) = v2 at hv2
    simp +contextual only [x31,mapD_len,↓U31,↓XP,↓XU,XW0,XW1,qa,qb,qc,qd,qe,qf,reduceCtorEq,TYX]
    intros
    refine ⟨_,fun _ _=>f_IDz (by omega) ⟨rfl,rfl⟩,?_⟩
    generalize idR v2.toNat = y
    have hyd : y.d = [.int .i64 y.o,.int .i64 y.s,.int .i64 y.i] := rfl
    simp +contextual only [x31,mapD_len,hyd,↓U31,↓XP,↓XU,XW0,XW1,qa,qb,qc,qd,qe,qf,reduceCtorEq,TYX]
    have hle := insI_len (x := y) (l := li)
    intros
    refine ⟨_,fun _ _=>f_insert (x := y) (l := li) (by omega) ⟨rfl,rfl⟩,?_⟩
    simp +contextual only [x31,mapD_len,hbx,h_miss,h_skip,n48,n28,n24,wrap_succ (show k ≤ big by omega),↓U31,↓XP,↓XU,XW0,XW1,qa,qb,qc,qd,qe,qf,reduceCtorEq,TYX]
    intros
    exact hN2 ⟨k + 1,insI y li⟩ _ _ ⟨by dsimp only; omega,by dsimp only; omega⟩ (by dsimp only; omega) ⟨rfl,rfl,rfl,rfl,rfl,rfl,rfl,rfl,rfl,trivial⟩ (back_0 rfl)
   ·simp +contextual only [x31,mapD_len,eq_false hkv,↓U31,↓XP,↓XU,XW0,XW1,qa,qb,qc,qd,qe,qf,reduceCtorEq,TYX]
    intros
    refine hE2 _ _ _ ?_
    clear hN2 hE2 hR2
    simp +contextual only [x31,mapD_len,wrap_id (n := 1 + (i : Int)) (by omega) (by omega),wrap_id (n := 2 + (i : Int)) (by omega) (by omega),wrap_id (n := 3 + (i : Int)) (by omega) (by omega),wrap_id (n := 4 + (i : Int)) (by omega) (by omega),wrap_id (n := 5 + (i : Int)) (by omega) (by omega),wrap_id (n := n + 1) (by omega) (by omega),↓U31,↓XP,↓XU,XW0,XW1,qa,qb,qc,qd,qe,qf,reduceCtorEq,TYX]
    refine f_atZ (i := 3 + (i : Int)) (by omega) (by omega) ?_
    generalize atZ l (3 + (i : Int)) 3 = v3
    have hsnD : ∀ bi,Sn.d ⟨x,id0,[],[],[],[],[],bi,[],li⟩ = [.int .i64 x.o,.int .i64 x.s,.int .i64 x.i,.int .i64 0,.int .i64 0,.int .i64 0,.slc [],.slc [],.slc [],.slc [],.slc [],.slc (mapD Bn.d bi),.slc [],.slc (mapD Id3.d li)] := fun _=>rfl
    have hap : ∀ bi,mapD Sn.d sn ++ [[.int .i64 x.o,.int .i64 x.s,.int .i64 x.i,.int .i64 0,.int .i64 0,.int .i64 0,.slc [],.slc [],.slc [],.slc [],.slc [],.slc (mapD Bn.d bi),.slc [],.slc (mapD Id3.d li)]] = mapD Sn.d (sn ++ [⟨x,id0,[],[],[],[],[],bi,[],li⟩]) := fun bi=>by rw [← mapD_app,← hsnD]; rfl
    have hNy : ∀ bi F' cs,Fr 249 [(0,.slc (mapD intD l)),(2,.ptr b2 0),(3,.int .i64 n),(4,.ptr b4 0),(5,.slc (mapD Id3.d ids)),(7,.int .i64 ((i + 1 : Nat) : Int))] F' → K .normal F' ((b8,.cells cs) :: (b4,AO.cells (bxD (sn ++ [⟨x,id0,[],[],[],[],[],bi,[],li⟩]) [] [] [])) :: (b2,AO.cells (bxD [] [] [] [])) :: H) := fun bi F' cs hF' =>
     hN ⟨i + 1,sn ++ [⟨x,id0,[],[],[],[],[],bi,[],li⟩]⟩ _ _ ⟨by dsimp only; omega,by dsimp only; rw [List.length_append,List.length_singleton]; omega⟩ (by dsimp only; omega) hF' (back_1 rfl)
    rcases Classical.em (v3 = 1) with h3 | h3
    ·simp +contextual only [x31,mapD_len,eq_true h3,hbx,h_miss,h_skip,n48,n28,n24,wrap_id (n := 1 + (i : Int)) (by omega) (by omega),wrap_id (n := 2 + (i : Int)) (by omega) (by omega),wrap_id (n := 3 + (i : Int)) (by omega) (by omega),wrap_id (n := 4 + (i : Int)) (by omega) (by omega),wrap_id (n := 5 + (i : Int)) (by omega) (by omega),wrap_id (n := n + 1) (by omega) (by omega),↓U31,↓XP,↓XU,XW0,XW1,qa,qb,qc,qd,qe,qf,reduceCtorEq,TYX]
     intros
     refine ⟨.inl (by rw [h_miss (Ne.symm n48),h_miss (Ne.symm n28)]; exact freshH_none h8),?_⟩
     refine ⟨_,fun _ _=>f_atZ (by omega) (by omega) ⟨rfl,rfl⟩,?_⟩
     generalize atZ l (4 + (i : Int)) 3 = v4
     simp +contextual only [x31,mapD_len,wrap_id (n := 1 + (i : Int)) (by omega) (by omega),wrap_id (n := 2 + (i : Int)) (by omega) (by omega),wrap_id (n := 3 + (i : Int)) (by omega) (by omega),wrap_id (n := 4 + (i : Int)) (by omega) (by omega),wrap_id (n := 5 + (i : Int)) (by omega) (by omega),wrap_id (n := n + 1) (by omega) (by omega),↓U31,↓XP,↓XU,XW0,XW1,qa,qb,qc,qd,qe,qf,reduceCtorEq,TYX]
     intros
     refine ⟨_,fun _ _=>f_atZ (by omega) (by omega) ⟨rfl,rfl⟩,?_⟩
     have hv5 := atZ_range (l := l) (i := 5 + (i : Int)) (most := n) (by omega)
     generalize atZ l (5 + (i : Int)) n = v5 at hv5
     simp +contextual only [x31,mapD_len,wrap_id (n := 1 + (i : Int)) (by omega) (by omega),wrap_id (n := 2 + (i : Int)) (by omega) (by omega),wrap_id (n := 3 + (i : Int)) (by omega) (by omega),wrap_id (n := 4 + (i : Int)) (by omega) (by omega),wrap_id (n := 5 + (i : Int)) (by omega) (by omega),wrap_id (n := n + 1) (by omega) (by omega),↓U31,↓XP,↓XU,XW0,XW1,qa,qb,qc,qd,qe,qf,reduceCtorEq,TYX]
     intros
     refine ⟨_,fun _ _=>f_IDz (by omega) ⟨rfl,rfl⟩,?_⟩
     generalize idR v5.toNat = y
     have hyd : y.d = [.int .i64 y.o,.int .i64 y.s,.int .i64 y.i] := rfl
     have hbi : mapD Bn.d [] ++ [[.int .i64 v4,.slc [[.int .i64 y.o,.int .i64 y.s,.int .i64 y.i]]]] = mapD Bn.d [⟨v4,[y]⟩] := rfl
     simp +contextual only [x31,mapD_len,hyd,hbx,hB,hbi,hap,h_miss,h_skip,n48,n28,n24,wrap_id (n := 1 + (i : Int)) (by omega) (by omega),wrap_id (n := 2 + (i : Int)) (by omega) (by omega),wrap_id (n := 3 + (i : Int)) (by omega) (by omega),wrap_id (n := 4 + (i : Int)) (by omega) (by omega),wrap_id (n := 5 + (i : Int)) (by omega) (by omega),wrap_id (n := n + 1) (by omega) (by omega),wrap_succ (show i ≤ big by omega),↓U31,↓XP,↓XU,XW0,XW1,qa,qb,qc,qd,qe,qf,reduceCtorEq,TYX]
     intros
     exact ⟨mapD_sz fun _=>rfl,by omega,mapD_sz fun _=>rfl,by omega,by omega,hNy _ _ _ ⟨rfl,rfl,rfl,rfl,rfl,rfl,rfl,trivial⟩⟩
    ·simp +contextual only [x31,mapD_len,eq_false h3,hbx,hB,hap,h_miss,h_skip,n48,n28,n24,wrap_succ (show i ≤ big by omega),↓U31,↓XP,↓XU,XW0,XW1,qa,qb,qc,qd,qe,qf,reduceCtorEq,TYX]
     intros
     exact ⟨mapD_sz fun _=>rfl,by omega,by omega,hNy [] _ _ ⟨rfl,rfl,rfl,rfl,rfl,rfl,rfl,trivial⟩⟩
  ·have hin : i = n.toNat := by omega
   have hsn2 : 2 ≤ sn.length := by omega
   have hsn9 : sn.length ≤ 9 := by omega
   clear hi hsl hin
   simp +contextual only [x31,mapD_len,eq_false hlt,↓U31,↓XP,↓XU,XW0,XW1,qa,qb,qc,qd,qe,qf,reduceCtorEq,TYX]
   intros
   refine hE _ _ _ ?_
   clear hN hE hR hlt hln
   simp +contextual only [x31,mapD_len,↓U31,↓XP,↓XU,XW0,XW1,qa,qb,qc,qd,qe,qf,reduceCtorEq,TYX]
   refine XW.loopS Go.Proofs.Ytffbjejmobhpkaa.hm 249 (fun s : SpLp=>[(0,.slc (mapD intD l)),(2,.ptr b2 0),(3,.int .i64 n),(4,.ptr b4 0),(10,.int .i64 ((s.i : Nat) : Int))]) (fun s=>(b4,AO.cells (bxD sn s.sl [] [])) :: (b2,AO.cells (bxD [] [] [] [])) :: H) (fun s=>4 - s.i) (fun s=>s.i ≤ 3 ∧ s.sl.length = s.i ∧ ∀ q ∈ s.sl,q.parts ≠ [] ∧ q.parts.length ≤ 3 ∧ ∀ y ∈ q.parts,OkI y) ⟨0,[]⟩ ⟨by simp,rfl,by simp⟩ ⟨rfl,rfl,rfl,rfl,rfl,rfl,trivial⟩ rfl ?_
   rintro ⟨i,sl⟩ z ⟨hi,hsl,hsp⟩ K hN hE hR
   dsimp only at hi hsl hsp
   show xcode _ _ [.slc (mapD intD l),z 1,.ptr b2 0,.int .i64 n,.ptr b4 0,z 5,z 6,z 7,z 8,z 9,.int .i64 ((i : Nat) : Int),z 11,z 12,z 13,z 14,z 15,z 16,z 17,z 18,z 19,z 20,z 21,z 22,z 23,z 24,z 25,z 26,z 27,z 28,z 29,z 30,z 31,z 32,z 33,z 34,z 35,z 36,z 37,z 38,z 39,z 40,z 41,z 42,z 43,z 44,z 45,z 46,z 47,z 48,z 49,z 50,z 51,z 52,z 53,z 54,z 55,z 56,z 57,z 58,z 59,z 60,z 61,z 62,z 63,z 64,z 65,z 66,z 67,z 68,z 69,z 70,z 71,z 72,z 73,z 74,z 75,z 76,z 77,z 78,z 79,z 80,z 81,z 82,z 83,z 84,z 85,z 86,z 87,z 88,z 89,z 90,z 91,z 92,z 93,z 94,z 95,z 96,z 97,z 98,z 99,z 100,z 101,z 102,z 103,z 104,z 105,z 106,z 107,z 108,z 109,z 110,z 111,z 112,z 113,z 114,z 115,z 116,z 117,z 118,z 119,z 120,z 121,z 122,z 123,z 124,z 125,z 126,z 127,z 128,z 129,z 130,z 131,z 132,z 133,z 134,z 135,z 136,z 137,z 138,z 139,z 140,z 141,z 142,z 143,z 144,z 145,z 146,z 147,z 148,z 149,z 150,z 151,z 152,z 153,z 154,z 155,z 156,z 157,z 158,z 159,z 160,z 161,z 162,z 163,z 164,z 165,z 166,z 167,z 168,z 169,z 170,z 171,z 172,z 173,z 174,z 175,z 176,z 177,z 178,z 179,z 180,z 181,z 182,z 183,z 184,z 185,z 186,z 187,z 188,z 189,z 190,z 191,z 192,z 193,z 194,z 195,z 196,z 197,z 198,z 199,z 200,z 201,z 202,z 203,z 204,z 205,z 206,z 207,z 208,z 209,z 210,z 211,z 212,z 213,z 214,z 215,z 216,z 217,z 218,z 219,z 220,z 221,z 222,z 223,z 224,z 225,z 226,z 227,z 228,z 229,z 230,z 231,z 232,z 233,z 234,z 235,z 236,z 237,z 238,z 239,z 240,z 241,z 242,z 243,z 244,z 245,z 246,z 247,z 248] ((b4,AO.cells (bxD sn sl [] [])) :: (b2,AO.cells (bxD [] [] [] [])) :: H) K
   simp +contextual only [x31,mapD_len,↓U31,↓XP,↓XU,XW0,XW1,qa,qb,qc,qd,qe,qf,reduceCtorEq,TYX]
   refine f_atZ (i := 12) (by omega) (by omega) ?_
   have hv := atZ_range (l := l) (i := 12) (most := 4) (by omega)
   generalize atZ l 12 4 = v at hv
   rcases Classical.em ((i : Int) < v) with hiv | hiv
   ·simp +contextual only [x31,mapD_len,eq_true hiv,wrap_id (n := 4 * (i : Int)) (by omega) (by omega),wrap_id (n := 13 + 4 * (i : Int)) (by omega) (by omega),wrap_id (n := 14 + 4 * (i : Int)) (by omega) (by omega),wrap_id (n := 15 + 4 * (i : Int)) (by omega) (by omega),↓U31,↓XP,↓XU,XW0,XW1,qa,qb,qc,qd,qe,qf,reduceCtorEq,TYX]
    intros
    refine f_atZ (by omega) (by omega) ?_
    have hv1 := atZ_range (l := l) (i := 13 + 4 * (i : Int)) (most := n) (by omega)
    generalize atZ l (13 + 4 * (i : Int)) n = v1 at hv1
    simp +contextual only [x31,mapD_len,↓U31,↓XP,↓XU,XW0,XW1,qa,qb,qc,qd,qe,qf,reduceCtorEq,TYX]
    intros
    refine f_IDz (by omega) ?_
    generalize idR v1.toNat = y
    have hyd : y.d = [.int .i64 y.o,.int .i64 y.s,.int .i64 y.i] := rfl
    simp +contextual only [x31,mapD_len,hyd,wrap_id (n := 4 * (i : Int)) (by omega) (by omega),wrap_id (n := 14 + 4 * (i : Int)) (by omega) (by omega),↓U31,↓XP,↓XU,XW0,XW1,qa,qb,qc,qd,qe,qf,reduceCtorEq,TYX]
    intros
    refine f_atZ (by omega) (by omega) ?_
    have hv2 := atZ_range (l := l) (i := 14 + 4 * (i : Int)) (most := 4) (by omega)
    generalize atZ l (14 + 4 * (i : Int)) 4 = v2 at hv2
    simp +contextual only [x31,mapD_len,wrap_id (n := v2 - 1) (by omega) (by omega),↓U31,↓XP,↓XU,XW0,XW1,qa,qb,qc,qd,qe,qf,reduceCtorEq,TYX]
    rintro _ b11 ⟨n411,n211,h11⟩
    rw [c_gh]
    refine Gz.take0 (j := 6) rfl ?_
    have hbx : ∀ ps,spB11 i y (v2 - 1) ps = [.int .i64 5,.int .i64 1,.int .i64 i,.int .i64 y.o,.int .i64 y.s,.int .i64 y.i,.own (mapD Id3.d ps),.int .i64 (v2 - 1)] := fun _=>rfl
    simp +contextual only [x31,mapD_len,↓U31,↓XP,↓XU,XW0,XW1,qa,qb,qc,qd,qe,qf,reduceCtorEq,TYX]
    refine XW.loopS Go.Proofs.Ytffbjejmobhpkaa.hm 249 (fun s : PtLp=>[(0,.slc (mapD intD l)),(2,.ptr b2 0),(3,.int .i64 n),(4,.ptr b4 0),(10,.int .i64 ((i : Nat) : Int)),(11,.ptr b11 0),(12,.int .i64 ((s.k : Nat) : Int))]) (fun s=>(b11,AO.cells (spB11 i y (v2 - 1) s.ps)) :: (b4,AO.cells (bxD sn sl [] [])) :: (b2,AO.cells (bxD [] [] [] [])) :: H) (fun s=>4 - s.k) (fun s=>s.k ≤ 3 ∧ s.ps.length = s.k ∧ ∀ y ∈ s.ps,OkI y) ⟨0,[]⟩ ⟨by simp,rfl,by simp⟩ ⟨rfl,rfl,rfl,rfl,rfl,rfl,rfl,rfl,trivial⟩ rfl ?_
    rintro ⟨k,ps⟩ z ⟨hk,hpl,hps⟩ K2 hN2 hE2 hR2
    dsimp only at hk hpl hps
    show xcode _ _ [.slc (mapD intD l),z 1,.ptr b2 0,.int .i64 n,.ptr b4 0,z 5,z 6,z 7,z 8,z 9,.int .i64 ((i : Nat) : Int),.ptr b11 0,.int .i64 ((k : Nat) : Int),z 13,z 14,z 15,z 16,z 17,z 18,z 19,z 20,z 21,z 22,z 23,z 24,z 25,z 26,z 27,z 28,z 29,z 30,z 31,z 32,z 33,z 34,z 35,z 36,z 37,z 38,z 39,z 40,z 41,z 42,z 43,z 44,z 45,z 46,z 47,z 48,z 49,z 50,z 51,z 52,z 53,z 54,z 55,z 56,z 57,z 58,z 59,z 60,z 61,z 62,z 63,z 64,z 65,z 66,z 67,z 68,z 69,z 70,z 71,z 72,z 73,z 74,z 75,z 76,z 77,z 78,z 79,z 80,z 81,z 82,z 83,z 84,z 85,z 86,z 87,z 88,z 89,z 90,z 91,z 92,z 93,z 94,z 95,z 96,z 97,z 98,z 99,z 100,z 101,z 102,z 103,z 104,z 105,z 106,z 107,z 108,z 109,z 110,z 111,z 112,z 113,z 114,z 115,z 116,z 117,z 118,z 119,z 120,z 121,z 122,z 123,z 124,z 125,z 126,z 127,z 128,z 129,z 130,z 131,z 132,z 133,z 134,z 135,z 136,z 137,z 138,z 139,z 140,z 141,z 142,z 143,z 144,z 145,z 146,z 147,z 148,z 149,z 150,z 151,z 152,z 153,z 154,z 155,z 156,z 157,z 158,z 159,z 160,z 161,z 162,z 163,z 164,z 165,z 166,z 167,z 168,z 169,z 170,z 171,z 172,z 173,z 174,z 175,z 176,z 177,z 178,z 179,z 180,z 181,z 182,z 183,z 184,z 185,z 186,z 187,z 188,z 189,z 190,z 191,z 192,z 193,z 194,z 195,z 196,z 197,z 198,z 199,z 200,z 201,z 202,z 203,z 204,z 205,z 206,z 207,z 208,z 209,z 210,z 211,z 212,z 213,z 214,z 215,z 216,z 217,z 218,z 219,z 220,z 221,z 222,z 223,z 224,z 225,z 226,z 227,z 228,z 229,z 230,z 231,z 232,z 233,z 234,z 235,z 236,z 237,z 238,z 239,z 240,z 241,z 242,z 243,z 244,z 245,z 246,z 247,z 248] ((b11,AO.cells (spB11 i y (v2 - 1) ps)) :: (b4,AO.cells (bxD sn sl [] [])) :: (b2,AO.cells (bxD [] [] [] [])) :: H) K2
    simp +contextual only [x31,mapD_len,wrap_id (n := 4 * (i : Int)) (by omega) (by omega),wrap_id (n := 15 + 4 * (i : Int)) (by omega) (by omega),↓U31,↓XP,↓XU,XW0,XW1,qa,qb,qc,qd,qe,qf,reduceCtorEq,TYX]
    refine f_atZ (by omega) (by omega) ?_
    have hv3 := atZ_range (l := l) (i := 15 + 4 * (i : Int)) (most := 2) (by omega)
    generalize atZ l (15 + 4 * (i : Int)) 2 = v3 at hv3
    rcases Classical.em ((k : Int) < 2 + v3) with hkv | hkv
    ·simp +contextual only [x31,mapD_len,hbx,eq_true hkv,h_miss,h_skip,n411,n211,n24,wrap_id (n := 2 + v3) (by omega) (by omega),wrap_id (n := 5 * (i : Int)) (by omega) (by omega),wrap_id (n := 16 + 5 * (i : Int)) (by omega) (by omega),wrap_id (n := 7 * (k : Int)) (by omega) (by omega),wrap_id (n := 16 + 5 * (i : Int) + 7 * (k : Int)) (by omega) (by omega),↓U31,↓XP,↓XU,XW0,XW1,qa,qb,qc,qd,qe,qf,reduceCtorEq,TYX]
     intros
     refine ⟨.inl (by rw [h_miss (Ne.symm n411),h_miss (Ne.symm n211)]; exact freshH_none h11),?_⟩
     refine ⟨_,fun _ _=>f_atZ (by omega) (by omega) ⟨rfl,rfl⟩,?_⟩
     have hv4 := atZ_range (l := l) (i := 16 + 5 * (i : Int) + 7 * (k : Int)) (most := n) (by omega)
     generalize atZ l (16 + 5 * (i : Int) + 7 * (k : Int)) n = v4 at hv4
     simp +contextual only [x31,mapD_len,↓U31,↓XP,↓XU,XW0,XW1,qa,qb,qc,qd,qe,qf,reduceCtorEq,TYX]
     intros
     refine ⟨_,fun _ _=>f_IDz (by omega) ⟨rfl,rfl⟩,?_⟩
     have hok := okR (i := v4.toNat) (by omega)
     generalize idR v4.toNat = u at hok
     have hud : u.d = [.int .i64 u.o,.int .i64 u.s,.int .i64 u.i] := rfl
     have hap : mapD Id3.d ps ++ [[.int .i64 u.o,.int .i64 u.s,.int .i64 u.i]] = mapD Id3.d (ps ++ [u]) := by rw [← mapD_app]; rfl
     simp +contextual only [x31,mapD_len,hud,hbx,hap,h_miss,h_skip,n411,n211,n24,wrap_succ (show k ≤ big by omega),↓U31,↓XP,↓XU,XW0,XW1,qa,qb,qc,qd,qe,qf,reduceCtorEq,TYX]
     intros
     refine ⟨mapD_sz fun _=>rfl,by omega,by omega,hN2 ⟨k + 1,ps ++ [u]⟩ _ _ ⟨by dsimp only; omega,by dsimp only; rw [List.length_append,List.length_singleton]; omega,fun q hq=>?_⟩ (by dsimp only; omega) ⟨rfl,rfl,rfl,rfl,rfl,rfl,rfl,rfl,trivial⟩ (back_0 rfl)⟩
     rcases List.mem_append.1 hq with hq | hq
     ·exact hps q hq
     ·rw [List.mem_singleton.1 hq]; exact hok
    ·have hspD : Spl.d ⟨⟨5,1,i⟩,y,ps,v2 - 1⟩ = [.int .i64 5,.int .i64 1,.int .i64 i,.int .i64 y.o,.int .i64 y.s,.int .i64 y.i,.slc (mapD Id3.d ps),.int .i64 (v2 - 1)] := rfl
     have hap : mapD Spl.d sl ++ [[.int .i64 5,.int .i64 1,.int .i64 i,.int .i64 y.o,.int .i64 y.s,.int .i64 y.i,.slc (mapD Id3.d ps),.int .i64 (v2 - 1)]] = mapD Spl.d (sl ++ [⟨⟨5,1,i⟩,y,ps,v2 - 1⟩]) := by rw [← mapD_app,← hspD]; rfl
     simp +contextual only [x31,mapD_len,eq_false hkv,wrap_id (n := 2 + v3) (by omega) (by omega),↓U31,↓XP,↓XU,XW0,XW1,qa,qb,qc,qd,qe,qf,reduceCtorEq,TYX]
     intros
     refine hE2 _ _ _ ?_
     simp +contextual only [x31,mapD_len,hbx,hB,hap,h_miss,h_skip,n411,n211,n24,wrap_succ (show i ≤ big by omega),↓U31,↓XP,↓XU,XW0,XW1,qa,qb,qc,qd,qe,qf,reduceCtorEq,TYX]
     intros
     refine ⟨mapD_sz fun _=>rfl,by omega,by omega,hN ⟨i + 1,sl ++ [⟨⟨5,1,i⟩,y,ps,v2 - 1⟩]⟩ _ _ ⟨by dsimp only; omega,by dsimp only; rw [List.length_append,List.length_singleton]; omega,fun q hq=>?_⟩ (by dsimp only; omega) ⟨rfl,rfl,rfl,rfl,rfl,rfl,trivial⟩ (back_1 rfl)⟩
     rcases List.mem_append.1 hq with hq | hq
     ·exact hsp q hq
     ·rw [List.mem_singleton.1 hq]
      exact ⟨fun e=>by dsimp only at e; rw [e] at hpl; simp at hpl; omega,by dsimp only; omega,hps⟩
   ·simp +contextual only [x31,mapD_len,eq_false hiv,↓U31,↓XP,↓XU,XW0,XW1,qa,qb,qc,qd,qe,qf,reduceCtorEq,TYX]
    intros
    refine hE _ _ _ ?_
    clear hN hE hR hiv hv
    simp +contextual only [x31,mapD_len,↓U31,↓XP,↓XU,XW0,XW1,qa,qb,qc,qd,qe,qf,reduceCtorEq,TYX]
    refine XW.loopS Go.Proofs.Ytffbjejmobhpkaa.hm 249 (fun s : MgLp=>[(0,.slc (mapD intD l)),(2,.ptr b2 0),(3,.int .i64 n),(4,.ptr b4 0),(13,.int .i64 ((s.i : Nat) : Int))]) (fun s=>(b4,AO.cells (bxD sn sl s.mg [])) :: (b2,AO.cells (bxD [] [] [] [])) :: H) (fun s=>5 - s.i) (fun s=>s.i ≤ 4 ∧ s.mg.length = s.i ∧ ∀ q ∈ s.mg,OkI q.to) ⟨0,[]⟩ ⟨by simp,rfl,by simp⟩ ⟨rfl,rfl,rfl,rfl,rfl,rfl,trivial⟩ rfl ?_
    rintro ⟨i2,mg⟩ z ⟨hi2,hml,hmt⟩ K hN hE hR
    dsimp only at hi2 hml hmt
    show xcode _ _ [.slc (mapD intD l),z 1,.ptr b2 0,.int .i64 n,.ptr b4 0,z 5,z 6,z 7,z 8,z 9,z 10,z 11,z 12,.int .i64 ((i2 : Nat) : Int),z 14,z 15,z 16,z 17,z 18,z 19,z 20,z 21,z 22,z 23,z 24,z 25,z 26,z 27,z 28,z 29,z 30,z 31,z 32,z 33,z 34,z 35,z 36,z 37,z 38,z 39,z 40,z 41,z 42,z 43,z 44,z 45,z 46,z 47,z 48,z 49,z 50,z 51,z 52,z 53,z 54,z 55,z 56,z 57,z 58,z 59,z 60,z 61,z 62,z 63,z 64,z 65,z 66,z 67,z 68,z 69,z 70,z 71,z 72,z 73,z 74,z 75,z 76,z 77,z 78,z 79,z 80,z 81,z 82,z 83,z 84,z 85,z 86,z 87,z 88,z 89,z 90,z 91,z 92,z 93,z 94,z 95,z 96,z 97,z 98,z 99,z 100,z 101,z 102,z 103,z 104,z 105,z 106,z 107,z 108,z 109,z 110,z 111,z 112,z 113,z 114,z 115,z 116,z 117,z 118,z 119,z 120,z 121,z 122,z 123,z 124,z 125,z 126,z 127,z 128,z 129,z 130,z 131,z 132,z 133,z 134,z 135,z 136,z 137,z 138,z 139,z 140,z 141,z 142,z 143,z 144,z 145,z 146,z 147,z 148,z 149,z 150,z 151,z 152,z 153,z 154,z 155,z 156,z 157,z 158,z 159,z 160,z 161,z 162,z 163,z 164,z 165,z 166,z 167,z 168,z 169,z 170,z 171,z 172,z 173,z 174,z 175,z 176,z 177,z 178,z 179,z 180,z 181,z 182,z 183,z 184,z 185,z 186,z 187,z 188,z 189,z 190,z 191,z 192,z 193,z 194,z 195,z 196,z 197,z 198,z 199,z 200,z 201,z 202,z 203,z 204,z 205,z 206,z 207,z 208,z 209,z 210,z 211,z 212,z 213,z 214,z 215,z 216,z 217,z 218,z 219,z 220,z 221,z 222,z 223,z 224,z 225,z 226,z 227,z 228,z 229,z 230,z 231,z 232,z 233,z 234,z 235,z 236,z 237,z 238,z 239,z 240,z 241,z 242,z 243,z 244,z 245,z 246,z 247,z 248] ((b4,AO.cells (bxD sn sl mg [])) :: (b2,AO.cells (bxD [] [] [] [])) :: H) K
    simp +contextual only [x31,mapD_len,↓U31,↓XP,↓XU,XW0,XW1,qa,qb,qc,qd,qe,qf,reduceCtorEq,TYX]
    refine f_atZ (i := 30) (by omega) (by omega) ?_
    have hv := atZ_range (l := l) (i := 30) (most := 5) (by omega)
    generalize atZ l 30 5 = v at hv
    rcases Classical.em ((i2 : Int) < v) with hiv | hiv
    ·simp +contextual only [x31,mapD_len,eq_true hiv,hB,h_miss,h_skip,n24,wrap_id (n := 2 * (i2 : Int)) (by omega) (by omega),wrap_id (n := 31 + 2 * (i2 : Int)) (by omega) (by omega),wrap_id (n := 32 + 2 * (i2 : Int)) (by omega) (by omega),↓U31,↓XP,↓XU,XW0,XW1,qa,qb,qc,qd,qe,qf,reduceCtorEq,TYX]
     intros
     refine ⟨.inl (by rw [h_miss (Ne.symm n24)]; exact freshH_none h4),?_⟩
     refine ⟨_,fun _ _=>f_atZ (by omega) (by omega) ⟨rfl,rfl⟩,?_⟩
     have hv1 := atZ_range (l := l) (i := 30) (most := 2) (by omega)
     generalize atZ l 30 2 = v1 at hv1
     have hw1 := wrap_id (n := n + v1) (by omega) (by omega)
     simp +contextual only [x31,mapD_len,hw1,↓U31,↓XP,↓XU,XW0,XW1,qa,qb,qc,qd,qe,qf,reduceCtorEq,TYX]
     intros
     refine ⟨_,fun _ _=>f_atZ (by omega) (by omega) ⟨rfl,rfl⟩,?_⟩
     have hv2 := atZ_range (l := l) (i := 31 + 2 * (i2 : Int)) (most := n + v1) (by omega)
     generalize atZ l (31 + 2 * (i2 : Int)) (n + v1) = v2 at hv2
     simp +contextual only [x31,mapD_len,hw1,↓U31,↓XP,↓XU,XW0,XW1,qa,qb,qc,qd,qe,qf,reduceCtorEq,TYX]
     intros
     refine ⟨_,fun _ _=>f_IDz (by omega) ⟨rfl,rfl⟩,?_⟩
     generalize idR v2.toNat = y
     have hyd : y.d = [.int .i64 y.o,.int .i64 y.s,.int .i64 y.i] := rfl
     simp +contextual only [x31,mapD_len,hyd,hw1,wrap_id (n := 2 * (i2 : Int)) (by omega) (by omega),wrap_id (n := 32 + 2 * (i2 : Int)) (by omega) (by omega),↓U31,↓XP,↓XU,XW0,XW1,qa,qb,qc,qd,qe,qf,reduceCtorEq,TYX]
     intros
     refine ⟨_,fun _ _=>f_atZ (by omega) (by omega) ⟨rfl,rfl⟩,?_⟩
     have hv3 := atZ_range (l := l) (i := 30) (most := 2) (by omega)
     generalize atZ l 30 2 = v3 at hv3
     simp +contextual only [x31,mapD_len,wrap_id (n := n + v3) (by omega) (by omega),↓U31,↓XP,↓XU,XW0,XW1,qa,qb,qc,qd,qe,qf,reduceCtorEq,TYX]
     intros
     refine ⟨_,fun _ _=>f_atZ (by omega) (by omega) ⟨rfl,rfl⟩,?_⟩
     have hv4 := atZ_range (l := l) (i := 32 + 2 * (i2 : Int)) (most := n + v3) (by omega)
     generalize atZ l (32 + 2 * (i2 : Int)) (n + v3) = v4 at hv4
     simp +contextual only [x31,mapD_len,↓U31,↓XP,↓XU,XW0,XW1,qa,qb,qc,qd,qe,qf,reduceCtorEq,TYX]
     intros
     refine ⟨_,fun _ _=>f_IDz (by omega) ⟨rfl,rfl⟩,?_⟩
     have hok := okR (i := v4.toNat) (by omega)
     generalize idR v4.toNat = u at hok
     have hud : u.d = [.int .i64 u.o,.int .i64 u.s,.int .i64 u.i] := rfl
     have hmD : Mg.d ⟨⟨5,2,i2⟩,y,u⟩ = [.int .i64 5,.int .i64 2,.int .i64 i2,.int .i64 y.o,.int .i64 y.s,.int .i64 y.i,.int .i64 u.o,.int .i64 u.s,.int .i64 u.i] := rfl
     have hap : mapD Mg.d mg ++ [[.int .i64 5,.int .i64 2,.int .i64 i2,.int .i64 y.o,.int .i64 y.s,.int .i64 y.i,.int .i64 u.o,.int .i64 u.s,.int .i64 u.i]] = mapD Mg.d (mg ++ [⟨⟨5,2,i2⟩,y,u⟩]) := by rw [← mapD_app,← hmD]; rfl
     simp +contextual only [x31,mapD_len,hud,hB,hap,h_miss,h_skip,n24,wrap_succ (show i2 ≤ big by omega),↓U31,↓XP,↓XU,XW0,XW1,qa,qb,qc,qd,qe,qf,reduceCtorEq,TYX]
     intros
     refine ⟨mapD_sz fun _=>rfl,by omega,by omega,hN ⟨i2 + 1,mg ++ [⟨⟨5,2,i2⟩,y,u⟩]⟩ _ _ ⟨by dsimp only; omega,by dsimp only; rw [List.length_append,List.length_singleton]; omega,fun q hq=>?_⟩ (by dsimp only; omega) ⟨rfl,rfl,rfl,rfl,rfl,rfl,trivial⟩ (back_0 rfl)⟩
     rcases List.mem_append.1 hq with hq | hq
     ·exact hmt q hq
     ·rw [List.mem_singleton.1 hq]; exact hok
    ·simp +contextual only [x31,mapD_len,eq_false hiv,↓U31,↓XP,↓XU,XW0,XW1,qa,qb,qc,qd,qe,qf,reduceCtorEq,TYX]
     intros
     refine hE _ _ _ ?_
     clear hN hE hR hiv hv
     simp +contextual only [x31,mapD_len,↓U31,↓XP,↓XU,XW0,XW1,qa,qb,qc,qd,qe,qf,reduceCtorEq,TYX]
     refine XW.loopS Go.Proofs.Ytffbjejmobhpkaa.hm 249 (fun s : ChLp=>[(0,.slc (mapD intD l)),(2,.ptr b2 0),(3,.int .i64 n),(4,.ptr b4 0),(14,.int .i64 ((s.i : Nat) : Int))]) (fun s=>(b4,AO.cells (bxD sn sl mg s.ch)) :: (b2,AO.cells (bxD [] [] [] [])) :: H) (fun s=>5 - s.i) (fun s=>s.i ≤ 4 ∧ s.ch.length = s.i ∧ ∀ q ∈ s.ch,OkI q.part) ⟨0,[]⟩ ⟨by simp,rfl,by simp⟩ ⟨rfl,rfl,rfl,rfl,rfl,rfl,trivial⟩ rfl ?_
     rintro ⟨i3,ch⟩ z ⟨hi3,hcl,hct⟩ K hN hE hR
     dsimp only at hi3 hcl hct
     show xcode _ _ [.slc (mapD intD l),z 1,.ptr b2 0,.int .i64 n,.ptr b4 0,z 5,z 6,z 7,z 8,z 9,z 10,z 11,z 12,z 13,.int .i64 ((i3 : Nat) : Int),z 15,z 16,z 17,z 18,z 19,z 20,z 21,z 22,z 23,z 24,z 25,z 26,z 27,z 28,z 29,z 30,z 31,z 32,z 33,z 34,z 35,z 36,z 37,z 38,z 39,z 40,z 41,z 42,z 43,z 44,z 45,z 46,z 47,z 48,z 49,z 50,z 51,z 52,z 53,z 54,z 55,z 56,z 57,z 58,z 59,z 60,z 61,z 62,z 63,z 64,z 65,z 66,z 67,z 68,z 69,z 70,z 71,z 72,z 73,z 74,z 75,z 76,z 77,z 78,z 79,z 80,z 81,z 82,z 83,z 84,z 85,z 86,z 87,z 88,z 89,z 90,z 91,z 92,z 93,z 94,z 95,z 96,z 97,z 98,z 99,z 100,z 101,z 102,z 103,z 104,z 105,z 106,z 107,z 108,z 109,z 110,z 111,z 112,z 113,z 114,z 115,z 116,z 117,z 118,z 119,z 120,z 121,z 122,z 123,z 124,z 125,z 126,z 127,z 128,z 129,z 130,z 131,z 132,z 133,z 134,z 135,z 136,z 137,z 138,z 139,z 140,z 141,z 142,z 143,z 144,z 145,z 146,z 147,z 148,z 149,z 150,z 151,z 152,z 153,z 154,z 155,z 156,z 157,z 158,z 159,z 160,z 161,z 162,z 163,z 164,z 165,z 166,z 167,z 168,z 169,z 170,z 171,z 172,z 173,z 174,z 175,z 176,z 177,z 178,z 179,z 180,z 181,z 182,z 183,z 184,z 185,z 186,z 187,z 188,z 189,z 190,z 191,z 192,z 193,z 194,z 195,z 196,z 197,z 198,z 199,z 200,z 201,z 202,z 203,z 204,z 205,z 206,z 207,z 208,z 209,z 210,z 211,z 212,z 213,z 214,z 215,z 216,z 217,z 218,z 219,z 220,z 221,z 222,z 223,z 224,z 225,z 226,z 227,z 228,z 229,z 230,z 231,z 232,z 233,z 234,z 235,z 236,z 237,z 238,z 239,z 240,z 241,z 242,z 243,z 244,z 245,z 246,z 247,z 248] ((b4,AO.cells (bxD sn sl mg ch)) :: (b2,AO.cells (bxD [] [] [] [])) :: H) K
     simp +contextual only [x31,mapD_len,↓U31,↓XP,↓XU,XW0,XW1,qa,qb,qc,qd,qe,qf,reduceCtorEq,TYX]
     refine f_atZ (i := 41) (by omega) (by omega) ?_
     have hv := atZ_range (l := l) (i := 41) (most := 5) (by omega)
     generalize atZ l 41 5 = v at hv
     rcases Classical.em ((i3 : Int) < v) with hiv | hiv
     ·simp +contextual only [x31,mapD_len,eq_true hiv,wrap_id (n := 3 * (i3 : Int)) (by omega) (by omega),wrap_id (n := 42 + 3 * (i3 : Int)) (by omega) (by omega),wrap_id (n := 43 + 3 * (i3 : Int)) (by omega) (by omega),wrap_id (n := 44 + 3 * (i3 : Int)) (by omega) (by omega),↓U31,↓XP,↓XU,XW0,XW1,qa,qb,qc,qd,qe,qf,reduceCtorEq,TYX]
      intros
      refine f_atZ (by omega) (by omega) ?_
      have hv1 := atZ_range (l := l) (i := 42 + 3 * (i3 : Int)) (most := n) (by omega)
      generalize atZ l (42 + 3 * (i3 : Int)) n = v1 at hv1
      simp +contextual only [x31,mapD_len,↓U31,↓XP,↓XU,XW0,XW1,qa,qb,qc,qd,qe,qf,reduceCtorEq,TYX]
      intros
      refine f_IDz (by omega) ?_
      generalize idR v1.toNat = y1
      have hyd1 : y1.d = [.int .i64 y1.o,.int .i64 y1.s,.int .i64 y1.i] := rfl
      simp +contextual only [x31,mapD_len,hyd1,wrap_id (n := 3 * (i3 : Int)) (by omega) (by omega),wrap_id (n := 42 + 3 * (i3 : Int)) (by omega) (by omega),wrap_id (n := 43 + 3 * (i3 : Int)) (by omega) (by omega),wrap_id (n := 44 + 3 * (i3 : Int)) (by omega) (by omega),↓U31,↓XP,↓XU,XW0,XW1,qa,qb,qc,qd,qe,qf,reduceCtorEq,TYX]
      intros
      refine f_atZ (by omega) (by omega) ?_
      have hv2 := atZ_range (l := l) (i := 43 + 3 * (i3 : Int)) (most := n) (by omega)
      generalize atZ l (43 + 3 * (i3 : Int)) n = v2 at hv2
      simp +contextual only [x31,mapD_len,↓U31,↓XP,↓XU,XW0,XW1,qa,qb,qc,qd,qe,qf,reduceCtorEq,TYX]
      intros
      refine f_IDz (by omega) ?_
      generalize idR v2.toNat = y2
      have hyd2 : y2.d = [.int .i64 y2.o,.int .i64 y2.s,.int .i64 y2.i] := rfl
      simp +contextual only [x31,mapD_len,hyd2,wrap_id (n := 3 * (i3 : Int)) (by omega) (by omega),wrap_id (n := 42 + 3 * (i3 : Int)) (by omega) (by omega),wrap_id (n := 43 + 3 * (i3 : Int)) (by omega) (by omega),wrap_id (n := 44 + 3 * (i3 : Int)) (by omega) (by omega),↓U31,↓XP,↓XU,XW0,XW1,qa,qb,qc,qd,qe,qf,reduceCtorEq,TYX]
      intros
      refine f_atZ (by omega) (by omega) ?_
      have hv3 := atZ_range (l := l) (i := 44 + 3 * (i3 : Int)) (most := n) (by omega)
      generalize atZ l (44 + 3 * (i3 : Int)) n = v3 at hv3
      simp +contextual only [x31,mapD_len,↓U31,↓XP,↓XU,XW0,XW1,qa,qb,qc,qd,qe,qf,reduceCtorEq,TYX]
      intros
      refine f_IDz (by omega) ?_
      have hok3 := okR (i := v3.toNat) (by omega)
      generalize idR v3.toNat = y3 at hok3
      have hyd3 : y3.d = [.int .i64 y3.o,.int .i64 y3.s,.int .i64 y3.i] := rfl
      have hch : ∀ t p : Id3,OkI p → (i3 + 1 ≤ 4 ∧ (ch ++ [(⟨⟨5,3,i3⟩,y1,t,p⟩ : Ch)]).length = i3 + 1 ∧ ∀ q ∈ ch ++ [(⟨⟨5,3,i3⟩,y1,t,p⟩ : Ch)],OkI q.part) := fun t p hp=>by
       refine ⟨by omega,by rw [List.length_append,List.length_singleton]; omega,fun q hq=>?_⟩
       rcases List.mem_append.1 hq with hq | hq
       ·exact hct q hq
       ·rw [List.mem_singleton.1 hq]; exact hp
      have hap : ∀ t p : Id3,mapD Ch.d ch ++ [[.int .i64 5,.int .i64 3,.int .i64 i3,.int .i64 y1.o,.int .i64 y1.s,.int .i64 y1.i,.int .i64 t.o,.int .i64 t.s,.int .i64 t.i,.int .i64 p.o,.int .i64 p.s,.int .i64 p.i]] = mapD Ch.d (ch ++ [⟨⟨5,3,i3⟩,y1,t,p⟩]) := fun t p=>by rw [← mapD_app]; rfl
      rcases Classical.em (0 < sl.length ∧ (i3 : Int) < 3) with hc | hc
      ·have hc1 : ((sl.length : Int) > 0) = True := eq_true (by omega)
       have hc1' : ((0 : Int) < (sl.length : Int)) = True := eq_true (by omega)
       simp +contextual only [x31,mapD_len,hyd3,hB,hc1,hc1',eq_true hc.2,h_miss,h_skip,n24,wrap_id (n := 3 * (i3 : Int)) (by omega) (by omega),wrap_id (n := 42 + 3 * (i3 : Int)) (by omega) (by omega),wrap_id (n := 43 + 3 * (i3 : Int)) (by omega) (by omega),wrap_id (n := 44 + 3 * (i3 : Int)) (by omega) (by omega),↓U31,↓XP,↓XU,XW0,XW1,qa,qb,qc,qd,qe,qf,reduceCtorEq,TYX]
       rintro b15 ⟨n415,n215,h15⟩
       intros
       refine ⟨_,fun _ _=>f_atZ (by omega) (by omega) ⟨rfl,rfl⟩,?_⟩
       have hv5 := atZ_range (l := l) (i := 43 + 3 * (i3 : Int)) (most := (sl.length : Int)) (by omega)
       generalize atZ l (43 + 3 * (i3 : Int)) (sl.length : Int) = v5 at hv5
       obtain ⟨j,rfl⟩ := Int.eq_ofNat_of_zero_le hv5.1
       have hj : j < sl.length := by omega
       have hj' : ((j : Int) < (sl.length : Int)) = True := eq_true (by omega)
       have gj := mapD_get (f := Spl.d) hj
       have hqm := hsp _ (getD_mem hj)
       generalize sl.getD j default = q at gj hqm
       have hqd : q.d = [.int .i64 q.by_.o,.int .i64 q.by_.s,.int .i64 q.by_.i,.int .i64 q.on.o,.int .i64 q.on.s,.int .i64 q.on.i,.slc (mapD Id3.d q.parts),.int .i64 q.df] := rfl
       have hqp : 0 < q.parts.length := List.length_pos_iff.2 hqm.1
       have hql := hqm.2.1
       simp +contextual only [x31,mapD_len,gj,hqd,hj',Int.toNat_natCast,h_miss,h_skip,n24,n415,n215,Ne.symm n24,wrap_id (n := 3 * (i3 : Int)) (by omega) (by omega),wrap_id (n := 42 + 3 * (i3 : Int)) (by omega) (by omega),wrap_id (n := 43 + 3 * (i3 : Int)) (by omega) (by omega),wrap_id (n := 44 + 3 * (i3 : Int)) (by omega) (by omega),↓U31,↓XP,↓XU,XW0,XW1,qa,qb,qc,qd,qe,qf,reduceCtorEq,TYX]
       intros
       refine ⟨by omega,?_⟩
       rintro b16 ⟨n1516,n416,n216,h16⟩
       simp +contextual only [x31,mapD_len,e_hit,e_miss n1516,h_miss,h_skip,n24,n415,n215,Ne.symm n24,wrap_id (n := 3 * (i3 : Int)) (by omega) (by omega),wrap_id (n := 42 + 3 * (i3 : Int)) (by omega) (by omega),wrap_id (n := 43 + 3 * (i3 : Int)) (by omega) (by omega),wrap_id (n := 44 + 3 * (i3 : Int)) (by omega) (by omega),n1516,n416,n216,↓U31,↓XP,↓XU,XW0,XW1,qa,qb,qc,qd,qe,qf,reduceCtorEq,TYX]
       intros
       refine ⟨_,fun _ _=>f_atZ (by omega) (by omega) ⟨rfl,rfl⟩,?_⟩
       have hv6 := atZ_range (l := l) (i := 44 + 3 * (i3 : Int)) (most := (q.parts.length : Int)) (by omega)
       generalize atZ l (44 + 3 * (i3 : Int)) (q.parts.length : Int) = v6 at hv6
       obtain ⟨j2,rfl⟩ := Int.eq_ofNat_of_zero_le hv6.1
       have hj2 : j2 < q.parts.length := by omega
       have hj2' : ((j2 : Int) < (q.parts.length : Int)) = True := eq_true (by omega)
       have gj2 := mapD_get (f := Id3.d) hj2
       have hpm := hqm.2.2 _ (getD_mem hj2)
       generalize q.parts.getD j2 default = p2 at gj2 hpm
       have hpd : p2.d = [.int .i64 p2.o,.int .i64 p2.s,.int .i64 p2.i] := rfl
       simp +contextual only [x31,mapD_len,gj2,hpd,hj2',Int.toNat_natCast,hap,h_miss,h_skip,n24,n415,n215,Ne.symm n24,wrap_id (n := 3 * (i3 : Int)) (by omega) (by omega),wrap_id (n := 42 + 3 * (i3 : Int)) (by omega) (by omega),wrap_id (n := 43 + 3 * (i3 : Int)) (by omega) (by omega),wrap_id (n := 44 + 3 * (i3 : Int)) (by omega) (by omega),n1516,n416,n216,wrap_succ (show i3 ≤ big by omega),↓U31,↓XP,↓XU,XW0,XW1,qa,qb,qc,qd,qe,qf,reduceCtorEq,TYX]
       intros
       exact ⟨mapD_sz fun _=>rfl,by omega,hN ⟨i3 + 1,ch ++ [⟨⟨5,3,i3⟩,y1,q.on,p2⟩]⟩ _ _ (hch _ _ hpm) (by dsimp only; omega) ⟨rfl,rfl,rfl,rfl,rfl,rfl,trivial⟩ (back_2 rfl)⟩
      ·rcases Classical.em (0 < sl.length) with hs0 | hs0
       ·have hc1 : ((sl.length : Int) > 0) = True := eq_true (by omega)
        have hc1' : ((0 : Int) < (sl.length : Int)) = True := eq_true (by omega)
        have hc2 : ((i3 : Int) < 3) = False := eq_false (fun e=>hc ⟨hs0,e⟩)
        simp +contextual only [x31,mapD_len,hyd3,hB,hc1,hc1',hc2,h_miss,h_skip,n24,wrap_id (n := 3 * (i3 : Int)) (by omega) (by omega),wrap_id (n := 42 + 3 * (i3 : Int)) (by omega) (by omega),wrap_id (n := 43 + 3 * (i3 : Int)) (by omega) (by omega),wrap_id (n := 44 + 3 * (i3 : Int)) (by omega) (by omega),↓U31,↓XP,↓XU,XW0,XW1,qa,qb,qc,qd,qe,qf,reduceCtorEq,TYX]
        rintro b15 ⟨n415,n215,h15⟩
        simp +contextual only [x31,mapD_len,hap,h_miss,h_skip,n24,n415,n215,wrap_succ (show i3 ≤ big by omega),↓U31,↓XP,↓XU,XW0,XW1,qa,qb,qc,qd,qe,qf,reduceCtorEq,TYX]
        intros
        exact ⟨mapD_sz fun _=>rfl,by omega,hN ⟨i3 + 1,ch ++ [⟨⟨5,3,i3⟩,y1,y2,y3⟩]⟩ _ _ (hch _ _ hok3) (by dsimp only; omega) ⟨rfl,rfl,rfl,rfl,rfl,rfl,trivial⟩ (back_1 rfl)⟩
       ·have hc1 : ((sl.length : Int) > 0) = False := eq_false (by omega)
        have hc1' : ((0 : Int) < (sl.length : Int)) = False := eq_false (by omega)
        simp +contextual only [x31,mapD_len,hyd3,hB,hc1,hc1',h_miss,h_skip,n24,wrap_id (n := 3 * (i3 : Int)) (by omega) (by omega),wrap_id (n := 42 + 3 * (i3 : Int)) (by omega) (by omega),wrap_id (n := 43 + 3 * (i3 : Int)) (by omega) (by omega),wrap_id (n := 44 + 3 * (i3 : Int)) (by omega) (by omega),↓U31,↓XP,↓XU,XW0,XW1,qa,qb,qc,qd,qe,qf,reduceCtorEq,TYX]
        rintro b15 ⟨n415,n215,h15⟩
        simp +contextual only [x31,mapD_len,hap,h_miss,h_skip,n24,n415,n215,wrap_succ (show i3 ≤ big by omega),↓U31,↓XP,↓XU,XW0,XW1,qa,qb,qc,qd,qe,qf,reduceCtorEq,TYX]
        intros
        exact ⟨mapD_sz fun _=>rfl,by omega,hN ⟨i3 + 1,ch ++ [⟨⟨5,3,i3⟩,y1,y2,y3⟩]⟩ _ _ (hch _ _ hok3) (by dsimp only; omega) ⟨rfl,rfl,rfl,rfl,rfl,rfl,trivial⟩ (back_1 rfl)⟩
     ·simp +contextual only [x31,mapD_len,eq_false hiv,↓U31,↓XP,↓XU,XW0,XW1,qa,qb,qc,qd,qe,qf,reduceCtorEq,TYX]
      intros
      refine hE _ _ _ ?_
      clear hN hE hR hiv hv
      simp +contextual only [x31,mapD_len,↓U31,↓XP,↓XU,XW0,XW1,qa,qb,qc,qd,qe,qf,reduceCtorEq,TYX]
      rw [c_gh,hB sn sl mg ch]
      refine Gz.then (Gz.give0 (bx := b4) (j := 2) h_hit rfl ?_)
      rw [h_set]
      refine Gz.give0 (bx := b4) (j := 3) h_hit rfl ?_
      rw [h_set]
      simp +contextual only [x31,mapD_len,hB,h_miss,h_skip,n24,↓U31,↓XP,↓XU,XW0,XW1,qa,qb,qc,qd,qe,qf,reduceCtorEq,TYX]
      have hg : Gen ⟨[],sn,[],[],sl,mg,ch⟩ := ⟨hsn9,by simp,by simp,by simp,by simp,by dsimp only; omega,hsp,by dsimp only; omega,hmt,by dsimp only; omega,hct⟩
      exact h ⟨[],sn,[],[],sl,mg,ch⟩ hg rfl rfl rfl hsn2
end Go.Proofs.Ytffbjejmobhpkaa
end
section
namespace Go.Proofs.Ytffbjejmobhpkaa
open Go Go.Aw
def zr7 : List D := [.own [],.own [],.own [],.own [],.own [],.own [],.own []]
structure VlLp where
 k : Nat
 vs : List Vl
structure QtLp where
 i : Nat
 qt : List Qt
def OkV (v : Vl) : Prop := 1 ≤ v.sp.a ∧ v.sp.a ≤ 1000 ∧ v.sp.b ≤ 1000
def srB (i : Nat) (vs : List Vl) : List D := [.int .i64 6,.int .i64 1,.int .i64 i,.str [],.str [],.own (mapD Vl.d vs)]
end Go.Proofs.Ytffbjejmobhpkaa
end
section
namespace Go.Proofs.Ytffbjejmobhpkaa
open Go.Xs
open Go Go.Aw
def x9v_c0 : XC := (.reg [f 37 12 1 65,l 3 65 66,b (.binOp .add 3 (t 66) (i 1) 3) 67,f 37 12 0 68,w 3 68 67])
def x9v_s1 : XC := (.reg [f 54 8 3 69,c (.load 52 (t 69)) 70,l 37 12 71,a (.build 56 #[(2,(t 71))]) 72,a (.buildSlice 52 1 #[(0,(t 72))]) 73,b (.call ⟨(.builtin .append),#[(t 70),(t 73)],#[52,52]⟩) 74,f 54 8 3 75,w 52 75 74])
def x9v_s2 : XC := (.seq (.seq (.reg [m 1 57,m 7 58,a (.binOp .mul 3 (i 5) (t 58) 3) 59,m 10 60,a (.binOp .add 3 (t 59) (t 60) 3) 61,a (.binOp .add 3 (t 61) (i 3) 3) 62,a (k 30 #[(t 57),(t 62),(i 11)] #[22,3,3]) 63,a (.binOp .eql 3 (t 63) (i 0) 3) 64]) (.cond (t 64) x9v_c0 .skip)) x9v_s1)
def x9v_s3 : XC := (.seq (.reg [m 11 46,m 11 47,m 1 48,m 7 49,a (.binOp .mul 3 (i 5) (t 49) 3) 50,m 10 51,a (.binOp .add 3 (t 50) (t 51) 3) 52,a (.binOp .add 3 (t 52) (i 4) 3) 53,a (k 30 #[(t 48),(t 53),(i 25)] #[22,3,3]) 54,a (.binOp .add 3 (t 47) (t 54) 3) 55,b (.build 37 #[(0,(t 46)),(1,(t 55))]) 56,a (.alloc 37) 12,w 37 12 56]) x9v_s2)
def x9v_s4 : XC := (.reg [m 10 36,b (.binOp .add 3 (t 36) (i 1) 3) 37,n 37 10])
def x9v_s5 : XC := (.seq (.block 3 (.seq (.reg [m 1 38,m 7 39,a (.binOp .mul 3 (i 5) (t 39) 3) 40,m 10 41,a (.binOp .add 3 (t 40) (t 41) 3) 42,a (.binOp .add 3 (t 42) (i 2) 3) 43,a (k 30 #[(t 38),(t 43),(i 60)] #[22,3,3]) 44,b (.binOp .add 3 (i 1) (t 44) 3) 45,n 45 11]) x9v_s3)) x9v_s4)
def x9v_L6 : XC := (.seq (.seq (.reg [m 10 33,m 9 34,a (.binOp .lss 3 (t 33) (t 34) 3) 35]) (.cond (t 35) .skip (.exit 2))) x9v_s5)
def x9v_s7 : XC := (.gh (.reg [f 31 5 2 76,c (.load 25 (t 76)) 77,l 54 8 78,a (.buildSlice 25 1 #[(0,(t 78))]) 79,b (.call ⟨(.builtin .append),#[(t 77),(t 79)],#[25,25,0]⟩) 80,f 31 5 2 81,w 25 81 80]))
def x9v_s8 : XC := (.seq (.gh (.reg [m 1 28,m 7 29,a (.binOp .mul 3 (i 5) (t 29) 3) 30,a (.binOp .add 3 (t 30) (i 1) 3) 31,b (k 30 #[(t 28),(t 31),(i 3)] #[22,3,3]) 32,n 32 9])) (.seq (.seq (.reg [a (.assign (i 0)) 10]) (.block 2 (.loop x9v_L6))) x9v_s7))
def x9v_s9 : XC := (.reg [m 7 23,b (.binOp .add 3 (t 23) (i 1) 3) 24,n 24 7])
def x9v_s10 : XC := (.seq (.block 1 (.seq (.reg [m 7 25,a (.build 34 #[(0,(i 6)),(1,(i 1)),(2,(t 25))]) 26,b (.call ⟨(.builtin .complex),#[(t 26)],#[54,0]⟩) 27,a (.alloc 54) 8,w 54 8 27]) x9v_s8)) x9v_s9)
def x9v_L11 : XC := (.seq (.seq (.reg [m 7 20,m 6 21,a (.binOp .lss 3 (t 20) (t 21) 3) 22]) (.cond (t 22) .skip (.exit 0))) x9v_s10)
def x9v_s12 : XC := (.reg [f 31 5 3 113,c (.load 26 (t 113)) 114,l 72 15 115,a (.buildSlice 26 1 #[(0,(t 115))]) 116,b (.call ⟨(.builtin .append),#[(t 114),(t 116)],#[26,26]⟩) 117,f 31 5 3 118,w 26 118 117])
def x9v_s13 : XC := (.reg [m 14 87,b (.binOp .add 3 (t 87) (i 1) 3) 88,n 88 14])
def x9v_s14 : XC := (.seq (.block 5 (.seq (.reg [m 14 89,m 14 90,a (.binOp .quo 3 (t 90) (i 9) 3) 91,a (.binOp .sub 3 (t 89) (t 91) 3) 92,a (.build 34 #[(0,(i 6)),(1,(i 2)),(2,(t 92))]) 93,m 1 94,m 14 95,a (.binOp .mul 3 (i 2) (t 95) 3) 96,a (.binOp .add 3 (i 31) (t 96) 3) 97,f 31 5 1 98,l 24 98 99,e 24 99 100,a (.binOp .add 3 (t 100) (i 1) 3) 101,a (k 30 #[(t 94),(t 97),(t 101)] #[22,3,3]) 102,a (k 10 #[(t 102)] #[3]) 103,m 1 104,m 14 105,a (.binOp .mul 3 (i 2) (t 105) 3) 106,a (.binOp .add 3 (i 32) (t 106) 3) 107,m 6 108,a (.binOp .add 3 (t 108) (i 1) 3) 109,a (k 30 #[(t 104),(t 107),(t 109)] #[22,3,3]) 110,a (.build 34 #[(0,(i 6)),(1,(i 1)),(2,(t 110))]) 111,b (.build 72 #[(0,(t 93)),(1,(t 103)),(2,(t 111))]) 112,a (.alloc 72) 15,w 72 15 112]) x9v_s12)) x9v_s13)
def x9v_L15 : XC := (.seq (.seq (.reg [m 14 84,m 13 85,a (.binOp .lss 3 (t 84) (t 85) 3) 86]) (.cond (t 86) .skip (.exit 4))) x9v_s14)
def x9v_s16 : XC := (.seq (.seq (.reg [a (.assign (i 0)) 14]) (.block 4 (.loop x9v_L15))) (.seq (.reg [b (.load 31 (t 5)) 119,w 31 4 119]) .ret))
def x9v_s17 : XC := (.seq (.gh (.reg [m 1 82,b (k 30 #[(t 82),(i 30),(i 12)] #[22,3,3]) 83,n 83 13])) x9v_s16)
def x9v_s18 : XC := (.seq (.gh (.reg [m 1 18,b (k 30 #[(t 18),(i 0),(i 5)] #[22,3,3]) 19,n 19 6])) (.seq (.seq (.reg [a (.assign (i 0)) 7]) (.block 0 (.loop x9v_L11))) x9v_s17))
def x9v_s19 : XC := (.seq (.reg [m 0 16,b (k 31 #[(t 16)] #[22]) 17,a (.alloc 31) 5,w 31 5 17]) x9v_s18)
def V9v := PLift.up (aI (aI (aI (aI (@unf _ _ x9v_c0.eq_1) (@unf _ _ x9v_s1.eq_1)) (aI (@unf _ _ x9v_s2.eq_1) (aI (@unf _ _ x9v_s3.eq_1) (@unf _ _ x9v_s4.eq_1)))) (aI (aI (@unf _ _ x9v_s5.eq_1) (@unf _ _ x9v_L6.eq_1)) (aI (@unf _ _ x9v_s7.eq_1) (aI (@unf _ _ x9v_s8.eq_1) (@unf _ _ x9v_s9.eq_1))))) (aI (aI (aI (@unf _ _ x9v_s10.eq_1) (@unf _ _ x9v_L11.eq_1)) (aI (@unf _ _ x9v_s12.eq_1) (aI (@unf _ _ x9v_s13.eq_1) (@unf _ _ x9v_s14.eq_1)))) (aI (aI (@unf _ _ x9v_L15.eq_1) (@unf _ _ x9v_s16.eq_1)) (aI (@unf _ _ x9v_s17.eq_1) (aI (@unf _ _ x9v_s18.eq_1) (@unf _ _ x9v_s19.eq_1))))))
theorem U9v : type_of% V9v.down := V9v.down
def x9v : XC := (.seq (.reg [a (.alloc 31) 4]) x9v_s19)
theorem r9v {args : List D} {H : AH} {R : D → AH → Prop} (h : facts args → xcode Try.prog x9v (args ++ List.replicate (120 - args.length) (.tup [])) H (retR Try.prog [(.cell 4 31)] R)) : ACall Try.prog 9 args H R :=
 xcall_bodyR hm Try.func9 rfl (by kernel_rfl) (by kernel_rfl) (by kernel_rfl) (by kernel_rfl) (by kernel_rfl) (by kernel_rfl) h
def x7v_s0 : XC := (.gh (.regW 9 [([f 31 9 2 38],c (.load 25 (t 38)) 39,false)] [f 31 9 2 40,l 25 40 41,a (.indexAddr 25 (t 41) (i 0)) 42,f 54 42 0 43,l 34 43 44,a (.build 37 #[(0,(i 1)),(1,(i 1))]) 45,a (.build 56 #[(2,(t 45))]) 46,a (.buildSlice 52 1 #[(0,(t 46))]) 47,a (.build 54 #[(0,(t 44)),(3,(t 47))]) 48,a (.buildSlice 25 1 #[(0,(t 48))]) 49,b (.call ⟨(.builtin .append),#[(t 39),(t 49)],#[25,25]⟩) 50,f 31 9 2 51] [w 25 51 50]))
def x7v_c1 : XC := (.seq (.gh (.regT [20] [([f 31 9 2 23,l 25 23 24,f 31 9 2 25,l 25 25 26,a (.indexAddr 25 (t 26) (i 0)) 27,f 54 27 3 28],c (.load 52 (t 28)) 29,false)] [m 2 30,m 3 31,a (.build 37 #[(0,(t 30)),(1,(t 31))]) 32,a (.build 56 #[(2,(t 32))]) 33,a (.buildSlice 52 1 #[(0,(t 33))]) 34,b (.call ⟨(.builtin .append),#[(t 29),(t 34)],#[52,52]⟩) 35,a (.indexAddr 25 (t 24) (i 0)) 36,f 54 36 3 37] [w 52 37 35])) x7v_s0)
def x7v_s2 : XC := (.seq (.reg [l 37 12 70,l 37 14 71,a (.binOp .neq 37 (t 70) (t 71) 37) 72,m 72 73,g (.move (t 13)) 74 73 false,g (.move (t 15)) 75 73 false,g (.binOp .neq 4 (t 74) (t 75) 4) 76 73 false,a (.pick (t 73) (.const (.bool true)) (t 76)) 77]) (.cond (t 77) (.seq (.reg [a (.assign (.const (.bool false))) 8]) .ret) .skip))
def x7v_s3 : XC := (.seq (.reg [l 31 9 65,l 34 11 66,a (k 27 #[(t 65),(t 66)] #[31,34]) 67,m 67 64,b (.extract (t 64) 0) 68,b (.extract (t 64) 1) 69,a (.alloc 37) 14,w 37 14 68,n 69 15]) x7v_s2)
def x7v_s4 : XC := (.seq (.reg [l 31 9 59,l 34 11 60,a (k 26 #[(t 59),(t 60)] #[31,34]) 61,m 61 58,b (.extract (t 58) 0) 62,b (.extract (t 58) 1) 63,a (.alloc 37) 12,w 37 12 62,n 63 13]) x7v_s3)
def x7v_s5 : XC := (.reg [m 10 54,b (.binOp .add 3 (t 54) (i 1) 3) 55,n 55 10])
def x7v_s6 : XC := (.seq (.block 1 (.seq (.reg [m 10 56,b (.build 34 #[(0,(i 6)),(1,(i 1)),(2,(t 56))]) 57,a (.alloc 34) 11,w 34 11 57]) x7v_s4)) x7v_s5)
def x7v_L7 : XC := (.seq (.seq (.reg [m 10 52,a (.binOp .lss 3 (t 52) (i 6) 3) 53]) (.cond (t 53) .skip (.exit 0))) x7v_s6)
def x7v_s8 : XC := (.seq (.seq (.gh (.reg [a (.assign (i (-1))) 10])) (.block 0 (.loop x7v_L7))) (.seq (.reg [b (k 17 #[] #[]) 78,n 78 8]) .ret))
def x7v_s9 : XC := (.seq (.seq (.reg [f 31 9 2 19,l 25 19 20,e 25 20 21,a (.binOp .gtr 3 (t 21) (i 0) 3) 22]) (.cond (t 22) x7v_c1 .skip)) x7v_s8)
def x7v_s10 : XC := (.seq (.reg [m 0 16,m 1 17,b (k 9 #[(t 16),(t 17)] #[22,22]) 18,a (.alloc 31) 9,w 31 9 18]) x7v_s9)
def V7v := PLift.up (aI (aI (aI (@unf _ _ x7v_s0.eq_1) (@unf _ _ x7v_c1.eq_1)) (aI (@unf _ _ x7v_s2.eq_1) (aI (@unf _ _ x7v_s3.eq_1) (@unf _ _ x7v_s4.eq_1)))) (aI (aI (@unf _ _ x7v_s5.eq_1) (aI (@unf _ _ x7v_s6.eq_1) (@unf _ _ x7v_L7.eq_1))) (aI (@unf _ _ x7v_s8.eq_1) (aI (@unf _ _ x7v_s9.eq_1) (@unf _ _ x7v_s10.eq_1)))))
theorem U7v : type_of% V7v.down := V7v.down
def x7v : XC := (.seq (.reg [a (.assign (.const (.bool false))) 8]) x7v_s10)
theorem b7v : Bt 7 79 x7v [(.tmp 8)] := bt Try.func7 rfl (by kernel_rfl) (by kernel_rfl) (by kernel_rfl)
end Go.Proofs.Ytffbjejmobhpkaa
end
section
namespace Go.Aw
open Go Go.RowKit
theorem Fz.ownC {F : List D} {H : AH} {b' j b n cap sz : Nat} {ds cs : List D} {xs : List (List D)} {rest : List D} (hne : b' ≠ b) (hd : getH H b' = some (.cells ds)) (hj : ds[j]? = some (.hgs b n cap)) (hg : getH H b = some (.cells cs)) (hcs : cs = xs.flatten ++ rest) (hcl : cs.length = cap * sz) (hn : xs.length = n) (h0 : 0 < n) (hx : ∀ x ∈ xs,x.length = sz) (hpos : 0 < sz) (hpl : ∀ x ∈ xs,∀ d ∈ x,plain d = true) :
  Fz F H F (eraseH (setH H b' (.cells (ds.set j (.own xs)))) b) := by
 intro K w t hs
 let a : Act := { tmps := t,defers := [] }
 have hs' : St K w F H a.tmps := hs
 obtain ⟨hp,c,T,c1,c2,c3⟩ := hsl_cells (cap := cap) (n := n) hs' hg hcs hx hpos hpl
 obtain ⟨hkeep,hkr⟩ := let_go (x := .tok (n * sz) (.cell b' j)) hs.krel hp (by simp)
 have hnd : ((setH H b' (.cells (ds.set j (.own xs)))).map (·.1)).Nodup := by rw [keys_set]; exact hs.hrel.nd
 refine ⟨_,hkeep.fk (fun h=>h),hkr,⟨(erase_sub.map (·.1)).nodup hnd,fun c' o' hm=>?_⟩,hs.len,fun i d v hd' hv'=>(hs.slot i d v hd' hv').keep hkeep (fun _ h=>h)⟩
 have hcb := erase_ne hnd hm
 rcases mem_set hs.hrel.nd (erase_sub.subset hm) with ⟨rfl,rfl⟩ | ⟨hne',hm⟩
 ·obtain ⟨g1,c',T',g2,g3,g4⟩ := AO.keep hkeep hcb (fun _ h=>h) (hs.hrel.ok c' _ (getH_mem hd))
  refine ⟨g1,c',T',g2,by simpa using g3,fun q d' hd'=>?_⟩
  rcases getElem?_set_some hd' with ⟨rfl,rfl,_⟩ | ⟨hnq,hd'⟩
  ·obtain ⟨u,e1,e2,e3⟩ := g4 j _ hj
   obtain ⟨rfl,h1,h2,h3⟩ := RepV.hgs_inv e3
   subst hn
   refine ⟨_,e1,e2,.inr ⟨b,cap,sz,c,T,rfl,setK_same _ _ _,c1,by rw [c2,hcl],h0,h1,h2,h3,fun i x hi=>hx x (List.mem_of_getElem? hi),fun i x hi j d hj=>?_⟩⟩
   obtain ⟨u,e1,e2,e3⟩ := c3 i x hi j d hj
   exact ⟨u,e1,e2,e3.mono hkeep.ext⟩
  ·exact g4 q d' hd'
 ·exact AO.keep hkeep hcb (fun _ h=>h) (hs.hrel.ok c' o' hm)
theorem Sbn.perm {H' H : AH} (h : H'.Perm H) : Sbn H' H := fun hn=>⟨(h.map (·.1)).nodup_iff.2 hn,fun p hp=>h.subset hp⟩
end Go.Aw
end
