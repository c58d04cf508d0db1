/- A part of the proof of what the last text says: Ep4, Er3, Er4, Ew9, Ep6, Er5, Er6, Er7. Conditions: those in each theorem. -/
import Derived.Test.YtffbjejmobhpkaaW19
set_option linter.unusedVariables false
set_option linter.unusedSimpArgs false
set_option maxRecDepth 100000
set_option maxHeartbeats 16000000
open Nat renaming reduceSub → qa,reduceAdd → qb,reduceMul → qc,reduceEqDiff → qd,reduceLeDiff → qe,reduceBEq → qf
section
namespace Go.Proofs.Ytffbjejmobhpkaa
open Go Go.Aw
def Ix.s (x : Ix) (y : Id3) : Bool := (lookP x.se y).getD false
def vis (mm : List (Id3 × Bool)) (y : Id3) : Bool := (lookP mm y).getD false
def stopN (x : Ix) (fr to : Id3) : Bool := !decide ((nextP x fr to).2 = 0) || !x.s to
def hd1 (l : List Id3) : Id3 := l.getD 0 default
def wayF (x : Ix) (fr : Id3) : Nat → List (Id3 × Bool) → Id3 → List Id3
 | 0,_,_=>[]
 | k + 1,mm,to=>if vis mm to = true then [] else to :: if stopN x fr to = true then [] else wayF x fr k (updP mm to true) (hd1 (nextP x fr to).1)
def wayE (x : Ix) (fr : Id3) : Nat → List (Id3 × Bool) → Id3 → Id3
 | 0,_,to=>to
 | k + 1,mm,to=>if vis mm to = true then to else if stopN x fr to = true then to else wayE x fr k (updP mm to true) (hd1 (nextP x fr to).1)
def wayN (x : Ix) : Nat := x.se.length + 2
def wayP (x : Ix) (fr to : Id3) : List Id3 := wayF x fr (wayN x) [] to
theorem len_le_of_sub {α : Type} [DecidableEq α] : ∀ {a b : List α},a.Nodup → (∀ x ∈ a,x ∈ b) → a.length ≤ b.length
 | [],_,_,_=>by simp
 | x :: a,b,hn,h=>by
  have hn' := List.nodup_cons.1 hn
  have hx : x ∈ b := h x (.head _)
  have ih := len_le_of_sub (a := a) (b := b.erase x) hn'.2 fun y hy=>by
   have hne : y ≠ x := fun e=>hn'.1 (by rw [← e]; exact hy)
   exact (List.mem_erase_of_ne hne).2 (h y (.tail _ hy))
  rw [List.length_erase_of_mem hx] at ih
  have hp : 0 < b.length := List.length_pos_of_mem hx
  simp only [List.length_cons]
  omega
structure MetOk (x : Ix) (mm : List (Id3 × Bool)) : Prop where
 nd : (mm.map (·.1)).Nodup
 sub : ∀ p ∈ mm,p.2 = true ∧ x.s p.1 = true
theorem MetOk.len {x : Ix} {mm : List (Id3 × Bool)} (h : MetOk x mm) : mm.length ≤ x.se.length := by
 have := len_le_of_sub (b := x.se.map (·.1)) h.nd fun y hy=>by
  obtain ⟨p,hp,rfl⟩ := List.mem_map.1 hy
  have h2 := (h.sub p hp).2
  unfold Ix.s at h2
  cases hl : lookP x.se p.1 with
  | none=>rw [hl] at h2; cases h2
  | some v=>exact List.mem_map.2 ⟨_,look_mem hl,rfl⟩
 simpa using this
theorem MetOk.add {x : Ix} {mm : List (Id3 × Bool)} (h : MetOk x mm) {to : Id3} (hv : vis mm to = false) (hs : x.s to = true) : MetOk x (updP mm to true) ∧ (updP mm to true).length = mm.length + 1 := by
 have hl : lookP mm to = none := by
  cases hl : lookP mm to with
  | none=>rfl
  | some v =>
   have := (h.sub _ (look_mem hl)).1
   simp only at this
   subst this
   unfold vis at hv
   rw [hl] at hv
   cases hv
 have hk : to ∉ mm.map (·.1) := fun hm=>by
  obtain ⟨p,hp,e⟩ := List.mem_map.1 hm
  have h2 : ∀ {m : List (Id3 × Bool)},p ∈ m → lookP m p.1 ≠ none := by
   intro m
   induction m with
   | nil=>intro h; cases h
   | cons q r ih =>
    intro h
    simp only [lookP]
    split
    ·simp
    ·rename_i e
     rcases List.mem_cons.1 h with h | h
     ·subst h; exact absurd rfl e
     ·exact ih h
  exact h2 hp (by rw [e]; exact hl)
 rw [look_none hl]
 refine ⟨⟨?_,fun p hp=>?_⟩,by simp⟩
 ·rw [List.map_append,List.map_cons,List.map_nil,nodup_mid,List.append_nil]
  exact ⟨hk,h.nd⟩
 ·rcases List.mem_append.1 hp with hp | hp
  ·exact h.sub p hp
  ·rw [List.mem_singleton.1 hp]; exact ⟨rfl,hs⟩
theorem wayF_len {x : Ix} {fr : Id3} : ∀ {k : Nat} {mm : List (Id3 × Bool)} {to : Id3},(wayF x fr k mm to).length ≤ k
 | 0,mm,to=>by simp [wayF]
 | k + 1,mm,to=>by
  unfold wayF
  split
  ·simp
  ·split
   ·simp
   ·have := wayF_len (x := x) (fr := fr) (k := k) (mm := updP mm to true) (to := hd1 (nextP x fr to).1)
    simp only [List.length_cons]
    omega
theorem stop_s {x : Ix} {fr to : Id3} (h : stopN x fr to = false) : x.s to = true ∧ (nextP x fr to).2 = 0 := by
 unfold stopN at h
 simp only [Bool.or_eq_false_iff,Bool.not_eq_false',decide_eq_true_eq] at h
 exact ⟨h.2,h.1⟩
theorem way_on {x : Ix} {fr : Id3} : ∀ {k : Nat} {mm : List (Id3 × Bool)} {to : Id3} {pre : List Id3},MetOk x mm → x.se.length + 2 ≤ k + mm.length → vis mm to = false → (∀ y,vis mm y = true → y ∈ pre) →
  ∃ w l,wayF x fr k mm to = w ++ [l] ∧ (stopN x fr l = false → hd1 (nextP x fr l).1 ∈ pre ++ (w ++ [l]))
 | 0,mm,to,pre,hm,hk,hv,hp=>by have := hm.len; omega
 | k + 1,mm,to,pre,hm,hk,hv,hp=>by
  unfold wayF
  rw [if_neg (by rw [hv]; simp)]
  by_cases hs : stopN x fr to = true
  ·rw [if_pos hs]
   exact ⟨[],to,rfl,fun h=>by rw [hs] at h; cases h⟩
  ·rw [if_neg hs]
   have hs' : stopN x fr to = false := by simpa using hs
   obtain ⟨h1,h2⟩ := stop_s hs'
   obtain ⟨q1,q2⟩ := hm.add hv h1
   by_cases hv2 : vis (updP mm to true) (hd1 (nextP x fr to).1) = true
   ·have hk0 : k ≠ 0 := by have := hm.len; omega
    obtain ⟨k,rfl⟩ := Nat.exists_eq_succ_of_ne_zero hk0
    rw [show wayF x fr (k + 1) (updP mm to true) (hd1 (nextP x fr to).1) = [] by unfold wayF; rw [if_pos hv2]]
    refine ⟨[],to,rfl,fun _=>?_⟩
    unfold vis at hv2
    rw [look_upd] at hv2
    split at hv2
    ·rename_i e; rw [e]; simp
    ·exact List.mem_append_left _ (hp _ hv2)
   ·have hv2' : vis (updP mm to true) (hd1 (nextP x fr to).1) = false := by simpa using hv2
    obtain ⟨w,l,e1,e2⟩ := way_on (k := k) (pre := pre ++ [to]) q1 (by rw [q2]; omega) hv2' (fun y hy=>by
     unfold vis at hy
     rw [look_upd] at hy
     split at hy
     ·rename_i e; subst e; simp
     ·exact List.mem_append_left _ (hp y hy))
    refine ⟨to :: w,l,by rw [e1]; rfl,fun h=>?_⟩
    have := e2 h
    rw [List.append_assoc] at this
    exact this
theorem wayP_on {x : Ix} {fr to : Id3} : ∃ w l,wayP x fr to = w ++ [l] ∧ (stopN x fr l = false → hd1 (nextP x fr l).1 ∈ wayP x fr to) := by
 obtain ⟨w,l,e1,e2⟩ := way_on (x := x) (fr := fr) (k := wayN x) (mm := []) (to := to) (pre := []) ⟨by simp,by simp⟩ (by simp [wayN]) rfl (fun y hy=>by cases hy)
 exact ⟨w,l,e1,fun h=>by rw [wayP,e1]; simpa using e2 h⟩
end Go.Proofs.Ytffbjejmobhpkaa
end
section
namespace Go.Proofs.Ytffbjejmobhpkaa
open Go Go.Aw
def lastI (l : List Id3) : Id3 := l.getD (l.length - 1) default
theorem lastI_app {l : List Id3} {x : Id3} : lastI (l ++ [x]) = x := by simp [lastI]
def rPathF (b : Bk) (fr : Id3) : Nat → List Id3 → List Id3
 | 0,way=>way
 | k + 1,way=>if rSen b (lastI way) = true ∧ (rNext b fr (lastI way)).2 = 0 ∧ hd1 (rNext b fr (lastI way)).1 ∉ way then rPathF b fr k (way ++ [hd1 (rNext b fr (lastI way)).1]) else way
def rPath (b : Bk) (fr to : Id3) : List Id3 := rPathF b fr (b.sn.length + 2) [to]
theorem rNext_ne {b : Bk} {fr to : Id3} (h : (rNext b fr to).2 = 0) : 0 < (rNext b fr to).1.length := by
 unfold rNext at *
 split at h
 ·rename_i c; rw [if_pos c]; simp
 ·rename_i c
  rw [if_neg c]
  split at h
  ·rename_i c1; rw [if_pos c1]; dsimp only; omega
  ·rename_i c1
   rw [if_neg c1]
   split at h
   ·cases h
   ·rename_i c2
    rw [if_neg c2]
    split at h
    ·rename_i c3; rw [if_pos c3]; dsimp only; omega
    ·cases h
theorem rSen_mem {b : Bk} {x : Id3} (h : rSen b x = true) : x ∈ b.sn.map Sn.id := by
 unfold rSen at h
 obtain ⟨s,hs,he⟩ := List.any_eq_true.1 h
 exact List.mem_map.2 ⟨s,hs,by simpa using he⟩
structure WayR (b : Bk) (way : List Id3) : Prop where
 ne : way ≠ []
 nd : way.Nodup
 sen : ∀ y ∈ way.dropLast,rSen b y = true
theorem WayR.len {b : Bk} {way : List Id3} (h : WayR b way) : way.length ≤ b.sn.length + 1 := by
 have h1 : way.dropLast.Nodup := (List.dropLast_sublist way).nodup h.nd
 have h2 := len_le_of_sub (b := b.sn.map Sn.id) h1 fun y hy=>rSen_mem (h.sen y hy)
 rw [List.length_dropLast,List.length_map] at h2
 omega
theorem last_split {way : List Id3} (h : way ≠ []) : way = way.dropLast ++ [lastI way] := by
 have h1 : 0 < way.length := List.length_pos_iff.2 h
 rw [show lastI way = way.getLast h by
  unfold lastI
  rw [List.getD_eq_getElem?_getD,List.getElem?_eq_getElem (by omega),List.getLast_eq_getElem]
  rfl]
 exact (List.dropLast_concat_getLast h).symm
theorem WayR.add {b : Bk} {way : List Id3} (h : WayR b way) {x : Id3} (hs : rSen b (lastI way) = true) (hx : x ∉ way) : WayR b (way ++ [x]) := by
 refine ⟨by simp,?_,fun y hy=>?_⟩
 ·rw [List.nodup_append]
  exact ⟨h.nd,by simp,fun a ha c hc e=>hx (by rw [← List.mem_singleton.1 hc,← e]; exact ha)⟩
 ·rw [List.dropLast_concat] at hy
  rw [last_split h.ne] at hy
  rcases List.mem_append.1 hy with hy | hy
  ·exact h.sen y hy
  ·rw [List.mem_singleton.1 hy]; exact hs
theorem last_get {way : List Id3} (h : way ≠ []) : (mapD Id3.d way).getD (way.length - 1) [] = (lastI way).d := by
 have h1 : 0 < way.length := List.length_pos_iff.2 h
 exact mapD_get (by omega)
structure PaLp where
 n : Nat
 way : List Id3
theorem f_rPath {b : Bk} (hb : SmallR b) {fr to : Id3} {H : AH} {R : D → AH → Prop} (h : R (.slc (mapD Id3.d (rPath b fr to))) H) : ACall Try.prog 67 [.agg b.d,.agg fr.d,.agg to.d] H R := by
 refine ACall.view (b67 fun hf=>?_)
 have hbig := big_eq
 have hsn := hb.sn
 have hbd : b.d = [.slc (mapD En.d b.en),.slc (mapD Sn.d b.sn),.slc (mapD Sr.d b.sr),.slc (mapD Qt.d b.qt),.slc (mapD Spl.d b.sl),.slc (mapD Mg.d b.mg),.slc (mapD Ch.d b.ch)] := rfl
 have hfd : fr.d = [.int .i64 fr.o,.int .i64 fr.s,.int .i64 fr.i] := rfl
 have htd : to.d = [.int .i64 to.o,.int .i64 to.s,.int .i64 to.i] := rfl
 simp +contextual only [x67,mapD_len,hbd,hfd,htd,↓U67,↓XP,↓XU,XW0,XW1,qa,qb,qc,qd,qe,qf,reduceCtorEq,TYX]
 rintro b3 h3 b4 ⟨n34,h4⟩ b5 ⟨n45,n35,h5⟩
 simp only [← hbd,← hfd,← htd,ids_1]
 refine XW.loopS Go.Proofs.Ytffbjejmobhpkaa.hm 48 (fun s : PaLp=>[(3,.ptr b3 0),(4,.ptr b4 0),(5,.ptr b5 0),(7,.own (mapD Id3.d s.way))]) (fun s=>(b5,AO.cells to.d) :: (b4,.cells fr.d) :: (b3,.cells b.d) :: H) (fun s=>s.n) (fun s=>rPathF b fr s.n s.way = rPath b fr to ∧ WayR b s.way ∧ s.n + s.way.length = b.sn.length + 3) ⟨b.sn.length + 2,[to]⟩ ⟨rfl,⟨by simp,by simp,by simp⟩,by simp⟩ ⟨rfl,rfl,rfl,rfl,rfl,trivial⟩ rfl ?_
 rintro ⟨n,way⟩ z ⟨hp,hw,hn⟩ K hN hE hR
 dsimp only at hp hw hn
 have hwl := hw.len
 have hw0 : 0 < way.length := List.length_pos_iff.2 hw.ne
 show xcode _ _ [z 0,z 1,z 2,.ptr b3 0,.ptr b4 0,.ptr b5 0,z 6,.own (mapD Id3.d way),z 8,z 9,z 10,z 11,z 12,z 13,z 14,z 15,z 16,z 17,z 18,z 19,z 20,z 21,z 22,z 23,z 24,z 25,z 26,z 27,z 28,z 29,z 30,z 31,z 32,z 33,z 34,z 35,z 36,z 37,z 38,z 39,z 40,z 41,z 42,z 43,z 44,z 45,z 46,z 47] _ K
 have g := last_get hw.ne
 have hw1 : IntKind.i64.wrap ((way.length : Int) - 1) = ((way.length - 1 : Nat) : Int) := by rw [wrap_id (by omega) (by omega)]; omega
 have hlt1 : (((way.length - 1 : Nat) : Int) < (way.length : Int)) = True := eq_true (by omega)
 obtain ⟨n,rfl⟩ : ∃ m,n = m + 1 := ⟨n - 1,by omega⟩
 rw [rPathF] at hp
 have hadd := fun x=>hw.add (x := x)
 have hne := rNext_ne (b := b) (fr := fr) (to := lastI way)
 generalize hx : lastI way = x at g hp hadd hne
 have hxd : x.d = [.int .i64 x.o,.int .i64 x.s,.int .i64 x.i] := rfl
 simp +contextual only [x67,mapD_len,hbd,hfd,htd,g,hxd,hw1,hlt1,Int.toNat_natCast,h_miss,h_skip,n34,n45,n35,↓U67,↓XP,↓XU,XW0,XW1,qa,qb,qc,qd,qe,qf,reduceCtorEq,TYX]
 rintro _ b8 ⟨n58,n48,n38,h8⟩
 refine f_rNext hb (fr := fr) (to := x) ?_
 generalize rNext b fr x = nx at hp hne
 obtain ⟨l,e⟩ := nx
 dsimp only at hp hne
 have hnd : nxD (l,e) = .tup [.slc (mapD Id3.d l),.int .i64 e] := rfl
 rw [hnd]
 simp +contextual only [x67,mapD_len,hbd,hfd,htd,hxd,h_miss,h_skip,n34,n45,n35,n58,n48,n38,↓U67,↓XP,↓XU,XW0,XW1,qa,qb,qc,qd,qe,qf,reduceCtorEq,TYX]
 intros
 refine f_rSense hb (x := x) ?_
 generalize rSen b x = sn at hp hadd
 cases sn with
 | false =>
  rw [if_neg (fun e=>nomatch e.1)] at hp
  simp +contextual only [x67,mapD_len,hbd,hfd,htd,hxd,h_miss,h_skip,n34,n45,n35,n58,n48,n38,↓U67,↓XP,↓XU,XW0,XW1,qa,qb,qc,qd,qe,qf,reduceCtorEq,TYX]
  intros
  refine hR _ _ ?_
  simp +contextual only [x67,mapD_len,hbd,hfd,htd,↓U67,↓XP,↓XU,XW0,XW1,qa,qb,qc,qd,qe,qf,reduceCtorEq,TYX]
  rw [hp]
  exact h
 | true =>
  rcases Classical.em (e = 0) with he | he
  ·have hl0 := hne he
   have g0 := mapD_get (f := Id3.d) hl0
   have g0' : (mapD Id3.d l).getD 0 [] = (hd1 l).d := g0
   have hll : ((0 : Int) < (l.length : Int)) = True := eq_true (by omega)
   generalize hd1 l = y at g0' hp hadd
   have hyd : y.d = [.int .i64 y.o,.int .i64 y.s,.int .i64 y.i] := rfl
   simp +contextual only [x67,mapD_len,hbd,hfd,htd,hxd,eq_true he,g0',hyd,hll,h_miss,h_skip,n34,n45,n35,n58,n48,n38,↓U67,↓XP,↓XU,XW0,XW1,qa,qb,qc,qd,qe,qf,reduceCtorEq,TYX]
   intros
   refine f_has (x := y) ?_
   rcases Classical.em (y ∈ way) with hy | hy
   ·rw [if_neg (fun e=>e.2.2 hy)] at hp
    simp +contextual only [x67,mapD_len,hbd,hfd,htd,decide_eq_true hy,h_miss,h_skip,n34,n45,n35,n58,n48,n38,↓U67,↓XP,↓XU,XW0,XW1,qa,qb,qc,qd,qe,qf,reduceCtorEq,TYX]
    intros
    refine hR _ _ ?_
    simp +contextual only [x67,mapD_len,hbd,hfd,htd,↓U67,↓XP,↓XU,XW0,XW1,qa,qb,qc,qd,qe,qf,reduceCtorEq,TYX]
    rw [hp]
    exact h
   ·rw [if_pos ⟨rfl,he,hy⟩] at hp
    simp +contextual only [x67,mapD_len,hbd,hfd,htd,decide_eq_false hy,g0',hyd,hll,h_miss,h_skip,n34,n45,n35,n58,n48,n38,↓U67,↓XP,↓XU,XW0,XW1,qa,qb,qc,qd,qe,qf,reduceCtorEq,TYX]
    have hap : mapD Id3.d way ++ [[D.int .i64 y.o,.int .i64 y.s,.int .i64 y.i]] = mapD Id3.d (way ++ [y]) := by rw [← mapD_app]; rfl
    rw [hap]
    intros
    refine ⟨mapD_sz fun _=>rfl,by omega,hN ⟨n,way ++ [y]⟩ _ _ ⟨hp,hadd _ rfl hy,by dsimp only; rw [List.length_append,List.length_singleton]; omega⟩ (by dsimp only; omega) ⟨rfl,rfl,rfl,rfl,rfl,trivial⟩ (back_1 rfl)⟩
  ·rw [if_neg (fun h=>he h.2.1)] at hp
   simp +contextual only [x67,mapD_len,hbd,hfd,htd,hxd,eq_false he,h_miss,h_skip,n34,n45,n35,n58,n48,n38,↓U67,↓XP,↓XU,XW0,XW1,qa,qb,qc,qd,qe,qf,reduceCtorEq,TYX]
   intros
   refine hR _ _ ?_
   simp +contextual only [x67,mapD_len,hbd,hfd,htd,↓U67,↓XP,↓XU,XW0,XW1,qa,qb,qc,qd,qe,qf,reduceCtorEq,TYX]
   rw [hp]
   exact h
end Go.Proofs.Ytffbjejmobhpkaa
end
section
namespace Go.Proofs.Ytffbjejmobhpkaa
open Go Go.Aw
def lesI (m y : Id3) : Id3 := if y.lt m then y else m
def rRes (b : Bk) (fr to : Id3) : Id3 × Int :=
 if rSen b (lastI (rPath b fr to)) = true then
  if (rNext b fr (lastI (rPath b fr to))).2 = 0 then
   (((rPath b fr to).drop ((rPath b fr to).idxOf (hd1 (rNext b fr (lastI (rPath b fr to))).1))).foldl lesI ((rPath b fr to).getD ((rPath b fr to).idxOf (hd1 (rNext b fr (lastI (rPath b fr to))).1)) default),0)
  else (id0,(rNext b fr (lastI (rPath b fr to))).2)
 else (id0,14)
theorem rPathF_on {b : Bk} {fr : Id3} : ∀ {k : Nat} {way : List Id3},WayR b way → k + way.length = b.sn.length + 3 →
  WayR b (rPathF b fr k way) ∧ (rSen b (lastI (rPathF b fr k way)) = true → (rNext b fr (lastI (rPathF b fr k way))).2 = 0 → hd1 (rNext b fr (lastI (rPathF b fr k way))).1 ∈ rPathF b fr k way)
 | 0,way,hw,hk=>by have := hw.len; omega
 | k + 1,way,hw,hk=>by
  rw [rPathF]
  split
  ·rename_i h
   exact rPathF_on (hw.add h.1 h.2.2) (by rw [List.length_append,List.length_singleton]; omega)
  ·rename_i h
   exact ⟨hw,fun h1 h2=>Classical.byContradiction fun h3=>h ⟨h1,h2,h3⟩⟩
theorem rPath_on {b : Bk} {fr to : Id3} : WayR b (rPath b fr to) ∧ (rSen b (lastI (rPath b fr to)) = true → (rNext b fr (lastI (rPath b fr to))).2 = 0 → hd1 (rNext b fr (lastI (rPath b fr to))).1 ∈ rPath b fr to) :=
 rPathF_on ⟨by simp,by simp,by simp⟩ (by simp)
def idC (p : Id3 × Int) : D := .tup [.agg p.1.d,.int .i64 p.2]
theorem f_rResolve {b : Bk} (hb : SmallR b) {fr to : Id3} {H : AH} {R : D → AH → Prop} (h : R (idC (rRes b fr to)) H) : ACall Try.prog 53 [.agg b.d,.agg fr.d,.agg to.d] H R := by
 refine b53 fun hf=>?_
 have hbig := big_eq
 have hsn := hb.sn
 have hbd : b.d = [.slc (mapD En.d b.en),.slc (mapD Sn.d b.sn),.slc (mapD Sr.d b.sr),.slc (mapD Qt.d b.qt),.slc (mapD Spl.d b.sl),.slc (mapD Mg.d b.mg),.slc (mapD Ch.d b.ch)] := rfl
 have hfd : fr.d = [.int .i64 fr.o,.int .i64 fr.s,.int .i64 fr.i] := rfl
 have htd : to.d = [.int .i64 to.o,.int .i64 to.s,.int .i64 to.i] := rfl
 have hk : ∀ y e,rRes b fr to = (y,e) → R (.tup [.agg y.d,.int .i64 e]) H := fun y e he=>by rw [he] at h; exact h
 simp +contextual only [x53,mapD_len,hbd,hfd,htd,↓U53,↓XP,↓XU,XW0,XW1,qa,qb,qc,qd,qe,qf,reduceCtorEq,TYX]
 rintro b3 h3 b4 ⟨n34,h4⟩ b5 ⟨n45,n35,h5⟩ b6 ⟨n56,n46,n36,h6⟩
 simp +contextual only [x53,mapD_len,hbd,hfd,htd,h_miss,h_skip,n34,n45,n35,n56,n46,n36,↓U53,↓XP,↓XU,XW0,XW1,qa,qb,qc,qd,qe,qf,reduceCtorEq,TYX]
 refine f_rPath hb (fr := fr) (to := to) ?_
 have hon := rPath_on (b := b) (fr := fr) (to := to)
 have hres : rRes b fr to = if rSen b (lastI (rPath b fr to)) = true then (if (rNext b fr (lastI (rPath b fr to))).2 = 0 then (((rPath b fr to).drop ((rPath b fr to).idxOf (hd1 (rNext b fr (lastI (rPath b fr to))).1))).foldl lesI ((rPath b fr to).getD ((rPath b fr to).idxOf (hd1 (rNext b fr (lastI (rPath b fr to))).1)) default),0) else (id0,(rNext b fr (lastI (rPath b fr to))).2)) else (id0,14) := rfl
 generalize rPath b fr to = way at hon hres
 obtain ⟨hw,hon⟩ := hon
 have hwl := hw.len
 have hw0 : 0 < way.length := List.length_pos_iff.2 hw.ne
 have g := last_get hw.ne
 have hw1 : IntKind.i64.wrap ((way.length : Int) - 1) = ((way.length - 1 : Nat) : Int) := by rw [wrap_id (by omega) (by omega)]; omega
 have hlt1 : (((way.length - 1 : Nat) : Int) < (way.length : Int)) = True := eq_true (by omega)
 have hne := rNext_ne (b := b) (fr := fr) (to := lastI way)
 generalize hx : lastI way = x at g hon hres hne
 have hxd : x.d = [.int .i64 x.o,.int .i64 x.s,.int .i64 x.i] := rfl
 simp +contextual only [x53,mapD_len,hbd,hfd,htd,g,hxd,hw1,hlt1,Int.toNat_natCast,h_miss,h_skip,n34,n45,n35,n56,n46,n36,↓U53,↓XP,↓XU,XW0,XW1,qa,qb,qc,qd,qe,qf,reduceCtorEq,TYX]
 rintro _ b9 ⟨n69,n59,n49,n39,h9⟩
 refine f_rSense hb (x := x) ?_
 generalize rSen b x = sn at hon hres
 cases sn with
 | false =>
  rw [if_neg (fun e=>nomatch e)] at hres
  simp +contextual only [x53,mapD_len,hbd,hfd,htd,hxd,h_miss,h_skip,n34,n45,n35,n56,n46,n36,n69,n59,n49,n39,↓U53,↓XP,↓XU,XW0,XW1,qa,qb,qc,qd,qe,qf,reduceCtorEq,TYX]
  exact hk id0 14 hres
 | true =>
  rw [if_pos rfl] at hres
  simp +contextual only [x53,mapD_len,hbd,hfd,htd,hxd,h_miss,h_skip,n34,n45,n35,n56,n46,n36,n69,n59,n49,n39,↓U53,↓XP,↓XU,XW0,XW1,qa,qb,qc,qd,qe,qf,reduceCtorEq,TYX]
  refine f_rNext hb (fr := fr) (to := x) ?_
  generalize rNext b fr x = nx at hon hres hne
  obtain ⟨l,e⟩ := nx
  dsimp only at hon hres hne
  have hnd : nxD (l,e) = .tup [.slc (mapD Id3.d l),.int .i64 e] := rfl
  rw [hnd]
  rcases Classical.em (e = 0) with he | he
  ·rw [if_pos he] at hres
   have hl0 := hne he
   have g0 := mapD_get (f := Id3.d) hl0
   have g0' : (mapD Id3.d l).getD 0 [] = (hd1 l).d := g0
   have hll : ((0 : Int) < (l.length : Int)) = True := eq_true (by omega)
   have hmem := hon rfl he
   generalize hd1 l = y at g0' hres hmem
   have hyd : y.d = [.int .i64 y.o,.int .i64 y.s,.int .i64 y.i] := rfl
   simp +contextual only [x53,mapD_len,hbd,hfd,htd,hxd,eq_true he,h_miss,h_skip,n34,n45,n35,n56,n46,n36,n69,n59,n49,n39,↓U53,↓XP,↓XU,XW0,XW1,qa,qb,qc,qd,qe,qf,reduceCtorEq,TYX]
   simp only [← hbd,← hfd,← htd]
   intros
   have hix := List.idxOf_lt_length_of_mem hmem
   have hgi : way.getD (way.idxOf y) default = y := by
    rw [List.getD_eq_getElem?_getD,List.getElem?_eq_getElem hix]
    simp
   rw [hgi] at hres
   refine XW.loopS Go.Proofs.Ytffbjejmobhpkaa.hm 73 (fun i : Nat=>[(3,.ptr b3 0),(4,.ptr b4 0),(5,.ptr b5 0),(6,.ptr b6 0),(8,.slc (mapD Id3.d way)),(10,.slc (mapD Id3.d l)),(12,.int .i64 ((i : Nat) : Int))]) (fun i=>(b9,AO.cells x.d) :: (b6,.cells id0.d) :: (b5,.cells to.d) :: (b4,.cells fr.d) :: (b3,.cells b.d) :: H) (fun i=>way.length - i) (fun i=>i ≤ way.idxOf y) 0 (by omega) ⟨rfl,rfl,rfl,rfl,rfl,rfl,rfl,rfl,trivial⟩ rfl ?_
   rintro i z hi K hN hE hR
   show xcode _ _ [z 0,z 1,z 2,.ptr b3 0,.ptr b4 0,.ptr b5 0,.ptr b6 0,z 7,.slc (mapD Id3.d way),z 9,.slc (mapD Id3.d l),z 11,.int .i64 ((i : Nat) : Int),z 13,z 14,z 15,z 16,z 17,z 18,z 19,z 20,z 21,z 22,z 23,z 24,z 25,z 26,z 27,z 28,z 29,z 30,z 31,z 32,z 33,z 34,z 35,z 36,z 37,z 38,z 39,z 40,z 41,z 42,z 43,z 44,z 45,z 46,z 47,z 48,z 49,z 50,z 51,z 52,z 53,z 54,z 55,z 56,z 57,z 58,z 59,z 60,z 61,z 62,z 63,z 64,z 65,z 66,z 67,z 68,z 69,z 70,z 71,z 72] _ K
   have hiw : i < way.length := by omega
   have gi := mapD_get (f := Id3.d) hiw
   have hiw' : ((i : Int) < (way.length : Int)) = True := eq_true (by omega)
   have hnot : i < way.idxOf y → way.getD i default ≠ y := fun hlt he=>by
    have := List.not_of_lt_findIdx (p := (· == y)) (xs := way) hlt
    rw [List.getD_eq_getElem?_getD,List.getElem?_eq_getElem hiw] at he
    simp at this he
    exact this he
   rcases Classical.em (i < way.idxOf y) with hlt | hlt
   ·have hnot := hnot hlt
    generalize way.getD i default = q at gi hnot
    have hqd : q.d = [.int .i64 q.o,.int .i64 q.s,.int .i64 q.i] := rfl
    have hd := id_dec (x := q) (y := y)
    simp +contextual only [x53,mapD_len,hbd,hfd,htd,gi,g0',hyd,hqd,hd,eq_false hnot,hiw',hll,h_miss,h_skip,n34,n45,n35,n56,n46,n36,n69,n59,n49,n39,wrap_succ (show i ≤ big by omega),↓U53,↓XP,↓XU,XW0,XW1,qa,qb,qc,qd,qe,qf,reduceCtorEq,TYX]
    intros
    exact hN (i + 1) _ _ (by omega) (by omega) ⟨rfl,rfl,rfl,rfl,rfl,rfl,rfl,rfl,trivial⟩ (back_0 rfl)
   ·have hie : i = way.idxOf y := by omega
    rw [show way.getD i default = y by rw [hie]; exact hgi] at gi
    have hd := id_dec (x := y) (y := y)
    rw [decide_eq_true rfl] at hd
    simp +contextual only [x53,mapD_len,hbd,hfd,htd,gi,g0',hyd,hd,hiw',hll,h_miss,h_skip,n34,n45,n35,n56,n46,n36,n69,n59,n49,n39,↓U53,↓XP,↓XU,XW0,XW1,qa,qb,qc,qd,qe,qf,reduceCtorEq,TYX]
    intros
    refine hE _ _ _ ?_
    simp +contextual only [x53,mapD_len,hbd,hfd,htd,gi,hyd,hiw',hll,Int.toNat_natCast,h_miss,h_skip,n34,n45,n35,n56,n46,n36,n69,n59,n49,n39,↓U53,↓XP,↓XU,XW0,XW1,qa,qb,qc,qd,qe,qf,reduceCtorEq,TYX]
    clear hN hE hR
    rintro b13 ⟨n913,n613,n513,n413,n313,h13⟩
    simp only [← hbd,← hfd,← htd,← hyd]
    refine XW.loopS Go.Proofs.Ytffbjejmobhpkaa.hm 73 (fun s : Nat × Id3=>[(3,.ptr b3 0),(4,.ptr b4 0),(5,.ptr b5 0),(6,.ptr b6 0),(8,.slc (mapD Id3.d way)),(13,.ptr b13 0),(14,.int .i64 ((s.1 : Nat) : Int))]) (fun s=>(b13,AO.cells s.2.d) :: (b9,AO.cells x.d) :: (b6,.cells id0.d) :: (b5,.cells to.d) :: (b4,.cells fr.d) :: (b3,.cells b.d) :: H) (fun s=>way.length - s.1) (fun s=>s.1 ≤ way.length ∧ (way.drop s.1).foldl lesI s.2 = (way.drop (way.idxOf y)).foldl lesI y) (i,y) ⟨by dsimp only; omega,by rw [hie]⟩ ⟨rfl,rfl,rfl,rfl,rfl,rfl,rfl,rfl,trivial⟩ rfl ?_
    clear hiw gi hiw' hie hlt z hi
    rintro ⟨k,m⟩ z ⟨hk2,hm⟩ K hN hE hR
    dsimp only at hk2 hm
    have hmd : m.d = [.int .i64 m.o,.int .i64 m.s,.int .i64 m.i] := rfl
    show xcode _ _ [z 0,z 1,z 2,.ptr b3 0,.ptr b4 0,.ptr b5 0,.ptr b6 0,z 7,.slc (mapD Id3.d way),z 9,z 10,z 11,z 12,.ptr b13 0,.int .i64 ((k : Nat) : Int),z 15,z 16,z 17,z 18,z 19,z 20,z 21,z 22,z 23,z 24,z 25,z 26,z 27,z 28,z 29,z 30,z 31,z 32,z 33,z 34,z 35,z 36,z 37,z 38,z 39,z 40,z 41,z 42,z 43,z 44,z 45,z 46,z 47,z 48,z 49,z 50,z 51,z 52,z 53,z 54,z 55,z 56,z 57,z 58,z 59,z 60,z 61,z 62,z 63,z 64,z 65,z 66,z 67,z 68,z 69,z 70,z 71,z 72] ((b13,AO.cells m.d) :: (b9,AO.cells x.d) :: (b6,.cells id0.d) :: (b5,.cells to.d) :: (b4,.cells fr.d) :: (b3,.cells b.d) :: H) K
    by_cases hlt : k < way.length
    ·have gk := mapD_get (f := Id3.d) hlt
     have hkw' : ((k : Int) < (way.length : Int)) = True := eq_true (by omega)
     rw [drop_cons hlt] at hm
     generalize way.getD k default = q at gk hm
     have hqd : q.d = [.int .i64 q.o,.int .i64 q.s,.int .i64 q.i] := rfl
     rw [List.foldl_cons] at hm
     simp +contextual only [x53,mapD_len,hbd,hfd,htd,gk,hqd,hmd,hkw',h_miss,h_skip,n34,n45,n35,n56,n46,n36,n69,n59,n49,n39,n913,n613,n513,n413,n313,↓U53,↓XP,↓XU,XW0,XW1,qa,qb,qc,qd,qe,qf,reduceCtorEq,TYX]
     intros
     refine ⟨_,fun _ _=>f_less (x := q) (y := m) ⟨rfl,rfl⟩,?_⟩
     rcases Classical.em (q.lt m) with hq | hq
     ·rw [show lesI m q = q by unfold lesI; rw [if_pos hq]] at hm
      simp +contextual only [x53,mapD_len,hbd,hfd,htd,gk,hqd,hmd,hkw',decide_eq_true hq,h_miss,h_skip,n34,n45,n35,n56,n46,n36,n69,n59,n49,n39,n913,n613,n513,n413,n313,wrap_succ (show k ≤ big by omega),↓U53,↓XP,↓XU,XW0,XW1,qa,qb,qc,qd,qe,qf,reduceCtorEq,TYX]
      intros
      exact hN (k + 1,q) _ _ ⟨hlt,hm⟩ (by dsimp only; omega) ⟨rfl,rfl,rfl,rfl,rfl,rfl,rfl,rfl,trivial⟩ (back_0 rfl)
     ·rw [show lesI m q = m by unfold lesI; rw [if_neg hq]] at hm
      simp +contextual only [x53,mapD_len,hbd,hfd,htd,gk,hqd,hmd,hkw',decide_eq_false hq,h_miss,h_skip,n34,n45,n35,n56,n46,n36,n69,n59,n49,n39,n913,n613,n513,n413,n313,wrap_succ (show k ≤ big by omega),↓U53,↓XP,↓XU,XW0,XW1,qa,qb,qc,qd,qe,qf,reduceCtorEq,TYX]
      intros
      exact hN (k + 1,m) _ _ ⟨hlt,hm⟩ (by dsimp only; omega) ⟨rfl,rfl,rfl,rfl,rfl,rfl,rfl,rfl,trivial⟩ (back_0 rfl)
    ·have hkn : k = way.length := by omega
     subst hkn
     rw [List.drop_length] at hm
     rw [← hm] at hres
     simp +contextual only [x53,mapD_len,hbd,hfd,htd,h_miss,h_skip,n34,n45,n35,n56,n46,n36,n69,n59,n49,n39,n913,n613,n513,n413,n313,↓U53,↓XP,↓XU,XW0,XW1,qa,qb,qc,qd,qe,qf,reduceCtorEq,TYX]
     intros
     refine hE _ _ _ ?_
     simp +contextual only [x53,mapD_len,hbd,hfd,htd,hmd,h_miss,h_skip,n34,n45,n35,n56,n46,n36,n69,n59,n49,n39,n913,n613,n513,n413,n313,↓U53,↓XP,↓XU,XW0,XW1,qa,qb,qc,qd,qe,qf,reduceCtorEq,TYX]
     exact ⟨by decide,hk m 0 hres⟩
  ·rw [if_neg he] at hres
   simp +contextual only [x53,mapD_len,hbd,hfd,htd,hxd,eq_false he,h_miss,h_skip,n34,n45,n35,n56,n46,n36,n69,n59,n49,n39,↓U53,↓XP,↓XU,XW0,XW1,qa,qb,qc,qd,qe,qf,reduceCtorEq,TYX]
   intros
   exact hk id0 e hres
end Go.Proofs.Ytffbjejmobhpkaa
end
section
namespace Go.Proofs.Ytffbjejmobhpkaa
open Go Go.Aw
structure Dt where
 id : Id3
 sp : Sp
instance : Inhabited Dt := ⟨⟨id0,sp0⟩⟩
def Dt.d (x : Dt) : List D := [.int .i64 x.id.o,.int .i64 x.id.s,.int .i64 x.id.i,.int .i64 x.sp.a,.int .i64 x.sp.b]
def rmin (o : Sp) (q : Dt) : Sp := ⟨if q.sp.a < o.a then q.sp.a else o.a,if q.sp.b < o.b then q.sp.b else o.b⟩
def riseP (l : List Dt) : Sp × Bool := match l with
 | []=>(sp0,false)
 | x :: r=>((x :: r).foldl rmin x.sp,true)
def spB (p : Sp × Bool) : D := .tup [.agg p.1.d,.bool p.2]
theorem f_rise {l : List Dt} {H : AH} {R : D → AH → Prop} (h : R (spB (riseP l)) H) : ACall Try.prog 33 [.slc (mapD Dt.d l)] H R := by
 refine b33 fun hf=>?_
 have hbig := big_eq
 by_cases h0 : l = []
 ·subst h0
  simp +contextual only [x33,mapD_len,↓U33,↓XP,↓XU,XW0,XW1,qa,qb,qc,qd,qe,qf,reduceCtorEq,TYX]
  exact fun _ _ _=>⟨fun _=>h,fun e=>absurd rfl e⟩
 ·have hpos := List.length_pos_iff.2 h0
  have hne : ((l.length : Int) = 0) = False := eq_false (by omega)
  have hp0 : ((0 : Int) < (l.length : Int)) = True := eq_true (by omega)
  have g0 := mapD_get (f := Dt.d) hpos
  obtain ⟨x,r,hl⟩ : ∃ x r,l = x :: r := by cases l with | nil=>exact absurd rfl h0 | cons x r=>exact ⟨x,r,rfl⟩
  have hr : riseP l = (l.foldl rmin x.sp,true) := by subst hl; rfl
  rw [hr] at h
  have hx0 : l.getD 0 default = x := by rw [hl]; rfl
  rw [hx0] at g0
  have hxd : x.d = [.int .i64 x.id.o,.int .i64 x.id.s,.int .i64 x.id.i,.int .i64 x.sp.a,.int .i64 x.sp.b] := rfl
  simp +contextual only [x33,mapD_len,g0,hxd,hne,hp0,↓U33,↓XP,↓XU,XW0,XW1,qa,qb,qc,qd,qe,qf,reduceCtorEq,TYX]
  rintro b2 h2 hlb b4 ⟨n24,h4⟩
  refine XW.loopS Go.Proofs.Ytffbjejmobhpkaa.hm 36 (fun i : Nat=>[(0,.slc (mapD Dt.d l)),(2,.ptr b2 0),(4,.ptr b4 0),(15,.slc (mapD Dt.d l)),(16,.int .i64 l.length),(17,.int .i64 ((i : Nat) : Int))]) (fun i=>(b4,AO.cells ((l.take i).foldl rmin x.sp).d) :: (b2,AO.cells [.int .i64 0,.int .i64 0]) :: H) (fun i=>l.length - i) (fun i=>i ≤ l.length) 0 (by omega) ⟨rfl,rfl,rfl,rfl,rfl,rfl,rfl,trivial⟩ rfl ?_
  rintro i z hi K hN hE hR
  have hN' := hN (i + 1)
  clear hN
  show xcode _ _ [.slc (mapD Dt.d l),z 1,.ptr b2 0,z 3,.ptr b4 0,z 5,z 6,z 7,z 8,z 9,z 10,z 11,z 12,z 13,z 14,.slc (mapD Dt.d l),.int .i64 l.length,.int .i64 ((i : Nat) : Int),z 18,z 19,z 20,z 21,z 22,z 23,z 24,z 25,z 26,z 27,z 28,z 29,z 30,z 31,z 32,z 33,z 34,z 35] _ K
  by_cases hlt : i < l.length
  ·have g := mapD_get (f := Dt.d) hlt
   have hlt' : ((i : Int) < (l.length : Int)) = True := eq_true (by omega)
   rw [foldl_take hlt] at hN'
   generalize (l.take i).foldl rmin x.sp = o at hN'
   generalize l.getD i default = q at g hN'
   have hqd : q.d = [.int .i64 q.id.o,.int .i64 q.id.s,.int .i64 q.id.i,.int .i64 q.sp.a,.int .i64 q.sp.b] := rfl
   have hod : o.d = [.int .i64 o.a,.int .i64 o.b] := rfl
   simp +contextual only [x33,mapD_len,g,hqd,hod,hlt',h_miss,h_skip,n24,wrap_succ (show i ≤ big by omega),↓U33,↓XP,↓XU,XW0,XW1,qa,qb,qc,qd,qe,qf,reduceCtorEq,TYX]
   intros
   exact hN' _ _ hlt (by omega) ⟨rfl,rfl,rfl,rfl,rfl,rfl,rfl,trivial⟩ (back_1 rfl)
  ·have hin : i = l.length := by omega
   subst hin
   rw [List.take_length]
   have hod : (l.foldl rmin x.sp).d = [.int .i64 (l.foldl rmin x.sp).a,.int .i64 (l.foldl rmin x.sp).b] := rfl
   simp +contextual only [x33,mapD_len,↓U33,↓XP,↓XU,XW0,XW1,qa,qb,qc,qd,qe,qf,reduceCtorEq,TYX]
   intros
   refine hE _ _ _ ?_
   simp +contextual only [x33,mapD_len,hod,h_miss,h_skip,n24,↓U33,↓XP,↓XU,XW0,XW1,qa,qb,qc,qd,qe,qf,reduceCtorEq,TYX]
   exact h
end Go.Proofs.Ytffbjejmobhpkaa
end
section
namespace Go.Proofs.Ytffbjejmobhpkaa
open Go Go.Aw
def datA (o : Option Sp) (v : Vl) : Option Sp := if OkSpan v.sp then some (mrg (o.getD v.sp) v.sp) else o
def rDat (l : List Sr) (x : Id3) : Option Sp := match l with
 | []=>none
 | s :: r=>if s.id = x then s.date.foldl datA none else rDat r x
theorem look_datV {id x : Id3} : ∀ {vs : List Vl} {out : List (Id3 × Sp)},lookP (vs.foldl (datV id) out) x = if x = id then vs.foldl datA (lookP out id) else lookP out x
 | [],out=>by
  by_cases h : x = id
  ·subst h; simp
  ·simp [h]
 | v :: vs,out=>by
  rw [List.foldl_cons,List.foldl_cons,look_datV]
  unfold datV datA
  by_cases hv : OkSpan v.sp
  ·simp only [if_pos hv]
   rw [look_upd,look_upd]
   by_cases h : x = id
   ·simp [h]
   ·simp [h]
  ·simp only [if_neg hv]
theorem dat_met {x : Id3} : ∀ {l : List Sr} {st : List (Id3 × Sp) × List (Id3 × Bool)},(lookP st.2 x).getD false = true → lookP (l.foldl datS st).1 x = lookP st.1 x
 | [],st,h=>rfl
 | s :: l,st,h=>by
  rw [List.foldl_cons]
  have hs : (lookP (datS st s).2 x).getD false = true ∧ lookP (datS st s).1 x = lookP st.1 x := by
   unfold datS
   by_cases hm : (lookP st.2 s.id).getD false = true
   ·rw [if_pos hm]; exact ⟨h,rfl⟩
   ·rw [if_neg hm]
    have hne : x ≠ s.id := fun e=>hm (e ▸ h)
    dsimp only
    rw [look_upd,look_datV,if_neg hne,if_neg hne]
    exact ⟨h,rfl⟩
  rw [dat_met hs.1,hs.2]
theorem dat_new {x : Id3} : ∀ {l : List Sr} {st : List (Id3 × Sp) × List (Id3 × Bool)},(lookP st.2 x).getD false = false → lookP st.1 x = none → lookP (l.foldl datS st).1 x = rDat l x
 | [],st,h,h1=>h1
 | s :: l,st,h,h1=>by
  rw [List.foldl_cons]
  unfold rDat
  by_cases hx : s.id = x
  ·subst hx
   rw [if_pos rfl]
   have hs : datS st s = (s.date.foldl (datV s.id) st.1,updP st.2 s.id true) := by unfold datS; rw [if_neg (by rw [h]; decide)]
   rw [hs,dat_met (by dsimp only; rw [look_upd,if_pos rfl]; rfl)]
   dsimp only
   rw [look_datV,if_pos rfl,h1]
  ·rw [if_neg hx]
   have hne : x ≠ s.id := fun e=>hx e.symm
   refine dat_new ?_ ?_
   ·unfold datS
    split
    ·exact h
    ·dsimp only; rw [look_upd,if_neg hne]; exact h
   ·unfold datS
    split
    ·exact h1
    ·dsimp only; rw [look_datV,if_neg hne]; exact h1
theorem look_dates {b : Bk} {x : Id3} : lookP (datesP b.sr) x = rDat b.sr x := dat_new rfl rfl
end Go.Proofs.Ytffbjejmobhpkaa
end
section
namespace Go.Proofs.Ytffbjejmobhpkaa
open Go Go.Aw
def rDt (b : Bk) (x : Id3) : Sp × Bool := ((rDat b.sr x).getD sp0,(rDat b.sr x).isSome)
structure DaLp where
 k : Nat
 o : Option Sp
theorem rDat_cons {s : Sr} {r : List Sr} {x : Id3} : rDat (s :: r) x = if s.id = x then s.date.foldl datA none else rDat r x := rfl
theorem f_rDate {b : Bk} (hb : SmallR b) {x : Id3} {H : AH} {R : D → AH → Prop} (h : R (spB (rDt b x)) H) : ACall Try.prog 27 [.agg b.d,.agg x.d] H R := by
 refine b27 fun hf=>?_
 have hbig := big_eq
 have hsr := hb.sr
 have hbd : b.d = [.slc (mapD En.d b.en),.slc (mapD Sn.d b.sn),.slc (mapD Sr.d b.sr),.slc (mapD Qt.d b.qt),.slc (mapD Spl.d b.sl),.slc (mapD Mg.d b.mg),.slc (mapD Ch.d b.ch)] := rfl
 have hxd : x.d = [.int .i64 x.o,.int .i64 x.s,.int .i64 x.i] := rfl
 have hk : ∀ u v w,rDt b x = (⟨u,v⟩,w) → R (.tup [.agg [.int .i64 u,.int .i64 v],.bool w]) H := fun u v w e=>by rw [e] at h; exact h
 simp +contextual only [x27,mapD_len,hbd,hxd,↓U27,↓XP,↓XU,XW0,XW1,qa,qb,qc,qd,qe,qf,reduceCtorEq,TYX]
 rintro b2 h2 b3 ⟨n23,h3⟩ b4 ⟨n34,n24,h4⟩
 simp only [← hbd,← hxd]
 refine XW.loopS Go.Proofs.Ytffbjejmobhpkaa.hm 68 (fun i : Nat=>[(2,.ptr b2 0),(3,.ptr b3 0),(4,.ptr b4 0),(6,.int .i64 ((i : Nat) : Int))]) (fun i=>(b4,AO.cells [.int .i64 0,.int .i64 0]) :: (b3,AO.cells x.d) :: (b2,.cells b.d) :: H) (fun i=>b.sr.length - i) (fun i=>i ≤ b.sr.length ∧ rDat (b.sr.drop i) x = rDat b.sr x) 0 ⟨by omega,rfl⟩ ⟨rfl,rfl,rfl,rfl,rfl,trivial⟩ rfl ?_
 rintro i z ⟨hi,hn⟩ K hN hE hR
 show xcode _ _ [z 0,z 1,.ptr b2 0,.ptr b3 0,.ptr b4 0,z 5,.int .i64 ((i : Nat) : Int),z 7,z 8,z 9,z 10,z 11,z 12,z 13,z 14,z 15,z 16,z 17,z 18,z 19,z 20,z 21,z 22,z 23,z 24,z 25,z 26,z 27,z 28,z 29,z 30,z 31,z 32,z 33,z 34,z 35,z 36,z 37,z 38,z 39,z 40,z 41,z 42,z 43,z 44,z 45,z 46,z 47,z 48,z 49,z 50,z 51,z 52,z 53,z 54,z 55,z 56,z 57,z 58,z 59,z 60,z 61,z 62,z 63,z 64,z 65,z 66,z 67] _ K
 by_cases hlt : i < b.sr.length
 ·have g := mapD_get (f := Sr.d) hlt
  have hlt' : ((i : Int) < (b.sr.length : Int)) = True := eq_true (by omega)
  rw [drop_cons hlt,rDat_cons] at hn
  have hdl := hb.dt _ (getD_mem hlt)
  generalize b.sr.getD i default = s at g hn hdl
  have hsd : s.d = [.int .i64 s.id.o,.int .i64 s.id.s,.int .i64 s.id.i,.str s.title,.str s.owner,.slc (mapD Vl.d s.date)] := rfl
  have hd := id_dec (x := s.id) (y := x)
  by_cases h0 : s.id = x
  ·rw [if_pos h0] at hn
   simp +contextual only [x27,mapD_len,hbd,hxd,g,hsd,hd,hlt',eq_true h0,h_miss,h_skip,n23,n34,n24,↓U27,↓XP,↓XU,XW0,XW1,qa,qb,qc,qd,qe,qf,reduceCtorEq,TYX]
   rintro _ b7 ⟨n47,n37,n27,h7⟩
   simp only [← hbd,← hxd]
   refine XW.loopS Go.Proofs.Ytffbjejmobhpkaa.hm 68 (fun s : DaLp=>[(2,.ptr b2 0),(3,.ptr b3 0),(4,.ptr b4 0),(6,.int .i64 ((i : Nat) : Int)),(7,.ptr b7 0),(8,.bool s.o.isSome),(9,.int .i64 ((s.k : Nat) : Int))]) (fun s=>(b7,AO.cells (s.o.getD sp0).d) :: (b4,AO.cells [.int .i64 0,.int .i64 0]) :: (b3,AO.cells x.d) :: (b2,.cells b.d) :: H) (fun t=>s.date.length - t.k) (fun t=>t.k ≤ s.date.length ∧ (s.date.take t.k).foldl datA none = t.o) ⟨0,none⟩ ⟨by simp,rfl⟩ ⟨rfl,rfl,rfl,rfl,rfl,rfl,rfl,rfl,trivial⟩ rfl ?_
   rintro ⟨k,o⟩ z ⟨hk1,ho⟩ K2 hN2 hE2 hR2
   dsimp only at hk1 ho
   show xcode _ _ [z 0,z 1,.ptr b2 0,.ptr b3 0,.ptr b4 0,z 5,.int .i64 ((i : Nat) : Int),.ptr b7 0,.bool o.isSome,.int .i64 ((k : Nat) : Int),z 10,z 11,z 12,z 13,z 14,z 15,z 16,z 17,z 18,z 19,z 20,z 21,z 22,z 23,z 24,z 25,z 26,z 27,z 28,z 29,z 30,z 31,z 32,z 33,z 34,z 35,z 36,z 37,z 38,z 39,z 40,z 41,z 42,z 43,z 44,z 45,z 46,z 47,z 48,z 49,z 50,z 51,z 52,z 53,z 54,z 55,z 56,z 57,z 58,z 59,z 60,z 61,z 62,z 63,z 64,z 65,z 66,z 67] ((b7,AO.cells (o.getD sp0).d) :: (b4,AO.cells [.int .i64 0,.int .i64 0]) :: (b3,AO.cells x.d) :: (b2,.cells b.d) :: H) K2
   have hod : (o.getD sp0).d = [.int .i64 (o.getD sp0).a,.int .i64 (o.getD sp0).b] := rfl
   by_cases hlt2 : k < s.date.length
   ·have g2 := mapD_get (f := Vl.d) hlt2
    have hlt2' : ((k : Int) < (s.date.length : Int)) = True := eq_true (by omega)
    have hs2 := foldl_takeR (f := datA) (b := none) hlt2
    rw [ho] at hs2
    generalize s.date.getD k default = v at g2 hs2
    have hvd : v.d = [.str v.text,.int .i64 v.n,.int .i64 v.sp.a,.int .i64 v.sp.b,.int .i64 v.by_.o,.int .i64 v.by_.s,.int .i64 v.by_.i] := rfl
    simp +contextual only [x27,mapD_len,hbd,hxd,g,hsd,hlt',g2,hvd,hlt2',hod,h_miss,h_skip,n23,n34,n24,n47,n37,n27,↓U27,↓XP,↓XU,XW0,XW1,qa,qb,qc,qd,qe,qf,reduceCtorEq,TYX]
    intros
    rename_i b10 qb10
    obtain ⟨n710,n410,n310,n210,h10⟩ := qb10
    refine f_rSpan (x := v.sp) ?_
    by_cases hv : OkSpan v.sp
    ·rw [show datA o v = some (mrg (o.getD v.sp) v.sp) by unfold datA; rw [if_pos hv]] at hs2
     cases o with
     | none =>
      simp +contextual only [x27,mapD_len,hbd,hxd,decide_eq_true hv,hod,Option.isSome_none,Option.getD_none,h_miss,h_skip,n23,n34,n24,n47,n37,n27,n710,n410,n310,n210,wrap_succ (show k ≤ big by omega),↓U27,↓XP,↓XU,XW0,XW1,qa,qb,qc,qd,qe,qf,reduceCtorEq,TYX]
      simp only [← hbd,← hxd]
      intros
      rw [show mrg ((none : Option Sp).getD v.sp) v.sp = v.sp by simp [mrg]] at hs2
      refine hN2 ⟨k + 1,some v.sp⟩ _ _ ⟨hlt2,hs2⟩ (by dsimp only; omega) ⟨rfl,rfl,rfl,rfl,rfl,rfl,rfl,rfl,trivial⟩ (back_1 rfl)
     | some w =>
      simp +contextual only [x27,mapD_len,hbd,hxd,decide_eq_true hv,hod,Option.isSome_some,Option.getD_some,h_miss,h_skip,n23,n34,n24,n47,n37,n27,n710,n410,n310,n210,wrap_succ (show k ≤ big by omega),↓U27,↓XP,↓XU,XW0,XW1,qa,qb,qc,qd,qe,qf,reduceCtorEq,TYX]
      simp only [← hbd,← hxd]
      intros
      refine hN2 ⟨k + 1,some (mrg w v.sp)⟩ _ _ ⟨hlt2,hs2⟩ (by dsimp only; omega) ⟨rfl,rfl,rfl,rfl,rfl,rfl,rfl,rfl,trivial⟩ (back_1 rfl)
    ·rw [show datA o v = o by unfold datA; rw [if_neg hv]] at hs2
     simp +contextual only [x27,mapD_len,hbd,hxd,decide_eq_false hv,h_miss,h_skip,n23,n34,n24,n47,n37,n27,n710,n410,n310,n210,wrap_succ (show k ≤ big by omega),↓U27,↓XP,↓XU,XW0,XW1,qa,qb,qc,qd,qe,qf,reduceCtorEq,TYX]
     simp only [← hbd,← hxd,← hod]
     intros
     exact hN2 ⟨k + 1,o⟩ _ _ ⟨hlt2,hs2⟩ (by dsimp only; omega) ⟨rfl,rfl,rfl,rfl,rfl,rfl,rfl,rfl,trivial⟩ (back_1 rfl)
   ·have hkn : k = s.date.length := by omega
    subst hkn
    rw [List.take_length] at ho
    have he : rDt b x = (o.getD sp0,o.isSome) := by unfold rDt; rw [← hn,ho]
    generalize o.isSome = os at he
    generalize o.getD sp0 = og at he hod
    simp +contextual only [x27,mapD_len,hbd,hxd,g,hsd,hlt',hod,h_miss,h_skip,n23,n34,n24,n47,n37,n27,↓U27,↓XP,↓XU,XW0,XW1,qa,qb,qc,qd,qe,qf,reduceCtorEq,TYX]
    intros
    refine hE2 _ _ _ ?_
    simp +contextual only [x27,mapD_len,hbd,hxd,hod,h_miss,h_skip,n23,n34,n24,n47,n37,n27,↓U27,↓XP,↓XU,XW0,XW1,qa,qb,qc,qd,qe,qf,reduceCtorEq,TYX]
    refine hR _ _ ?_
    simp +contextual only [x27,mapD_len,hbd,hxd,hod,h_miss,h_skip,n23,n34,n24,n47,n37,n27,↓U27,↓XP,↓XU,XW0,XW1,qa,qb,qc,qd,qe,qf,reduceCtorEq,TYX]
    exact hk _ _ _ he
  ·rw [if_neg h0] at hn
   simp +contextual only [x27,mapD_len,hbd,hxd,g,hsd,hd,hlt',eq_false h0,h_miss,h_skip,n23,n34,n24,wrap_succ (show i ≤ big by omega),↓U27,↓XP,↓XU,XW0,XW1,qa,qb,qc,qd,qe,qf,reduceCtorEq,TYX]
   simp only [← hbd,← hxd]
   intros
   exact hN (i + 1) _ _ ⟨hlt,hn⟩ (by omega) ⟨rfl,rfl,rfl,rfl,rfl,trivial⟩ (back_0 rfl)
 ·have hik : i = b.sr.length := by omega
  subst hik
  rw [List.drop_length] at hn
  have he : rDt b x = (sp0,false) := by unfold rDt; rw [← hn]; rfl
  simp +contextual only [x27,mapD_len,hbd,hxd,h_miss,h_skip,n23,n34,n24,↓U27,↓XP,↓XU,XW0,XW1,qa,qb,qc,qd,qe,qf,reduceCtorEq,TYX]
  intros
  refine hE _ _ _ ?_
  simp +contextual only [x27,mapD_len,hbd,hxd,h_miss,h_skip,n23,n34,n24,↓U27,↓XP,↓XU,XW0,XW1,qa,qb,qc,qd,qe,qf,reduceCtorEq,TYX]
  exact hk _ _ _ he
end Go.Proofs.Ytffbjejmobhpkaa
end
section
namespace Go.Proofs.Ytffbjejmobhpkaa
open Go Go.Aw
def isEv (b : Bk) (x : Id3) (q : Qt) : Bool := decide ((rRes b id0 q.sense).2 = 0) && (decide ((rRes b id0 q.sense).1 = x) && (rDt b q.source).2)
def rEvd (b : Bk) (x : Id3) : List Qt := b.qt.filter (isEv b x)
def spQ (b : Bk) (q : Qt) : Sp := (rDt b q.source).1
def rmnS (o s : Sp) : Sp := ⟨if s.a < o.a then s.a else o.a,if s.b < o.b then s.b else o.b⟩
def risO (b : Bk) (l : List Qt) : Sp := match l with
 | []=>sp0
 | q :: r=>(q :: r).foldl (fun o q=>rmnS o (spQ b q)) (spQ b q)
theorem risO_app {b : Bk} {l : List Qt} {y : Qt} : risO b (l ++ [y]) = rmnS (if l = [] then spQ b y else risO b l) (spQ b y) := by
 cases l with
 | nil=>rfl
 | cons q r =>
  rw [if_neg (by simp)]
  unfold risO
  simp only [List.cons_append]
  rw [← List.cons_append,List.foldl_append]
  rfl
def rRis (b : Bk) (x : Id3) : Sp × Bool := (risO b (rEvd b x),decide (0 < (rEvd b x).length))
structure EdLp where
 i : Nat
 l : List Qt
theorem f_rEvd {b : Bk} (hb : SmallR b) {x : Id3} {H : AH} {R : D → AH → Prop} (h : R (.slc (mapD Qt.d (rEvd b x))) H) : ACall Try.prog 37 [.agg b.d,.agg x.d] H R := by
 refine ACall.view (b37 fun hf=>?_)
 have hbig := big_eq
 have hqt := hb.qt
 have hbd : b.d = [.slc (mapD En.d b.en),.slc (mapD Sn.d b.sn),.slc (mapD Sr.d b.sr),.slc (mapD Qt.d b.qt),.slc (mapD Spl.d b.sl),.slc (mapD Mg.d b.mg),.slc (mapD Ch.d b.ch)] := rfl
 have hxd : x.d = [.int .i64 x.o,.int .i64 x.s,.int .i64 x.i] := rfl
 simp +contextual only [x37,mapD_len,hbd,hxd,↓U37,↓XP,↓XU,XW0,XW1,qa,qb,qc,qd,qe,qf,reduceCtorEq,TYX]
 rintro b2 h2 b3 ⟨n23,h3⟩
 simp only [← hbd,← hxd]
 refine XW.loopS Go.Proofs.Ytffbjejmobhpkaa.hm 60 (fun s : EdLp=>[(2,.ptr b2 0),(3,.ptr b3 0),(5,.own (mapD Qt.d s.l)),(6,.int .i64 ((s.i : Nat) : Int))]) (fun s=>(b3,AO.cells x.d) :: (b2,.cells b.d) :: H) (fun s=>b.qt.length - s.i) (fun s=>s.i ≤ b.qt.length ∧ (b.qt.take s.i).filter (isEv b x) = s.l) ⟨0,[]⟩ ⟨by simp,rfl⟩ ⟨rfl,rfl,rfl,rfl,rfl,trivial⟩ rfl ?_
 rintro ⟨i,l⟩ z ⟨hi,hst⟩ K hN hE hR
 dsimp only at hi hst
 have hll : l.length ≤ i := by rw [← hst]; exact Nat.le_trans (List.length_filter_le _ _) (by rw [List.length_take]; omega)
 show xcode _ _ [z 0,z 1,.ptr b2 0,.ptr b3 0,z 4,.own (mapD Qt.d l),.int .i64 ((i : Nat) : Int),z 7,z 8,z 9,z 10,z 11,z 12,z 13,z 14,z 15,z 16,z 17,z 18,z 19,z 20,z 21,z 22,z 23,z 24,z 25,z 26,z 27,z 28,z 29,z 30,z 31,z 32,z 33,z 34,z 35,z 36,z 37,z 38,z 39,z 40,z 41,z 42,z 43,z 44,z 45,z 46,z 47,z 48,z 49,z 50,z 51,z 52,z 53,z 54,z 55,z 56,z 57,z 58,z 59] _ K
 by_cases hlt : i < b.qt.length
 ·have g := mapD_get (f := Qt.d) hlt
  have hlt' : ((i : Int) < (b.qt.length : Int)) = True := eq_true (by omega)
  have hstep : (b.qt.take (i + 1)).filter (isEv b x) = if isEv b x (b.qt.getD i default) = true then l ++ [b.qt.getD i default] else l := by
   rw [take_succ hlt,List.filter_append,hst]
   split
   ·rename_i h; rw [List.filter_cons_of_pos h]; rfl
   ·rename_i h; rw [List.filter_cons_of_neg h]; simp
  generalize b.qt.getD i default = q at g hstep
  have hqd : q.d = [.int .i64 q.id.o,.int .i64 q.id.s,.int .i64 q.id.i,.int .i64 q.sense.o,.int .i64 q.sense.s,.int .i64 q.sense.i,.int .i64 q.source.o,.int .i64 q.source.s,.int .i64 q.source.i,.int .i64 q.page,.str q.text] := rfl
  have hap : mapD Qt.d l ++ [[.int .i64 q.id.o,.int .i64 q.id.s,.int .i64 q.id.i,.int .i64 q.sense.o,.int .i64 q.sense.s,.int .i64 q.sense.i,.int .i64 q.source.o,.int .i64 q.source.s,.int .i64 q.source.i,.int .i64 q.page,.str q.text]] = mapD Qt.d (l ++ [q]) := by rw [← mapD_app]; rfl
  have hie : isEv b x q = (decide ((rRes b id0 q.sense).2 = 0) && (decide ((rRes b id0 q.sense).1 = x) && (rDt b q.source).2)) := rfl
  simp +contextual only [x37,mapD_len,hbd,hxd,g,hqd,hlt',h_miss,h_skip,n23,↓U37,↓XP,↓XU,XW0,XW1,qa,qb,qc,qd,qe,qf,reduceCtorEq,TYX]
  intros
  refine ⟨_,fun _ _=>f_rResolve hb (fr := id0) (to := q.sense) ⟨rfl,rfl⟩,?_⟩
  generalize rRes b id0 q.sense = rr at hie
  obtain ⟨y,e⟩ := rr
  dsimp only at hie
  have hyd : y.d = [.int .i64 y.o,.int .i64 y.s,.int .i64 y.i] := rfl
  have hrd : idC (y,e) = .tup [.agg [.int .i64 y.o,.int .i64 y.s,.int .i64 y.i],.int .i64 e] := rfl
  rw [hrd]
  simp +contextual only [x37,mapD_len,hbd,hxd,g,hqd,hlt',h_miss,h_skip,n23,↓U37,↓XP,↓XU,XW0,XW1,qa,qb,qc,qd,qe,qf,reduceCtorEq,TYX]
  refine fun _=>⟨by omega,?_⟩
  rintro b7 ⟨n37,n27,h7⟩ _
  refine ⟨_,fun _ _=>f_rDate hb (x := q.source) ⟨rfl,rfl⟩,?_⟩
  generalize rDt b q.source = rd at hie
  obtain ⟨⟨u,w⟩,v⟩ := rd
  dsimp only at hie
  have hsd : spB (⟨u,w⟩,v) = .tup [.agg [.int .i64 u,.int .i64 w],.bool v] := rfl
  rw [hsd]
  have hd := id_dec (x := y) (y := x)
  simp +contextual only [x37,mapD_len,hbd,hxd,g,hqd,hlt',h_miss,h_skip,n23,n37,n27,↓U37,↓XP,↓XU,XW0,XW1,qa,qb,qc,qd,qe,qf,reduceCtorEq,TYX]
  refine ⟨by omega,?_⟩
  rintro b9 ⟨n79,n39,n29,h9⟩
  rcases Classical.em (e = 0) with he | he
  ·rcases Classical.em (y = x) with hy | hy
   ·cases v with
    | true =>
     rw [if_pos (show isEv b x q = true by rw [hie,decide_eq_true he,decide_eq_true hy]; rfl)] at hstep
     simp +contextual only [x37,mapD_len,hbd,hxd,g,hqd,hlt',hd,eq_true he,eq_true hy,hap,h_miss,h_skip,n23,n37,n27,n79,n39,n29,wrap_succ (show i ≤ big by omega),↓U37,↓XP,↓XU,XW0,XW1,qa,qb,qc,qd,qe,qf,reduceCtorEq,TYX]
     simp only [← hbd,← hxd]
     intros
     refine ⟨mapD_sz fun _=>rfl,by omega,hN ⟨i + 1,l ++ [q]⟩ _ _ ⟨hlt,hstep⟩ (by dsimp only; omega) ⟨rfl,rfl,rfl,rfl,rfl,trivial⟩ (back_2 rfl)⟩
    | false =>
     rw [if_neg (show ¬ isEv b x q = true by rw [hie,decide_eq_true he,decide_eq_true hy]; decide)] at hstep
     simp +contextual only [x37,mapD_len,hbd,hxd,g,hqd,hlt',hd,eq_true he,eq_true hy,h_miss,h_skip,n23,n37,n27,n79,n39,n29,wrap_succ (show i ≤ big by omega),↓U37,↓XP,↓XU,XW0,XW1,qa,qb,qc,qd,qe,qf,reduceCtorEq,TYX]
     simp only [← hbd,← hxd]
     intros
     exact hN ⟨i + 1,l⟩ _ _ ⟨hlt,hstep⟩ (by dsimp only; omega) ⟨rfl,rfl,rfl,rfl,rfl,trivial⟩ (back_2 rfl)
   ·rw [if_neg (show ¬ isEv b x q = true by rw [hie,decide_eq_true he,decide_eq_false hy]; simp)] at hstep
    simp +contextual only [x37,mapD_len,hbd,hxd,g,hqd,hlt',hd,eq_true he,eq_false hy,h_miss,h_skip,n23,n37,n27,n79,n39,n29,wrap_succ (show i ≤ big by omega),↓U37,↓XP,↓XU,XW0,XW1,qa,qb,qc,qd,qe,qf,reduceCtorEq,TYX]
    simp only [← hbd,← hxd]
    intros
    exact hN ⟨i + 1,l⟩ _ _ ⟨hlt,hstep⟩ (by dsimp only; omega) ⟨rfl,rfl,rfl,rfl,rfl,trivial⟩ (back_2 rfl)
  ·rw [if_neg (show ¬ isEv b x q = true by rw [hie,decide_eq_false he]; simp)] at hstep
   simp +contextual only [x37,mapD_len,hbd,hxd,g,hqd,hlt',hd,eq_false he,h_miss,h_skip,n23,n37,n27,n79,n39,n29,wrap_succ (show i ≤ big by omega),↓U37,↓XP,↓XU,XW0,XW1,qa,qb,qc,qd,qe,qf,reduceCtorEq,TYX]
   simp only [← hbd,← hxd]
   intros
   exact hN ⟨i + 1,l⟩ _ _ ⟨hlt,hstep⟩ (by dsimp only; omega) ⟨rfl,rfl,rfl,rfl,rfl,trivial⟩ (back_2 rfl)
 ·have hik : i = b.qt.length := by omega
  subst hik
  rw [List.take_length] at hst
  simp +contextual only [x37,mapD_len,hbd,hxd,h_miss,h_skip,n23,↓U37,↓XP,↓XU,XW0,XW1,qa,qb,qc,qd,qe,qf,reduceCtorEq,TYX]
  intros
  refine hE _ _ _ ?_
  simp +contextual only [x37,mapD_len,hbd,hxd,h_miss,h_skip,n23,↓U37,↓XP,↓XU,XW0,XW1,qa,qb,qc,qd,qe,qf,reduceCtorEq,TYX]
  rw [← hst]
  exact h
theorem f_rRise {b : Bk} (hb : SmallR b) {x : Id3} {H : AH} {R : D → AH → Prop} (h : R (spB (rRis b x)) H) : ACall Try.prog 38 [.agg b.d,.agg x.d] H R := by
 refine b38 fun hf=>?_
 have hbig := big_eq
 have hqt := hb.qt
 have hbd : b.d = [.slc (mapD En.d b.en),.slc (mapD Sn.d b.sn),.slc (mapD Sr.d b.sr),.slc (mapD Qt.d b.qt),.slc (mapD Spl.d b.sl),.slc (mapD Mg.d b.mg),.slc (mapD Ch.d b.ch)] := rfl
 have hxd : x.d = [.int .i64 x.o,.int .i64 x.s,.int .i64 x.i] := rfl
 simp +contextual only [x38,mapD_len,hbd,hxd,↓U38,↓XP,↓XU,XW0,XW1,qa,qb,qc,qd,qe,qf,reduceCtorEq,TYX]
 rintro b2 h2 b3 ⟨n23,h3⟩ b4 ⟨n34,n24,h4⟩
 refine f_rEvd hb (x := x) ?_
 have hrr : rRis b x = (risO b (rEvd b x),decide (0 < (rEvd b x).length)) := rfl
 have hll : (rEvd b x).length ≤ 65536 := Nat.le_trans (List.length_filter_le _ _) hqt
 generalize rEvd b x = l at hrr hll
 rw [hrr] at h
 simp +contextual only [x38,mapD_len,hbd,hxd,h_miss,h_skip,n23,n34,n24,↓U38,↓XP,↓XU,XW0,XW1,qa,qb,qc,qd,qe,qf,reduceCtorEq,TYX]
 intros
 rename_i b7 qb7
 obtain ⟨n47,n37,n27,h7⟩ := qb7
 simp only [← hbd,← hxd]
 refine XW.loopS Go.Proofs.Ytffbjejmobhpkaa.hm 49 (fun k : Nat=>[(2,.ptr b2 0),(3,.ptr b3 0),(4,.ptr b4 0),(6,.slc (mapD Qt.d l)),(7,.ptr b7 0),(8,.int .i64 ((k : Nat) : Int))]) (fun k=>(b7,AO.cells (risO b (l.take k)).d) :: (b4,AO.cells [.int .i64 0,.int .i64 0]) :: (b3,AO.cells x.d) :: (b2,.cells b.d) :: H) (fun k=>l.length - k) (fun k=>k ≤ l.length) 0 (by omega) ⟨rfl,rfl,rfl,rfl,rfl,rfl,rfl,trivial⟩ rfl ?_
 rintro k z hk K hN hE hR
 show xcode _ _ [z 0,z 1,.ptr b2 0,.ptr b3 0,.ptr b4 0,z 5,.slc (mapD Qt.d l),.ptr b7 0,.int .i64 ((k : Nat) : Int),z 9,z 10,z 11,z 12,z 13,z 14,z 15,z 16,z 17,z 18,z 19,z 20,z 21,z 22,z 23,z 24,z 25,z 26,z 27,z 28,z 29,z 30,z 31,z 32,z 33,z 34,z 35,z 36,z 37,z 38,z 39,z 40,z 41,z 42,z 43,z 44,z 45,z 46,z 47,z 48] _ K
 by_cases hlt : k < l.length
 ·have g := mapD_get (f := Qt.d) hlt
  have hlt' : ((k : Int) < (l.length : Int)) = True := eq_true (by omega)
  have hN' := hN (k + 1)
  rw [take_succ hlt,risO_app] at hN'
  clear hN
  have hk0 : l.take k = [] ↔ k = 0 := by
   rw [List.take_eq_nil_iff]
   constructor
   ·rintro (e | e)
    ·exact e
    ·rw [e] at hlt; simp at hlt
   ·exact .inl
  generalize l.getD k default = q at g hN'
  have hqd : q.d = [.int .i64 q.id.o,.int .i64 q.id.s,.int .i64 q.id.i,.int .i64 q.sense.o,.int .i64 q.sense.s,.int .i64 q.sense.i,.int .i64 q.source.o,.int .i64 q.source.s,.int .i64 q.source.i,.int .i64 q.page,.str q.text] := rfl
  generalize hro : risO b (l.take k) = ro at hN'
  obtain ⟨ra,rb⟩ := ro
  have hrd : Sp.d ⟨ra,rb⟩ = [.int .i64 ra,.int .i64 rb] := rfl
  simp +contextual only [x38,mapD_len,hbd,hxd,g,hqd,hlt',hrd,h_miss,h_skip,n23,n34,n24,n47,n37,n27,↓U38,↓XP,↓XU,XW0,XW1,qa,qb,qc,qd,qe,qf,reduceCtorEq,TYX]
  intros
  refine ⟨_,fun _ _=>f_rDate hb (x := q.source) ⟨rfl,rfl⟩,?_⟩
  rw [show spQ b q = (rDt b q.source).1 from rfl] at hN'
  generalize rDt b q.source = rd at hN'
  obtain ⟨⟨u,w⟩,v⟩ := rd
  dsimp only at hN'
  have hsd : spB (⟨u,w⟩,v) = .tup [.agg [.int .i64 u,.int .i64 w],.bool v] := rfl
  rw [hsd]
  rcases Classical.em (k = 0) with h0 | h0
  ·rw [if_pos (hk0.2 h0),show rmnS ⟨u,w⟩ ⟨u,w⟩ = ⟨u,w⟩ by unfold rmnS; simp] at hN'
   have h0' : ((k : Int) = 0) = True := eq_true (by omega)
   have hw : IntKind.i64.wrap (0 + 1) = ((k + 1 : Nat) : Int) := by rw [wrap_id (by omega) (by omega)]; omega
   simp +contextual only [x38,mapD_len,hbd,hxd,g,hqd,hlt',hrd,h0',h_miss,h_skip,n23,n34,n24,n47,n37,n27,↓U38,↓XP,↓XU,XW0,XW1,qa,qb,qc,qd,qe,qf,reduceCtorEq,TYX]
   refine ⟨by omega,?_⟩
   rintro b9 ⟨n79,n49,n39,n29,h9⟩
   simp +contextual only [x38,mapD_len,hbd,hxd,g,hqd,hlt',hrd,h0',hw,wrap_succ (show k ≤ big by omega),h_miss,h_skip,n23,n34,n24,n47,n37,n27,n79,n49,n39,n29,↓U38,↓XP,↓XU,XW0,XW1,qa,qb,qc,qd,qe,qf,reduceCtorEq,TYX]
   simp only [← hbd,← hxd]
   intros
   exact hN' _ _ hlt (by omega) ⟨rfl,rfl,rfl,rfl,rfl,rfl,rfl,trivial⟩ (back_1 rfl)
  ·rw [if_neg (fun e=>h0 (hk0.1 e))] at hN'
   have h0' : ((k : Int) = 0) = False := eq_false (by omega)
   simp +contextual only [x38,mapD_len,hbd,hxd,g,hqd,hlt',hrd,h0',h_miss,h_skip,n23,n34,n24,n47,n37,n27,↓U38,↓XP,↓XU,XW0,XW1,qa,qb,qc,qd,qe,qf,reduceCtorEq,TYX]
   refine ⟨by omega,?_⟩
   rintro b9 ⟨n79,n49,n39,n29,h9⟩
   simp +contextual only [x38,mapD_len,hbd,hxd,g,hqd,hlt',hrd,h0',wrap_succ (show k ≤ big by omega),h_miss,h_skip,n23,n34,n24,n47,n37,n27,n79,n49,n39,n29,↓U38,↓XP,↓XU,XW0,XW1,qa,qb,qc,qd,qe,qf,reduceCtorEq,TYX]
   simp only [← hbd,← hxd]
   intros
   exact hN' _ _ hlt (by omega) ⟨rfl,rfl,rfl,rfl,rfl,rfl,rfl,trivial⟩ (back_1 rfl)
 ·have hik : k = l.length := by omega
  subst hik
  rw [List.take_length]
  generalize risO b l = ro at h
  obtain ⟨ra,rb⟩ := ro
  have hrd : Sp.d ⟨ra,rb⟩ = [.int .i64 ra,.int .i64 rb] := rfl
  simp +contextual only [x38,mapD_len,hbd,hxd,hrd,h_miss,h_skip,n23,n34,n24,n47,n37,n27,↓U38,↓XP,↓XU,XW0,XW1,qa,qb,qc,qd,qe,qf,reduceCtorEq,TYX]
  intros
  refine hE _ _ _ ?_
  simp +contextual only [x38,mapD_len,hbd,hxd,hrd,h_miss,h_skip,n23,n34,n24,n47,n37,n27,↓U38,↓XP,↓XU,XW0,XW1,qa,qb,qc,qd,qe,qf,reduceCtorEq,TYX]
  intro _
  rw [show decide ((0 : Int) < (l.length : Int)) = decide (0 < l.length) from decide_eq_decide.2 (by omega)]
  exact h
end Go.Proofs.Ytffbjejmobhpkaa
end
section
namespace Go.Proofs.Ytffbjejmobhpkaa
open Go Go.Aw
def rBef (b : Bk) (x y : Id3) : Bool := (rRis b x).2 && (rRis b y).2 && decide ((rRis b x).1.b < (rRis b y).1.a)
theorem f_rBef {b : Bk} (hb : SmallR b) {x y : Id3} {H : AH} {R : D → AH → Prop} (h : R (.bool (rBef b x y)) H) : ACall Try.prog 20 [.agg b.d,.agg x.d,.agg y.d] H R := by
 refine b20 fun hf=>?_
 have hbd : b.d = [.slc (mapD En.d b.en),.slc (mapD Sn.d b.sn),.slc (mapD Sr.d b.sr),.slc (mapD Qt.d b.qt),.slc (mapD Spl.d b.sl),.slc (mapD Mg.d b.mg),.slc (mapD Ch.d b.ch)] := rfl
 have hxd : x.d = [.int .i64 x.o,.int .i64 x.s,.int .i64 x.i] := rfl
 have hyd : y.d = [.int .i64 y.o,.int .i64 y.s,.int .i64 y.i] := rfl
 simp +contextual only [x20,mapD_len,hbd,hxd,hyd,↓U20,↓XP,↓XU,XW0,XW1,qa,qb,qc,qd,qe,qf,reduceCtorEq,TYX]
 rintro b3 h3 b4 ⟨n34,h4⟩ b5 ⟨n45,n35,h5⟩
 refine f_rRise hb (x := x) ?_
 have ha : rBef b x y = ((rRis b x).2 && (rRis b y).2 && decide ((rRis b x).1.b < (rRis b y).1.a)) := rfl
 rw [ha] at h
 generalize rRis b x = rr at h
 obtain ⟨⟨u,w⟩,v⟩ := rr
 have hsd : ∀ u w v,spB (⟨u,w⟩,v) = .tup [.agg [.int .i64 u,.int .i64 w],.bool v] := fun _ _ _=>rfl
 simp +contextual only [x20,mapD_len,hbd,hxd,hyd,hsd,h_miss,h_skip,n34,n45,n35,↓U20,↓XP,↓XU,XW0,XW1,qa,qb,qc,qd,qe,qf,reduceCtorEq,TYX]
 intros
 rename_i b7 qb7
 obtain ⟨n57,n47,n37,h7⟩ := qb7
 refine f_rRise hb (x := y) ?_
 generalize rRis b y = rr at h
 obtain ⟨⟨u2,w2⟩,v2⟩ := rr
 simp +contextual only [x20,mapD_len,hbd,hxd,hyd,hsd,h_miss,h_skip,n34,n45,n35,n57,n47,n37,↓U20,↓XP,↓XU,XW0,XW1,qa,qb,qc,qd,qe,qf,reduceCtorEq,TYX]
 intros
 rename_i b9 qb9
 obtain ⟨n79,n59,n49,n39,h9⟩ := qb9
 cases v <;> cases v2 <;> simp +contextual only [x20,mapD_len,hbd,hxd,hyd,h_miss,h_skip,n34,n45,n35,n57,n47,n37,n79,n59,n49,n39,↓U20,↓XP,↓XU,XW0,XW1,qa,qb,qc,qd,qe,qf,reduceCtorEq,TYX]
 ·exact h
 ·exact h
 ·exact h
 ·intros; exact h
def rAhd (b : Bk) (x y : Id3) : Bool :=
 if (rRis b x).2 ≠ (rRis b y).2 then (rRis b x).2
 else if (rRis b x).2 = true ∧ (rRis b x).1.a ≠ (rRis b y).1.a then decide ((rRis b x).1.a < (rRis b y).1.a)
 else if (rRis b x).2 = true ∧ (rRis b x).1.b ≠ (rRis b y).1.b then decide ((rRis b x).1.b < (rRis b y).1.b)
 else decide (x.lt y)
theorem f_rAhd {b : Bk} (hb : SmallR b) {x y : Id3} {H : AH} {R : D → AH → Prop} (h : R (.bool (rAhd b x y)) H) : ACall Try.prog 46 [.agg b.d,.agg x.d,.agg y.d] H R := by
 refine b46 fun hf=>?_
 have hbd : b.d = [.slc (mapD En.d b.en),.slc (mapD Sn.d b.sn),.slc (mapD Sr.d b.sr),.slc (mapD Qt.d b.qt),.slc (mapD Spl.d b.sl),.slc (mapD Mg.d b.mg),.slc (mapD Ch.d b.ch)] := rfl
 have hxd : x.d = [.int .i64 x.o,.int .i64 x.s,.int .i64 x.i] := rfl
 have hyd : y.d = [.int .i64 y.o,.int .i64 y.s,.int .i64 y.i] := rfl
 have hk : ∀ c,rAhd b x y = c → R (.bool c) H := fun c e=>by rw [e] at h; exact h
 simp +contextual only [x46,mapD_len,hbd,hxd,hyd,↓U46,↓XP,↓XU,XW0,XW1,qa,qb,qc,qd,qe,qf,reduceCtorEq,TYX]
 rintro b3 h3 b4 ⟨n34,h4⟩ b5 ⟨n45,n35,h5⟩
 refine f_rRise hb (x := x) ?_
 have ha : rAhd b x y = if (rRis b x).2 ≠ (rRis b y).2 then (rRis b x).2 else if (rRis b x).2 = true ∧ (rRis b x).1.a ≠ (rRis b y).1.a then decide ((rRis b x).1.a < (rRis b y).1.a) else if (rRis b x).2 = true ∧ (rRis b x).1.b ≠ (rRis b y).1.b then decide ((rRis b x).1.b < (rRis b y).1.b) else decide (x.lt y) := rfl
 generalize rRis b x = rr at ha
 obtain ⟨⟨u,w⟩,v⟩ := rr
 have hsd : ∀ u w v,spB (⟨u,w⟩,v) = .tup [.agg [.int .i64 u,.int .i64 w],.bool v] := fun _ _ _=>rfl
 simp +contextual only [x46,mapD_len,hbd,hxd,hyd,hsd,h_miss,h_skip,n34,n45,n35,↓U46,↓XP,↓XU,XW0,XW1,qa,qb,qc,qd,qe,qf,reduceCtorEq,TYX]
 intros
 rename_i b7 qb7
 obtain ⟨n57,n47,n37,h7⟩ := qb7
 refine f_rRise hb (x := y) ?_
 generalize rRis b y = rr at ha
 obtain ⟨⟨u2,w2⟩,v2⟩ := rr
 dsimp only at ha
 have hlast : (rAhd b x y = decide (x.lt y)) → R (.bool (decide (x.lt y))) H := fun e=>hk _ e
 cases v <;> cases v2
 ·simp +contextual only [x46,mapD_len,hbd,hxd,hyd,hsd,h_miss,h_skip,n34,n45,n35,n57,n47,n37,↓U46,↓XP,↓XU,XW0,XW1,qa,qb,qc,qd,qe,qf,reduceCtorEq,TYX]
  intros
  rename_i b9 qb9
  obtain ⟨n79,n59,n49,n39,h9⟩ := qb9
  refine f_less (x := x) (y := y) ?_
  simp +contextual only [x46,mapD_len,hbd,hxd,hyd,h_miss,h_skip,n34,n45,n35,n57,n47,n37,n79,n59,n49,n39,↓U46,↓XP,↓XU,XW0,XW1,qa,qb,qc,qd,qe,qf,reduceCtorEq,TYX]
  exact hlast (by rw [ha]; simp)
 ·simp +contextual only [x46,mapD_len,hbd,hxd,hyd,hsd,show (false == true) = false from rfl,show (true == false) = false from rfl,h_miss,h_skip,n34,n45,n35,n57,n47,n37,↓U46,↓XP,↓XU,XW0,XW1,qa,qb,qc,qd,qe,qf,reduceCtorEq,TYX]
  intros
  refine hk _ ?_
  rw [ha]
  rfl
 ·simp +contextual only [x46,mapD_len,hbd,hxd,hyd,hsd,show (false == true) = false from rfl,show (true == false) = false from rfl,h_miss,h_skip,n34,n45,n35,n57,n47,n37,↓U46,↓XP,↓XU,XW0,XW1,qa,qb,qc,qd,qe,qf,reduceCtorEq,TYX]
  intros
  refine hk _ ?_
  rw [ha]
  rfl
 ·rcases Classical.em (u = u2) with c1 | c1
  ·rcases Classical.em (w = w2) with c2 | c2
   ·simp +contextual only [x46,mapD_len,hbd,hxd,hyd,hsd,eq_true c1,eq_true c2,h_miss,h_skip,n34,n45,n35,n57,n47,n37,↓U46,↓XP,↓XU,XW0,XW1,qa,qb,qc,qd,qe,qf,reduceCtorEq,TYX]
    rintro b9 ⟨n79,n59,n49,n39,h9⟩
    try simp +contextual only [x46,mapD_len,hbd,hxd,hyd,eq_true c1,eq_true c2,h_miss,h_skip,n34,n45,n35,n57,n47,n37,n79,n59,n49,n39,↓U46,↓XP,↓XU,XW0,XW1,qa,qb,qc,qd,qe,qf,reduceCtorEq,TYX]
    intros
    refine f_less (x := x) (y := y) ?_
    simp +contextual only [x46,mapD_len,hbd,hxd,hyd,h_miss,h_skip,n34,n45,n35,n57,n47,n37,n79,n59,n49,n39,↓U46,↓XP,↓XU,XW0,XW1,qa,qb,qc,qd,qe,qf,reduceCtorEq,TYX]
    exact hlast (by rw [ha]; simp [c1,c2])
   ·simp +contextual only [x46,mapD_len,hbd,hxd,hyd,hsd,eq_true c1,eq_false c2,h_miss,h_skip,n34,n45,n35,n57,n47,n37,↓U46,↓XP,↓XU,XW0,XW1,qa,qb,qc,qd,qe,qf,reduceCtorEq,TYX]
    rintro b9 ⟨n79,n59,n49,n39,h9⟩
    try simp +contextual only [x46,mapD_len,hbd,hxd,hyd,eq_true c1,eq_false c2,h_miss,h_skip,n34,n45,n35,n57,n47,n37,n79,n59,n49,n39,↓U46,↓XP,↓XU,XW0,XW1,qa,qb,qc,qd,qe,qf,reduceCtorEq,TYX]
    intros
    exact hk _ (by rw [ha]; simp [c1,c2])
  ·simp +contextual only [x46,mapD_len,hbd,hxd,hyd,hsd,eq_false c1,h_miss,h_skip,n34,n45,n35,n57,n47,n37,↓U46,↓XP,↓XU,XW0,XW1,qa,qb,qc,qd,qe,qf,reduceCtorEq,TYX]
   rintro b9 ⟨n79,n59,n49,n39,h9⟩
   try simp +contextual only [x46,mapD_len,hbd,hxd,hyd,eq_false c1,h_miss,h_skip,n34,n45,n35,n57,n47,n37,n79,n59,n49,n39,↓U46,↓XP,↓XU,XW0,XW1,qa,qb,qc,qd,qe,qf,reduceCtorEq,TYX]
   intros
   exact hk _ (by rw [ha]; simp [c1])
end Go.Proofs.Ytffbjejmobhpkaa
end
