/- A part of the proof of what the last text says: Ewh, Ewi, Ewj, Ew9, Ep5, Ewk, Ewl. Conditions: those in each theorem. -/
import Derived.Test.YtffbjejmobhpkaaE22
set_option linter.unusedVariables false
set_option linter.unusedSimpArgs false
set_option maxRecDepth 100000
set_option maxHeartbeats 16000000
open Nat renaming reduceSub → qa,reduceAdd → qb,reduceMul → qc,reduceEqDiff → qd,reduceLeDiff → qe,reduceBEq → qf
section
namespace Go.Aw
open Go Go.RowKit
theorem q_nextN {X : List D → AH → Prop} {Q : AQ} {F : List D} {H : AH} : nextQ X Q .normal F H = X F H := .trans rfl rfl
theorem x_cn {P : Program} {F : List D} {H : AH} {k : HK} {r : List XO} {dst : Option Tmp} {g : FuncId} {s : Nat} {tys : Array TypeId} {tk ta : Bool} : xops P false (⟨.call ⟨.builtin .println,#[.func g,.const (.slice none 0 0),.tmp s],tys⟩,dst,none,tk,ta⟩ :: r) F H k = ACall P g [.osl 0 0 [],rv F (.tmp s)] H (callK P r F dst k) := by
 have h0 : xops P false (⟨.call ⟨.builtin .println,#[.func g,.const (.slice none 0 0),.tmp s],tys⟩,dst,none,tk,ta⟩ :: r) F H k = (false = false ∧ ACall P g (capA [.osl 0 0 [],rv F (.tmp s)] []) H fun d H'=>fact d.view → xops P false r (putF F dst d) H' k) := .trans rfl rfl
 rw [h0]
 simp only [true_and]
 rfl
end Go.Aw
namespace Go.Proofs.Ytffbjejmobhpkaa
open Go Go.Aw
theorem agI_cells {ys : List Id3} : (ys.map agI).map cellsOf = mapD Id3.d ys := by
 simp only [List.map_map,mapD]
 rfl
theorem f_apseq {g : FuncId} {caps : List D} (hisb : isB caps = false) (hcall : callOk Try.prog g = true) (hcap : ∀ d ∈ caps,∃ b o,d = .ptr b o) {ys : List Id3} (hys : ys.length ≤ 1073741824) {H H2 : AH} (hlen : H2.length = H.length) {R : D → AH → Prop}
  (hit : ∀ L J,freshH H L → (∀ pre x,pre ++ [x] <+: ys.map agI → YStep Try.prog L J pre x) → ∀ R' : D → AH → Prop,(∀ d,R' d ((L,.lp J (ys.map agI)) :: H2)) → ACall Try.prog g (capA [.yld L] caps) ((L,.lp J []) :: H) R')
  (h : R (.slc (mapD Id3.d ys)) H2) : ACall Try.prog 83 [.osl 0 0 [],.fn g caps] H R := by
 refine b83 fun hf=>?_
 have hbig := big_eq
 simp +contextual only [x83,mapD_len,↓U83,↓XP,↓XU,XW0,XW1,qa,qb,qc,qd,qe,qf,reduceCtorEq,TYX]
 intro b1 h1
 rw [c_gh]
 refine Gz.take (j := 0) (b := 0) (cap := 0) (xs := []) rfl (fun h=>absurd rfl h) ?_
 rw [show dropR H 0 [] = H from if_pos rfl]
 simp +contextual only [x83,mapD_len,↓U83,↓XP,↓XU,XW0,XW1,qa,qb,qc,qd,qe,qf,reduceCtorEq,TYX]
 have hag : ∀ pre x,pre ++ [x] <+: ys.map agI → ∃ y,x = agI y ∧ pre.length < ys.length ∧ ∀ c ∈ pre.map cellsOf,c.length = 3 := fun pre x hp=>by
  obtain ⟨q,hq⟩ := hp
  have hm : ∀ z ∈ pre ++ [x],∃ y,z = agI y := fun z hz=>by
   have : z ∈ ys.map agI := by rw [← hq]; exact List.mem_append_left _ hz
   obtain ⟨y,_,e⟩ := List.mem_map.1 this
   exact ⟨y,e.symm⟩
  obtain ⟨y,e⟩ := hm x (by simp)
  have hl := congrArg List.length hq
  simp at hl
  refine ⟨y,e,by omega,fun c hc=>?_⟩
  obtain ⟨z,hz,rfl⟩ := List.mem_map.1 hc
  obtain ⟨y2,rfl⟩ := hm z (by simp [hz])
  rfl
 refine XRG.collect Go.Proofs.Ytffbjejmobhpkaa.hm (s := 6) (p := 7) (bs := b1) (Fb := [.any,.any,.ptr b1 0,.any,.any,.any,.any,.any,.any,.any,.any,.any,.any]) (g := g) (caps := caps) (xs := []) (ys := ys.map agI) (R := fun G=>G = H2) rfl hisb hcall ?_ (by simp) ?_ ?_ ?_ ?_
 ·intro K w t hs
  refine ⟨by rw [hs.len]; rfl,fun i d v hd hv K' w'=>?_⟩
  by_cases hi : i = 2
  ·subst hi
   have := hs.slot 2 (.ptr b1 0) v rfl hv
   simp only [List.getElem?_cons_succ,List.getElem?_cons_zero,Option.some.injEq] at hd
   subst hd
   have h2 : RepV K w (.ptr b1 0) v := this
   cases h2
   exact RepV.viewO (.ptr b1 0)
  ·have : d = .any := by
    match i,hi,hd with
    | 0,_,hd=>simpa using hd.symm
    | 1,_,hd=>simpa using hd.symm
    | 3,_,hd=>simpa using hd.symm
    | 4,_,hd=>simpa using hd.symm
    | 5,_,hd=>simpa using hd.symm
    | 6,_,hd=>simpa using hd.symm
    | 7,_,hd=>simpa using hd.symm
    | 8,_,hd=>simpa using hd.symm
    | 9,_,hd=>simpa using hd.symm
    | 10,_,hd=>simpa using hd.symm
    | 11,_,hd=>simpa using hd.symm
    | 12,_,hd=>simpa using hd.symm
    | i + 13,_,hd=>simp at hd
   subst this
   exact RepV.viewO (.any v)
 ·intro y hy
  obtain ⟨z,_,rfl⟩ := List.mem_map.1 hy
  exact ⟨rfl,rfl⟩
 ·intro pre x hp
  obtain ⟨y,rfl,hl,h3⟩ := hag pre x hp
  have hyd : agI y = .agg [.int .i64 y.o,.int .i64 y.s,.int .i64 y.i] := rfl
  rw [List.nil_append]
  generalize hpp : pre.map cellsOf = pp at h3
  have hpl : pp.length ≤ 1073741824 := by rw [← hpp,List.length_map]; omega
  rw [hyd]
  simp +contextual only [x83,mapD_len,q_nextN,↓U83,↓XP,↓XU,XW0,XW1,qa,qb,qc,qd,qe,qf,reduceCtorEq,TYX]
  rintro b5 ⟨n15,_⟩
  exact ⟨h3,by omega⟩
 ·intro L J hL hy
  refine hit L J hL hy _ fun d=>⟨H2,rfl,rfl⟩
 ·rintro _ rfl
  rw [List.nil_append,agI_cells]
  simp +contextual only [x83,mapD_len,↓U83,↓XP,↓XU,XW0,XW1,qa,qb,qc,qd,qe,qf,reduceCtorEq,TYX]
  intro _
  rw [back_1 hlen]
  exact h
theorem f_collect {g : FuncId} {caps : List D} (hisb : isB caps = false) (hcall : callOk Try.prog g = true) (hcap : ∀ d ∈ caps,∃ b o,d = .ptr b o) {ys : List Id3} (hys : ys.length ≤ 1073741824) {H H2 : AH} (hlen : H2.length = H.length) {R : D → AH → Prop}
  (hit : ∀ L J,freshH H L → (∀ pre x,pre ++ [x] <+: ys.map agI → YStep Try.prog L J pre x) → ∀ R' : D → AH → Prop,(∀ d,R' d ((L,.lp J (ys.map agI)) :: H2)) → ACall Try.prog g (capA [.yld L] caps) ((L,.lp J []) :: H) R')
  (h : R (.slc (mapD Id3.d ys)) H2) : ACall Try.prog 71 [.fn g caps] H R := by
 refine b71 fun hf=>?_
 have hbig := big_eq
 simp +contextual only [x71,mapD_len,x_cn,↓u71_s0,↓XP,↓XU,XW0,XW1,qa,qb,qc,qd,qe,qf,reduceCtorEq,TYX]
 refine f_apseq hisb hcall hcap hys hlen hit ?_
 simp +contextual only [x71,mapD_len,↓u71_s0,↓XP,↓XU,XW0,XW1,qa,qb,qc,qd,qe,qf,reduceCtorEq,TYX]
 intro _
 rw [← hlen,back_self]
 exact h
end Go.Proofs.Ytffbjejmobhpkaa
end
section
namespace Go.Proofs.Ytffbjejmobhpkaa
open Go Go.Aw
theorem f_way {x : Ix} {fr to : Id3} {H : AH} {R : D → AH → Prop} (h : ∀ c3 c4 c5,freshH H c3 → (¬ c3 = c4 ∧ freshH H c4) → (¬ c4 = c5 ∧ ¬ c3 = c5 ∧ freshH H c5) → R (.fn 84 [.ptr c5 0,.ptr c3 0,.ptr c4 0]) ((c5,.cells to.d) :: (c4,.cells fr.d) :: (c3,.cells x.d) :: H)) :
  ACall Try.prog 72 [.agg x.d,.agg fr.d,.agg to.d] H R := by
 refine r72 fun hf=>?_
 simp +contextual only [x72,↓XP,↓XU,XW0,XW1,qa,qb,qc,qd,qe,qf,reduceCtorEq,TYX]
 intro c3 h3 c4 h4 c5 h5
 exact ⟨_,Sbn.sub (List.Sublist.refl _),h c3 c4 c5 h3 h4 h5⟩
def resP (x : Ix) (fr to : Id3) : Id3 × Int :=
 let way := wayP x fr to
 let last := way.getD (way.length - 1) default
 if x.s last = true then
  if (nextP x fr last).2 = 0 then
   let c := way.drop (way.idxOf (hd1 (nextP x fr last).1))
   (minF ordI (hd1 c) c.tail,0)
  else (id0,(nextP x fr last).2)
 else (id0,14)
theorem back9 {x1 x2 x3 x4 x5 x6 x7 x8 x9 : Nat × AO} {H : AH} {P : AH → Prop} (h : P H) : P (back H.length (x1 :: x2 :: x3 :: x4 :: x5 :: x6 :: x7 :: x8 :: x9 :: H)) := by
 rw [show back H.length (x1 :: x2 :: x3 :: x4 :: x5 :: x6 :: x7 :: x8 :: x9 :: H) = H from back_app (A := [x1,x2,x3,x4,x5,x6,x7,x8,x9])]
 exact h
theorem f_resolve {x : Ix} (hx : IxOk x) {fr to : Id3} {H : AH} {R : D → AH → Prop} (h : ∀ y,y = (wayP x fr to).getD ((wayP x fr to).length - 1) default → R (.tup [.agg (resP x fr to).1.d,.agg (Id3.d y),.int .i64 (resP x fr to).2]) H) : ACall Try.prog 56 [.agg x.d,.agg fr.d,.agg to.d] H R := by
 refine b56 fun hf=>?_
 have hbig := big_eq
 have hxd : x.d = [.mpv (mapE Id3.d D.bool x.se),.mpv (mapE Id3.d Ev.d x.ev),.mpv (mapE qD slD x.ch)] := rfl
 have hfd : fr.d = [.int .i64 fr.o,.int .i64 fr.s,.int .i64 fr.i] := rfl
 have htd : to.d = [.int .i64 to.o,.int .i64 to.s,.int .i64 to.i] := rfl
 simp +contextual only [x56,mapD_len,hxd,hfd,htd,↓U56,↓XP,↓XU,XW0,XW1,qa,qb,qc,qd,qe,qf,reduceCtorEq,TYX]
 rintro b3 h3 b4 ⟨n34,h4⟩ b5 ⟨n45,n35,h5⟩ b6 ⟨n56,n46,n36,h6⟩ b7 ⟨n67,n57,n47,n37,h7⟩
 simp +contextual only [x56,mapD_len,h_miss,h_skip,n34,n45,n35,n56,n46,n36,n67,n57,n47,n37,↓U56,↓XP,↓XU,XW0,XW1,qa,qb,qc,qd,qe,qf,reduceCtorEq,TYX]
 refine f_way (x := x) (fr := fr) (to := to) fun c3 c4 c5 k3 k4 k5=>?_
 obtain ⟨p37,p36,p35,p34,p33,_⟩ := k3
 obtain ⟨n34c,p47,p46,p45,p44,p43,_⟩ := k4
 obtain ⟨n45c,n35c,p57,p56,p55,p54,p53,_⟩ := k5
 simp +contextual only [x56,mapD_len,↓U56,↓XP,↓XU,XW0,XW1,qa,qb,qc,qd,qe,qf,reduceCtorEq,TYX]
 have hwl : (wayP x fr to).length ≤ 1073741824 := by
  have h1 := wayF_len (x := x) (fr := fr) (k := wayN x) (mm := []) (to := to)
  have h2 := hx.se
  unfold wayP
  unfold wayN at h1 ⊢
  omega
 obtain ⟨w0,last,hw,hon⟩ := wayP_on (x := x) (fr := fr) (to := to)
 refine f_collect (g := 84) (caps := [.ptr c5 0,.ptr c3 0,.ptr c4 0]) (ys := wayP x fr to) (H2 := (c5,.cells (wayE x fr (wayN x) [] to).d) :: (c4,.cells fr.d) :: (c3,.cells x.d) :: (b7,.cells [.int .i64 0,.int .i64 0,.int .i64 0]) :: (b6,.cells [.int .i64 0,.int .i64 0,.int .i64 0]) :: (b5,.cells to.d) :: (b4,.cells fr.d) :: (b3,.cells x.d) :: H) rfl (by kernel_rfl) (fun d hd=>by simp only [List.mem_cons,List.not_mem_nil,or_false] at hd; rcases hd with rfl | rfl | rfl <;> exact ⟨_,_,rfl⟩) hwl ?_ (fun L J hL hy R' h'=>?_) ?_
 ·rfl
 ·obtain ⟨q5,q4,q3,_⟩ := hL
  exact f_way1 hx ⟨Ne.symm q5,Ne.symm q4,Ne.symm q3,n45c,n35c,n34c⟩ hy h'
 have hlen : (wayP x fr to).length = w0.length + 1 := by rw [hw]; simp
 have hgl : (mapD Id3.d (wayP x fr to)).getD w0.length [] = last.d := by
  rw [mapD_get (by omega),hw]
  simp
 have hlast : (wayP x fr to).getD ((wayP x fr to).length - 1) default = last := by rw [hlen,hw]; simp
 have hld : last.d = [.int .i64 last.o,.int .i64 last.s,.int .i64 last.i] := rfl
 have hw1 : IntKind.i64.wrap (((wayP x fr to).length : Int) - 1) = ((w0.length : Nat) : Int) := by rw [wrap_id (by omega) (by omega)]; omega
 have hlt : (((w0.length : Nat) : Int) < ((wayP x fr to).length : Int)) = True := eq_true (by omega)
 have hres : resP x fr to = if x.s last = true then (if (nextP x fr last).2 = 0 then (minF ordI (hd1 ((wayP x fr to).drop ((wayP x fr to).idxOf (hd1 (nextP x fr last).1)))) ((wayP x fr to).drop ((wayP x fr to).idxOf (hd1 (nextP x fr last).1))).tail,0) else (id0,(nextP x fr last).2)) else (id0,14) := by
  unfold resP
  simp only [hlast]
 have hk : ∀ y c,resP x fr to = (y,c) → R (.tup [.agg y.d,.agg last.d,.int .i64 c]) H := fun y c e=>by have := h last hlast.symm; rw [e] at this; exact this
 by_cases hs : x.s last = true
 ·rw [if_pos hs] at hres
  have hs' : (lookP x.se last).getD false = true := hs
  simp +contextual only [x56,mapD_len,hxd,hfd,htd,hgl,hld,hw1,hlt,Int.toNat_natCast,keys_id (x := last),look_id (x := last),opt_b,hs',h_miss,h_skip,n34,n45,n35,n56,n46,n36,n67,n57,n47,n37,Ne.symm p37,Ne.symm p36,Ne.symm p35,Ne.symm p34,Ne.symm p33,Ne.symm p47,Ne.symm p46,Ne.symm p45,Ne.symm p44,Ne.symm p43,Ne.symm p57,Ne.symm p56,Ne.symm p55,Ne.symm p54,Ne.symm p53,↓U56,↓XP,↓XU,XW0,XW1,qa,qb,qc,qd,qe,qf,reduceCtorEq,TYX]
  rintro _ b10 ⟨m5,m4,m3,m7,m6,m15,m14,m13,_⟩
  obtain ⟨l,e,hle⟩ : ∃ l e,nextP x fr last = (l,e) := ⟨_,_,rfl⟩
  have hne := next_ne (x := x) (fr := fr) (to := last)
  have hst : stopN x fr last = !decide ((nextP x fr last).2 = 0) := by unfold stopN; rw [hs]; simp
  rw [hst] at hon
  refine f_next hx (fr := fr) (to := last) ?_
  rw [hle] at hres hne hon ⊢
  dsimp only at hres hne hon ⊢
  by_cases he : e = 0
  ·rw [if_pos he] at hres
   have he' : (e = 0) = True := eq_true he
   have hmem := hon (by rw [decide_eq_true he]; rfl)
   have hl0 := hne he
   have g := mapD_get (f := Id3.d) hl0
   have g' : (mapD Id3.d l).getD 0 [] = (hd1 l).d := g
   have hyd : (hd1 l).d = [.int .i64 (hd1 l).o,.int .i64 (hd1 l).s,.int .i64 (hd1 l).i] := rfl
   have hlt2 : ((0 : Int) < (l.length : Int)) = True := eq_true (by omega)
   simp +contextual only [x56,mapD_len,he',hxd,g',hyd,hlt2,h_miss,h_skip,n34,n45,n35,n56,n46,n36,n67,n57,n47,n37,Ne.symm p37,Ne.symm p36,Ne.symm p35,Ne.symm p34,Ne.symm p33,Ne.symm p47,Ne.symm p46,Ne.symm p45,Ne.symm p44,Ne.symm p43,Ne.symm p57,Ne.symm p56,Ne.symm p55,Ne.symm p54,Ne.symm p53,e_miss,e_hit,m5,m4,m3,m7,m6,m15,m14,m13,Ne.symm n56,Ne.symm n46,Ne.symm n36,Ne.symm n57,Ne.symm n47,Ne.symm n37,freshH_none h6,freshH_none h7,↓U56,↓XP,↓XU,XW0,XW1,qa,qb,qc,qd,qe,qf,reduceCtorEq,TYX]
   intros
   refine f_index (x := hd1 l) ?_
   rw [if_pos hmem]
   have hix := List.idxOf_lt_length_of_mem hmem
   obtain ⟨c,hc⟩ : ∃ c,(wayP x fr to).drop ((wayP x fr to).idxOf (hd1 l)) = c := ⟨_,rfl⟩
   rw [hc] at hres
   have hcl : 0 < c.length := by rw [← hc,List.length_drop]; omega
   have hcc : c = hd1 c :: c.tail := by
    cases c with
    | nil=>simp at hcl
    | cons y r=>rfl
   have hdr : (((mapD Id3.d (wayP x fr to)).take (wayP x fr to).length).drop ((wayP x fr to).idxOf (hd1 l))) = mapD Id3.d c := by
    rw [← hc,← mapD_drop,List.take_of_length_le (by rw [mapD_len]; exact Nat.le_refl _)]
   generalize (wayP x fr to).idxOf (hd1 l) = ix at hix hdr
   simp +contextual only [x56,mapD_len,Int.toNat_natCast,hdr,↓U56,↓XP,↓XU,XW0,XW1,qa,qb,qc,qd,qe,qf,reduceCtorEq,TYX]
   intro _
   refine ⟨mapD_sz fun _=>rfl,by omega,_,fun _ _=>f_min hcc (fun x y H' R' h'=>f_iorder h') ⟨rfl,rfl⟩,?_⟩
   generalize minF ordI (hd1 c) c.tail = yr at hres
   have hyr : yr.d = [.int .i64 yr.o,.int .i64 yr.s,.int .i64 yr.i] := rfl
   simp +contextual only [x56,mapD_len,hyr,hld,h_miss,h_skip,n34,n45,n35,n56,n46,n36,n67,n57,n47,n37,Ne.symm p37,Ne.symm p36,Ne.symm p35,Ne.symm p34,Ne.symm p33,Ne.symm p47,Ne.symm p46,Ne.symm p45,Ne.symm p44,Ne.symm p43,Ne.symm p57,Ne.symm p56,Ne.symm p55,Ne.symm p54,Ne.symm p53,e_miss,e_hit,m5,m4,m3,m7,m6,m15,m14,m13,Ne.symm n56,Ne.symm n46,Ne.symm n36,Ne.symm n57,Ne.symm n47,Ne.symm n37,freshH_none h6,freshH_none h7,↓U56,↓XP,↓XU,XW0,XW1,qa,qb,qc,qd,qe,qf,reduceCtorEq,TYX]
   intros
   exact back9 (P := R _) (hk yr 0 hres)
  ·rw [if_neg he] at hres
   have he' : (e = 0) = False := eq_false he
   simp +contextual only [x56,mapD_len,he',hxd,hld,h_miss,h_skip,n34,n45,n35,n56,n46,n36,n67,n57,n47,n37,Ne.symm p37,Ne.symm p36,Ne.symm p35,Ne.symm p34,Ne.symm p33,Ne.symm p47,Ne.symm p46,Ne.symm p45,Ne.symm p44,Ne.symm p43,Ne.symm p57,Ne.symm p56,Ne.symm p55,Ne.symm p54,Ne.symm p53,e_miss,e_hit,m5,m4,m3,m7,m6,m15,m14,m13,Ne.symm n56,Ne.symm n46,Ne.symm n36,Ne.symm n57,Ne.symm n47,Ne.symm n37,freshH_none h6,freshH_none h7,↓U56,↓XP,↓XU,XW0,XW1,qa,qb,qc,qd,qe,qf,reduceCtorEq,TYX]
   intros
   exact back9 (P := R _) (hk id0 e hres)
 ·rw [if_neg hs] at hres
  have hs' : (lookP x.se last).getD false = false := by simpa [Ix.s] using hs
  simp +contextual only [x56,mapD_len,hxd,hfd,htd,hgl,hld,hw1,hlt,Int.toNat_natCast,keys_id (x := last),look_id (x := last),opt_b,hs',h_miss,h_skip,n34,n45,n35,n56,n46,n36,n67,n57,n47,n37,Ne.symm p37,Ne.symm p36,Ne.symm p35,Ne.symm p34,Ne.symm p33,Ne.symm p47,Ne.symm p46,Ne.symm p45,Ne.symm p44,Ne.symm p43,Ne.symm p57,Ne.symm p56,Ne.symm p55,Ne.symm p54,Ne.symm p53,↓U56,↓XP,↓XU,XW0,XW1,qa,qb,qc,qd,qe,qf,reduceCtorEq,TYX]
  rintro _ b10 ⟨m5,m4,m3,m7,m6,m15,m14,m13,_⟩
  simp +contextual only [x56,mapD_len,hld,h_miss,h_skip,n34,n45,n35,n56,n46,n36,n67,n57,n47,n37,Ne.symm p37,Ne.symm p36,Ne.symm p35,Ne.symm p34,Ne.symm p33,Ne.symm p47,Ne.symm p46,Ne.symm p45,Ne.symm p44,Ne.symm p43,Ne.symm p57,Ne.symm p56,Ne.symm p55,Ne.symm p54,Ne.symm p53,e_miss,e_hit,m5,m4,m3,m7,m6,m15,m14,m13,Ne.symm n56,Ne.symm n46,Ne.symm n36,Ne.symm n57,Ne.symm n47,Ne.symm n37,freshH_none h6,freshH_none h7,↓U56,↓XP,↓XU,XW0,XW1,qa,qb,qc,qd,qe,qf,reduceCtorEq,TYX]
  exact back9 (P := R _) (hk id0 14 hres)
end Go.Proofs.Ytffbjejmobhpkaa
end
section
namespace Go.Proofs.Ytffbjejmobhpkaa
open Go Go.Aw
theorem f_Resolve {b : Bk} (hb : Small b) (hx : IxOk (ixP b)) {fr to : Id3} {H : AH} {R : D → AH → Prop} (h : R (.tup [.agg (resP (ixP b) fr to).1.d,.int .i64 (resP (ixP b) fr to).2]) H) : ACall Try.prog 50 [.agg b.d,.agg fr.d,.agg to.d] H R := by
 refine b50 fun hf=>?_
 have hbd : b.d = [.slc (mapD En.d b.en),.slc (mapD Sn.d b.sn),.slc (mapD Sr.d b.sr),.slc (mapD Qt.d b.qt),.slc (mapD Spl.d b.sl),.slc (mapD Mg.d b.mg),.slc (mapD Ch.d b.ch)] := rfl
 have hfd : fr.d = [.int .i64 fr.o,.int .i64 fr.s,.int .i64 fr.i] := rfl
 have htd : to.d = [.int .i64 to.o,.int .i64 to.s,.int .i64 to.i] := rfl
 simp +contextual only [x50,mapD_len,hbd,hfd,htd,↓U50,↓XP,↓XU,XW0,XW1,qa,qb,qc,qd,qe,qf,reduceCtorEq,TYX]
 rintro b3 h3 b4 ⟨n34,h4⟩ b5 ⟨n45,n35,h5⟩ b6 ⟨n56,n46,n36,h6⟩
 simp +contextual only [x50,mapD_len,hbd,hfd,htd,h_miss,h_skip,n34,n45,n35,n56,n46,n36,↓U50,↓XP,↓XU,XW0,XW1,qa,qb,qc,qd,qe,qf,reduceCtorEq,TYX]
 refine ⟨_,fun _ _=>f_of hb ⟨rfl,rfl⟩,?_⟩
 simp +contextual only [x50,mapD_len,hbd,hfd,htd,h_miss,h_skip,n34,n45,n35,n56,n46,n36,↓U50,↓XP,↓XU,XW0,XW1,qa,qb,qc,qd,qe,qf,reduceCtorEq,TYX]
 intros
 refine ⟨_,fun _ _=>f_resolve hx (fr := fr) (to := to) fun y hy=>⟨by rw [hy],rfl⟩,?_⟩
 generalize (resP (ixP b) fr to).1 = y at h
 generalize (resP (ixP b) fr to).2 = e at h
 generalize (wayP (ixP b) fr to).getD ((wayP (ixP b) fr to).length - 1) default = l
 have hyd : y.d = [.int .i64 y.o,.int .i64 y.s,.int .i64 y.i] := rfl
 have hld : l.d = [.int .i64 l.o,.int .i64 l.s,.int .i64 l.i] := rfl
 simp +contextual only [x50,mapD_len,hbd,hfd,htd,hyd,hld,h_miss,h_skip,n34,n45,n35,n56,n46,n36,↓U50,↓XP,↓XU,XW0,XW1,qa,qb,qc,qd,qe,qf,reduceCtorEq,TYX]
 exact fun _=>⟨by omega,by omega,fun _ _ _ _=>h⟩
end Go.Proofs.Ytffbjejmobhpkaa
end
section
namespace Go.Proofs.Ytffbjejmobhpkaa
open Go Go.Aw
structure Dt where
 id : Id3
 sp : Sp
instance : Inhabited Dt := ⟨⟨id0,sp0⟩⟩
def Dt.d (x : Dt) : List D := [.int .i64 x.id.o,.int .i64 x.id.s,.int .i64 x.id.i,.int .i64 x.sp.a,.int .i64 x.sp.b]
def rmin (o : Sp) (q : Dt) : Sp := ⟨if q.sp.a < o.a then q.sp.a else o.a,if q.sp.b < o.b then q.sp.b else o.b⟩
def riseP (l : List Dt) : Sp × Bool := match l with
 | []=>(sp0,false)
 | x :: r=>((x :: r).foldl rmin x.sp,true)
def spB (p : Sp × Bool) : D := .tup [.agg p.1.d,.bool p.2]
theorem f_rise {l : List Dt} {H : AH} {R : D → AH → Prop} (h : R (spB (riseP l)) H) : ACall Try.prog 33 [.slc (mapD Dt.d l)] H R := by
 refine b33 fun hf=>?_
 have hbig := big_eq
 by_cases h0 : l = []
 ·subst h0
  simp +contextual only [x33,mapD_len,↓U33,↓XP,↓XU,XW0,XW1,qa,qb,qc,qd,qe,qf,reduceCtorEq,TYX]
  exact fun _ _ _=>⟨fun _=>h,fun e=>absurd rfl e⟩
 ·have hpos := List.length_pos_iff.2 h0
  have hne : ((l.length : Int) = 0) = False := eq_false (by omega)
  have hp0 : ((0 : Int) < (l.length : Int)) = True := eq_true (by omega)
  have g0 := mapD_get (f := Dt.d) hpos
  obtain ⟨x,r,hl⟩ : ∃ x r,l = x :: r := by cases l with | nil=>exact absurd rfl h0 | cons x r=>exact ⟨x,r,rfl⟩
  have hr : riseP l = (l.foldl rmin x.sp,true) := by subst hl; rfl
  rw [hr] at h
  have hx0 : l.getD 0 default = x := by rw [hl]; rfl
  rw [hx0] at g0
  have hxd : x.d = [.int .i64 x.id.o,.int .i64 x.id.s,.int .i64 x.id.i,.int .i64 x.sp.a,.int .i64 x.sp.b] := rfl
  simp +contextual only [x33,mapD_len,g0,hxd,hne,hp0,↓U33,↓XP,↓XU,XW0,XW1,qa,qb,qc,qd,qe,qf,reduceCtorEq,TYX]
  rintro b2 h2 hlb b4 ⟨n24,h4⟩
  refine XW.loopS Go.Proofs.Ytffbjejmobhpkaa.hm 36 (fun i : Nat=>[(0,.slc (mapD Dt.d l)),(2,.ptr b2 0),(4,.ptr b4 0),(15,.slc (mapD Dt.d l)),(16,.int .i64 l.length),(17,.int .i64 ((i : Nat) : Int))]) (fun i=>(b4,AO.cells ((l.take i).foldl rmin x.sp).d) :: (b2,AO.cells [.int .i64 0,.int .i64 0]) :: H) (fun i=>l.length - i) (fun i=>i ≤ l.length) 0 (by omega) ⟨rfl,rfl,rfl,rfl,rfl,rfl,rfl,trivial⟩ rfl ?_
  rintro i z hi K hN hE hR
  have hN' := hN (i + 1)
  clear hN
  show xcode _ _ [.slc (mapD Dt.d l),z 1,.ptr b2 0,z 3,.ptr b4 0,z 5,z 6,z 7,z 8,z 9,z 10,z 11,z 12,z 13,z 14,.slc (mapD Dt.d l),.int .i64 l.length,.int .i64 ((i : Nat) : Int),z 18,z 19,z 20,z 21,z 22,z 23,z 24,z 25,z 26,z 27,z 28,z 29,z 30,z 31,z 32,z 33,z 34,z 35] _ K
  by_cases hlt : i < l.length
  ·have g := mapD_get (f := Dt.d) hlt
   have hlt' : ((i : Int) < (l.length : Int)) = True := eq_true (by omega)
   rw [foldl_take hlt] at hN'
   generalize (l.take i).foldl rmin x.sp = o at hN'
   generalize l.getD i default = q at g hN'
   have hqd : q.d = [.int .i64 q.id.o,.int .i64 q.id.s,.int .i64 q.id.i,.int .i64 q.sp.a,.int .i64 q.sp.b] := rfl
   have hod : o.d = [.int .i64 o.a,.int .i64 o.b] := rfl
   simp +contextual only [x33,mapD_len,g,hqd,hod,hlt',h_miss,h_skip,n24,wrap_succ (show i ≤ big by omega),↓U33,↓XP,↓XU,XW0,XW1,qa,qb,qc,qd,qe,qf,reduceCtorEq,TYX]
   intros
   exact hN' _ _ hlt (by omega) ⟨rfl,rfl,rfl,rfl,rfl,rfl,rfl,trivial⟩ (back_1 rfl)
  ·have hin : i = l.length := by omega
   subst hin
   rw [List.take_length]
   have hod : (l.foldl rmin x.sp).d = [.int .i64 (l.foldl rmin x.sp).a,.int .i64 (l.foldl rmin x.sp).b] := rfl
   simp +contextual only [x33,mapD_len,↓U33,↓XP,↓XU,XW0,XW1,qa,qb,qc,qd,qe,qf,reduceCtorEq,TYX]
   intros
   refine hE _ _ _ ?_
   simp +contextual only [x33,mapD_len,hod,h_miss,h_skip,n24,↓U33,↓XP,↓XU,XW0,XW1,qa,qb,qc,qd,qe,qf,reduceCtorEq,TYX]
   exact h
def datP (b : Bk) (x : Id3) : Sp × Bool := ((lookP (datesP b.sr) x).getD sp0,(lookP (datesP b.sr) x).isSome)
theorem f_date {b : Bk} {x : Id3} {H : AH} {R : D → AH → Prop} (h : R (spB (datP b x)) H) : ACall Try.prog 26 [.agg b.d,.agg x.d] H R := by
 refine b26 fun hf=>?_
 have hbig := big_eq
 have hbd : b.d = [.slc (mapD En.d b.en),.slc (mapD Sn.d b.sn),.slc (mapD Sr.d b.sr),.slc (mapD Qt.d b.qt),.slc (mapD Spl.d b.sl),.slc (mapD Mg.d b.mg),.slc (mapD Ch.d b.ch)] := rfl
 have hxd : x.d = [.int .i64 x.o,.int .i64 x.s,.int .i64 x.i] := rfl
 simp +contextual only [x26,mapD_len,hbd,hxd,↓U26,↓XP,↓XU,XW0,XW1,qa,qb,qc,qd,qe,qf,reduceCtorEq,TYX]
 rintro b1 h1 b2 ⟨n12,h2⟩ b3 ⟨n23,n13,h3⟩
 refine ⟨_,fun _ _=>f_dates (b := b) ⟨rfl,rfl⟩,?_⟩
 cases hl : lookP (datesP b.sr) x with
 | none =>
  rw [show datP b x = (sp0,false) by unfold datP; rw [hl]; rfl] at h
  simp +contextual only [x26,mapD_len,hbd,hxd,keys_id (x := x),look_id (x := x),hl,h_miss,h_skip,n12,n23,n13,↓U26,↓XP,↓XU,XW0,XW1,qa,qb,qc,qd,qe,qf,reduceCtorEq,TYX]
  exact ⟨by omega,fun _ _=>h⟩
 | some s =>
  rw [show datP b x = (s,true) by unfold datP; rw [hl]; rfl] at h
  have hs : spD s = .agg [.int .i64 s.a,.int .i64 s.b] := rfl
  simp +contextual only [x26,mapD_len,hbd,hxd,keys_id (x := x),look_id (x := x),hl,hs,h_miss,h_skip,n12,n23,n13,↓U26,↓XP,↓XU,XW0,XW1,qa,qb,qc,qd,qe,qf,reduceCtorEq,TYX]
  exact ⟨by omega,fun _ _=>h⟩
end Go.Proofs.Ytffbjejmobhpkaa
end
section
namespace Go.Proofs.Ytffbjejmobhpkaa
open Go Go.Aw
structure DlA where
 b : Nat
 cap : Nat
 xs : List Dt
def DlA.d (c : DlA) : D := .osl c.b c.cap (mapD Dt.d c.xs)
def bsLD (cs : List DlA) : List Nat := (cs.filter fun c=>decide (c.xs ≠ [])).map (·.b)
theorem bsLD_mem {cs : List DlA} {c : DlA} (h : c ∈ cs) (hx : c.xs ≠ []) : c.b ∈ bsLD cs := List.mem_map.2 ⟨c,List.mem_filter.2 ⟨h,by simpa using hx⟩,rfl⟩
theorem bsLD_app {a b : List DlA} : bsLD (a ++ b) = bsLD a ++ bsLD b := by simp [bsLD]
theorem bsLD_cons {c : DlA} {b : List DlA} : bsLD (c :: b) = if c.xs ≠ [] then c.b :: bsLD b else bsLD b := by
 unfold bsLD
 rw [List.filter_cons]
 by_cases h : c.xs = [] <;> simp [h]
structure PoolD (fx : List Nat) (cs : List DlA) (R : AH) : Prop where
 rm : ∀ c ∈ cs,c.xs ≠ [] → getH R c.b = some (.room c.cap (mapD Dt.d c.xs))
 av : ∀ c ∈ cs,c.xs ≠ [] → c.b ∉ fx
 ds : (bsLD cs).Nodup
theorem PoolD.nil {fx : List Nat} {R : AH} : PoolD fx [] R := ⟨by simp,by simp,by simp [bsLD]⟩
def cutD (R : AH) (c : DlA) : AH := if c.xs = [] then R else eraseH R c.b
theorem PoolD.upd {fx : List Nat} {A B : List DlA} {c : DlA} {R : AH} (h : PoolD fx (A ++ c :: B) R) {b' cap' : Nat} {xs' : List Dt} (hx : xs' ≠ []) (hb : b' ∉ fx) (hf : freshH (cutD R c) b') :
  PoolD fx (A ++ ⟨b',cap',xs'⟩ :: B) ((b',.room cap' (mapD Dt.d xs')) :: cutD R c) := by
 have hnd := h.ds
 rw [bsLD_app,bsLD_cons] at hnd
 have hAB : ∀ d ∈ A ++ B,d.xs ≠ [] → getH (cutD R c) d.b = some (.room d.cap (mapD Dt.d d.xs)) := fun d hd hdx=>by
  have hm : d ∈ A ++ c :: B := by
   rcases List.mem_append.1 hd with h1 | h1
   ·exact List.mem_append_left _ h1
   ·exact List.mem_append_right _ (.tail _ h1)
  have h1 := h.rm d hm hdx
  unfold cutD
  split
  ·exact h1
  ·rename_i hc
   rw [if_pos hc,nodup_mid] at hnd
   rw [getH_erase,h1]
   intro e
   have := bsLD_mem hd hdx
   rw [bsLD_app,e] at this
   exact hnd.1 this
 have hnd2 : (bsLD A ++ bsLD B).Nodup := by
  split at hnd
  ·rw [nodup_mid] at hnd; exact hnd.2
  ·exact hnd
 have hnm : b' ∉ bsLD A ++ bsLD B := fun hm=>by
  rw [← bsLD_app] at hm
  obtain ⟨d,hd,e⟩ := List.mem_map.1 hm
  obtain ⟨hd1,hd2⟩ := List.mem_filter.1 hd
  exact fresh_ne2 hf (hAB d hd1 (by simpa using hd2)) e
 refine ⟨fun d hd hdx=>?_,fun d hd hdx=>?_,?_⟩
 ·rcases List.mem_append.1 hd with h1 | h1
  ·have := hAB d (List.mem_append_left _ h1) hdx
   simp only [getH,if_neg (fresh_ne2 hf this)]
   exact this
  ·rcases List.mem_cons.1 h1 with h1 | h1
   ·subst h1; simp [getH]
   ·have := hAB d (List.mem_append_right _ h1) hdx
    simp only [getH,if_neg (fresh_ne2 hf this)]
    exact this
 ·rcases List.mem_append.1 hd with h1 | h1
  ·exact h.av d (List.mem_append_left _ h1) hdx
  ·rcases List.mem_cons.1 h1 with h1 | h1
   ·subst h1; exact hb
   ·exact h.av d (List.mem_append_right _ (.tail _ h1)) hdx
 ·rw [bsLD_app,bsLD_cons,if_pos hx,nodup_mid]
  exact ⟨hnm,hnd2⟩
theorem PoolD.add {fx : List Nat} {A : List DlA} {R : AH} (h : PoolD fx A R) {b' cap' : Nat} {xs' : List Dt} (hx : xs' ≠ []) (hb : b' ∉ fx) (hf : freshH R b') :
  PoolD fx (A ++ [⟨b',cap',xs'⟩]) ((b',.room cap' (mapD Dt.d xs')) :: R) := by
 have h2 : PoolD fx (A ++ (⟨0,0,[]⟩ : DlA) :: []) R := by
  refine ⟨fun d hd hdx=>?_,fun d hd hdx=>?_,?_⟩
  ·rcases List.mem_append.1 hd with h1 | h1
   ·exact h.rm d h1 hdx
   ·rcases List.mem_cons.1 h1 with h1 | h1
    ·subst h1; exact absurd rfl hdx
    ·cases h1
  ·rcases List.mem_append.1 hd with h1 | h1
   ·exact h.av d h1 hdx
   ·rcases List.mem_cons.1 h1 with h1 | h1
    ·subst h1; exact absurd rfl hdx
    ·cases h1
  ·rw [bsLD_app,bsLD_cons,if_neg (by simp)]
   simpa [bsLD] using h.ds
 exact h2.upd hx hb (by simpa [cutD] using hf)
theorem poolD_look {κ α : Type} [DecidableEq κ] {fx : List Nat} {m : List (κ × α)} {f : α → DlA} {R : AH} (h : PoolD fx (m.map fun p=>f p.2) R) {k : κ} {e : α} (hl : lookP m k = some e) (hx : (f e).xs ≠ []) : getH R (f e).b = some (.room (f e).cap (mapD Dt.d (f e).xs)) ∧ (f e).b ∉ fx := by
 have hm : f e ∈ m.map fun p=>f p.2 := List.mem_map.2 ⟨(k,e),look_mem hl,rfl⟩
 exact ⟨h.rm _ hm hx,h.av _ hm hx⟩
theorem poolD_upd {κ α : Type} [DecidableEq κ] {fx : List Nat} {m : List (κ × α)} {f : α → DlA} {R : AH} (h : PoolD fx (m.map fun p=>f p.2) R) {k : κ} {e' : α} {b' cap' : Nat} {xs' : List Dt} (he : f e' = ⟨b',cap',xs'⟩) (hx : xs' ≠ []) (hb : b' ∉ fx) {c : DlA} (hc : ((lookP m k).map f).getD ⟨0,0,[]⟩ = c) (hf : freshH (cutD R c) b') :
  PoolD fx ((updP m k e').map fun p=>f p.2) ((b',.room cap' (mapD Dt.d xs')) :: cutD R c) := by
 subst hc
 cases hl : lookP m k with
 | none =>
  rw [hl] at hf
  rw [look_none hl,List.map_append]
  simp only [List.map_cons,List.map_nil,he,Option.map_none,Option.getD_none]
  simp only [Option.map_none,Option.getD_none,cut,if_true] at hf ⊢
  exact h.add hx hb hf
 | some e =>
  rw [hl] at hf
  obtain ⟨A,B,h1,h2⟩ := look_split hl
  rw [h1] at h
  rw [h2,List.map_append,List.map_cons,he]
  rw [List.map_append,List.map_cons] at h
  exact h.upd hx hb hf
end Go.Proofs.Ytffbjejmobhpkaa
end
section
namespace Go.Proofs.Ytffbjejmobhpkaa
open Go Go.Aw
def dtD (l : List Dt) : D := .slc (mapD Dt.d l)
def idD (x : Id3) : D := .agg x.d
def evQ (b : Bk) (q : Qt) : Option (Id3 × Dt) := match lookP (datesP b.sr) q.source with
 | some d=>if (resP (ixP b) id0 q.sense).2 = 0 then some ((resP (ixP b) id0 q.sense).1,⟨q.id,d⟩) else none
 | none=>none
def evS (b : Bk) (m : List (Id3 × List Dt)) (q : Qt) : List (Id3 × List Dt) := match evQ b q with
 | some (x,t)=>updP m x ((lookP m x).getD [] ++ [t])
 | none=>m
def evM (b : Bk) : List (Id3 × List Dt) := b.qt.foldl (evS b) []
theorem getD_dl {o : Option DlA} : (Option.map DlA.d o).getD (.osl 0 0 []) = DlA.d (o.getD ⟨0,0,[]⟩) := by cases o <;> rfl
structure MmOk (b : Bk) (mm : List (Id3 × Id3)) (oo : List (Id3 × Bool)) : Prop where
 ok : ∀ k v,lookP mm k = some v → v = (resP (ixP b) id0 k).1 ∧ lookP oo k = some (!decide ((resP (ixP b) id0 k).2 = 0))
structure OmOk (fx : List Nat) (nb : Nat) (m : List (Id3 × DlA)) (p : List (Id3 × List Dt)) (R : AH) : Prop where
 pool : PoolD fx (m.map fun p=>p.2) R
 val : m.map (fun p=>(p.1,p.2.xs)) = p
 sz : m.length ≤ nb ∧ ∀ q ∈ m,q.2.xs.length ≤ nb
structure EvSt where
 i : Nat
 mm : List (Id3 × Id3)
 oo : List (Id3 × Bool)
 om : List (Id3 × DlA)
 R : AH
theorem f_evidence {b : Bk} (hb : Small b) (hx : IxOk (ixP b)) {H : AH} {R : D → AH → Prop} (h : R (.mpv (mapE Id3.d dtD (evM b))) H) : ACall Try.prog 32 [.agg b.d] H R := by
 refine b32 fun hf=>?_
 have hbig := big_eq
 have hqt := hb.qt
 have hbd : b.d = [.slc (mapD En.d b.en),.slc (mapD Sn.d b.sn),.slc (mapD Sr.d b.sr),.slc (mapD Qt.d b.qt),.slc (mapD Spl.d b.sl),.slc (mapD Mg.d b.mg),.slc (mapD Ch.d b.ch)] := rfl
 simp +contextual only [x32,mapD_len,hbd,↓U32,↓XP,↓XU,XW0,XW1,qa,qb,qc,qd,qe,qf,reduceCtorEq,TYX]
 intro b1 h1
 refine f_dates (b := b) ?_
 simp +contextual only [x32,mapD_len,hbd,↓U32,↓XP,↓XU,XW0,XW1,qa,qb,qc,qd,qe,qf,reduceCtorEq,TYX]
 rintro m4 ⟨n14,h4⟩ m5 ⟨n45,n15,h5⟩ m6 ⟨n56,n46,n16,h6⟩
 simp +contextual only [x32,mapD_len,hbd,h_miss,h_skip,n14,n45,n15,n56,n46,n16,↓U32,↓XP,↓XU,XW0,XW1,qa,qb,qc,qd,qe,qf,reduceCtorEq,TYX]
 simp only [← hbd]
 intro _
 refine XW.loopSR Go.Proofs.Ytffbjejmobhpkaa.hm 85 (fun s : EvSt=>[(1,.ptr b1 0),(3,.mpv (mapE Id3.d spD (datesP b.sr))),(4,.mp (some m4)),(5,.mp (some m5)),(6,.mp (some m6)),(22,.slc (mapD Qt.d b.qt)),(23,.int .i64 b.qt.length),(24,.int .i64 ((s.i : Nat) : Int))]) (fun s=>(m6,.mp (mapE Id3.d DlA.d s.om)) :: (m5,.mp (mapE Id3.d D.bool s.oo)) :: (m4,.mp (mapE Id3.d idD s.mm)) :: (b1,.cells b.d) :: (s.R ++ H)) (fun s=>b.qt.length - s.i) (fun s=>s.i ≤ b.qt.length ∧ MmOk b s.mm s.oo ∧ OmOk [b1,m4,m5,m6] s.i s.om ((b.qt.take s.i).foldl (evS b) []) s.R) ⟨0,[],[],[],[]⟩ ⟨by simp,⟨fun k v e=>by cases e⟩,⟨by simp,by simp,by simp [bsLD]⟩,rfl,by simp⟩ ⟨rfl,rfl,rfl,rfl,rfl,rfl,rfl,rfl,rfl,trivial⟩ rfl ?_
 rintro ⟨i,mm,oo,om,R0⟩ z ⟨hi,hmm,hom⟩ K hN hE hR
 dsimp only at hi hmm hom hN
 show xcode _ _ [z 0,.ptr b1 0,z 2,.mpv (mapE Id3.d spD (datesP b.sr)),.mp (some m4),.mp (some m5),.mp (some m6),z 7,z 8,z 9,z 10,z 11,z 12,z 13,z 14,z 15,z 16,z 17,z 18,z 19,z 20,z 21,.slc (mapD Qt.d b.qt),.int .i64 b.qt.length,.int .i64 ((i : Nat) : Int),z 25,z 26,z 27,z 28,z 29,z 30,z 31,z 32,z 33,z 34,z 35,z 36,z 37,z 38,z 39,z 40,z 41,z 42,z 43,z 44,z 45,z 46,z 47,z 48,z 49,z 50,z 51,z 52,z 53,z 54,z 55,z 56,z 57,z 58,z 59,z 60,z 61,z 62,z 63,z 64,z 65,z 66,z 67,z 68,z 69,z 70,z 71,z 72,z 73,z 74,z 75,z 76,z 77,z 78,z 79,z 80,z 81,z 82,z 83,z 84] ((m6,.mp (mapE Id3.d DlA.d om)) :: (m5,.mp (mapE Id3.d D.bool oo)) :: (m4,.mp (mapE Id3.d idD mm)) :: (b1,.cells b.d) :: (R0 ++ H)) K
 by_cases hlt : i < b.qt.length
 ·have g := mapD_get (f := Qt.d) hlt
  have hlt' : ((i : Int) < (b.qt.length : Int)) = True := eq_true (by omega)
  have hstep := foldl_take (f := evS b) (b := []) hlt
  generalize b.qt.getD i default = q at g hstep
  have hqd : q.d = [.int .i64 q.id.o,.int .i64 q.id.s,.int .i64 q.id.i,.int .i64 q.sense.o,.int .i64 q.sense.s,.int .i64 q.sense.i,.int .i64 q.source.o,.int .i64 q.source.s,.int .i64 q.source.i,.int .i64 q.page,.str q.text] := rfl
  cases hld : lookP (datesP b.sr) q.source with
  | none =>
   have hev : evS b ((b.qt.take i).foldl (evS b) []) q = (b.qt.take i).foldl (evS b) [] := by unfold evS evQ; rw [hld]
   simp +contextual only [x32,mapD_len,g,hqd,hlt',hld,keys_id (x := q.source),look_id (x := q.source),keys_id (x := q.sense),look_id (x := q.sense),upd_id (x := q.sense),opt_b,h_miss,h_skip,n14,n45,n15,n56,n46,n16,wrap_succ (show i ≤ big by omega),↓U32,↓XP,↓XU,XW0,XW1,qa,qb,qc,qd,qe,qf,reduceCtorEq,TYX]
   intros
   refine hN ⟨i + 1,mm,oo,om,R0⟩ _ _ ⟨hlt,hmm,hom.pool,by dsimp only; rw [hom.val,hstep,hev],by have := hom.sz.1; dsimp only; omega,fun q hq=>by have := hom.sz.2 q hq; dsimp only; omega⟩ (by dsimp only; omega) ⟨rfl,rfl,rfl,rfl,rfl,rfl,rfl,rfl,rfl,trivial⟩ (Sbn.sub ?_)
   exact (List.sublist_cons_self _ _).trans (List.sublist_cons_self _ _)
  | some dd =>
   have hdd : spD dd = .agg [.int .i64 dd.a,.int .i64 dd.b] := rfl
   obtain ⟨y,e,hye⟩ : ∃ y e,resP (ixP b) id0 q.sense = (y,e) := ⟨_,_,rfl⟩
   have hyd : y.d = [.int .i64 y.o,.int .i64 y.s,.int .i64 y.i] := rfl
   have hyI : idD y = .agg [.int .i64 y.o,.int .i64 y.s,.int .i64 y.i] := rfl
   have hlen : (mapE Id3.d DlA.d om).length ≤ 140737488355328 := by rw [mapE_len]; have := hom.sz.1; omega
   obtain ⟨c,hc⟩ : ∃ c,(lookP om y).getD ⟨0,0,[]⟩ = c := ⟨_,rfl⟩
   have hcd : DlA.d c = .osl c.b c.cap (mapD Dt.d c.xs) := rfl
   have hev0 : e = 0 → evS b ((b.qt.take i).foldl (evS b) []) q = updP ((b.qt.take i).foldl (evS b) []) y ((lookP ((b.qt.take i).foldl (evS b) []) y).getD [] ++ [⟨q.id,dd⟩]) := fun he=>by
    unfold evS evQ
    rw [hld,hye]
    simp only [he,if_true]
   have hev1 : e ≠ 0 → evS b ((b.qt.take i).foldl (evS b) []) q = (b.qt.take i).foldl (evS b) [] := fun he=>by
    unfold evS evQ
    rw [hld,hye]
    simp only [he,if_false]
   cases hlm : lookP mm q.sense with
   | none =>
    have hmm2 : MmOk b (updP mm q.sense y) (updP oo q.sense (!decide (e = 0))) := ⟨fun k v hk=>by
     rw [look_upd] at hk ⊢
     split at hk
     ·rename_i ek
      injection hk with hk
      subst ek hk
      rw [hye,if_pos rfl]
      exact ⟨rfl,rfl⟩
     ·rename_i ek
      rw [if_neg ek]
      exact hmm.ok k v hk⟩
    have hu1 : lookP (updP mm q.sense y) q.sense = some y := by rw [look_upd,if_pos rfl]
    have hu2 : ∀ v,lookP (updP oo q.sense v) q.sense = some v := fun v=>by rw [look_upd,if_pos rfl]
    have hmm3 : ∀ v,(!decide (e = 0)) = v → MmOk b (updP mm q.sense y) (updP oo q.sense v) := fun v hv=>hv ▸ hmm2
    have upI : updD (mapE Id3.d idD mm) (.agg [.int .i64 q.sense.o,.int .i64 q.sense.s,.int .i64 q.sense.i]) (.agg [.int .i64 y.o,.int .i64 y.s,.int .i64 y.i]) = mapE Id3.d idD (updP mm q.sense y) := upd_id (vd := idD) (v := y)
    simp +contextual only [x32,mapD_len,g,hqd,hbd,hlt',hld,hdd,hlm,keys_id (x := q.source),look_id (x := q.source),keys_id (x := q.sense),look_id (x := q.sense),upd_id (x := q.sense),opt_b,h_miss,h_skip,n14,n45,n15,n56,n46,n16,↓U32,↓XP,↓XU,XW0,XW1,qa,qb,qc,qd,qe,qf,reduceCtorEq,TYX]
    rintro b8 ⟨a86,a85,a84,a81,f8⟩ b9 ⟨a98,a96,a95,a94,a91,f9⟩ b11 ⟨c9,c8,c6,c5,c4,c1,f11⟩
    refine f_Resolve hb hx (fr := id0) (to := q.sense) ?_
    rw [hye]
    dsimp only
    by_cases he : e = 0
    ·simp +contextual only [x32,mapD_len,hqd,hyd,hyI,upI,hu1,hu2,he,decide_true,Bool.not_true,keys_id (x := q.source),look_id (x := q.source),keys_id (x := q.sense),look_id (x := q.sense),upd_id (x := q.sense),opt_b,keys_id (x := y),look_id (x := y),upd_id (x := y),getD_dl,hc,hlen,h_miss,h_skip,n14,n45,n15,n56,n46,n16,a86,a85,a84,a81,a98,a96,a95,a94,a91,c9,c8,c6,c5,c4,c1,↓U32,↓XP,↓XU,XW0,XW1,qa,qb,qc,qd,qe,qf,reduceCtorEq,TYX]
     rintro _ b13 ⟨d11,d9,d8,d6,d5,d4,d1,f13⟩ b15 ⟨j13,j11,j9,j8,j6,j5,j4,j1,f15⟩ _
     rw [x_apg]
     have hrm : c.xs ≠ [] → getH R0 c.b = some (.room c.cap (mapD Dt.d c.xs)) ∧ c.b ∉ [b1,m4,m5,m6] := fun hx=>by
      cases hlo : lookP om y with
      | none=>rw [hlo] at hc; subst hc; exact absurd rfl hx
      | some e=>rw [hlo] at hc; subst hc; exact poolD_look (f := fun c=>c) hom.pool hlo hx
     have hcs : c.xs.length ≤ i := by
      cases hlo : lookP om y with
      | none=>rw [hlo] at hc; subst hc; simp
      | some e=>rw [hlo] at hc; subst hc; exact hom.sz.2 _ (look_mem hlo)
     have hcut : cutD (R0 ++ H) c = cutD R0 c ++ H := by
      unfold cutD
      by_cases hx : c.xs = []
      ·rw [if_pos hx,if_pos hx]
      ·rw [if_neg hx,if_neg hx,erase_app (hrm hx).1]
     have hav : c.xs ≠ [] → (c.b ≠ b15 ∧ c.b ≠ b13 ∧ c.b ≠ b11 ∧ c.b ≠ b9 ∧ c.b ≠ b8 ∧ c.b ≠ m6 ∧ c.b ≠ m5 ∧ c.b ≠ m4 ∧ c.b ≠ b1) := fun hx=>by
      obtain ⟨q1,q2⟩ := hrm hx
      have q3 := getH_app (H := H) q1
      simp only [List.mem_cons,List.not_mem_nil,or_false,not_or] at q2
      exact ⟨fresh_ne2 f15 q3,fresh_ne2 f13 q3,fresh_ne2 f11 q3,fresh_ne2 f9 q3,fresh_ne2 f8 q3,q2.2.2.2,q2.2.2.1,q2.2.1,q2.1⟩
     have hme : mapD Dt.d c.xs = [] ↔ c.xs = [] := by simp [mapD]
     have hdrop : ∀ x0 x1 x2 x3 x4 x5 x6 x7 x8 : AO,dropR ((b15,x0) :: (b13,x1) :: (b11,x2) :: (b9,x3) :: (b8,x4) :: (m6,x5) :: (m5,x6) :: (m4,x7) :: (b1,x8) :: (R0 ++ H)) c.b (mapD Dt.d c.xs) = (b15,x0) :: (b13,x1) :: (b11,x2) :: (b9,x3) :: (b8,x4) :: (m6,x5) :: (m5,x6) :: (m4,x7) :: (b1,x8) :: (cutD R0 c ++ H) := fun x0 x1 x2 x3 x4 x5 x6 x7 x8=>by
      rw [← hcut]
      unfold dropR cutD
      by_cases hx : c.xs = []
      ·rw [if_pos (hme.2 hx),if_pos hx]
      ·obtain ⟨q0,q1,q2,q3,q4,q5,q6,q7,q8⟩ := hav hx
       rw [if_neg (fun e=>hx (hme.1 e)),if_neg hx,e_miss q0,e_miss q1,e_miss q2,e_miss q3,e_miss q4,e_miss q5,e_miss q6,e_miss q7,e_miss q8]
     refine Gz.takeS (s := 74) (b := c.b) (cap := c.cap) (xs := mapD Dt.d c.xs) rfl (fun hx0=>?_) ?_
     ·have hx : c.xs ≠ [] := fun e=>hx0 (hme.2 e)
      obtain ⟨q0,q1,q2,q3,q4,q5,q6,q7,q8⟩ := hav hx
      rw [h_miss q0,h_miss q1,h_miss q2,h_miss q3,h_miss q4,h_miss q5,h_miss q6,h_miss q7,h_miss q8]
      exact getH_app (hrm hx).1
     rw [hdrop]
     have hsz : ∀ l : List Dt,∀ y ∈ mapD Dt.d l,y.length = 5 := fun l=>mapD_sz fun _=>rfl
     have ht1 : [[.int .i64 q.id.o,.int .i64 q.id.s,.int .i64 q.id.i,.int .i64 dd.a,.int .i64 dd.b]] = mapD Dt.d [(⟨q.id,dd⟩ : Dt)] := rfl
     simp +contextual only [x32,mapD_len,ht1,mapD_app,h_miss,h_skip,n14,n45,n15,n56,n46,n16,a86,a85,a84,a81,a98,a96,a95,a94,a91,c9,c8,c6,c5,c4,c1,d11,d9,d8,d6,d5,d4,d1,j13,j11,j9,j8,j6,j5,j4,j1,↓U32,↓XP,↓XU,XW0,XW1,qa,qb,qc,qd,qe,qf,reduceCtorEq,TYX]
     have hI : (idxD (mapE Id3.d DlA.d om) [.int .i64 y.o,.int .i64 y.s,.int .i64 y.i]).getD (mapE Id3.d DlA.d om).length < (mapE Id3.d DlA.d (updP om y c)).length := by
      rw [← upd_id]
      exact idx_upd (i := .agg [.int .i64 y.o,.int .i64 y.s,.int .i64 y.i])
     have hset : ∀ c' : DlA,setV (mapE Id3.d DlA.d (updP om y c)) ((idxD (mapE Id3.d DlA.d om) [.int .i64 y.o,.int .i64 y.s,.int .i64 y.i]).getD (mapE Id3.d DlA.d om).length) (.osl c'.b c'.cap (mapD Dt.d c'.xs)) = mapE Id3.d DlA.d (updP om y c') := fun c'=>by
      rw [← upd_id,← upd_id]
      exact setV_upd (i := .agg [.int .i64 y.o,.int .i64 y.s,.int .i64 y.i])
     generalize (idxD (mapE Id3.d DlA.d om) [.int .i64 y.o,.int .i64 y.s,.int .i64 y.i]).getD (mapE Id3.d DlA.d om).length = I at hI hset
     refine ⟨hsz _,hsz _,by omega,fun _=>?_⟩
     refine Gz.giveS (s := 81) (xs := mapD Dt.d (c.xs ++ [(⟨q.id,dd⟩ : Dt)])) (by simp [mapD]) rfl fun b' cap' hf=>?_
     obtain ⟨g0,g1,g2,g3,g4,g5,g6,g7,g8,gf⟩ := hf
     have hset' := hset ⟨b',cap',c.xs ++ [⟨q.id,dd⟩]⟩
     dsimp only at hset'
     simp +contextual only [x32,mapD_len,Int.toNat_natCast,hset',h_miss,h_skip,n14,n45,n15,n56,n46,n16,a86,a85,a84,a81,a98,a96,a95,a94,a91,c9,c8,c6,c5,c4,c1,d11,d9,d8,d6,d5,d4,d1,j13,j11,j9,j8,j6,j5,j4,j1,Ne.symm g0,Ne.symm g1,Ne.symm g2,Ne.symm g3,Ne.symm g4,Ne.symm g5,Ne.symm g6,Ne.symm g7,Ne.symm g8,wrap_succ (show i ≤ big by omega),↓U32,↓XP,↓XU,XW0,XW1,qa,qb,qc,qd,qe,qf,reduceCtorEq,TYX]
     refine ⟨by omega,?_⟩
     refine hN ⟨i + 1,updP mm q.sense y,updP oo q.sense false,updP om y ⟨b',cap',c.xs ++ [⟨q.id,dd⟩]⟩,(b',.room cap' (mapD Dt.d (c.xs ++ [(⟨q.id,dd⟩ : Dt)]))) :: cutD R0 c⟩ _ _ ⟨hlt,hmm3 false (by simp [he]),?_,?_,?_,?_⟩ (by dsimp only; omega) ⟨rfl,rfl,rfl,rfl,rfl,rfl,rfl,rfl,rfl,trivial⟩ ?_
     ·refine poolD_upd (f := fun c=>c) hom.pool rfl (by simp) ?_ (c := c) (by rw [← hc]; simp) (fresh_app gf)
      simp only [List.mem_cons,List.not_mem_nil,or_false,not_or]
      exact ⟨g8,g7,g6,g5⟩
     ·dsimp only
      rw [upd_map (f := DlA.xs),hom.val,hstep,hev0 he]
      have e1 : lookP ((b.qt.take i).foldl (evS b) []) y = (lookP om y).map DlA.xs := by rw [← hom.val,look_map]
      rw [e1]
      cases hlo : lookP om y with
      | none=>rw [hlo] at hc; subst hc; rfl
      | some e=>rw [hlo] at hc; subst hc; rfl
     ·have h1 := hom.sz.1
      have h2 := upd_len (m := om) (k := y) (v := (⟨b',cap',c.xs ++ [⟨q.id,dd⟩]⟩ : DlA))
      dsimp only
      omega
     ·intro q hq
      dsimp only at hq ⊢
      rcases upd_mem hq with rfl | hq
      ·simp only [List.length_append,List.length_cons,List.length_nil]
       omega
      ·have := hom.sz.2 q hq
       omega
     ·exact Sbn_room (fx := [(m6,.mp (mapE Id3.d DlA.d (updP om y ⟨b',cap',c.xs ++ [⟨q.id,dd⟩]⟩))),(m5,.mp (mapE Id3.d D.bool (updP oo q.sense false))),(m4,.mp (mapE Id3.d idD (updP mm q.sense y))),(b1,.cells b.d)]) (bs := [(b15,_),(b13,_),(b11,_),(b9,_),(b8,_)]) (fun p hp=>hp) rfl
    ·simp +contextual only [x32,mapD_len,hqd,hyd,hyI,upI,hu1,hu2,eq_false he,decide_false,Bool.not_false,wrap_succ (show i ≤ big by omega),keys_id (x := q.source),look_id (x := q.source),keys_id (x := q.sense),look_id (x := q.sense),upd_id (x := q.sense),opt_b,h_miss,h_skip,n14,n45,n15,n56,n46,n16,a86,a85,a84,a81,a98,a96,a95,a94,a91,c9,c8,c6,c5,c4,c1,↓U32,↓XP,↓XU,XW0,XW1,qa,qb,qc,qd,qe,qf,reduceCtorEq,TYX]
     rintro _ b13 ⟨d11,d9,d8,d6,d5,d4,d1,f13⟩
     refine hN ⟨i + 1,updP mm q.sense y,updP oo q.sense true,om,R0⟩ _ _ ⟨hlt,hmm3 true (by simp [he]),hom.pool,by dsimp only; rw [hom.val,hstep,hev1 he],by have := hom.sz.1; dsimp only; omega,fun q hq=>by have := hom.sz.2 q hq; dsimp only; omega⟩ (by dsimp only; omega) ⟨rfl,rfl,rfl,rfl,rfl,rfl,rfl,rfl,rfl,trivial⟩ (Sbn.sub ?_)
     exact (List.sublist_append_right [(b13,_),(b11,_),(b9,_),(b8,_)] _)
   | some v =>
    obtain ⟨hv,ho⟩ := hmm.ok _ _ hlm
    rw [hye] at hv ho
    dsimp only at hv ho
    replace hv := hv.symm
    subst hv
    by_cases he : e = 0
    ·simp +contextual only [x32,mapD_len,g,hqd,hlt',hld,hdd,hlm,ho,hyI,he,decide_true,Bool.not_true,keys_id (x := q.source),look_id (x := q.source),keys_id (x := q.sense),look_id (x := q.sense),upd_id (x := q.sense),opt_b,keys_id (x := y),look_id (x := y),upd_id (x := y),getD_dl,hc,hlen,h_miss,h_skip,n14,n45,n15,n56,n46,n16,↓U32,↓XP,↓XU,XW0,XW1,qa,qb,qc,qd,qe,qf,reduceCtorEq,TYX]
     rintro b8 ⟨a86,a85,a84,a81,f8⟩ b9 ⟨a98,a96,a95,a94,a91,f9⟩ b11 ⟨c9,c8,c6,c5,c4,c1,f11⟩ b15 ⟨j11,j9,j8,j6,j5,j4,j1,f15⟩ _
     rw [x_apg]
     have hrm : c.xs ≠ [] → getH R0 c.b = some (.room c.cap (mapD Dt.d c.xs)) ∧ c.b ∉ [b1,m4,m5,m6] := fun hx=>by
      cases hlo : lookP om y with
      | none=>rw [hlo] at hc; subst hc; exact absurd rfl hx
      | some e=>rw [hlo] at hc; subst hc; exact poolD_look (f := fun c=>c) hom.pool hlo hx
     have hcs : c.xs.length ≤ i := by
      cases hlo : lookP om y with
      | none=>rw [hlo] at hc; subst hc; simp
      | some e=>rw [hlo] at hc; subst hc; exact hom.sz.2 _ (look_mem hlo)
     have hcut : cutD (R0 ++ H) c = cutD R0 c ++ H := by
      unfold cutD
      by_cases hx : c.xs = []
      ·rw [if_pos hx,if_pos hx]
      ·rw [if_neg hx,if_neg hx,erase_app (hrm hx).1]
     have hav : c.xs ≠ [] → (c.b ≠ b15 ∧ c.b ≠ b11 ∧ c.b ≠ b9 ∧ c.b ≠ b8 ∧ c.b ≠ m6 ∧ c.b ≠ m5 ∧ c.b ≠ m4 ∧ c.b ≠ b1) := fun hx=>by
      obtain ⟨q1,q2⟩ := hrm hx
      have q3 := getH_app (H := H) q1
      simp only [List.mem_cons,List.not_mem_nil,or_false,not_or] at q2
      exact ⟨fresh_ne2 f15 q3,fresh_ne2 f11 q3,fresh_ne2 f9 q3,fresh_ne2 f8 q3,q2.2.2.2,q2.2.2.1,q2.2.1,q2.1⟩
     have hme : mapD Dt.d c.xs = [] ↔ c.xs = [] := by simp [mapD]
     have hdrop : ∀ x0 x1 x2 x3 x4 x5 x6 x7 : AO,dropR ((b15,x0) :: (b11,x1) :: (b9,x2) :: (b8,x3) :: (m6,x4) :: (m5,x5) :: (m4,x6) :: (b1,x7) :: (R0 ++ H)) c.b (mapD Dt.d c.xs) = (b15,x0) :: (b11,x1) :: (b9,x2) :: (b8,x3) :: (m6,x4) :: (m5,x5) :: (m4,x6) :: (b1,x7) :: (cutD R0 c ++ H) := fun x0 x1 x2 x3 x4 x5 x6 x7=>by
      rw [← hcut]
      unfold dropR cutD
      by_cases hx : c.xs = []
      ·rw [if_pos (hme.2 hx),if_pos hx]
      ·obtain ⟨q0,q1,q2,q3,q4,q5,q6,q7⟩ := hav hx
       rw [if_neg (fun e=>hx (hme.1 e)),if_neg hx,e_miss q0,e_miss q1,e_miss q2,e_miss q3,e_miss q4,e_miss q5,e_miss q6,e_miss q7]
     refine Gz.takeS (s := 74) (b := c.b) (cap := c.cap) (xs := mapD Dt.d c.xs) rfl (fun hx0=>?_) ?_
     ·have hx : c.xs ≠ [] := fun e=>hx0 (hme.2 e)
      obtain ⟨q0,q1,q2,q3,q4,q5,q6,q7⟩ := hav hx
      rw [h_miss q0,h_miss q1,h_miss q2,h_miss q3,h_miss q4,h_miss q5,h_miss q6,h_miss q7]
      exact getH_app (hrm hx).1
     rw [hdrop]
     have hsz : ∀ l : List Dt,∀ y ∈ mapD Dt.d l,y.length = 5 := fun l=>mapD_sz fun _=>rfl
     have ht1 : [[.int .i64 q.id.o,.int .i64 q.id.s,.int .i64 q.id.i,.int .i64 dd.a,.int .i64 dd.b]] = mapD Dt.d [(⟨q.id,dd⟩ : Dt)] := rfl
     simp +contextual only [x32,mapD_len,ht1,mapD_app,h_miss,h_skip,n14,n45,n15,n56,n46,n16,a86,a85,a84,a81,a98,a96,a95,a94,a91,c9,c8,c6,c5,c4,c1,j11,j9,j8,j6,j5,j4,j1,↓U32,↓XP,↓XU,XW0,XW1,qa,qb,qc,qd,qe,qf,reduceCtorEq,TYX]
     have hI : (idxD (mapE Id3.d DlA.d om) [.int .i64 y.o,.int .i64 y.s,.int .i64 y.i]).getD (mapE Id3.d DlA.d om).length < (mapE Id3.d DlA.d (updP om y c)).length := by
      rw [← upd_id]
      exact idx_upd (i := .agg [.int .i64 y.o,.int .i64 y.s,.int .i64 y.i])
     have hset : ∀ c' : DlA,setV (mapE Id3.d DlA.d (updP om y c)) ((idxD (mapE Id3.d DlA.d om) [.int .i64 y.o,.int .i64 y.s,.int .i64 y.i]).getD (mapE Id3.d DlA.d om).length) (.osl c'.b c'.cap (mapD Dt.d c'.xs)) = mapE Id3.d DlA.d (updP om y c') := fun c'=>by
      rw [← upd_id,← upd_id]
      exact setV_upd (i := .agg [.int .i64 y.o,.int .i64 y.s,.int .i64 y.i])
     generalize (idxD (mapE Id3.d DlA.d om) [.int .i64 y.o,.int .i64 y.s,.int .i64 y.i]).getD (mapE Id3.d DlA.d om).length = I at hI hset
     refine ⟨hsz _,hsz _,by omega,fun _=>?_⟩
     refine Gz.giveS (s := 81) (xs := mapD Dt.d (c.xs ++ [(⟨q.id,dd⟩ : Dt)])) (by simp [mapD]) rfl fun b' cap' hf=>?_
     obtain ⟨g0,g1,g2,g3,g4,g5,g6,g7,gf⟩ := hf
     have hset' := hset ⟨b',cap',c.xs ++ [⟨q.id,dd⟩]⟩
     dsimp only at hset'
     simp +contextual only [x32,mapD_len,Int.toNat_natCast,hset',h_miss,h_skip,n14,n45,n15,n56,n46,n16,a86,a85,a84,a81,a98,a96,a95,a94,a91,c9,c8,c6,c5,c4,c1,j11,j9,j8,j6,j5,j4,j1,Ne.symm g0,Ne.symm g1,Ne.symm g2,Ne.symm g3,Ne.symm g4,Ne.symm g5,Ne.symm g6,Ne.symm g7,wrap_succ (show i ≤ big by omega),↓U32,↓XP,↓XU,XW0,XW1,qa,qb,qc,qd,qe,qf,reduceCtorEq,TYX]
     refine ⟨by omega,?_⟩
     refine hN ⟨i + 1,mm,oo,updP om y ⟨b',cap',c.xs ++ [⟨q.id,dd⟩]⟩,(b',.room cap' (mapD Dt.d (c.xs ++ [(⟨q.id,dd⟩ : Dt)]))) :: cutD R0 c⟩ _ _ ⟨hlt,hmm,?_,?_,?_,?_⟩ (by dsimp only; omega) ⟨rfl,rfl,rfl,rfl,rfl,rfl,rfl,rfl,rfl,trivial⟩ ?_
     ·refine poolD_upd (f := fun c=>c) hom.pool rfl (by simp) ?_ (c := c) (by rw [← hc]; simp) (fresh_app gf)
      simp only [List.mem_cons,List.not_mem_nil,or_false,not_or]
      exact ⟨g7,g6,g5,g4⟩
     ·dsimp only
      rw [upd_map (f := DlA.xs),hom.val,hstep,hev0 he]
      have e1 : lookP ((b.qt.take i).foldl (evS b) []) y = (lookP om y).map DlA.xs := by rw [← hom.val,look_map]
      rw [e1]
      cases hlo : lookP om y with
      | none=>rw [hlo] at hc; subst hc; rfl
      | some e=>rw [hlo] at hc; subst hc; rfl
     ·have h1 := hom.sz.1
      have h2 := upd_len (m := om) (k := y) (v := (⟨b',cap',c.xs ++ [⟨q.id,dd⟩]⟩ : DlA))
      dsimp only
      omega
     ·intro q hq
      dsimp only at hq ⊢
      rcases upd_mem hq with rfl | hq
      ·simp only [List.length_append,List.length_cons,List.length_nil]
       omega
      ·have := hom.sz.2 q hq
       omega
     ·exact Sbn_room (fx := [(m6,.mp (mapE Id3.d DlA.d (updP om y ⟨b',cap',c.xs ++ [⟨q.id,dd⟩]⟩))),(m5,.mp (mapE Id3.d D.bool (oo))),(m4,.mp (mapE Id3.d idD (mm))),(b1,.cells b.d)]) (bs := [(b15,_),(b11,_),(b9,_),(b8,_)]) (fun p hp=>hp) rfl
    ·simp +contextual only [x32,mapD_len,g,hqd,hlt',hld,hdd,hlm,ho,hyI,eq_false he,decide_false,Bool.not_false,wrap_succ (show i ≤ big by omega),keys_id (x := q.source),look_id (x := q.source),keys_id (x := q.sense),look_id (x := q.sense),upd_id (x := q.sense),opt_b,h_miss,h_skip,n14,n45,n15,n56,n46,n16,↓U32,↓XP,↓XU,XW0,XW1,qa,qb,qc,qd,qe,qf,reduceCtorEq,TYX]
     rintro b8 h8 b9 h9 b11 h11
     refine hN ⟨i + 1,mm,oo,om,R0⟩ _ _ ⟨hlt,hmm,hom.pool,by dsimp only; rw [hom.val,hstep,hev1 he],by have := hom.sz.1; dsimp only; omega,fun q hq=>by have := hom.sz.2 q hq; dsimp only; omega⟩ (by dsimp only; omega) ⟨rfl,rfl,rfl,rfl,rfl,rfl,rfl,rfl,rfl,trivial⟩ (Sbn.sub ?_)
     exact (List.sublist_append_right [(b11,_),(b9,_),(b8,_)] _)
 ·have hin : i = b.qt.length := by omega
  subst hin
  rw [List.take_length] at hom
  simp +contextual only [x32,mapD_len,↓U32,↓XP,↓XU,XW0,XW1,qa,qb,qc,qd,qe,qf,reduceCtorEq,TYX]
  intros
  refine hE _ _ _ ?_
  simp +contextual only [x32,mapD_len,↓U32,↓XP,↓XU,XW0,XW1,qa,qb,qc,qd,qe,qf,reduceCtorEq,TYX]
  have hmw : mwk (mapE Id3.d DlA.d om) = mapE Id3.d dtD (evM b) := by
   have hv := hom.val
   rw [mwk_mapE,show evM b = b.qt.foldl (evS b) [] from rfl,← hv,← mapE_map]
   rfl
  refine gh_intro (Fz.freezeM (s := 6) (b := m6) (es := mapE Id3.d DlA.d om) rfl (by simp [getH])) ?_
  rw [hmw,e_hit]
  simp +contextual only [x32,mapD_len,↓U32,↓XP,↓XU,XW0,XW1,qa,qb,qc,qd,qe,qf,reduceCtorEq,TYX]
  rw [show ((m5,AO.mp (mapE Id3.d D.bool oo)) :: (m4,AO.mp (mapE Id3.d idD mm)) :: (b1,AO.cells b.d) :: (R0 ++ H)) = ((m5,AO.mp (mapE Id3.d D.bool oo)) :: (m4,AO.mp (mapE Id3.d idD mm)) :: (b1,AO.cells b.d) :: R0) ++ H from rfl,back_app]
  exact h
end Go.Proofs.Ytffbjejmobhpkaa
end
section
namespace Go.Proofs.Ytffbjejmobhpkaa
open Go Go.Aw
def senP (b : Bk) (x : Id3) : Sp × Bool := riseP ((lookP (evM b) x).getD [])
theorem opt_dt {o : Option (List Dt)} : (optD false (.osl 0 0 []) (Option.map dtD o)).wkT.view = .slc (mapD Dt.d (o.getD [])) := by cases o <;> rfl
def attP (b : Bk) (x : Id3) (t : Int) : Bool × Bool := ((senP b x).2 && decide ((senP b x).1.b ≤ t),(senP b x).2 && decide ((senP b x).1.a ≤ t))
def befP (b : Bk) (x y : Id3) : Bool := (senP b x).2 && (senP b y).2 && decide ((senP b x).1.b < (senP b y).1.a)
theorem f_attested {b : Bk} (hb : Small b) (hx : IxOk (ixP b)) {x : Id3} {t : Int} {H : AH} {R : D → AH → Prop} (h : R (.tup [.bool (attP b x t).1,.bool (attP b x t).2]) H) : ACall Try.prog 15 [.agg b.d,.agg x.d,.int .i64 t] H R := by
 refine b15 fun hf=>?_
 have hbig := big_eq
 have hbd : b.d = [.slc (mapD En.d b.en),.slc (mapD Sn.d b.sn),.slc (mapD Sr.d b.sr),.slc (mapD Qt.d b.qt),.slc (mapD Spl.d b.sl),.slc (mapD Mg.d b.mg),.slc (mapD Ch.d b.ch)] := rfl
 have hxd : x.d = [.int .i64 x.o,.int .i64 x.s,.int .i64 x.i] := rfl
 simp +contextual only [x15,mapD_len,hbd,hxd,↓U15,↓XP,↓XU,XW0,XW1,qa,qb,qc,qd,qe,qf,reduceCtorEq,TYX]
 rintro b3 h3 b4 ⟨n34,h4⟩
 refine ⟨_,fun _ _=>f_evidence hb hx (b := b) ⟨rfl,rfl⟩,?_⟩
 simp +contextual only [x15,mapD_len,hbd,hxd,keys_id (x := x),look_id (x := x),opt_dt,h_miss,h_skip,n34,↓U15,↓XP,↓XU,XW0,XW1,qa,qb,qc,qd,qe,qf,reduceCtorEq,TYX]
 intro _
 refine ⟨_,fun _ _=>f_rise ⟨rfl,rfl⟩,?_⟩
 have hsg : riseP ((lookP (evM b) x).getD []) = senP b x := rfl
 rw [hsg]
 have ha : attP b x t = ((senP b x).2 && decide ((senP b x).1.b ≤ t),(senP b x).2 && decide ((senP b x).1.a ≤ t)) := rfl
 rw [ha] at h
 generalize senP b x = sb at h ⊢
 obtain ⟨⟨sa,sc⟩,si⟩ := sb
 have hsd : ∀ v,spB (⟨sa,sc⟩,v) = .tup [.agg [.int .i64 sa,.int .i64 sc],.bool v] := fun _=>rfl
 cases si <;> simp +contextual only [x15,mapD_len,hbd,hxd,hsd,h_miss,h_skip,n34,↓U15,↓XP,↓XU,XW0,XW1,qa,qb,qc,qd,qe,qf,reduceCtorEq,TYX]
 ·exact ⟨by omega,fun _ _=>h⟩
 ·exact ⟨by omega,fun _ _ _ _=>h⟩
theorem f_before {b : Bk} (hb : Small b) (hx : IxOk (ixP b)) {x y : Id3} {H : AH} {R : D → AH → Prop} (h : R (.bool (befP b x y)) H) : ACall Try.prog 19 [.agg b.d,.agg x.d,.agg y.d] H R := by
 refine b19 fun hf=>?_
 have hbig := big_eq
 have hbd : b.d = [.slc (mapD En.d b.en),.slc (mapD Sn.d b.sn),.slc (mapD Sr.d b.sr),.slc (mapD Qt.d b.qt),.slc (mapD Spl.d b.sl),.slc (mapD Mg.d b.mg),.slc (mapD Ch.d b.ch)] := rfl
 have hxd : x.d = [.int .i64 x.o,.int .i64 x.s,.int .i64 x.i] := rfl
 have hyd : y.d = [.int .i64 y.o,.int .i64 y.s,.int .i64 y.i] := rfl
 simp +contextual only [x19,mapD_len,hbd,hxd,hyd,↓U19,↓XP,↓XU,XW0,XW1,qa,qb,qc,qd,qe,qf,reduceCtorEq,TYX]
 rintro b3 h3 b4 ⟨n34,h4⟩ b5 ⟨n45,n35,h5⟩
 refine f_evidence hb hx (b := b) ?_
 simp +contextual only [x19,mapD_len,hbd,hxd,hyd,keys_id (x := x),look_id (x := x),opt_dt,h_miss,h_skip,n34,n45,n35,↓U19,↓XP,↓XU,XW0,XW1,qa,qb,qc,qd,qe,qf,reduceCtorEq,TYX]
 intro _
 refine f_rise ?_
 have hsg : riseP ((lookP (evM b) x).getD []) = senP b x := rfl
 rw [hsg]
 have hbf : befP b x y = ((senP b x).2 && (senP b y).2 && decide ((senP b x).1.b < (senP b y).1.a)) := rfl
 rw [hbf] at h
 generalize senP b x = sb at h ⊢
 obtain ⟨⟨sa,sc⟩,si⟩ := sb
 have hsd : ∀ u w v,spB (⟨u,w⟩,v) = .tup [.agg [.int .i64 u,.int .i64 w],.bool v] := fun _ _ _=>rfl
 simp +contextual only [x19,mapD_len,hbd,hxd,hyd,hsd,keys_id (x := y),look_id (x := y),opt_dt,h_miss,h_skip,n34,n45,n35,↓U19,↓XP,↓XU,XW0,XW1,qa,qb,qc,qd,qe,qf,reduceCtorEq,TYX]
 rintro b8 ⟨n58,n48,n38,h8⟩ _
 refine f_rise ?_
 have hsh : riseP ((lookP (evM b) y).getD []) = senP b y := rfl
 rw [hsh]
 generalize senP b y = sb at h ⊢
 obtain ⟨⟨ta,tc⟩,ti⟩ := sb
 cases si <;> cases ti <;> simp +contextual only [x19,mapD_len,hbd,hxd,hyd,hsd,h_miss,h_skip,n34,n45,n35,n58,n48,n38,↓U19,↓XP,↓XU,XW0,XW1,qa,qb,qc,qd,qe,qf,reduceCtorEq,TYX]
 ·exact fun _ _=>h
 ·exact fun _ _=>h
 ·exact fun _ _=>h
 ·exact fun _ _ _ _=>h
end Go.Proofs.Ytffbjejmobhpkaa
end
