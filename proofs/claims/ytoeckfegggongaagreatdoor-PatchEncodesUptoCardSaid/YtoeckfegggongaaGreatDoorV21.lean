/- A part of the proof of what the last text says: Gq2, Gr7, Gs1, Gx2, Gx3. Conditions: those in each theorem. -/
import Derived.Test.YtoeckfegggongaaGreatDoorV20
set_option linter.unusedVariables false
set_option linter.unusedSimpArgs false
set_option maxRecDepth 100000
set_option maxHeartbeats 16000000
open Nat renaming reduceSub → qa,reduceAdd → qb,reduceMul → qc,reduceEqDiff → qd,reduceLeDiff → qe,reduceBEq → qf
section
namespace Go.Proofs.YtoeckfegggongaaGreatDoor
open Go Go.Aw
theorem Kn {α : Type} {f : List UInt8 → α × Nat × Int} {p : α → Prop} {B : Nat} (hf : ∀ b,b.length ≤ B → p (f b).1) : ∀ (n : Nat) (b : List UInt8),b.length ≤ B → ∀ x ∈ (uR f n b).1,p x
 | 0,b,_=>by simp [uR]
 | n + 1,b,hb=>by
  have h2 := Kn hf n (b.drop (f b).2.1) (by simp; omega)
  unfold uR
  split
  ·simp
  ·split
   ·simp
   ·intro x hx
    rcases List.mem_cons.1 hx with rfl | hx
    ·exact hf b hb
    ·exact h2 x hx
theorem JO {b : List UInt8} {B : Nat} (hb : b.length ≤ B) : ∀ x ∈ (jn b).1,x.length ≤ B := by
 unfold jn wP
 split
 ·simp
 ·split
  ·simp
  ·exact Kn (f := qF) (p := fun x : List UInt8=>x.length ≤ B) (B := B) (fun b hb=>Nat.le_trans gq hb) _ _ (by rw [List.length_drop]; omega)
theorem uh {l : List (List UInt8)} {B i : Nat} (h : ∀ x ∈ l,x.length ≤ B) : (l.getD i []).length ≤ B := by
 rw [List.getD_eq_getElem?_getD]
 cases e : l[i]? with
 | none=>simp
 | some x=>exact h x (List.mem_of_getElem? e)
theorem op_le {b : List UInt8} {bad : Bool} {B : Nat} (hb : b.length ≤ B) : (jy b bad).1.ids.length ≤ B ∧ (jy b bad).1.name.length ≤ B ∧ (jy b bad).1.text.length ≤ B ∧ (jy b bad).2.1.length ≤ b.length := by
 unfold jy QU gD
 obtain ⟨c1,h1⟩ : ∃ x,b.drop (qG b).2.1 = x := ⟨_,rfl⟩
 have l1 : c1.length ≤ b.length := by rw [← h1]; simp
 rw [h1]
 obtain ⟨c2,h2⟩ : ∃ x,c1.drop (qG c1).2.1 = x := ⟨_,rfl⟩
 have l2 : c2.length ≤ c1.length := by rw [← h2]; simp
 rw [h2]
 have h3 := Yg (b := c1) (bad := ya b bad 10 1) (k := 3)
 have h4 : (triples (Q8 c1 (ya b bad 10 1) (-1) 3)).length ≤ B := by unfold triples; rw [List.length_map,List.length_range]; omega
 have h5 := JO (b := c2) (B := B) (by omega)
 split
 ·refine ⟨h4,uh h5,uh h5,?_⟩
  show (c2.drop _).length ≤ _
  rw [List.length_drop]
  omega
 ·refine ⟨h4,Nat.zero_le _,Nat.zero_le _,?_⟩
  show (c2.drop _).length ≤ _
  rw [List.length_drop]
  omega
theorem Yw {B : Nat} : ∀ (c : Nat) (b : List UInt8) (bad : Bool),b.length ≤ B → (vO c b bad).1.length ≤ c ∧ (vO c b bad).2.1.length ≤ b.length ∧ ∀ o ∈ (vO c b bad).1,o.ids.length ≤ B ∧ o.name.length ≤ B ∧ o.text.length ≤ B
 | 0,b,bad,hb=>by simp [vO]
 | c + 1,b,bad,hb=>by
  unfold vO
  split
  ·simp
  ·have h1 := op_le (b := b) (bad := bad) hb
   have h2 := Yw (B := B) c (jy b bad).2.1 (jy b bad).2.2 (by omega)
   refine ⟨by simp; exact h2.1,by dsimp only; omega,?_⟩
   intro o ho
   rcases List.mem_cons.1 ho with rfl | ho
   ·exact ⟨h1.1,h1.2.1,h1.2.2.1⟩
   ·exact h2.2.2 o ho
theorem Y1 {l : List Int} (h : l.length = 3) : ∃ a0 a1 a2,l = [a0,a1,a2] := by
 match l,h with
 | [a0,a1,a2],_=>exact ⟨_,_,_,rfl⟩
theorem chunk_2 {m : List Int} {j : Nat} (h2 : m.length % 2 = 0) (hj : j < wt (ints m).length 2) : (jM (ints m) 2 j).length = 2 ∧ (jM (ints m) 2 j).getD 0 [] = [.int .i64 (pair m j).o] ∧ (jM (ints m) 2 j).getD 1 [] = [.int .i64 (pair m j).s] := by
 unfold wt at hj
 rw [qn] at hj
 have hlt : j * 2 + 1 < m.length := by omega
 have hg : ∀ i,i < 2 → (jM (ints m) 2 j).getD i [] = [.int .i64 (m.getD (2 * j + i) 0)] := by
  intro i hi
  unfold jM
  rw [List.getD_eq_getElem?_getD,List.getElem?_take_of_lt hi,List.getElem?_drop,ints,List.getElem?_map,List.getElem?_eq_getElem (show j * 2 + i < m.length by omega)]
  rw [List.getD_eq_getElem?_getD,List.getElem?_eq_getElem (show 2 * j + i < m.length by omega)]
  simp only [Option.map_some,Option.getD_some,Nat.mul_comm j 2]
 refine ⟨?_,hg 0 (by omega),hg 1 (by omega)⟩
 unfold jM
 rw [List.length_take,List.length_drop,qn]
 omega
theorem cnt_2 {m : List Int} (h2 : m.length % 2 = 0) : wt (ints m).length 2 = m.length / 2 := by
 unfold wt
 rw [qn]
 omega
theorem Yl {a b : List UInt8} {H : AH} {R : D → AH → Prop} (h : R (.bool (decide (a = b))) H) : ACall Tryz.prog 39 [.slc (a.map qr),.slc (b.map qr)] H R := by
 refine b39 fun hf=>?_
 simp +contextual only [x39,zG,↓u39_s0,↓XP,qm,XW1,qa,qb,qc,qd,qe,qf,reduceCtorEq]
 exact ⟨oB,fun _=>⟨oB,fun _=>h⟩⟩
end Go.Proofs.YtoeckfegggongaaGreatDoor
end
section
namespace Go.Proofs.YtoeckfegggongaaGreatDoor
open Go Go.Aw
theorem w_dops {xb : List (List D)} {a0 a1 a2 many : Int} {nd : D} {zo : AO} {b2 br b6 : Nat} {b3 : List UInt8} {x3 : Bool} {H : AH} {Q : AQ} {F : List D} (hb3 : b3.length ≤ 3000000) (nr6 : br ≠ b6) (n26 : b2 ≠ b6) (h6 : qZ H b6) (nbr : br ≠ b2) (hr : qZ H br)
  (hF : ∀ i : Nat,i = 0 → Fr 116 [(0,.slc xb),(2,.ptr b2 0),(4,.ptr br 0),(6,.ptr b6 0),(8,.int .i64 many),(11,.int .i64 (i : Int))] F)
  (hE : ∀ (os : List OpP) (bb : List UInt8) (bad : Bool),vO (w8 many) b3 x3 = (os,bb,bad) → ∀ F',Fr 116 [(0,.slc xb),(2,.ptr b2 0),(4,.ptr br 0),(6,.ptr b6 0)] F' → Q (.exit 2) F' ((b6,AO.cells [.int .i64 a0,.int .i64 a1,.int .i64 a2,nd,.own (qM os),.str []]) :: (br,v8 bb bad) :: (b2,zo) :: H)) :
  XW Tryz.prog x16_L3 F ((b6,AO.cells [.int .i64 a0,.int .i64 a1,.int .i64 a2,nd,.own [],.str []]) :: (br,v8 b3 x3) :: (b2,zo) :: H) Q := by
 have hbig := qt
 have hc17 : w8 many ≤ 17 := by unfold w8; omega
 refine XW.loopK Go.Proofs.YtoeckfegggongaaGreatDoor.hm (fun F H'=>∃ (i : Nat) (os : List OpP) (bb : List UInt8) (bad : Bool),i ≤ w8 many ∧ os.length = i ∧ bb.length ≤ 3000000 ∧ vO (w8 many) b3 x3 = (os ++ (vO (w8 many - i) bb bad).1,(vO (w8 many - i) bb bad).2) ∧ Fr 116 [(0,.slc xb),(2,.ptr b2 0),(4,.ptr br 0),(6,.ptr b6 0),(8,.int .i64 many),(11,.int .i64 (i : Int))] F ∧ H' = ((b6,AO.cells [.int .i64 a0,.int .i64 a1,.int .i64 a2,nd,.own (qM os),.str []]) :: (br,v8 bb bad) :: (b2,zo) :: H)) (fun F H=>match F.getD 11 .any with | .int _ n'=>17 - n'.toNat | _=>0) ⟨0,[],b3,x3,by omega,rfl,hb3,by simp,hF 0 rfl,rfl⟩ ?_
 rintro _ _ ⟨i,os,bb,bad,hi,hos,hbb,hcon,hF,rfl⟩ K hN hE' hR
 obtain ⟨z,rfl⟩ : ∃ z : Nat → D,_ = .slc xb :: z 1 :: .ptr b2 0 :: z 3 :: .ptr br 0 :: z 5 :: .ptr b6 0 :: z 7 :: .int .i64 many :: zz z 9 2 (.int .i64 (i : Int) :: zz z 12 104 []) := hF.lit
 try dsimp only [zz,qb] at *
 clear hF hR
 have ol : (qM os).length = os.length := qj
 have nb6 : qK ((b2,zo) :: H) b6 = none := jh ⟨Ne.symm n26,h6⟩
 have nb7 : qK ((b2,zo) :: H) br = none := jh ⟨nbr,hr⟩
 by_cases hlt : i < w8 many ∧ bad = false
 ·obtain ⟨hlt,hbd⟩ := hlt
  subst hbd
  have m1 : ((i : Int) < many) = True := eq_true (by unfold w8 at hlt; omega)
  have m2 : ((i : Int) ≤ 16) = True := eq_true (by omega)
  have hle := op_le (b := bb) (bad := false) hbb
  have nx : ∀ F' H',back ((b6,AO.cells [.int .i64 a0,.int .i64 a1,.int .i64 a2,nd,.own (qM os),.str []]) :: (br,v8 bb false) :: (b2,zo) :: H).length H' = ((b6,AO.cells [.int .i64 a0,.int .i64 a1,.int .i64 a2,nd,.own (qM (os ++ [(jy bb false).1])),.str []]) :: (br,v8 (jy bb false).2.1 (jy bb false).2.2) :: (b2,zo) :: H) → Fr 116 [(0,.slc xb),(2,.ptr b2 0),(4,.ptr br 0),(6,.ptr b6 0),(8,.int .i64 many),(11,.int .i64 ((i + 1 : Nat) : Int))] F' → K .normal F' H' := fun F' H' hH hF'=>hN _ _ ⟨i + 1,os ++ [(jy bb false).1],(jy bb false).2.1,(jy bb false).2.2,hlt,by simp [hos],by omega,by
    obtain ⟨q,hq⟩ : ∃ q,w8 many - i = q + 1 := ⟨w8 many - i - 1,by omega⟩
    rw [hcon,hq,show w8 many - (i + 1) = q by omega]
    simp [vO],hF',hH⟩ (by
   rw [List.getD_eq_getElem?_getD,hF'.2.2.2.2.2.2.1]
   simp only [List.getD_cons_succ,List.getD_cons_zero,Option.getD_some]
   omega)
  clear hN hE hE' hcon
  have hcall : ∀ H1,qK H1 br = some (AO.cells [.slc (bb.map qr),.bool false]) → ACall Tryz.prog 37 [.ptr br 0] H1 (fun d' H'=>d' = .agg (jy bb false).1.d ∧ H' = qY H1 br (v8 (jy bb false).2.1 (jy bb false).2.2)) := fun H1 hg=>f_op (b := bb) (bad := false) (by omega) hg ⟨rfl,rfl⟩
  have hod : (jy bb false).1.d.length = 13 := rfl
  simp +contextual only [zF,qh,qn,qj,kO,kP,kS,m1,m2,v8,qg nr6,↓Q4,↓XP,qm,XW1,qa,qb,qc,qd,qe,qf,reduceCtorEq]
  refine ⟨nb6,_,br,_,_,nb7,.inr (by simpa using nr6),by rw [qg nr6]; exact jV,hcall,?_⟩
  generalize (jy bb false).2.1 = bb' at nx ⊢
  generalize (jy bb false).2.2 = bad' at nx ⊢
  generalize (jy bb false).1 = o at nx ⊢
  rw [← Jp] at nx
  have hod : o.d = [.int .i64 o.k,.int .i64 o.on.o,.int .i64 o.on.s,.int .i64 o.on.i,.int .i64 o.to.o,.int .i64 o.to.s,.int .i64 o.to.i,.slc (qV o.ids),.int .i64 o.n,.str o.name,.str o.text,.int .i64 o.a,.int .i64 o.b] := rfl
  simp +contextual only [zF,qh,qn,qj,kO,kP,kS,hod,v8,qi nr6,qp (show i ≤ big by omega),ol,↓Q4,↓XP,qm,XW1,qa,qb,qc,qd,qe,qf,reduceCtorEq]
  refine ⟨kU,by omega,by omega,nx _ _ (j9 rfl) ?_⟩
  exact ⟨rfl,rfl,rfl,rfl,rfl,rfl,rfl,trivial⟩
 ·have e0 : vO (w8 many - i) bb bad = ([],bb,bad) := by
   rcases Classical.em (bad = true) with hb | hb
   ·subst hb
    cases w8 many - i <;> rfl
   ·have : w8 many - i = 0 := by
     have : ¬ i < w8 many := fun h=>hlt ⟨h,by simpa using hb⟩
     omega
    rw [this]
    rfl
  rw [e0,List.append_nil] at hcon
  have fin := fun F'=>hE os bb bad hcon F'
  clear hN hE hcon e0
  by_cases c1 : (i : Int) < many
  ·by_cases c2 : i ≤ 16
   ·have hb : bad = true := by
     refine Classical.byContradiction fun hb=>hlt ⟨?_,by simpa using hb⟩
     unfold w8
     omega
    subst hb
    simp +contextual only [zF,qh,qn,qj,kO,kP,kS,eq_true c1,show ((i : Int) ≤ 16) = True from eq_true (by omega),v8,qg nr6,↓Q4,↓XP,qm,XW1,qa,qb,qc,qd,qe,qf,reduceCtorEq]
    exact hE' _ _ _ (fin _ ⟨rfl,rfl,rfl,rfl,rfl,trivial⟩)
   ·simp +contextual only [zF,qh,qn,qj,kO,kP,kS,eq_true c1,show ((i : Int) ≤ 16) = False from eq_false (by omega),v8,qg nr6,↓Q4,↓XP,qm,XW1,qa,qb,qc,qd,qe,qf,reduceCtorEq]
    exact hE' _ _ _ (fin _ ⟨rfl,rfl,rfl,rfl,rfl,trivial⟩)
  ·simp +contextual only [zF,qh,qn,qj,kO,kP,kS,eq_false c1,v8,qg nr6,↓Q4,↓XP,qm,XW1,qa,qb,qc,qd,qe,qf,reduceCtorEq]
   exact hE' _ _ _ (fin _ ⟨rfl,rfl,rfl,rfl,rfl,trivial⟩)
theorem JH {b : List UInt8} {H : AH} {R : D → AH → Prop} (hB : b.length ≤ 3000000) (h : R (.tup [.agg (yv b).1.d,.int .i64 (yv b).2]) H) : ACall Tryz.prog 16 [.slc (b.map qr)] H R := by
 refine b16 fun hf=>?_
 have hbig := qt
 simp +contextual only [zF,qh,qn,kO,kP,kS,↓Q4,↓XP,qm,XW1,qa,qb,qc,qd,qe,qf,reduceCtorEq]
 intro b2 h2 br hr
 have e2 : b2 ≠ br := hr.1
 have hr2 := hr.2
 refine og (b := b) (bad := false) (many := ((3 : Nat) : Int)) (by' := 1) (by omega) (by omega) (by omega) (by omega) jV fun d hd=>?_
 rw [ou]
 have hl := YL (b := b) (bad := false) (m := 3)
 obtain ⟨l,hl0⟩ : ∃ l,Q8 b false ((3 : Nat) : Int) 1 = l := ⟨_,rfl⟩
 obtain ⟨bad1,hbad1⟩ : ∃ x,ya b false ((3 : Nat) : Int) 1 = x := ⟨_,rfl⟩
 obtain ⟨c1,hc1⟩ : ∃ x,b.drop (qG b).2.1 = x := ⟨_,rfl⟩
 rw [hl0] at hl hd
 rw [hbad1,hc1]
 obtain ⟨a0,a1,a2,rfl⟩ := Y1 hl
 have hB1 : c1.length ≤ b.length := by rw [← hc1]; simp
 clear hl
 obtain ⟨xs,hxs,hx3,x0,x1,x2⟩ : ∃ xs,ints [a0,a1,a2] = xs ∧ xs.length = 3 ∧ xs.getD 0 [] = [.int .i64 a0] ∧ xs.getD 1 [] = [.int .i64 a1] ∧ xs.getD 2 [] = [.int .i64 a2] := ⟨_,rfl,rfl,rfl,rfl,rfl⟩
 rw [hxs] at hd
 simp +contextual only [zF,qh,qn,kO,kP,kS,hd,hx3,x0,x1,x2,show ((3 : Nat) : Int) = 3 from rfl,Int.reduceToNat,Int.reduceLE,Int.reduceLT,↓Q4,↓XP,qm,XW1,qa,qb,qc,qd,qe,qf,reduceCtorEq]
 rintro _ _ _ _ b6 ⟨nr6,n26,h6⟩
 obtain ⟨zo,hzz⟩ : ∃ zo,AO.cells [.int .i64 0,.int .i64 0,.int .i64 0,.own [],.own [],.str []] = zo := ⟨_,rfl⟩
 rw [uG]
 refine Gz.bind (k := fun F'' H''=>F'' = _ ∧ H'' = _) (Gz.take (j := 3) rfl (fun h=>(h rfl).elim) ⟨rfl,rfl⟩) ?_
 rintro _ _ ⟨rfl,rfl⟩
 refine Gz.take (j := 4) rfl (fun h=>(h rfl).elim) ?_
 simp only [jr,if_true]
 rw [hzz]
 simp +contextual only [zF,qh,qn,kO,kP,kS,↓Q4,↓XP,qm,XW1,qa,qb,qc,qd,qe,qf,reduceCtorEq]
 refine og (b := c1) (bad := bad1) (many := -1) (by' := 2) (by omega) (by omega) (by omega) (by omega) (by rw [qg nr6]; exact jV) fun d2 hd2=>?_
 rw [qi nr6,ou]
 have hm2 := VE (b := c1) (bad := bad1) (k := 2)
 have hml := Yg (b := c1) (bad := bad1) (k := 2)
 obtain ⟨m,hm0⟩ : ∃ m,Q8 c1 bad1 (-1) 2 = m := ⟨_,rfl⟩
 obtain ⟨bad2,hbad2⟩ : ∃ x,ya c1 bad1 (-1) 2 = x := ⟨_,rfl⟩
 obtain ⟨c2,hc2⟩ : ∃ x,c1.drop (qG c1).2.1 = x := ⟨_,rfl⟩
 have hB2 : c2.length ≤ c1.length := by rw [← hc2]; simp
 rw [hm0] at hm2 hml hd2
 rw [hbad2,hc2]
 obtain ⟨fi,hfi⟩ : ∃ fi,fi = 64 := ⟨_,rfl⟩
 simp +contextual only [zF,qh,qn,kO,kP,kS,hd2,↓Q4,↓XP,qm,XW1,qa,qb,qc,qd,qe,qf,reduceCtorEq]
 refine fun _=>Yy (fi := fi) hfi (by omega) fun bA bB hA hB'=>?_
 have hAB : bA ≠ bB := hB'.1
 simp +contextual only [zF,qh,qn,kO,kP,kS,↓Q4,↓XP,qm,XW1,qa,qb,qc,qd,qe,qf,reduceCtorEq]
 refine XRF.chunkK hm (by rw [hfi]; exact it64) (p := 32) (t := 7) (k := 2) (xs := ints m) (b1 := bA) (b2 := bB) (f := fi) rfl (by show (32 : Nat) < 116; omega) (by rw [qg hAB]; exact jV) jV (by omega) (by omega) wb
  (fun pre H'=>H' = ((b6,AO.cells [.int .i64 a0,.int .i64 a1,.int .i64 a2,.own (qO (pre.map (pair m))),.own [],.str []]) :: (br,v8 c2 bad2) :: (b2,zo) :: H))
  _ (by rw [kv hAB,ub,ub]; exact Sbn.sub (List.Sublist.refl _)) rfl ?_ ?_
 ·intro pre j H' hI hj hpl hfact K hK
  subst hI
  obtain ⟨y2,y0,y1⟩ := chunk_2 hm2 hj
  rw [cnt_2 hm2] at hj hpl
  generalize jM (ints m) 2 j = ys at y2 y0 y1 ⊢
  have nx := fun F' H''=>hK F' H'' _ (Sbn.sub (List.Sublist.refl _)) 
  clear hK
  rw [List.map_append,List.map_cons,List.map_nil,← gC] at nx
  have il : (qO (pre.map (pair m))).length = pre.length := by simp [qO]
  have hac := uD (l := pre.map (pair m))
  generalize qO (pre.map (pair m)) = acc at nx il hac ⊢
  generalize pair m j = tj at nx y0 y1
  simp +contextual only [zF,qh,qn,kO,kP,kS,y2,y0,y1,hd,hd2,show ((2 : Nat) : Int) = 2 from rfl,Int.reduceToNat,Int.reduceLE,Int.reduceLT,↓Q4,↓XP,qm,XW1,qa,qb,qc,qd,qe,qf,reduceCtorEq]
  have n6 : qK ((br,v8 c2 bad2) :: (b2,zo) :: H) b6 = none := jh ⟨Ne.symm nr6,Ne.symm n26,h6⟩
  exact ⟨n6,fun _ _=>⟨hac,by omega,by omega,nx _ _ rfl⟩⟩
 ·intro H' hI
  subst hI
  rw [cnt_2 hm2,show (List.range (m.length / 2)).map (pair m) = pairs m from rfl]
  simp +contextual only [zF,qh,qn,kO,kP,kS,hd,hd2,v8,qg nr6,↓Q4,↓XP,qm,XW1,qa,qb,qc,qd,qe,qf,reduceCtorEq]
  refine fun _=>oG ?_
  simp +contextual only [zF,qh,qn,kO,kP,kS,hd,hd2,↓Q4,↓XP,qm,XW1,qa,qb,qc,qd,qe,qf,reduceCtorEq]
  have hr0 : qK ((b6,AO.cells [.int .i64 a0,.int .i64 a1,.int .i64 a2,.own (qO (pairs m)),.own [],.str []]) :: (br,v8 c2 bad2) :: (b2,zo) :: H) br = some (v8 c2 bad2) := by rw [qg nr6]; exact jV
  refine fun _ _ _=>J9 (b := c2) (bad := bad2) vJ hr0 ?_
  rw [qi nr6,ou]
  have hle3 : (c2.drop (qA c2).2.1).length ≤ c2.length := by simp
  obtain ⟨t,ht⟩ : ∃ t,qA c2 = t := ⟨_,rfl⟩
  rw [ht] at hle3 ⊢
  obtain ⟨many,kk,ee⟩ := t
  dsimp only at hle3 ⊢
  simp +contextual only [zF,qh,qn,kO,kP,kS,hd,hd2,↓Q4,↓XP,qm,XW1,qa,qb,qc,qd,qe,qf,reduceCtorEq]
  refine w_dops (xb := b.map qr) (by omega) nr6 n26 h6 (Ne.symm e2) hr2 (fun i hi=>by subst hi; exact ⟨rfl,rfl,rfl,rfl,rfl,rfl,rfl,trivial⟩) fun os bb bad hops F' hF'=>?_
  obtain ⟨z,rfl⟩ : ∃ z : Nat → D,_ = (let xb := b.map qr; [.slc xb,z 1,.ptr b2 0,z 3,.ptr br 0,z 5,.ptr b6 0,z 7,z 8,z 9,z 10,z 11,z 12,z 13,z 14,z 15,z 16,z 17,z 18,z 19,z 20,z 21,z 22,z 23,z 24,z 25,z 26,z 27,z 28,z 29,z 30,z 31,z 32,z 33,z 34,z 35,z 36,z 37,z 38,z 39,z 40,z 41,z 42,z 43,z 44,z 45,z 46,z 47,z 48,z 49,z 50,z 51,z 52,z 53,z 54,z 55,z 56,z 57,z 58,z 59,z 60,z 61,z 62,z 63,z 64,z 65,z 66,z 67,z 68,z 69,z 70,z 71,z 72,z 73,z 74,z 75,z 76,z 77,z 78,z 79,z 80,z 81,z 82,z 83,z 84,z 85,z 86,z 87,z 88,z 89,z 90,z 91,z 92,z 93,z 94,z 95,z 96,z 97,z 98,z 99,z 100,z 101,z 102,z 103,z 104,z 105,z 106,z 107,z 108,z 109,z 110,z 111,z 112,z 113,z 114,z 115]) := hF'.lit
  clear hF'
  have hor := Yw (B := 3000000) (w8 many) (c2.drop kk) (bad2 || decide (ee ≠ 0)) (by omega)
  rw [hops] at hor
  obtain ⟨o1,o2,o3⟩ := hor
  dsimp only at o1 o2 o3
  simp +contextual only [zF,qh,qn,kO,kP,kS,v8,qg nr6,↓Q4,↓XP,qm,XW1,qa,qb,qc,qd,qe,qf,reduceCtorEq]
  refine fun _=>zp ?_
  simp +contextual only [zF,qh,qn,kO,kP,kS,qg nr6,↓Q4,↓XP,qm,XW1,qa,qb,qc,qd,qe,qf,reduceCtorEq]
  have hr1 : qK ((b6,AO.cells [.int .i64 a0,.int .i64 a1,.int .i64 a2,.own (qO (pairs m)),.own (qM os),.str []]) :: (br,v8 bb bad) :: (b2,zo) :: H) br = some (v8 bb bad) := by rw [qg nr6]; exact jV
  refine fun _ _ _=>J9 (b := bb) (bad := bad) vQ hr1 ?_
  rw [qi nr6,ou]
  have hsl := gq (b := bb)
  have hp : vZ b = (⟨a0,a1,a2,pairs m,os,(qF bb).1⟩,bad || decide ((qF bb).2.2 ≠ 0)) := by
   unfold vZ KC
   rw [show Q8 b false 3 1 = _ from hl0,show ya b false 3 1 = _ from hbad1,hc1,hm0,hc2,hbad2]
   unfold Kz
   rw [ht,hops]
   rfl
  unfold yv at h
  rw [hp] at h
  clear hp
  dsimp only at h
  generalize (qF bb).2.2 = e5 at h ⊢
  generalize (qF bb).2.1 = k5 at h ⊢
  generalize (qF bb).1 = sl at h hsl ⊢
  obtain ⟨bad5,hbad5⟩ : ∃ x,(bad || decide (e5 ≠ 0)) = x := ⟨_,rfl⟩
  rw [hbad5] at h ⊢
  clear hbad5
  subst hzz
  cases bad5 with
  | true =>
   rw [if_neg (by simp)] at h
   simp +contextual only [zF,qh,qn,kO,kP,kS,v8,qg nr6,qg n26,qi n26,qg e2,qi e2,↓Q4,↓XP,qm,XW1,qa,qb,qc,qd,qe,qf,reduceCtorEq]
   exact h
  | false =>
   simp +contextual only [zF,qh,qn,kO,kP,kS,v8,qg nr6,↓Q4,↓XP,qm,XW1,qa,qb,qc,qd,qe,qf,reduceCtorEq]
   obtain ⟨p,hp⟩ : ∃ p : Pt,(⟨a0,a1,a2,pairs m,os,sl⟩ : Pt) = p := ⟨_,rfl⟩
   have hpd : [D.int .i64 a0,.int .i64 a1,.int .i64 a2,.slc (qO (pairs m)),.slc (qM os),.str sl] = p.d := by rw [← hp]; rfl
   have hfit : Fit p := by
    rw [← hp]
    have : w8 many ≤ 17 := by unfold w8; omega
    exact ⟨by show os.length ≤ 1000; omega,by show (pairs m).length ≤ 3000000; unfold pairs; rw [List.length_map,List.length_range]; omega,fun o ho=>(o3 o ho).1,fun o ho=>(o3 o ho).2.1,fun o ho=>(o3 o ho).2.2,by show sl.length ≤ 3000000; omega⟩
   rw [hp] at h
   rw [hpd]
   refine oW hfit ?_
   rcases Classical.em (v7 p = 0) with g1 | g1
   ·rw [if_pos g1,g1]
    rcases Classical.em (ji p = b) with g2 | g2
    ·rw [if_pos ⟨rfl,g1,g2⟩] at h
     have g3 : decide (b = ji p) = true := decide_eq_true g2.symm
     simp +contextual only [zF,qh,qn,kO,kP,kS,v8,qg nr6,↓Q4,↓XP,qm,XW1,qa,qb,qc,qd,qe,qf,reduceCtorEq]
     refine fun _ _=>Yl ?_
     rw [g3]
     simp +contextual only [zF,qh,qn,kO,kP,kS,v8,qg nr6,qg n26,qi n26,qg e2,qi e2,↓Q4,↓XP,qm,XW1,qa,qb,qc,qd,qe,qf,reduceCtorEq]
     rw [hpd]
     exact h
    ·rw [if_neg (fun h=>g2 h.2.2)] at h
     have g3 : decide (b = ji p) = false := decide_eq_false (fun h=>g2 h.symm)
     simp +contextual only [zF,qh,qn,kO,kP,kS,v8,qg nr6,↓Q4,↓XP,qm,XW1,qa,qb,qc,qd,qe,qf,reduceCtorEq]
     refine fun _ _=>Yl ?_
     rw [g3]
     simp +contextual only [zF,qh,qn,kO,kP,kS,v8,qg nr6,qg n26,qi n26,qg e2,qi e2,↓Q4,↓XP,qm,XW1,qa,qb,qc,qd,qe,qf,reduceCtorEq]
     exact h
   ·rw [if_neg g1]
    rw [if_neg (fun h=>g1 h.2.1)] at h
    simp +contextual only [zF,qh,qn,kO,kP,kS,v8,eq_false g1,qg nr6,qg n26,qi n26,qg e2,qi e2,↓Q4,↓XP,qm,XW1,qa,qb,qc,qd,qe,qf,reduceCtorEq]
    exact fun _ _=>h
end Go.Proofs.YtoeckfegggongaaGreatDoor
end
section
namespace Go.Proofs.YtoeckfegggongaaGreatDoor
open Go Go.Aw
theorem vc {a b : List UInt8} {H : AH} {R : D → AH → Prop} (h : R (.bool (decide (a = b))) H) : ACall Tryz.prog 13 [.slc (a.map qr),.slc (b.map qr)] H R := by
 refine b13 fun hf=>?_
 have hbig := qt
 have hk : ∀ c,decide (a = b) = c → R (.bool c) H := fun c hc=>hc ▸ h
 clear h
 rcases Classical.em (a.length = b.length) with hl | hl
 ·simp +contextual only [x13,qh,show ((a.length : Int) = (b.length : Int)) = True from eq_true (by omega),↓U13,↓XP,qm,XW1,qa,qb,qc,qd,qe,qf,reduceCtorEq]
  refine fun _ _=>XW.loopK Go.Proofs.YtoeckfegggongaaGreatDoor.hm (fun F H'=>∃ (i : Nat),i ≤ a.length ∧ a.take i = b.take i ∧ Fr 26 [(0,.slc (a.map qr)),(1,.slc (b.map qr)),(5,.int .i64 (i : Int))] F ∧ H = H') (fun F H=>match F.getD 5 .any with | .int _ n'=>a.length - n'.toNat | _=>0) ⟨0,by omega,by simp,⟨rfl,rfl,rfl,rfl,trivial⟩,rfl⟩ ?_
  rintro _ _ ⟨i,hi,hv,hF,rfl⟩ K hN hE hR
  obtain ⟨z,rfl⟩ : ∃ z : Nat → D,_ = .slc (a.map qr) :: .slc (b.map qr) :: zz z 2 3 (.int .i64 (i : Int) :: zz z 6 20 []) := hF.lit
  try dsimp only [zz,qb] at *
  clear hF
  rcases Classical.em (i < a.length) with hlt | hlt
  ·have q1 := ww hlt
   have q2 := ww (l := b) (i := i) (by omega)
   have e1 : a.take (i + 1) = a.take i ++ [a.getD i 0] := by rw [List.take_add_one]; simp [hlt]
   have e2 : b.take (i + 1) = b.take i ++ [b.getD i 0] := by rw [List.take_add_one]; simp [show i < b.length by omega]
   have nx : a.getD i 0 = b.getD i 0 → ∀ F',Fr 26 [(0,.slc (a.map qr)),(1,.slc (b.map qr)),(5,.int .i64 ((i + 1 : Nat) : Int))] F' → K .normal F' H := fun he F' hF'=>hN _ _ ⟨i + 1,hlt,by rw [e1,e2,hv,he],hF',(j9 rfl).symm⟩ (by
    rw [List.getD_eq_getElem?_getD,hF'.2.2.2.1]
    simp only [List.getD_cons_succ,List.getD_cons_zero,Option.getD_some]
    omega)
   have bad : a.getD i 0 ≠ b.getD i 0 → R (.bool false) H := fun he=>hk false (decide_eq_false fun h=>he (by rw [h]))
   clear hN hE hk
   generalize a.getD i 0 = x at q1 nx bad
   generalize b.getD i 0 = y at q2 nx bad
   have hlb : (((i : Nat) : Int) < (b.length : Int)) = True := eq_true (by omega)
   rcases Classical.em (x = y) with hxy | hxy
   ·have c1 : ((x.toNat : Int) = (y.toNat : Int)) = True := eq_true (by rw [hxy])
    simp +contextual only [x13,qh,hlt,hlb,Int.ofNat_lt,q1,q2,c1,qp (show i ≤ big by omega),↓U13,↓XP,qm,XW1,qa,qb,qc,qd,qe,qf,reduceCtorEq]
    exact fun _ _ _=>nx hxy _ ⟨rfl,rfl,rfl,rfl,trivial⟩
   ·have c1 : ((x.toNat : Int) = (y.toNat : Int)) = False := eq_false (fun h=>hxy (UInt8.toNat_inj.1 (by omega)))
    simp +contextual only [x13,qh,hlt,hlb,Int.ofNat_lt,q1,q2,c1,qp (show i ≤ big by omega),↓U13,↓XP,qm,XW1,qa,qb,qc,qd,qe,qf,reduceCtorEq]
    refine fun _ _ _=>hR _ _ ?_
    simp +contextual only [x13,qh,↓U13,↓XP,qm,XW1,qa,qb,qc,qd,qe,qf,reduceCtorEq]
    exact bad hxy
  ·have hik : i = a.length := by omega
   subst hik
   clear hN
   rw [List.take_length,hl,List.take_length] at hv
   simp +contextual only [x13,qh,↓U13,↓XP,qm,XW1,qa,qb,qc,qd,qe,qf,reduceCtorEq]
   refine fun _=>hE _ _ _ ?_
   simp +contextual only [x13,qh,↓U13,↓XP,qm,XW1,qa,qb,qc,qd,qe,qf,reduceCtorEq]
   exact hk true (decide_eq_true hv)
 ·simp +contextual only [x13,qh,show ((a.length : Int) = (b.length : Int)) = False from eq_false (by omega),↓U13,↓XP,qm,XW1,qa,qb,qc,qd,qe,qf,reduceCtorEq]
  exact fun _ _=>hk false (decide_eq_false fun h=>hl (by rw [h]))
theorem W2 {l : List Id3} {H : AH} {R : D → AH → Prop} (h : R (.bool true) H) : ACall Tryz.prog 71 [.slc (qV l),.slc (qV l)] H R := by
 refine b71 fun hf=>?_
 have hbig := qt
 simp +contextual only [x71,qk,↓U71,↓XP,qm,XW1,qa,qb,qc,qd,qe,qf,reduceCtorEq]
 refine fun _=>XW.loopK Go.Proofs.YtoeckfegggongaaGreatDoor.hm (fun F H'=>∃ (i : Nat),i ≤ l.length ∧ Fr 26 [(0,.slc (qV l)),(1,.slc (qV l)),(5,.int .i64 (i : Int))] F ∧ H = H') (fun F H=>match F.getD 5 .any with | .int _ n'=>l.length - n'.toNat | _=>0) ⟨0,by omega,⟨rfl,rfl,rfl,rfl,trivial⟩,rfl⟩ ?_
 rintro _ _ ⟨i,hi,hF,rfl⟩ K hN hE hR
 obtain ⟨z,rfl⟩ : ∃ z : Nat → D,_ = .slc (qV l) :: .slc (qV l) :: zz z 2 3 (.int .i64 (i : Int) :: zz z 6 20 []) := hF.lit
 try dsimp only [zz,qb] at *
 clear hF
 rcases Classical.em (i < l.length) with hlt | hlt
 ·have q1 := kX hlt
  have nx : ∀ F',Fr 26 [(0,.slc (qV l)),(1,.slc (qV l)),(5,.int .i64 ((i + 1 : Nat) : Int))] F' → K .normal F' H := fun F' hF'=>hN _ _ ⟨i + 1,hlt,hF',(j9 rfl).symm⟩ (by
   rw [List.getD_eq_getElem?_getD,hF'.2.2.2.1]
   simp only [List.getD_cons_succ,List.getD_cons_zero,Option.getD_some]
   omega)
  clear hN hE hR
  generalize l.getD i default = x at q1 nx
  have hx : x.d = [.int .i64 x.o,.int .i64 x.s,.int .i64 x.i] := rfl
  simp +contextual only [x71,qk,hlt,Int.ofNat_lt,q1,hx,qp (show i ≤ big by omega),↓U71,↓XP,qm,XW1,qa,qb,qc,qd,qe,qf,reduceCtorEq]
  exact fun _=>nx _ ⟨rfl,rfl,rfl,rfl,trivial⟩
 ·have hik : i = l.length := by omega
  subst hik
  clear hN
  simp +contextual only [x71,qk,↓U71,↓XP,qm,XW1,qa,qb,qc,qd,qe,qf,reduceCtorEq]
  refine fun _=>hE _ _ _ ?_
  simp +contextual only [x71,qk,↓U71,↓XP,qm,XW1,qa,qb,qc,qd,qe,qf,reduceCtorEq]
  exact h
theorem V0 {o : OpP} {H : AH} {R : D → AH → Prop} (h : R (.bool true) H) : ACall Tryz.prog 41 [.agg o.d,.agg o.d] H R := by
 refine b41 fun hf=>?_
 have hbig := qt
 have hod : o.d = [.int .i64 o.k,.int .i64 o.on.o,.int .i64 o.on.s,.int .i64 o.on.i,.int .i64 o.to.o,.int .i64 o.to.s,.int .i64 o.to.i,.slc (qV o.ids),.int .i64 o.n,.str o.name,.str o.text,.int .i64 o.a,.int .i64 o.b] := rfl
 simp +contextual only [x41,hod,qk,↓WY,↓XP,qm,XW1,qa,qb,qc,qd,qe,qf,reduceCtorEq]
 refine fun b2 _ b3 _ _ _ _ _ _=>W2 ?_
 simp +contextual only [x41,hod,qk,↓WY,↓XP,qm,XW1,qa,qb,qc,qd,qe,qf,reduceCtorEq]
 exact h
theorem VR {p : Pt} {H : AH} {R : D → AH → Prop} (h : R (.bool true) H) : ACall Tryz.prog 18 [.agg p.d,.agg p.d] H R := by
 refine b18 fun hf=>?_
 have hbig := qt
 have hd := @dE p
 simp +contextual only [x18,hd,ql,qj,↓U18,↓XP,qm,XW1,qa,qb,qc,qd,qe,qf,reduceCtorEq]
 rintro b2 h2 b3 ⟨n23,h3⟩
 intros
 simp only [← hd]
 refine XW.loopK Go.Proofs.YtoeckfegggongaaGreatDoor.hm (fun F H'=>∃ (i : Nat),i ≤ p.needs.length ∧ Fr 88 [(2,.ptr b2 0),(3,.ptr b3 0),(5,.int .i64 (i : Int))] F ∧ ((b3,AO.cells p.d) :: (b2,AO.cells p.d) :: H) = H') (fun F H=>match F.getD 5 .any with | .int _ n'=>p.needs.length - n'.toNat | _=>0) ⟨0,by omega,⟨rfl,rfl,rfl,rfl,trivial⟩,rfl⟩ ?_
 rintro _ _ ⟨i,hi,hF,rfl⟩ K hN hE hR
 obtain ⟨z,rfl⟩ : ∃ z : Nat → D,_ = zz z 0 2 (.ptr b2 0 :: .ptr b3 0 :: z 4 :: .int .i64 (i : Int) :: zz z 6 82 []) := hF.lit
 try dsimp only [zz,qb] at *
 clear hF hR
 rcases Classical.em (i < p.needs.length) with hlt | hlt
 ·have q1 := yZ hlt
  have nx : ∀ F',Fr 88 [(2,.ptr b2 0),(3,.ptr b3 0),(5,.int .i64 ((i + 1 : Nat) : Int))] F' → K .normal F' ((b3,AO.cells p.d) :: (b2,AO.cells p.d) :: H) := fun F' hF'=>hN _ _ ⟨i + 1,hlt,hF',(j9 rfl).symm⟩ (by
   rw [List.getD_eq_getElem?_getD,hF'.2.2.2.1]
   simp only [List.getD_cons_succ,List.getD_cons_zero,Option.getD_some]
   omega)
  clear hN hE
  generalize p.needs.getD i default = x at q1 nx
  have hx : x.d = [.int .i64 x.o,.int .i64 x.s] := rfl
  simp +contextual only [x18,hd,ql,qj,hlt,Int.ofNat_lt,qg n23,q1,hx,qp (show i ≤ big by omega),↓U18,↓XP,qm,XW1,qa,qb,qc,qd,qe,qf,reduceCtorEq]
  simp only [← hd]
  exact fun _=>nx _ ⟨rfl,rfl,rfl,rfl,trivial⟩
 ·have hik : i = p.needs.length := by omega
  subst hik
  clear hN
  simp +contextual only [x18,hd,ql,qj,qg n23,↓U18,↓XP,qm,XW1,qa,qb,qc,qd,qe,qf,reduceCtorEq]
  simp only [← hd]
  refine fun _=>hE _ _ _ ?_
  clear hE
  simp +contextual only [x18,hd,ql,qj,qg n23,↓U18,↓XP,qm,XW1,qa,qb,qc,qd,qe,qf,reduceCtorEq]
  simp only [← hd]
  refine XW.loopK Go.Proofs.YtoeckfegggongaaGreatDoor.hm (fun F H'=>∃ (i : Nat),i ≤ p.ops.length ∧ Fr 88 [(2,.ptr b2 0),(3,.ptr b3 0),(6,.int .i64 (i : Int))] F ∧ ((b3,AO.cells p.d) :: (b2,AO.cells p.d) :: H) = H') (fun F H=>match F.getD 6 .any with | .int _ n'=>p.ops.length - n'.toNat | _=>0) ⟨0,by omega,⟨rfl,rfl,rfl,rfl,trivial⟩,rfl⟩ ?_
  rintro _ _ ⟨i,hi,hF,rfl⟩ K hN hE hR
  obtain ⟨z,rfl⟩ : ∃ z : Nat → D,_ = zz z 0 2 (.ptr b2 0 :: .ptr b3 0 :: zz z 4 2 (.int .i64 (i : Int) :: zz z 7 81 [])) := hF.lit
  try dsimp only [zz,qb] at *
  clear hF hR
  rcases Classical.em (i < p.ops.length) with hlt | hlt
  ·have q1 := kB hlt
   have nx : ∀ F',Fr 88 [(2,.ptr b2 0),(3,.ptr b3 0),(6,.int .i64 ((i + 1 : Nat) : Int))] F' → K .normal F' ((b3,AO.cells p.d) :: (b2,AO.cells p.d) :: H) := fun F' hF'=>hN _ _ ⟨i + 1,hlt,hF',(j9 rfl).symm⟩ (by
    rw [List.getD_eq_getElem?_getD,hF'.2.2.2.1]
    simp only [List.getD_cons_succ,List.getD_cons_zero,Option.getD_some]
    omega)
   clear hN hE
   generalize p.ops.getD i default = o at q1 nx
   have hod : o.d = [.int .i64 o.k,.int .i64 o.on.o,.int .i64 o.on.s,.int .i64 o.on.i,.int .i64 o.to.o,.int .i64 o.to.s,.int .i64 o.to.i,.slc (qV o.ids),.int .i64 o.n,.str o.name,.str o.text,.int .i64 o.a,.int .i64 o.b] := rfl
   simp +contextual only [x18,hd,ql,qj,hlt,Int.ofNat_lt,qg n23,q1,hod,qp (show i ≤ big by omega),↓U18,↓XP,qm,XW1,qa,qb,qc,qd,qe,qf,reduceCtorEq]
   refine fun _=>⟨_,V0 (o := o) ⟨rfl,rfl⟩,?_⟩
   simp +contextual only [x18,hd,ql,qj,qp (show i ≤ big by omega),↓U18,↓XP,qm,XW1,qa,qb,qc,qd,qe,qf,reduceCtorEq]
   simp only [← hd]
   exact nx _ ⟨rfl,rfl,rfl,rfl,trivial⟩
  ·have hik : i = p.ops.length := by omega
   subst hik
   clear hN
   simp +contextual only [x18,hd,ql,qj,qg n23,↓U18,↓XP,qm,XW1,qa,qb,qc,qd,qe,qf,reduceCtorEq]
   simp only [← hd]
   refine fun _=>hE _ _ _ ?_
   simp +contextual only [x18,hd,ql,qj,↓U18,↓XP,qm,XW1,qa,qb,qc,qd,qe,qf,reduceCtorEq]
   exact h
def zR : List D := [.int .u8 0,.int .u8 0,.int .u8 0,.int .u8 0,.int .u8 0,.int .u8 0,.int .u8 0,.int .u8 0,.int .u8 0,.int .u8 0,.int .u8 0,.int .u8 0,.int .u8 0,.int .u8 0,.int .u8 0,.int .u8 0]
def shortK : List UInt8 := [115,104,111,114,116]
theorem Jc {H : AH} {R : D → AH → Prop} (h : R (.tup [.agg zR,.int .i64 1]) H) : ACall Tryz.prog 56 [.str shortK,.int .i64 2] H R := by
 refine b56 fun hf=>?_
 have hbig := qt
 have hl : shortK.length = 5 := rfl
 simp +contextual only [x56,hl,show (((5 : Nat) : Int) = 32) = False from eq_false (by omega),↓U56,↓XP,qm,XW1,qa,qb,qc,qd,qe,qf,reduceCtorEq]
 exact fun b hb _=>h
theorem Vm {H : AH} {R : D → AH → Prop} (h : R (.tup [.agg (zR ++ [.int .i64 0]),.int .i64 1]) H) : ACall Tryz.prog 25 [.agg [.str shortK,.int .i64 2]] H R := by
 refine b25 fun hf=>?_
 have hbig := qt
 have hl : shortK.length = 5 := rfl
 simp +contextual only [x25,hl,show ((4 : Int) < 2) = False from by simp,show ((2 : Int) > 4) = False from by simp,↓U25,↓XP,qm,XW1,qa,qb,qc,qd,qe,qf,reduceCtorEq]
 refine fun b1 h1 b2 h2 _ _=>Jc ?_
 simp +contextual only [x25,hl,zR,show ((1 : Int) = 0) = False from by simp,qg h2.1,qi h2.1,↓U25,↓XP,qm,XW1,qa,qb,qc,qd,qe,qf,reduceCtorEq]
 exact fun _ _ _=>h
theorem KM {p : Pt} {o : OpP} {H : AH} {R : D → AH → Prop} (hp : p.ops = [o]) (h1 : 1 ≤ o.k) (h4 : o.k ≤ 4) (h : R (.own (qV [⟨p.o,p.s,0⟩])) H) : ACall Tryz.prog 26 [.agg p.d] H R := by
 refine b26 fun hf=>?_
 have hbig := qt
 have hd := @dE p
 rw [hp] at hd
 have ol : (qM [o]).length = 1 := rfl
 have q0 : (qM [o]).getD 0 [] = o.d := rfl
 have hod : o.d = [.int .i64 o.k,.int .i64 o.on.o,.int .i64 o.on.s,.int .i64 o.on.i,.int .i64 o.to.o,.int .i64 o.to.s,.int .i64 o.to.i,.slc (qV o.ids),.int .i64 o.n,.str o.name,.str o.text,.int .i64 o.a,.int .i64 o.b] := rfl
 simp +contextual only [x26,ol,qk,hd,↓U26,↓XP,qm,XW1,qa,qb,qc,qd,qe,qf,reduceCtorEq]
 intro b1 hb1 _
 obtain ⟨ids,hids⟩ : ∃ ids : List Id3,[⟨p.o,p.s,0⟩] = ids := ⟨_,rfl⟩
 refine XW.loopK Go.Proofs.YtoeckfegggongaaGreatDoor.hm (fun F H'=>∃ (i : Nat),i ≤ 1 ∧ Fr 28 [(1,.ptr b1 0),(3,.own (qV (ids.take i))),(7,.slc (qM [o])),(8,.int .i64 1),(9,.int .i64 (i : Int))] F ∧ ((b1,AO.cells [.int .i64 p.o,.int .i64 p.s,.int .i64 p.day,.slc (qO p.needs),.slc (qM [o]),.str p.sl]) :: H) = H') (fun F H=>match F.getD 9 .any with | .int _ n'=>1 - n'.toNat | _=>0) ⟨0,by omega,by subst hids; exact ⟨rfl,rfl,rfl,rfl,rfl,rfl,trivial⟩,rfl⟩ ?_
 rintro _ _ ⟨i,hi,hF,rfl⟩ K hN hE hR
 obtain ⟨z,rfl⟩ : ∃ z : Nat → D,_ = z 0 :: .ptr b1 0 :: z 2 :: .own (qV (ids.take i)) :: zz z 4 3 (.slc (qM [o]) :: .int .i64 1 :: .int .i64 (i : Int) :: zz z 10 18 []) := hF.lit
 try dsimp only [zz,qb] at *
 clear hF hR
 rcases Classical.em (i = 0) with hlt | hlt
 ·subst hlt
  simp +contextual only [x26,ol,qk,hd,q0,hod,show (((0 : Nat) : Int) < 1) = True from eq_true (by omega),show ((0 : Nat) : Int).toNat = 0 from rfl,List.take_zero,↓U26,↓XP,qm,XW1,qa,qb,qc,qd,qe,qf,reduceCtorEq]
  refine ⟨by omega,fun b5 hb5 _=>?_⟩
  refine yw ?_
  simp +contextual only [x26,ol,qk,decide_eq_true (show 1 ≤ o.k ∧ o.k ≤ 4 from ⟨h1,h4⟩),qg hb5.1,qp (show 0 ≤ big by omega),show (qV ([] : List Id3)) = [] from rfl,↓U26,↓XP,qm,XW1,qa,qb,qc,qd,qe,qf,reduceCtorEq]
  refine fun _ _=>hN _ _ ⟨1,by omega,?_,(yB rfl).symm⟩ ?_
  ·subst hids
   exact ⟨rfl,rfl,rfl,rfl,rfl,rfl,trivial⟩
  ·simp only [List.getD_cons_succ,List.getD_cons_zero]
   omega
 ·have hik : i = 1 := by omega
  subst hik
  clear hN
  simp +contextual only [x26,ol,qk,hd,show (((1 : Nat) : Int) < 1) = False from eq_false (by omega),↓U26,↓XP,qm,XW1,qa,qb,qc,qd,qe,qf,reduceCtorEq]
  refine hE _ _ _ ?_
  simp +contextual only [x26,ol,qk,↓U26,↓XP,qm,XW1,qa,qb,qc,qd,qe,qf,reduceCtorEq]
  subst hids
  exact h
end Go.Proofs.YtoeckfegggongaaGreatDoor
end
section
namespace Go.Proofs.YtoeckfegggongaaGreatDoor
open Go Go.Aw
theorem r_gl {c : UInt8} {r : List UInt8} {xs : List (List D)} {H : AH} {Q : AQ} {F : List D} (h8 : qD c ≤ 8) (hl : qD c ≤ r.length) (hxl : xs.length = r.length + 1) (h1 : ∀ x ∈ xs,x.length = 1) (hL : r.length + 1 ≤ big)
  (hx : ∀ j,j < r.length → xs.getD (j + 1) [] = [.int .u8 ((r.getD j 0).toNat : Int)]) {j : Nat} (hj : j = 0) (hF : Fr 71 [(0,.slc xs),(5,.int .i64 (c.toNat : Int)),(6,.int .i64 (qD c : Int)),(7,.int .i64 (val ((r.take j).map (qQ (turned c))) : Int)),(8,.int .i64 ((j + 1 : Nat) : Int))] F)
  (hE : ∀ F',Fr 71 [(0,.slc xs),(5,.int .i64 (c.toNat : Int)),(6,.int .i64 (qD c : Int)),(7,.int .i64 (val (body c r) : Int))] F' → val (body c r) < 9223372036854775808 → Q (.exit 0) F' H) (hRt : ∀ F',Fr 71 [(2,.int .i64 0),(3,.int .i64 0),(4,.int .i64 2)] F' → qA (c :: r) = (0,0,2) → Q .ret F' H) : XW Tryz.prog x68_L10 F H Q := by
 have hbig := qt
 refine XW.loopK Go.Proofs.YtoeckfegggongaaGreatDoor.hm (fun F H'=>∃ (j : Nat),j ≤ qD c ∧ val ((r.take j).map (qQ (turned c))) < 9223372036854775808 ∧ Fr 71 [(0,.slc xs),(5,.int .i64 (c.toNat : Int)),(6,.int .i64 (qD c : Int)),(7,.int .i64 (val ((r.take j).map (qQ (turned c))) : Int)),(8,.int .i64 ((j + 1 : Nat) : Int))] F ∧ H = H') (fun F H=>match F.getD 8 .any with | .int _ n'=>9 - n'.toNat | _=>0) ⟨0,by omega,by simp [val],by subst hj; exact hF,rfl⟩ ?_
 clear hF hj j
 rintro _ _ ⟨j,hj,hv,hF,rfl⟩ K hN hE' hR
 obtain ⟨z,rfl⟩ : ∃ z : Nat → D,_ = .slc xs :: zz z 1 4 (.int .i64 (c.toNat : Int) :: .int .i64 (qD c : Int) :: .int .i64 (val ((r.take j).map (qQ (turned c))) : Int) :: .int .i64 ((j + 1 : Nat) : Int) :: zz z 9 62 []) := hF.lit
 try dsimp only [zz,qb] at *
 clear hF
 by_cases hlt : j < qD c
 ·have q1 := hx j (by omega)
  have over := fun h=>U1 (c := c) (r := r) (j := j) h8 hl hlt h
  have nx : ∀ F',Fr 71 [(0,.slc xs),(5,.int .i64 (c.toNat : Int)),(6,.int .i64 (qD c : Int)),(7,.int .i64 ((256 * val ((r.take j).map (qQ (turned c))) + (qQ (turned c) (r.getD j 0)).toNat : Nat) : Int)),(8,.int .i64 ((j + 1 + 1 : Nat) : Int))] F' → 256 * val ((r.take j).map (qQ (turned c))) + (qQ (turned c) (r.getD j 0)).toNat < 9223372036854775808 → K .normal F' H := fun F' hF' hv'=>hN _ _ ⟨j + 1,hlt,by
    have : (r.take (j + 1)).map (qQ (turned c)) = (r.take j).map (qQ (turned c)) ++ [qQ (turned c) (r.getD j 0)] := by
     rw [List.take_add_one,List.map_append]
     simp [show j < r.length by omega]
    rw [this,vY]
    exact ⟨hv',hF',(j9 rfl).symm⟩⟩ (by
   rw [List.getD_eq_getElem?_getD,hF'.2.2.2.2.2.1]
   simp only [List.getD_cons_succ,List.getD_cons_zero,Option.getD_some]
   omega)
  clear hN hE hE'
  generalize val ((r.take j).map (qQ (turned c))) = v at nx hv over ⊢
  generalize r.getD j 0 = d at q1 nx
  have hd := d.toNat_lt
  have hc := c.toNat_lt
  have k1 : (((j + 1 : Nat) : Int) ≤ (qD c : Int)) = True := eq_true (by omega)
  have k2 : (((j + 1 : Nat) : Int) < (xs.length : Int)) = True := eq_true (by omega)
  have fl : ((qQ (turned c) d).toNat : Int) = if (c.toNat : Int) < 128 then 255 - (d.toNat : Int) else (d.toNat : Int) := by
   unfold turned qQ
   by_cases hc2 : c.toNat < 128
   ·rw [if_pos (by simpa using hc2),if_pos (by omega),UInt8.toNat_sub_of_le _ _ (by rw [UInt8.le_iff_toNat_le]; simp; omega)]
    simp
    omega
   ·rw [if_neg (by simpa using hc2),if_neg (by omega)]
  generalize hfd : (qQ (turned c) d).toNat = fd at fl nx
  by_cases hc2 : (c.toNat : Int) < 128
  ·rw [if_pos hc2] at fl
   by_cases hov : 36028797018963967 < v
   ·simp +contextual only [Q7,qh,k1,k2,q1,show ((c.toNat : Int) < 128) = True from eq_true hc2,show ((v : Int) > 36028797018963967) = True from eq_true (by omega),show ((36028797018963967 : Int) < (v : Int)) = True from eq_true (by omega),↓Q9,↓XP,qm,XW1,qa,qb,qc,qd,qe,qf,reduceCtorEq]
    intro _
    refine hR _ _ (hRt _ ?_ (over hov))
    exact ⟨rfl,rfl,rfl,rfl,trivial⟩
   ·simp +contextual only [Q7,qh,k1,k2,q1,show ((c.toNat : Int) < 128) = True from eq_true hc2,show ((v : Int) > 36028797018963967) = False from eq_false (by omega),show ((36028797018963967 : Int) < (v : Int)) = False from eq_false (by omega),↓Q9,↓XP,qm,XW1,qa,qb,qc,qd,qe,qf,reduceCtorEq]
    intro _
    have w1 : IntKind.i64.wrap (d.toNat : Int) = (d.toNat : Int) := qw (by omega) (by omega)
    have w2 : IntKind.i64.wrap (255 - (d.toNat : Int)) = (fd : Int) := by rw [qw (by omega) (by omega)]; omega
    have w3 : IntKind.i64.wrap (256 * (v : Int)) = 256 * (v : Int) := qw (by omega) (by omega)
    have w4 : IntKind.i64.wrap (256 * (v : Int) + (fd : Int)) = ((256 * v + fd : Nat) : Int) := by rw [qw (by omega) (by omega)]; omega
    rw [w1,w2,w3,w4,qp (by omega)]
    refine nx _ ?_ (by omega)
    exact ⟨rfl,rfl,rfl,rfl,rfl,rfl,trivial⟩
  ·rw [if_neg hc2] at fl
   by_cases hov : 36028797018963967 < v
   ·simp +contextual only [Q7,qh,k1,k2,q1,show ((c.toNat : Int) < 128) = False from eq_false hc2,show ((v : Int) > 36028797018963967) = True from eq_true (by omega),show ((36028797018963967 : Int) < (v : Int)) = True from eq_true (by omega),↓Q9,↓XP,qm,XW1,qa,qb,qc,qd,qe,qf,reduceCtorEq]
    intro _
    refine hR _ _ (hRt _ ?_ (over hov))
    exact ⟨rfl,rfl,rfl,rfl,trivial⟩
   ·simp +contextual only [Q7,qh,k1,k2,q1,show ((c.toNat : Int) < 128) = False from eq_false hc2,show ((v : Int) > 36028797018963967) = False from eq_false (by omega),show ((36028797018963967 : Int) < (v : Int)) = False from eq_false (by omega),↓Q9,↓XP,qm,XW1,qa,qb,qc,qd,qe,qf,reduceCtorEq]
    intro _
    have w1 : IntKind.i64.wrap (d.toNat : Int) = (d.toNat : Int) := qw (by omega) (by omega)
    have w2 : (d.toNat : Int) = (fd : Int) := fl.symm
    have w3 : IntKind.i64.wrap (256 * (v : Int)) = 256 * (v : Int) := qw (by omega) (by omega)
    have w4 : IntKind.i64.wrap (256 * (v : Int) + (fd : Int)) = ((256 * v + fd : Nat) : Int) := by rw [qw (by omega) (by omega)]; omega
    rw [w1,w3,w2,w4,qp (by omega)]
    refine nx _ ?_ (by omega)
    exact ⟨rfl,rfl,rfl,rfl,rfl,rfl,trivial⟩
 ·have hik : j = qD c := by omega
  subst hik
  clear hN
  simp +contextual only [Q7,qh,show (((qD c + 1 : Nat) : Int) ≤ (qD c : Int)) = False from eq_false (by omega),↓Q9,↓XP,qm,XW1,qa,qb,qc,qd,qe,qf,reduceCtorEq]
  refine hE' _ _ _ (hE _ ?_ hv)
  exact ⟨rfl,rfl,rfl,rfl,rfl,trivial⟩
end Go.Proofs.YtoeckfegggongaaGreatDoor
end
section
namespace Go.Proofs.YtoeckfegggongaaGreatDoor
open Go Go.Aw
theorem YF {c : UInt8} (h : c.toNat < 128) : qD c = 127 - c.toNat := if_pos h
theorem YD {c : UInt8} (h : ¬ c.toNat < 128) : qD c = c.toNat - 128 := if_neg h
theorem r_gi {c : UInt8} {r : List UInt8} {xs : List (List D)} {H : AH} {R : D → AH → Prop} (hxl : xs.length = r.length + 1) (h1 : ∀ x ∈ xs,x.length = 1)
  (hx0 : xs.getD 0 [] = [.int .u8 (c.toNat : Int)]) (hx : ∀ j,j < r.length → xs.getD (j + 1) [] = [.int .u8 ((r.getD j 0).toNat : Int)]) (htk : xs.take (qD c + 1) = ((c :: r).take (qD c + 1)).map qr)
  (h : ∀ t,qA (c :: r) = t → R (.tup [.int .i64 t.1,.int .i64 (t.2.1 : Int),.int .i64 t.2.2]) H) : ACall Tryz.prog 68 [.slc xs] H R := by
 refine b68 fun hf=>?_
 have hbig := qt
 have hL : r.length + 1 ≤ big := by
  have := hf.1
  rw [Vb,hxl] at this
  exact this
 have hc := c.toNat_lt
 have wc : IntKind.i64.wrap (c.toNat : Int) = (c.toNat : Int) := qw (by omega) (by omega)
 have z0 : (((r.length + 1 : Nat) : Int) = 0) = False := eq_false (by omega)
 have z1 : ((0 : Int) < ((r.length + 1 : Nat) : Int)) = True := eq_true (by omega)
 by_cases c1 : c.toNat < 119
 ·have e : qA (c :: r) = (0,0,2) := by
   unfold qA
   dsimp only
   rw [if_pos (by rw [YF (by omega)]; omega)]
  simp +contextual only [Q7,qh,hxl,hx0,wc,z0,z1,show ((c.toNat : Int) < 119) = True from eq_true (by omega),↓Q9,↓XP,qm,XW1,qa,qb,qc,qd,qe,qf,reduceCtorEq]
  intros
  exact h _ e
 by_cases c2 : 136 < c.toNat
 ·have e : qA (c :: r) = (0,0,2) := by
   unfold qA
   dsimp only
   rw [if_pos (by rw [YD (by omega)]; omega)]
  simp +contextual only [Q7,qh,hxl,hx0,wc,z0,z1,show ((c.toNat : Int) < 119) = False from eq_false (by omega),show ((c.toNat : Int) > 136) = True from eq_true (by omega),show ((136 : Int) < (c.toNat : Int)) = True from eq_true (by omega),↓Q9,↓XP,qm,XW1,qa,qb,qc,qd,qe,qf,reduceCtorEq]
  intros
  exact h _ e
 have h8 : qD c ≤ 8 := by unfold qD; split <;> omega
 have wk : ((c.toNat : Int) < 128) ∧ IntKind.i64.wrap (127 - (c.toNat : Int)) = (qD c : Int) ∨ ¬ ((c.toNat : Int) < 128) ∧ IntKind.i64.wrap ((c.toNat : Int) - 128) = (qD c : Int) := by
  by_cases hc2 : c.toNat < 128
  ·exact .inl ⟨by omega,by rw [qw (by omega) (by omega),YF hc2]; omega⟩
  ·exact .inr ⟨by omega,by rw [qw (by omega) (by omega),YD hc2]; omega⟩
 have wk1 : IntKind.i64.wrap ((qD c : Int) + 1) = ((qD c + 1 : Nat) : Int) := by rw [qw (by omega) (by omega)]; omega
 have w128 : IntKind.i64.wrap ((c.toNat : Int) - 128) = (c.toNat : Int) - 128 := qw (by omega) (by omega)
 have after : ∀ F,Fr 71 [(0,.slc xs),(5,.int .i64 (c.toNat : Int)),(6,.int .i64 (qD c : Int)),(7,.int .i64 0),(8,.int .i64 1)] F → qD c ≤ r.length → XW Tryz.prog x68_L10 F H (kT 0 (Jh Tryz.prog x68_s15 (jN Tryz.prog [.tmp 2,.tmp 3,.tmp 4] H.length R))) := by
  intro F hF hl
  have hv0 : ((val ((r.take 0).map (qQ (turned c))) : Nat) : Int) = 0 := by simp [val]
  refine r_gl (j := 0) h8 hl hxl h1 hL hx rfl (by rw [hv0]; exact hF) (fun F' hF' hv=>?_) (fun F' hF' e=>?_)
  ·obtain ⟨z,rfl⟩ : ∃ z : Nat → D,_ = [.slc xs,z 1,z 2,z 3,z 4,.int .i64 (c.toNat : Int),.int .i64 (qD c : Int),.int .i64 (val (body c r) : Int),z 8,z 9,z 10,z 11,z 12,z 13,z 14,z 15,z 16,z 17,z 18,z 19,z 20,z 21,z 22,z 23,z 24,z 25,z 26,z 27,z 28,z 29,z 30,z 31,z 32,z 33,z 34,z 35,z 36,z 37,z 38,z 39,z 40,z 41,z 42,z 43,z 44,z 45,z 46,z 47,z 48,z 49,z 50,z 51,z 52,z 53,z 54,z 55,z 56,z 57,z 58,z 59,z 60,z 61,z 62,z 63,z 64,z 65,z 66,z 67,z 68,z 69,z 70] := hF'.lit
   clear hF' hF
   have rd := fun n hn=>ref_dec (c := c) (r := r) (n := n) h8 hl hv hn
   generalize val (body c r) = v at hv rd ⊢
   rcases wk with ⟨k1,k2⟩ | ⟨k1,k2⟩
   ·have ht : turned c = true := decide_eq_true (by omega)
    have r1 := rd (-1 - (v : Int)) (by rw [if_pos ht])
    have wv : IntKind.i64.wrap (-1 - (v : Int)) = -1 - (v : Int) := qw (by omega) (by omega)
    generalize hn : -1 - (v : Int) = n at r1 wv
    simp +contextual only [Q7,qh,hn,wv,eq_true k1,↓Q9,↓XP,qm,XW1,qa,qb,qc,qd,qe,qf,reduceCtorEq]
    refine ⟨_,uE (n := n) (fun _=>⟨rfl,rfl⟩),?_⟩
    simp +contextual only [Q7,qh,wk1,hxl,htk,show (0 ≤ ((qD c + 1 : Nat) : Int)) = True from eq_true (by omega),show (((qD c + 1 : Nat) : Int) ≤ ((r.length + 1 : Nat) : Int)) = True from eq_true (by omega),↓Q9,↓XP,qm,XW1,qa,qb,qc,qd,qe,qf,reduceCtorEq]
    refine fun _=>⟨h1,_,vc (a := qy n) (b := (c :: r).take (qD c + 1)) ⟨rfl,rfl⟩,?_⟩
    rcases Classical.em (qy n = (c :: r).take (qD c + 1)) with he | he
    ·rw [if_pos he] at r1
     rw [decide_eq_true he]
     simp +contextual only [Q7,qh,wk1,↓Q9,↓XP,qm,XW1,qa,qb,qc,qd,qe,qf,reduceCtorEq]
     exact h _ r1
    ·rw [if_neg he] at r1
     rw [decide_eq_false he]
     simp +contextual only [Q7,qh,wk1,↓Q9,↓XP,qm,XW1,qa,qb,qc,qd,qe,qf,reduceCtorEq]
     exact h _ r1
   ·have ht : turned c = false := decide_eq_false (by omega)
    have r1 := rd (v : Int) (by rw [if_neg (by rw [ht]; simp)])
    generalize (v : Int) = n at r1 ⊢
    simp +contextual only [Q7,qh,eq_false k1,↓Q9,↓XP,qm,XW1,qa,qb,qc,qd,qe,qf,reduceCtorEq]
    refine ⟨_,uE (n := n) (fun _=>⟨rfl,rfl⟩),?_⟩
    simp +contextual only [Q7,qh,wk1,hxl,htk,show (0 ≤ ((qD c + 1 : Nat) : Int)) = True from eq_true (by omega),show (((qD c + 1 : Nat) : Int) ≤ ((r.length + 1 : Nat) : Int)) = True from eq_true (by omega),↓Q9,↓XP,qm,XW1,qa,qb,qc,qd,qe,qf,reduceCtorEq]
    refine fun _=>⟨h1,_,vc (a := qy n) (b := (c :: r).take (qD c + 1)) ⟨rfl,rfl⟩,?_⟩
    rcases Classical.em (qy n = (c :: r).take (qD c + 1)) with he | he
    ·rw [if_pos he] at r1
     rw [decide_eq_true he]
     simp +contextual only [Q7,qh,wk1,↓Q9,↓XP,qm,XW1,qa,qb,qc,qd,qe,qf,reduceCtorEq]
     exact h _ r1
    ·rw [if_neg he] at r1
     rw [decide_eq_false he]
     simp +contextual only [Q7,qh,wk1,↓Q9,↓XP,qm,XW1,qa,qb,qc,qd,qe,qf,reduceCtorEq]
     exact h _ r1
  ·obtain ⟨z,rfl⟩ : ∃ z : Nat → D,_ = [z 0,z 1,.int .i64 0,.int .i64 0,.int .i64 2,z 5,z 6,z 7,z 8,z 9,z 10,z 11,z 12,z 13,z 14,z 15,z 16,z 17,z 18,z 19,z 20,z 21,z 22,z 23,z 24,z 25,z 26,z 27,z 28,z 29,z 30,z 31,z 32,z 33,z 34,z 35,z 36,z 37,z 38,z 39,z 40,z 41,z 42,z 43,z 44,z 45,z 46,z 47,z 48,z 49,z 50,z 51,z 52,z 53,z 54,z 55,z 56,z 57,z 58,z 59,z 60,z 61,z 62,z 63,z 64,z 65,z 66,z 67,z 68,z 69,z 70] := hF'.lit
   clear hF' hF
   simp +contextual only [Q7,qh,↓Q9,↓XP,qm,XW1,qa,qb,qc,qd,qe,qf,reduceCtorEq]
   exact h _ e
 by_cases hl : r.length < qD c
 ·have e : qA (c :: r) = (0,0,3) := by
   unfold qA
   dsimp only
   rw [if_neg (by omega),if_pos hl]
  rcases wk with ⟨k1,k2⟩ | ⟨k1,k2⟩
  ·simp +contextual only [Q7,qh,hxl,hx0,wc,z0,z1,w128,k2,wk1,eq_true k1,show ((c.toNat : Int) < 119) = False from eq_false (by omega),show ((c.toNat : Int) > 136) = False from eq_false (by omega),show ((136 : Int) < (c.toNat : Int)) = False from eq_false (by omega),show (((r.length + 1 : Nat) : Int) < ((qD c + 1 : Nat) : Int)) = True from eq_true (by omega),↓Q9,↓XP,qm,XW1,qa,qb,qc,qd,qe,qf,reduceCtorEq]
   intros
   exact h _ e
  ·simp +contextual only [Q7,qh,hxl,hx0,wc,z0,z1,k2,wk1,eq_false k1,show ((c.toNat : Int) < 119) = False from eq_false (by omega),show ((c.toNat : Int) > 136) = False from eq_false (by omega),show ((136 : Int) < (c.toNat : Int)) = False from eq_false (by omega),show (((r.length + 1 : Nat) : Int) < ((qD c + 1 : Nat) : Int)) = True from eq_true (by omega),↓Q9,↓XP,qm,XW1,qa,qb,qc,qd,qe,qf,reduceCtorEq]
   intros
   exact h _ e
 ·rcases wk with ⟨k1,k2⟩ | ⟨k1,k2⟩
  ·simp +contextual only [Q7,qh,hxl,hx0,wc,z0,z1,w128,k2,wk1,eq_true k1,show ((c.toNat : Int) < 119) = False from eq_false (by omega),show ((c.toNat : Int) > 136) = False from eq_false (by omega),show ((136 : Int) < (c.toNat : Int)) = False from eq_false (by omega),show (((r.length + 1 : Nat) : Int) < ((qD c + 1 : Nat) : Int)) = False from eq_false (by omega),↓Q9,↓XP,qm,XW1,qa,qb,qc,qd,qe,qf,reduceCtorEq]
   intros
   refine after _ ?_ (by omega)
   exact ⟨rfl,rfl,rfl,rfl,rfl,rfl,trivial⟩
  ·simp +contextual only [Q7,qh,hxl,hx0,wc,z0,z1,k2,wk1,eq_false k1,show ((c.toNat : Int) < 119) = False from eq_false (by omega),show ((c.toNat : Int) > 136) = False from eq_false (by omega),show ((136 : Int) < (c.toNat : Int)) = False from eq_false (by omega),show (((r.length + 1 : Nat) : Int) < ((qD c + 1 : Nat) : Int)) = False from eq_false (by omega),↓Q9,↓XP,qm,XW1,qa,qb,qc,qd,qe,qf,reduceCtorEq]
   intros
   refine after _ ?_ (by omega)
   exact ⟨rfl,rfl,rfl,rfl,rfl,rfl,trivial⟩
theorem z8 {b : List UInt8} {H : AH} {R : D → AH → Prop} (h : R (.tup [.int .i64 (qA b).1,.int .i64 ((qA b).2.1 : Int),.int .i64 (qA b).2.2]) H) : ACall Tryz.prog 68 [.slc (b.map qr)] H R := by
 cases b with
 | nil =>
  refine b68 fun hf=>?_
  simp +contextual only [Q7,qh,List.length_nil,show ((((0 : Nat) : Int)) = 0) = True from eq_true rfl,↓Q9,↓XP,qm,XW1,qa,qb,qc,qd,qe,qf,reduceCtorEq]
  exact fun _=>h
 | cons c r =>
  refine r_gi (c := c) (r := r) (by simp) qC (by simp [qr]) (fun j hj=>?_) (by rw [List.map_take]) (fun t ht=>by rw [← ht]; exact h)
  rw [List.map_cons,List.getD_cons_succ]
  exact ww hj
end Go.Proofs.YtoeckfegggongaaGreatDoor
end
