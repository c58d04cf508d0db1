/- A part of the proof of what the last text says: Gn4, Gi1. Conditions: those in each theorem. -/
import Derived.Test.YtoeckfegggongaaGreatDoorW18
set_option linter.unusedVariables false
set_option linter.unusedSimpArgs false
set_option maxRecDepth 100000
set_option maxHeartbeats 16000000
open Nat (reduceSub reduceAdd reduceMul reduceEqDiff reduceLeDiff)
section
namespace Go.Proofs.YtoeckfegggongaaGreatDoor
open Go Go.Aw
theorem rounds_needs {x : Gs} {o : Int} {m : List Int} : ∀ q,(nextRounds x o m q).p.needs.length ≤ q ∧ (nextRounds x o m q).p.ops = [] ∧ (nextRounds x o m q).p.sl = [] ∧ (nextRounds x o m q).seen.length = x.l.length
  | 0 => by simp [nextRounds,pt0]
  | q + 1 => by
    obtain ⟨h1,h2,h3,h4⟩ := rounds_needs (x := x) (o := o) (m := m) q
    simp only [nextRounds]
    generalize nextRounds x o m q = s at h1 h2 h3 h4 ⊢
    unfold nextRound
    simp only []
    split
    · exact ⟨by omega,h2,h3,h4⟩
    · split
      · exact ⟨by simp only []; omega,h2,h3,by rw [seenWith_len]; exact h4⟩
      · exact ⟨by simp only [List.length_append,List.length_cons,List.length_nil]; omega,h2,h3,by rw [seenWith_len]; exact h4⟩
theorem n_mark {x : Gs} {offices n q k b3 b6 b8 b9 : Nat} {o : Int} {m : List Int} {seen : List Bool} {p : Pt} {c6 : AO} {H : AH} {Q : AQ} {F : List D} (nx : Nx b3 b6 b8 b9) (hof : offices ≤ 10) (hb : x.l.length ≤ 100) (hn : n = x.l.length) (hs : seen.length = n) (hk : k < x.l.length) (hq : q ≤ 10) (hne : p.needs.length ≤ 10) (hxs : ∀ p ∈ x.l,0 ≤ p.s ∧ p.s ≤ 1000)
    (hfr : getH H b8 = none)
    (hF : Fr 139 [(1,.int .i64 offices),(2,.slc (ints m)),(3,.ptr b3 0),(6,.ptr b6 0),(7,.int .i64 o),(8,.ptr b8 0),(9,.hsl b9 n),(10,.int .i64 (q : Int)),(11,.int .i64 (k : Int))] F) (hE : ∀ p2,p2 = (let pk := x.l.getD k default; let p1 := { p with day := max p.day pk.day }; if (q : Int) = o then { p1 with s := pk.s + 1 } else { p1 with needs := p1.needs ++ [⟨q,pk.s⟩] }) → ∀ F',Fr 139 [(1,.int .i64 offices),(2,.slc (ints m)),(3,.ptr b3 0),(6,.ptr b6 0),(7,.int .i64 o),(8,.ptr b8 0),(9,.hsl b9 n),(10,.int .i64 (q : Int)),(11,.int .i64 (k : Int))] F' → Q .normal F' ((b9,AO.cells ((seenWith x seen k).map D.bool)) :: (b8,AO.cells p2.dn) :: (b6,c6) :: (b3,AO.cells [.own (ptsD x.l),.own (pastD x.past)]) :: H)) :
    xcode Tryz.prog x43_s7 F ((b9,AO.cells ((seenP seen (x.past.getD k []) k).map D.bool)) :: (b8,AO.cells p.dn) :: (b6,c6) :: (b3,AO.cells [.own (ptsD x.l),.own (pastD x.past)]) :: H) Q := by
  have hbig := big_eq
  obtain ⟨n39,n38,n36,n89,n69,n68⟩ := nx
  obtain ⟨z,rfl⟩ : ∃ z : Nat → D,_ = z 0 :: .int .i64 offices :: .slc (ints m) :: .ptr b3 0 :: zz z 4 2 (.ptr b6 0 :: .int .i64 o :: .ptr b8 0 :: .hsl b9 n :: .int .i64 (q : Int) :: .int .i64 (k : Int) :: zz z 12 127 []) := hF.lit
  try dsimp only [zz,reduceAdd] at *
  clear hF
  have q1 := pts_get hk
  obtain ⟨e1,e2⟩ := hxs (x.l.getD k default) (by rw [getD_lt hk]; exact List.getElem_mem hk)
  rw [← seenP_end (by omega)] at hE
  have hl9 := seenP_len (seen := seen) (past := x.past.getD k []) (i := k)
  generalize seenP seen (x.past.getD k []) k = s9 at hE hl9 ⊢
  generalize x.l.getD k default = e at q1 hE e1 e2
  have hd := @dE e
  have hdn : p.dn = [.int .i64 p.o,.int .i64 p.s,.int .i64 p.day,.own (refsD p.needs),.slc [],.str []] := rfl
  have hmx : (if e.day > p.day then e.day else p.day) = max p.day e.day := by rw [Int.max_def]; split <;> split <;> omega
  have ws : IntKind.i64.wrap (e.s + 1) = e.s + 1 := wrap_id (by omega) (by omega)
  by_cases hqo : (q : Int) = o
  · subst hqo
    simp only [if_true] at hE
    simp +contextual only [Nat.mul_one,bl_set,pts_len,past_len,bools_len,refs_len,h_miss,h_skip,e_miss,n39,n38,n36,n89,n69,n68,x43,q1,hd,hdn,hmx,ws,↓U43,↓XP,XW0,XW1,reduceSub,reduceAdd,reduceMul,reduceEqDiff,reduceLeDiff,Nat.reduceBEq,reduceCtorEq,TYX]
    exact ⟨by omega,by omega,fun _ _ => ⟨by omega,fun _ => ⟨by omega,by omega,fun _ => ⟨by omega,hE _ rfl _ ⟨rfl,rfl,rfl,rfl,rfl,rfl,rfl,rfl,rfl,rfl,trivial⟩⟩⟩⟩⟩
  · simp only [if_neg hqo] at hE
    simp +contextual only [Nat.mul_one,bl_set,pts_len,past_len,bools_len,refs_len,h_miss,h_skip,e_miss,n39,n38,n36,n89,n69,n68,x43,q1,hd,hdn,hmx,ws,hqo,hfr,↓U43,↓XP,XW0,XW1,reduceSub,reduceAdd,reduceMul,reduceEqDiff,reduceLeDiff,Nat.reduceBEq,reduceCtorEq,TYX]
    refine ⟨by omega,by omega,fun _ _ => ⟨by omega,fun _ => ⟨by omega,by rw [h_miss (Ne.symm n68),h_miss (Ne.symm n38)]; exact hfr,by omega,fun _ => ⟨refs_2,by omega,by omega,?_⟩⟩⟩⟩
    have hh := fun F' => hE _ rfl F'
    simp only [Pt.dn,← refs_app] at hh
    exact hh _ ⟨rfl,rfl,rfl,rfl,rfl,rfl,rfl,rfl,rfl,rfl,trivial⟩
theorem n_outer {x : Gs} {offices n b3 b6 b8 b9 : Nat} {o : Int} {m : List Int} {c6 : AO} {H : AH} {Q : AQ} {F : List D} (nx : Nx b3 b6 b8 b9) (hof : offices ≤ 10) (hb : x.l.length ≤ 100) (hn : n = x.l.length) (hp : x.past.length = x.l.length) (hpk : ∀ k,k < x.l.length → (x.past.getD k []).length = k) (hxs : ∀ p ∈ x.l,0 ≤ p.s ∧ p.s ≤ 1000)
    (hfr : getH H b8 = none) (hF : Fr 139 [(1,.int .i64 offices),(2,.slc (ints m)),(3,.ptr b3 0),(6,.ptr b6 0),(7,.int .i64 o),(8,.ptr b8 0),(9,.hsl b9 n),(10,.int .i64 0)] F) (hE : ∀ F',Fr 139 [(1,.int .i64 offices),(2,.slc (ints m)),(3,.ptr b3 0),(6,.ptr b6 0),(7,.int .i64 o),(8,.ptr b8 0),(9,.hsl b9 n)] F' → ∀ s,s = nextRounds x o m offices → Q (.exit 0) F' ((b9,AO.cells (s.seen.map D.bool)) :: (b8,AO.cells s.p.dn) :: (b6,c6) :: (b3,AO.cells [.own (ptsD x.l),.own (pastD x.past)]) :: H)) :
    ∀ s,s = nextRounds x o m 0 → XW Tryz.prog x43_L11 F ((b9,AO.cells (s.seen.map D.bool)) :: (b8,AO.cells s.p.dn) :: (b6,c6) :: (b3,AO.cells [.own (ptsD x.l),.own (pastD x.past)]) :: H) Q := by
  intro s0 hs0
  have hbig := big_eq
  have nx0 := nx
  obtain ⟨n39,n38,n36,n89,n69,n68⟩ := nx
  refine XW.loopK hm (fun F H' => ∃ (q : Nat) (s : Ns),q ≤ offices ∧ s = nextRounds x o m q ∧ Fr 139 [(1,.int .i64 offices),(2,.slc (ints m)),(3,.ptr b3 0),(6,.ptr b6 0),(7,.int .i64 o),(8,.ptr b8 0),(9,.hsl b9 n),(10,.int .i64 (q : Int))] F ∧ ((b9,AO.cells (s.seen.map D.bool)) :: (b8,AO.cells s.p.dn) :: (b6,c6) :: (b3,AO.cells [.own (ptsD x.l),.own (pastD x.past)]) :: H) = H') (fun F H => match F.getD 10 .any with | .int _ n' => offices - n'.toNat | _ => 0) ⟨0,s0,by omega,hs0,hF,rfl⟩ ?_
  clear hF hs0 s0
  rintro _ _ ⟨q,s,hq,hs,hF,rfl⟩ K hN hE' hR
  obtain ⟨z,rfl⟩ : ∃ z : Nat → D,_ = z 0 :: .int .i64 offices :: .slc (ints m) :: .ptr b3 0 :: zz z 4 2 (.ptr b6 0 :: .int .i64 o :: .ptr b8 0 :: .hsl b9 n :: .int .i64 (q : Int) :: zz z 11 128 []) := hF.lit
  try dsimp only [zz,reduceAdd] at *
  clear hF hR
  by_cases hlt : q < offices
  · have nx : ∀ F' s2,s2 = nextRound x o m q s → Fr 139 [(1,.int .i64 offices),(2,.slc (ints m)),(3,.ptr b3 0),(6,.ptr b6 0),(7,.int .i64 o),(8,.ptr b8 0),(9,.hsl b9 n),(10,.int .i64 ((q + 1 : Nat) : Int))] F' → K .normal F' ((b9,AO.cells (s2.seen.map D.bool)) :: (b8,AO.cells s2.p.dn) :: (b6,c6) :: (b3,AO.cells [.own (ptsD x.l),.own (pastD x.past)]) :: H) := fun F' s2 h2 hF' => hN _ _ ⟨q + 1,s2,hlt,by rw [h2,hs]; rfl,hF',(back_0 rfl).symm⟩ (by
      rw [List.getD_eq_getElem?_getD,hF'.2.2.2.2.2.2.2.2.1]
      simp only [List.getD_cons_succ,List.getD_cons_zero,Option.getD_some]
      omega)
    clear hN hE' hE
    obtain ⟨g1,g2,g3,g4⟩ := rounds_needs (x := x) (o := o) (m := m) q
    rw [← hs] at g1 g2 g3 g4
    clear hs
    obtain ⟨r1,r2⟩ := lastTo_range (x := x) (q := q) x.l.length
    have hx : x.d = [.slc (ptsD x.l),.slc (pastD x.past)] := rfl
    have wq : IntKind.i64.wrap (1 + (q : Int)) = ((1 + q : Nat) : Int) := by rw [wrap_id (by omega) (by omega)]; omega
    have a0 := atOf_range (l := m) (i := 1 + q) (most := 4) (by omega)
    have k1 : ∀ j : Nat,((j : Int) < 0) = False := fun j => by simp
    simp +contextual only [Nat.mul_one,bl_set,pts_len,past_len,bools_len,refs_len,h_miss,h_skip,e_miss,n39,n38,n36,n89,n69,n68,x43,↓U43,↓XP,XW0,XW1,reduceSub,reduceAdd,reduceMul,reduceEqDiff,reduceLeDiff,Nat.reduceBEq,reduceCtorEq,TYX]
    refine ⟨fun _ => f_last (x := x) hb ?_,fun hge => absurd (by omega) hge⟩
    by_cases hk0 : last x q < 0
    · simp +contextual only [Nat.mul_one,bl_set,pts_len,past_len,bools_len,refs_len,h_miss,h_skip,e_miss,n39,n38,n36,n89,n69,n68,x43,hk0,wrap_succ (show q ≤ big by omega),↓U43,↓XP,XW0,XW1,reduceSub,reduceAdd,reduceMul,reduceEqDiff,reduceLeDiff,Nat.reduceBEq,reduceCtorEq,TYX]
      refine fun _ => nx _ s ?_ ⟨rfl,rfl,rfl,rfl,rfl,rfl,rfl,rfl,rfl,trivial⟩
      unfold nextRound
      simp only [if_pos (Or.inl hk0)]
    · obtain ⟨k,hk⟩ : ∃ k : Nat,last x q = k := ⟨(last x q).toNat,by omega⟩
      have hkl : k < x.l.length := by unfold last at hk; omega
      have hgo : ((q : Int) ≠ o → ¬ atOf m (1 + q) 4 = 1) → ∀ p2,p2 = (let pk := x.l.getD k default; let p1 := { s.p with day := max s.p.day pk.day }; if (q : Int) = o then { p1 with s := pk.s + 1 } else { p1 with needs := p1.needs ++ [⟨q,pk.s⟩] }) → nextRound x o m q s = ⟨p2,seenWith x s.seen k⟩ := by
        rintro h1 p2 rfl
        unfold nextRound
        simp only [hk,Int.toNat_natCast]
        rw [if_neg (fun h => h.elim (by omega) (fun h => h1 h.1 h.2))]
      have go : ((q : Int) ≠ o → ¬ atOf m (1 + q) 4 = 1) → ∀ F',Fr 139 [(1,.int .i64 offices),(2,.slc (ints m)),(3,.ptr b3 0),(6,.ptr b6 0),(7,.int .i64 o),(8,.ptr b8 0),(9,.hsl b9 n),(10,.int .i64 (q : Int)),(11,.int .i64 (k : Int)),(12,.int .i64 0)] F' → XW Tryz.prog x43_L2 F' ((b9,AO.cells (s.seen.map D.bool)) :: (b8,AO.cells s.p.dn) :: (b6,c6) :: (b3,AO.cells [.own (ptsD x.l),.own (pastD x.past)]) :: H) (blockQ 2 (seqQ Tryz.prog x43_s7 (blockQ 1 (seqQ Tryz.prog x43_s9 K)))) := fun hc F' hF' => by
        refine n_inner nx0 hkl hb hn (by omega) hp (hpk k hkl) hF' (fun F'' hF'' => ?_)
        simp only [q_blockE,bsel_t,beq_self_eq_true,q_seqN]
        refine n_mark nx0 hof hb hn (by omega) hkl (by omega) (by omega) hxs hfr hF'' (fun p2 hp2 F3 hF3 => ?_)
        obtain ⟨z,rfl⟩ : ∃ z : Nat → D,_ = z 0 :: .int .i64 offices :: .slc (ints m) :: .ptr b3 0 :: zz z 4 2 (.ptr b6 0 :: .int .i64 o :: .ptr b8 0 :: .hsl b9 n :: .int .i64 (q : Int) :: .int .i64 (k : Int) :: zz z 12 127 []) := hF3.lit
        try dsimp only [zz,reduceAdd] at *
        simp +contextual only [Nat.mul_one,bl_set,pts_len,past_len,bools_len,refs_len,h_miss,h_skip,e_miss,n39,n38,n36,n89,n69,n68,x43,wrap_succ (show q ≤ big by omega),↓U43,↓XP,XW0,XW1,reduceSub,reduceAdd,reduceMul,reduceEqDiff,reduceLeDiff,Nat.reduceBEq,reduceCtorEq,TYX]
        exact nx _ ⟨p2,seenWith x s.seen k⟩ (hgo hc p2 hp2).symm ⟨rfl,rfl,rfl,rfl,rfl,rfl,rfl,rfl,rfl,trivial⟩
      rw [hk]
      by_cases hqo : (q : Int) = o
      · subst hqo
        simp +contextual only [Nat.mul_one,bl_set,pts_len,past_len,bools_len,refs_len,h_miss,h_skip,e_miss,n39,n38,n36,n89,n69,n68,x43,k1,↓U43,↓XP,XW0,XW1,reduceSub,reduceAdd,reduceMul,reduceEqDiff,reduceLeDiff,Nat.reduceBEq,reduceCtorEq,TYX]
        exact fun _ => go (fun h => (h rfl).elim) _ ⟨rfl,rfl,rfl,rfl,rfl,rfl,rfl,rfl,rfl,rfl,rfl,trivial⟩
      · simp +contextual only [Nat.mul_one,bl_set,pts_len,past_len,bools_len,refs_len,h_miss,h_skip,e_miss,n39,n38,n36,n89,n69,n68,x43,k1,hqo,wq,↓U43,↓XP,XW0,XW1,reduceSub,reduceAdd,reduceMul,reduceEqDiff,reduceLeDiff,Nat.reduceBEq,reduceCtorEq,TYX]
        refine fun _ => f_at (i := 1 + q) (by omega) ?_
        by_cases ha : atOf m (1 + q) 4 = 1
        · simp +contextual only [Nat.mul_one,bl_set,pts_len,past_len,bools_len,refs_len,h_miss,h_skip,e_miss,n39,n38,n36,n89,n69,n68,x43,ha,wrap_succ (show q ≤ big by omega),↓U43,↓XP,XW0,XW1,reduceSub,reduceAdd,reduceMul,reduceEqDiff,reduceLeDiff,Nat.reduceBEq,reduceCtorEq,TYX]
          refine fun _ => nx _ s ?_ ⟨rfl,rfl,rfl,rfl,rfl,rfl,rfl,rfl,rfl,trivial⟩
          unfold nextRound
          simp only [if_pos (Or.inr (And.intro hqo ha))]
        · simp +contextual only [Nat.mul_one,bl_set,pts_len,past_len,bools_len,refs_len,h_miss,h_skip,e_miss,n39,n38,n36,n89,n69,n68,x43,ha,k1,↓U43,↓XP,XW0,XW1,reduceSub,reduceAdd,reduceMul,reduceEqDiff,reduceLeDiff,Nat.reduceBEq,reduceCtorEq,TYX]
          exact fun _ => go (fun _ => ha) _ ⟨rfl,rfl,rfl,rfl,rfl,rfl,rfl,rfl,rfl,rfl,rfl,trivial⟩
  · have hik : q = offices := by omega
    subst hik
    clear hN
    simp +contextual only [Nat.mul_one,bl_set,pts_len,past_len,bools_len,refs_len,h_miss,h_skip,e_miss,n39,n38,n36,n89,n69,n68,x43,↓U43,↓XP,XW0,XW1,reduceSub,reduceAdd,reduceMul,reduceEqDiff,reduceLeDiff,Nat.reduceBEq,reduceCtorEq,TYX]
    exact hE' _ _ _ (hE _ ⟨rfl,rfl,rfl,rfl,rfl,rfl,rfl,rfl,trivial⟩ s hs)
end Go.Proofs.YtoeckfegggongaaGreatDoor
end
section
namespace Go.Proofs.YtoeckfegggongaaGreatDoor
open Go Go.Aw
def OkOp (o : OpP) : Prop := o.k = 16 → o.ids.length = 2
structure More (p p' : Pt) (c : Nat) (more : List OpP) : Prop where
  eq : p' = { p with ops := p.ops ++ more }
  len : more.length ≤ c
  ok : ∀ o ∈ more,OkOp o
theorem More.refl (p : Pt) : More p p 0 [] := ⟨by simp,by simp,by simp⟩
theorem More.trans {p p' p'' : Pt} {c c' : Nat} {a b : List OpP} (h : More p p' c a) (g : More p' p'' c' b) : More p p'' (c + c') (a ++ b) := by
  refine ⟨?_,by have := h.len; have := g.len; rw [List.length_append]; omega,fun o ho => (List.mem_append.1 ho).elim (h.ok o) (g.ok o)⟩
  rw [g.eq,h.eq]
  simp only [List.append_assoc]
theorem More.le {p p' : Pt} {c c' : Nat} {a : List OpP} (h : More p p' c a) (hc : c ≤ c') : More p p' c' a := ⟨h.eq,Nat.le_trans h.len hc,h.ok⟩
theorem More.one (p : Pt) {o : OpP} (h : OkOp o) : More p (withOp p o) 1 [o] := ⟨rfl,by simp,fun x hx => by rw [List.mem_singleton.1 hx]; exact h⟩
theorem ok_of {o : OpP} (h : o.k ≠ 16) : OkOp o := fun h' => (h h').elim
theorem meaning_more (p : Pt) (on : Id3) (m : List Int) : ∃ more,More p (meaning p on m) 3 more := by
  unfold meaning
  simp only []
  have h1 := (More.one p (o := { op0 with k := 2,on := on,n := atOf m 2 5 }) (ok_of (by simp))).trans (More.one _ (o := { op0 with k := 7,on := nextId p,text := gloss (m.drop 3) }) (ok_of (by simp)))
  split
  · exact ⟨_,h1.le (by omega)⟩
  · exact ⟨_,h1.trans (More.one _ (ok_of (by simp)))⟩
theorem quoted_more (x : Gs) (seen : List Bool) (p : Pt) (sense : Id3) (m : List Int) : ∃ more,More p (quoted x seen p sense m) 2 more := by
  unfold quoted
  simp only []
  split
  · exact ⟨_,(More.one p (ok_of (by simp))).trans (More.one _ (ok_of (by simp)))⟩
  · exact ⟨_,(More.one p (ok_of (by simp))).le (by omega)⟩
theorem divided_more (p : Pt) (entry sense : Id3) (m : List Int) : ∃ more,More p (divided p entry sense m) 7 more := by
  unfold divided
  simp only []
  obtain ⟨a,h1⟩ := meaning_more p entry m
  obtain ⟨b,h2⟩ := meaning_more (meaning p entry m) entry (m.drop 1)
  exact ⟨_,(h1.trans h2).trans (More.one _ (fun _ => rfl))⟩
theorem small_ok {sense other : Id3} {n : Int} {m : List Int} : OkOp (small sense other n m) := by
  refine ok_of ?_
  unfold small
  repeat' split
  all_goals simp
theorem rest_more (p : Pt) (sense other : Id3) (n : Int) (m : List Int) : ∃ more,More p (stepRest p sense other n m) 1 more := ⟨_,More.one p small_ok⟩
theorem step_more (x : Gs) (seen : List Bool) (p : Pt) (m : List Int) : ∃ more,More p (step x seen p m) 7 more ∧ ((visible x seen p 2).length = 0 → ∃ o ∈ more,o.k = 1) := by
  have one : (visible x seen p 2).length ≠ 0 → ∀ {p' : Pt} {c : Nat},(∃ more,More p p' c more) → c ≤ 7 → ∃ more,More p p' 7 more ∧ ((visible x seen p 2).length = 0 → ∃ o ∈ more,o.k = 1) := fun hv p' c ⟨more,h⟩ hc => ⟨more,h.le hc,fun h => (hv h).elim⟩
  have w : ∀ {o : OpP},o.k ≠ 16 → ∃ more,More p (withOp p o) 1 more := fun h => ⟨_,More.one p (ok_of h)⟩
  unfold step
  dsimp only
  by_cases c0 : (visible x seen p 2).length = 0 ∨ atOf m 0 24 ≤ 5
  · rw [if_pos c0]
    obtain ⟨b,h2⟩ := meaning_more (withOp p { op0 with k := 1,name := cls5.getD (atN m 1 5) [],text := heads8.getD (atN m 2 8) [] }) (nextId p) (m.drop 3)
    exact ⟨_,((More.one p (ok_of (by show (1 : Int) ≠ 16; decide))).trans h2).le (by omega),fun _ => ⟨_,List.mem_append_left _ (List.mem_singleton.2 rfl),rfl⟩⟩
  · rw [if_neg c0]
    refine one (fun h => c0 (.inl h)) (c := 7) ?_ (by omega)
    have le : ∀ {p' : Pt} {c : Nat},(∃ more,More p p' c more) → c ≤ 7 → ∃ more,More p p' 7 more := fun ⟨more,h⟩ hc => ⟨more,h.le hc⟩
    generalize (visible x seen p 1).getD _ _ = entry
    generalize (visible x seen p 2).getD (atN m 1 _) _ = sense
    generalize (visible x seen p 2).getD (atN m 2 _) _ = other
    generalize atOf m 0 24 = n
    by_cases c1 : n = 6
    · rw [if_pos c1]; exact le (meaning_more _ _ _) (by omega)
    rw [if_neg c1]
    by_cases c2 : n = 7
    · rw [if_pos c2]; exact le (meaning_more _ _ _) (by omega)
    rw [if_neg c2]
    by_cases c3 : n = 8 ∨ n = 9
    · rw [if_pos c3]; exact le (quoted_more _ _ _ _ _) (by omega)
    rw [if_neg c3]
    by_cases c4 : n = 10
    · rw [if_pos c4]; exact le (divided_more _ _ _ _) (by omega)
    rw [if_neg c4]
    by_cases c5 : n = 11
    · rw [if_pos c5]
      by_cases d1 : other = sense
      · rw [if_pos d1]; exact le (rest_more _ _ _ _ _) (by omega)
      · rw [if_neg d1]; exact le (w (by show (17 : Int) ≠ 16; decide)) (by omega)
    rw [if_neg c5]
    by_cases c6 : n = 12
    · rw [if_pos c6]
      by_cases d1 : (splits x seen p).length = 0
      · rw [if_pos d1]; exact le (rest_more _ _ _ _ _) (by omega)
      · rw [if_neg d1]; exact le (w (by show (18 : Int) ≠ 16; decide)) (by omega)
    rw [if_neg c6]
    by_cases c7 : n = 13
    · rw [if_pos c7]
      by_cases d1 : atOf m 2 2 = 0
      · rw [if_pos d1]; exact le (w (by show (5 : Int) ≠ 16; decide)) (by omega)
      · rw [if_neg d1]; exact le (w (by show (6 : Int) ≠ 16; decide)) (by omega)
    rw [if_neg c7]
    by_cases c8 : n = 14
    · rw [if_pos c8]
      by_cases d1 : (visible x seen p 3).length = 0
      · rw [if_pos d1]; exact le (rest_more _ _ _ _ _) (by omega)
      · rw [if_neg d1]; exact le (w (by show (11 : Int) ≠ 16; decide)) (by omega)
    rw [if_neg c8]
    exact le (rest_more _ _ _ _ _) (by omega)
theorem mem_visOne {p : Pt} {kind : Int} {ok : Bool} {i : Id3} : i ∈ visOne p kind ok ↔ ok = true ∧ ∃ k,k < p.ops.length ∧ (p.ops.getD k default).k = kind ∧ i = ⟨p.o,p.s,k⟩ := by
  unfold visOne
  rw [upto_mem]
  constructor
  · rintro ⟨k,hk,h⟩
    unfold visOps at h
    split at h
    · rename_i hc
      exact ⟨hc.1,k,hk,hc.2,List.mem_singleton.1 h⟩
    · cases h
  · rintro ⟨h1,k,hk,h2,h3⟩
    refine ⟨k,hk,?_⟩
    unfold visOps
    rw [if_pos ⟨h1,h2⟩,h3]
    exact List.mem_singleton.2 rfl
theorem vis_one {p : Pt} {kind : Int} : (visOne p kind true).length ≠ 0 ↔ ∃ o ∈ p.ops,o.k = kind := by
  constructor
  · intro h
    obtain ⟨i,hi⟩ := List.exists_mem_of_length_pos (Nat.pos_of_ne_zero h)
    obtain ⟨_,k,hk,h2,_⟩ := mem_visOne.1 hi
    exact ⟨p.ops.getD k default,by rw [getD_lt hk]; exact List.getElem_mem hk,h2⟩
  · rintro ⟨o,ho,h2⟩ h
    obtain ⟨k,hk,rfl⟩ := List.mem_iff_getElem.1 ho
    have := List.eq_nil_of_length_eq_zero h ▸ (mem_visOne (p := p) (kind := kind) (ok := true) (i := ⟨p.o,p.s,k⟩)).2 ⟨rfl,k,hk,by rw [getD_lt hk]; exact h2,rfl⟩
    cases this
theorem vis_ne {x : Gs} {seen : List Bool} {p : Pt} {kind : Int} : (visible x seen p kind).length ≠ 0 ↔ (∃ i,i < x.l.length ∧ seen.getD i false = true ∧ ∃ o ∈ (x.l.getD i default).ops,o.k = kind) ∨ ∃ o ∈ p.ops,o.k = kind := by
  unfold visible
  rw [List.length_append,← vis_one]
  constructor
  · intro h
    by_cases hp : (visOne p kind true).length = 0
    · left
      obtain ⟨i,hi⟩ := List.exists_mem_of_length_pos (l := upto (fun i => visOne (x.l.getD i default) kind (seen.getD i false)) x.l.length) (by omega)
      obtain ⟨j,hj,h2⟩ := upto_mem.1 hi
      obtain ⟨h3,k,hk,h4,_⟩ := mem_visOne.1 h2
      exact ⟨j,hj,h3,(x.l.getD j default).ops.getD k default,by rw [getD_lt hk]; exact List.getElem_mem hk,h4⟩
    · exact .inr hp
  · rintro (⟨i,hi,hs,o,ho,h2⟩ | h)
    · obtain ⟨k,hk,rfl⟩ := List.mem_iff_getElem.1 ho
      have : (⟨(x.l.getD i default).o,(x.l.getD i default).s,k⟩ : Id3) ∈ upto (fun i => visOne (x.l.getD i default) kind (seen.getD i false)) x.l.length := upto_mem.2 ⟨i,hi,mem_visOne.2 ⟨hs,k,hk,by rw [getD_lt hk]; exact h2,rfl⟩⟩
      have := List.length_pos_of_mem this
      omega
    · omega
def Cl (x : Gs) (seen : List Bool) (n : Nat) : Prop := ∀ i,i < n → seen.getD i false = true → ∀ j,j < i → (x.past.getD i []).getD j false = true → seen.getD j false = true
structure GInv (x : Gs) : Prop where
  np : x.past.length = x.l.length
  pk : ∀ k,k < x.l.length → (x.past.getD k []).length = k
  sq : ∀ p ∈ x.l,0 ≤ p.s ∧ p.s ≤ x.l.length
  op : ∀ p ∈ x.l,p.ops.length ≤ 14
  dy : ∀ p ∈ x.l,1 ≤ p.day ∧ p.day ≤ 1 + 4 * x.l.length
  ne : ∀ p ∈ x.l,p.needs.length ≤ 10
  spl : ∀ p ∈ x.l,∀ o ∈ p.ops,OkOp o
  ent : ∀ i,i < x.l.length → (∃ o ∈ (x.l.getD i default).ops,o.k = 2) → ∃ j,(j = i ∨ (j < i ∧ (x.past.getD i []).getD j false = true)) ∧ ∃ o ∈ (x.l.getD j default).ops,o.k = 1
  cl : ∀ k,k < x.l.length → Cl x (x.past.getD k []) k
theorem GInv.nil : GInv ⟨[],[]⟩ := ⟨rfl,by simp,by simp,by simp,by simp,by simp,by simp,by simp,by simp⟩
theorem seenWith_get {x : Gs} {seen : List Bool} {k i : Nat} (h : i < seen.length) : (seenWith x seen k).getD i false = if i = k then true else if i < k then seen.getD i false || (x.past.getD k []).getD i false else seen.getD i false := by
  simp [seenWith,h]
theorem cl_with {x : Gs} (hx : GInv x) {seen : List Bool} (hl : seen.length = x.l.length) {k : Nat} (hk : k < x.l.length) (h : Cl x seen x.l.length) : Cl x (seenWith x seen k) x.l.length := by
  intro i hi h1 j hj h2
  rw [seenWith_get (by omega)] at h1 ⊢
  by_cases hjk : j = k
  · rw [if_pos hjk]
  · rw [if_neg hjk]
    by_cases hik : i = k
    · subst hik
      rw [if_pos hj,h2,Bool.or_true]
    · rw [if_neg hik] at h1
      by_cases hik' : i < k
      · rw [if_pos hik',Bool.or_eq_true] at h1
        rw [if_pos (by omega),Bool.or_eq_true]
        rcases h1 with h1 | h1
        · exact .inl (h i hi h1 j hj h2)
        · exact .inr (hx.cl k hk i hik' h1 j hj h2)
      · rw [if_neg hik'] at h1
        have := h i hi h1 j hj h2
        split
        · rw [this,Bool.true_or]
        · exact this
theorem rounds_inv {x : Gs} (hx : GInv x) {o : Int} {m : List Int} : ∀ q,Cl x (nextRounds x o m q).seen x.l.length ∧ 0 ≤ (nextRounds x o m q).p.s ∧ (nextRounds x o m q).p.s ≤ x.l.length + 1 ∧ 1 ≤ (nextRounds x o m q).p.day ∧ (nextRounds x o m q).p.day ≤ 1 + 4 * x.l.length
  | 0 => by
    refine ⟨fun i hi h1 => ?_,by simp only [nextRounds]; omega,by simp only [nextRounds]; omega,by simp only [nextRounds]; omega,by simp only [nextRounds]; omega⟩
    simp only [nextRounds] at h1
    rw [List.getD_eq_getElem?_getD,List.getElem?_replicate] at h1
    split at h1 <;> cases h1
  | q + 1 => by
    obtain ⟨h1,h2,h3,h5,h6⟩ := rounds_inv hx (o := o) (m := m) q
    obtain ⟨_,_,_,h4⟩ := rounds_needs (x := x) (o := o) (m := m) q
    obtain ⟨r1,r2⟩ := lastTo_range (x := x) (q := q) x.l.length
    simp only [nextRounds]
    generalize nextRounds x o m q = s at h1 h2 h3 h4 h5 h6 ⊢
    unfold nextRound
    simp only []
    split
    · exact ⟨h1,h2,h3,h5,h6⟩
    · rename_i hc
      have hk : (last x q).toNat < x.l.length := by
        unfold last at hc ⊢
        have : ¬ lastTo x q x.l.length < 0 := fun h => hc (.inl h)
        omega
      have hd := hx.dy (x.l.getD (last x q).toNat default) (by rw [getD_lt hk]; exact List.getElem_mem hk)
      have hs := hx.sq (x.l.getD (last x q).toNat default) (by rw [getD_lt hk]; exact List.getElem_mem hk)
      refine ⟨cl_with hx h4 hk h1,?_⟩
      split
      · exact ⟨by simp only []; omega,by simp only []; omega,by simp only []; omega,by simp only []; omega⟩
      · exact ⟨h2,h3,by simp only []; omega,by simp only []; omega⟩
def VOk (x : Gs) (seen : List Bool) (p : Pt) : Prop := (visible x seen p 2).length ≠ 0 → (visible x seen p 1).length ≠ 0
theorem VOk.step {x : Gs} {seen : List Bool} {p : Pt} (h : VOk x seen p) (m : List Int) : VOk x seen (step x seen p m) := by
  obtain ⟨more,h1,h2⟩ := step_more x seen p m
  generalize Go.Proofs.YtoeckfegggongaaGreatDoor.step x seen p m = p' at h1 ⊢
  intro _
  by_cases hv : (visible x seen p 2).length = 0
  · obtain ⟨o,ho,hk⟩ := h2 hv
    exact vis_ne.2 (.inr ⟨o,by rw [h1.eq]; exact List.mem_append_right _ ho,hk⟩)
  · rcases vis_ne.1 (h hv) with h3 | ⟨o,ho,hk⟩
    · exact vis_ne.2 (.inl h3)
    · exact vis_ne.2 (.inr ⟨o,by rw [h1.eq]; exact List.mem_append_left _ ho,hk⟩)
theorem VOk.base {x : Gs} (hx : GInv x) {seen : List Bool} (hc : Cl x seen x.l.length) {p : Pt} (hp : p.ops = []) : VOk x seen p := by
  intro h
  rcases vis_ne.1 h with ⟨i,hi,hs,o,ho,hk⟩ | ⟨o,ho,_⟩
  · obtain ⟨j,hj,h1⟩ := hx.ent i hi ⟨o,ho,hk⟩
    rcases hj with rfl | ⟨hj,h2⟩
    · exact vis_ne.2 (.inl ⟨j,hi,hs,h1⟩)
    · exact vis_ne.2 (.inl ⟨j,by omega,hc i hi hs j hj h2,h1⟩)
  · rw [hp] at ho; cases ho
theorem steps_inv {x : Gs} {seen : List Bool} {p : Pt} {m : List Int} (hp : p.ops = []) (hv : VOk x seen p) : ∀ i,∃ more,More p (nextSteps x seen p m i) (7 * i) more ∧ VOk x seen (nextSteps x seen p m i)
  | 0 => ⟨[],More.refl p,hv⟩
  | i + 1 => by
    obtain ⟨a,h1,h2⟩ := steps_inv (m := m) hp hv i
    obtain ⟨b,h3,_⟩ := step_more x seen (nextSteps x seen p m i) (m.drop (6 + 13 * i))
    exact ⟨_,(h1.trans h3).le (by omega),h2.step _⟩
theorem splits_ok {x : Gs} (hx : GInv x) {seen : List Bool} {p : Pt} (hp : ∀ o ∈ p.ops,OkOp o) : ∀ o ∈ splits x seen p,o.ids.length = 2 := by
  have one : ∀ {q : Pt} {ok : Bool},(∀ o ∈ q.ops,OkOp o) → ∀ o ∈ splOne q ok,o.ids.length = 2 := by
    intro q ok hq o ho
    unfold splOne at ho
    obtain ⟨k,hk,h⟩ := upto_mem.1 ho
    unfold splOps at h
    split at h
    · rename_i hc
      rw [List.mem_singleton.1 h]
      exact hq _ (by rw [getD_lt hk]; exact List.getElem_mem hk) hc.2
    · cases h
  intro o ho
  unfold splits at ho
  rcases List.mem_append.1 ho with h | h
  · obtain ⟨i,hi,h⟩ := upto_mem.1 h
    exact one (hx.spl _ (by rw [getD_lt hi]; exact List.getElem_mem hi)) o h
  · exact one hp o h
theorem nextP_inv {x : Gs} (hx : GInv x) {offices : Nat} (hof : offices ≤ 10) {m : List Int} : ∃ more,More { (nextRounds x (atOf m 0 offices) m offices).p with day := (nextRounds x (atOf m 0 offices) m offices).p.day + atOf m 4 4 } (nextSteps x (nextRounds x (atOf m 0 offices) m offices).seen { (nextRounds x (atOf m 0 offices) m offices).p with day := (nextRounds x (atOf m 0 offices) m offices).p.day + atOf m 4 4 } m (1 + atN m 5 2)) 14 more ∧
    VOk x (nextRounds x (atOf m 0 offices) m offices).seen (nextSteps x (nextRounds x (atOf m 0 offices) m offices).seen { (nextRounds x (atOf m 0 offices) m offices).p with day := (nextRounds x (atOf m 0 offices) m offices).p.day + atOf m 4 4 } m (1 + atN m 5 2)) := by
  obtain ⟨h1,h2,h3,h5,h6⟩ := rounds_inv hx (o := atOf m 0 offices) (m := m) offices
  obtain ⟨g1,g2,g3,g4⟩ := rounds_needs (x := x) (o := atOf m 0 offices) (m := m) offices
  generalize nextRounds x (atOf m 0 offices) m offices = s at h1 h2 h3 g1 g2 g3 g4 ⊢
  have a5 := atOf_range (l := m) (i := 5) (most := 2) (by omega)
  have hn : 7 * (1 + atN m 5 2) ≤ 14 := by unfold atN; omega
  obtain ⟨more,e1,e2⟩ := steps_inv (x := x) (seen := s.seen) (p := { s.p with day := s.p.day + atOf m 4 4 }) (m := m) g2 (VOk.base hx h1 g2) (1 + atN m 5 2)
  exact ⟨more,e1.le hn,e2⟩
theorem getD_app {α : Type} {l : List α} {a d : α} {i : Nat} (h : i < l.length) : (l ++ [a]).getD i d = l.getD i d := by
  simp [List.getD_eq_getElem?_getD,List.getElem?_append_left h]
theorem getD_end {α : Type} {l : List α} {a d : α} {i : Nat} (h : i = l.length) : (l ++ [a]).getD i d = a := by
  subst h; simp
theorem GInv.next {x : Gs} (hx : GInv x) {offices : Nat} (hof : offices ≤ 10) (m : List Int) : GInv (next x offices m) := by
  obtain ⟨more,e1,e2⟩ := nextP_inv hx hof (m := m)
  obtain ⟨h1,h2,h3,h5,h6⟩ := rounds_inv hx (o := atOf m 0 offices) (m := m) offices
  obtain ⟨g1,g2,g3,g4⟩ := rounds_needs (x := x) (o := atOf m 0 offices) (m := m) offices
  unfold Go.Proofs.YtoeckfegggongaaGreatDoor.next
  simp only []
  generalize nextSteps x _ _ m _ = p at e1 e2 ⊢
  generalize nextRounds x (atOf m 0 offices) m offices = s at h1 h2 h3 h5 h6 g1 g2 g3 g4 e1 e2 ⊢
  have a4 := atOf_range (l := m) (i := 4) (most := 4) (by omega)
  have pd : p.day = s.p.day + atOf m 4 4 := by rw [e1.eq]
  have hps : p.s = s.p.s ∧ p.needs = s.p.needs ∧ p.ops = more := by rw [e1.eq]; exact ⟨rfl,rfl,by simp only [g2,List.nil_append]⟩
  obtain ⟨p1,p2,p3⟩ := hps
  have hlen := e1.len
  have mem : ∀ {P : Pt → Prop},(∀ q ∈ x.l,P q) → P p → ∀ q ∈ x.l ++ [p],P q := fun hq hp q hm => (List.mem_append.1 hm).elim (hq q) (fun h => by rw [List.mem_singleton.1 h]; exact hp)
  refine ⟨by simp [hx.np],fun k hk => ?_,?_,mem hx.op (by rw [p3]; omega),?_,mem hx.ne (by rw [p2]; omega),mem hx.spl (by rw [p3]; exact e1.ok),fun i hi => ?_,fun k hk => ?_⟩
  · simp only [List.length_append,List.length_cons,List.length_nil] at hk
    by_cases h : k < x.l.length
    · rw [getD_app (by rw [hx.np]; exact h)]; exact hx.pk k h
    · have hkn : k = x.past.length := by rw [hx.np]; omega
      rw [getD_end hkn,g4,hkn,hx.np]
  · refine mem (fun q hq => ?_) ?_
    · have := hx.sq q hq
      simp only [List.length_append,List.length_cons,List.length_nil]
      omega
    · simp only [List.length_append,List.length_cons,List.length_nil]
      omega
  · refine mem (fun q hq => ?_) ?_
    · have := hx.dy q hq
      simp only [List.length_append,List.length_cons,List.length_nil]
      omega
    · simp only [List.length_append,List.length_cons,List.length_nil]
      omega
  · simp only [List.length_append,List.length_cons,List.length_nil] at hi
    by_cases h : i < x.l.length
    · rw [getD_app h,getD_app (by rw [hx.np]; exact h)]
      intro he
      obtain ⟨j,hj,h4⟩ := hx.ent i h he
      refine ⟨j,hj,?_⟩
      rw [getD_app (by rcases hj with rfl | hj <;> omega)]
      exact h4
    · have hin : i = x.l.length := by omega
      subst hin
      rw [getD_end rfl,getD_end hx.np.symm]
      intro he
      rcases vis_ne.1 (e2 (vis_ne.2 (.inr he))) with ⟨j,hj,hs,h4⟩ | h4
      · exact ⟨j,.inr ⟨hj,hs⟩,by rw [getD_app hj]; exact h4⟩
      · exact ⟨_,.inl rfl,by rw [getD_end rfl]; exact h4⟩
  · simp only [List.length_append,List.length_cons,List.length_nil] at hk
    intro i hi h4 j hj h5
    simp only at h4 h5 ⊢
    by_cases h : k < x.l.length
    · rw [getD_app (by rw [hx.np]; exact h)] at h4 ⊢
      rw [getD_app (by rw [hx.np]; omega)] at h5
      exact hx.cl k h i hi h4 j hj h5
    · have hkn : k = x.l.length := by omega
      subst hkn
      rw [getD_end hx.np.symm] at h4 ⊢
      rw [getD_app (by rw [hx.np]; exact hi)] at h5
      exact h1 i hi h4 j hj h5
end Go.Proofs.YtoeckfegggongaaGreatDoor
end
