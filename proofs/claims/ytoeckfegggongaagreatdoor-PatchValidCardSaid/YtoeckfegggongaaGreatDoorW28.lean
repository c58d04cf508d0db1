/- A part of the proof of what the last text says: Gq1, Gr6, Gq2, Gq6, Gt7, Gr7. Conditions: those in each theorem. -/
import Derived.Test.YtoeckfegggongaaGreatDoorW27
set_option linter.unusedVariables false
set_option linter.unusedSimpArgs false
set_option maxRecDepth 100000
set_option maxHeartbeats 16000000
open Nat (reduceSub reduceAdd reduceMul reduceEqDiff reduceLeDiff)
section
namespace Go.Proofs.YtoeckfegggongaaGreatDoor
open Go Go.Aw
def sml (n : Int) : Prop := -2000000 ≤ n ∧ n ≤ 2000000
theorem sml_in {n : Int} (h : sml n) : inR .i64 n := by
  rw [inR_i64]
  unfold sml at h
  omega
theorem okid_sml {x : Id3} (h : OkId x ∨ x = id0) : sml x.o ∧ sml x.s ∧ sml x.i := by
  unfold sml
  rcases h with h | h
  · unfold OkId at h; omega
  · subst h; simp [id0]
theorem uses_k {k : Int} (h : uses k ≠ []) : 1 ≤ k ∧ k ≤ 18 := by
  refine Classical.byContradiction fun hc => h ?_
  unfold uses
  repeat rw [if_neg (by omega)]
theorem vop_nums {o : OpP} (h : VOp o) : (∀ x ∈ opNums o,sml x) ∧ (∀ x ∈ o.ids,sml x.o ∧ sml x.s ∧ sml x.i) ∧ o.ids.length ≤ 4 ∧ o.name.length ≤ 16 ∧ o.text.length ≤ 1024 := by
  obtain ⟨⟨h1,h2,h3,h4,h5⟩,⟨g1,g2,g3,g4⟩,⟨i1,i2,i3,i4⟩,⟨j1,j2⟩,_⟩ := h
  have hk := uses_k h1
  have hon : OkId o.on ∨ o.on = id0 := by
    by_cases c : 79 ∈ uses o.k
    · exact .inl (h2 c)
    · exact .inr (h3 c)
  have hto : OkId o.to ∨ o.to = id0 := by
    by_cases c : 84 ∈ uses o.k
    · exact .inl (h4 c)
    · exact .inr (h5 c)
  have hil : o.ids.length ≤ 4 := by
    by_cases c : 73 ∈ uses o.k
    · obtain ⟨_,_,c3,c4⟩ := g3 c
      by_cases c5 : o.k = 18
      · have := c3 c5; omega
      · exact (c4 c5).2
    · rw [g4 c]; simp
  have hids : ∀ x ∈ o.ids,sml x.o ∧ sml x.s ∧ sml x.i := by
    intro x hx
    by_cases c : 73 ∈ uses o.k
    · exact okid_sml (.inl ((g3 c).1 x hx).1)
    · rw [g4 c] at hx; simp at hx
  have hn : sml o.n := by
    by_cases c : 78 ∈ uses o.k
    · obtain ⟨c1,c2⟩ := g1 c
      unfold numLow at c1
      unfold numHigh at c2
      unfold sml
      constructor
      · split at c1 <;> omega
      · repeat' (split at c2)
        all_goals omega
    · rw [g2 c]; unfold sml; omega
  have hab : sml o.a ∧ sml o.b := by
    unfold sml
    by_cases c : 83 ∈ uses o.k
    · have := j1 c; unfold OkSpan at this; omega
    · have := j2 c; omega
  have hk2 : sml o.k := by unfold sml; omega
  have a1 := okid_sml hon
  have a2 := okid_sml hto
  refine ⟨?_,hids,hil,?_,?_⟩
  · intro x hx
    simp only [opNums,id3,List.cons_append,List.nil_append,List.mem_cons,List.not_mem_nil,or_false] at hx
    rcases hx with rfl | rfl | rfl | rfl | rfl | rfl | rfl | rfl | rfl | rfl
    · exact hk2
    · exact a1.1
    · exact a1.2.1
    · exact a1.2.2
    · exact a2.1
    · exact a2.2.1
    · exact a2.2.2
    · exact hn
    · exact hab.1
    · exact hab.2
  · by_cases c : 65 ∈ uses o.k
    · exact (i1 c).2
    · rw [i2 c]; simp
  · by_cases c : 88 ∈ uses o.k
    · exact i3 c
    · rw [i4 c]; simp
def triple (l : List Int) (j : Nat) : Id3 := ⟨l.getD (3 * j) 0,l.getD (3 * j + 1) 0,l.getD (3 * j + 2) 0⟩
def triples (l : List Int) : List Id3 := (List.range (l.length / 3)).map (triple l)
def pair (l : List Int) (j : Nat) : Rf := ⟨l.getD (2 * j) 0,l.getD (2 * j + 1) 0⟩
def pairs (l : List Int) : List Rf := (List.range (l.length / 2)).map (pair l)
theorem triples_flat : ∀ (l : List Id3),triples (l.flatMap id3) = l
  | [] => rfl
  | x :: l => by
    have h := triples_flat l
    unfold triples at h ⊢
    rw [ids3_len] at h ⊢
    rw [show 3 * (x :: l).length / 3 = l.length + 1 by rw [List.length_cons]; omega,List.range_succ_eq_map,List.map_cons,List.map_map]
    rw [show 3 * l.length / 3 = l.length by omega] at h
    rw [show triple ((x :: l).flatMap id3) 0 = x from rfl]
    exact congrArg _ h
theorem pairs_flat : ∀ (l : List Rf),pairs (needNums l) = l
  | [] => rfl
  | x :: l => by
    have h := pairs_flat l
    unfold pairs at h ⊢
    rw [needs_len] at h ⊢
    rw [show 2 * (x :: l).length / 2 = l.length + 1 by rw [List.length_cons]; omega,List.range_succ_eq_map,List.map_cons,List.map_map]
    rw [show 2 * l.length / 2 = l.length by omega] at h
    rw [show pair (needNums (x :: l)) 0 = x from rfl]
    exact congrArg _ h
theorem rd_enc {l : List Int} {r : List UInt8} {many : Int} {by' : Nat} (h : ∀ x ∈ l,inR .i64 x) (hb : l.length ≤ 140737488355328) (hm : 0 ≤ many → (l.length : Int) = many) (hy : l.length % by' = 0) :
    rdBad (encInts l ++ r) false many by' = false ∧ rdL (encInts l ++ r) false many by' = l ∧ (encInts l ++ r).drop (decInts (encInts l ++ r)).2.1 = r := by
  have e := ints_enc (rest := r) h hb
  have e1 : rdBad (encInts l ++ r) false many by' = false := by
    unfold rdBad
    rw [e]
    simp [hy]
    exact hm
  refine ⟨e1,?_,?_⟩
  · unfold rdL
    rw [e1,e]
    rfl
  · rw [e]
    exact List.drop_left
def opOf (l : List Int) (ids : List Id3) (name text : List UInt8) : OpP := ⟨l.getD 0 0,⟨l.getD 1 0,l.getD 2 0,l.getD 3 0⟩,⟨l.getD 4 0,l.getD 5 0,l.getD 6 0⟩,ids,l.getD 7 0,name,text,l.getD 8 0,l.getD 9 0⟩
def decOpS (l m : List Int) (b2 : List UInt8) (x2 : Bool) : OpP × List UInt8 × Bool :=
  if (decStrs b2).1.length = 2 then (opOf l (triples m) ((decStrs b2).1.getD 0 []) ((decStrs b2).1.getD 1 []),b2.drop (decStrs b2).2.1,x2 || decide ((decStrs b2).2.2 ≠ 0))
  else (opOf l (triples m) [] [],b2.drop (decStrs b2).2.1,true)
def decOpM (l : List Int) (b1 : List UInt8) (x1 : Bool) : OpP × List UInt8 × Bool := decOpS l (rdL b1 x1 (-1) 3) (b1.drop (decInts b1).2.1) (rdBad b1 x1 (-1) 3)
def decOpI (b : List UInt8) (bad : Bool) : OpP × List UInt8 × Bool := decOpM (rdL b bad 10 1) (b.drop (decInts b).2.1) (rdBad b bad 10 1)
theorem op_enc {o : OpP} {r : List UInt8} (h : VOp o) : decOpI (encOp o ++ r) false = (o,r,false) := by
  obtain ⟨h1,h2,h3,h4,h5⟩ := vop_nums h
  have e : encOp o ++ r = encInts (opNums o) ++ (encInts (o.ids.flatMap id3) ++ (encStrs [o.name,o.text] ++ r)) := by simp only [encOp,List.append_assoc]
  have l10 : (opNums o).length = 10 := rfl
  obtain ⟨a1,a2,a3⟩ := rd_enc (l := opNums o) (r := encInts (o.ids.flatMap id3) ++ (encStrs [o.name,o.text] ++ r)) (many := 10) (by' := 1) (fun x hx => sml_in (h1 x hx)) (by omega) (fun _ => by rw [l10]; rfl) (by omega)
  have hi : ∀ x ∈ o.ids.flatMap id3,inR .i64 x := by
    intro x hx
    obtain ⟨y,hy,hx⟩ := List.mem_flatMap.1 hx
    have := h2 y hy
    simp only [id3,List.mem_cons,List.not_mem_nil,or_false] at hx
    rcases hx with rfl | rfl | rfl
    · exact sml_in this.1
    · exact sml_in this.2.1
    · exact sml_in this.2.2
  obtain ⟨b1,b2,b3⟩ := rd_enc (l := o.ids.flatMap id3) (r := encStrs [o.name,o.text] ++ r) (many := -1) (by' := 3) hi (by rw [ids3_len]; omega) (fun hc => by omega) (by rw [ids3_len]; omega)
  have s1 := strs_enc (l := [o.name,o.text]) (rest := r) (by
    intro x hx
    simp only [List.mem_cons,List.not_mem_nil,or_false] at hx
    rcases hx with rfl | rfl <;> omega) (by simp)
  unfold decOpI decOpM
  rw [e,a1,a2,a3,b1,b2,b3]
  unfold decOpS
  rw [s1,triples_flat]
  dsimp only
  rw [if_pos (by rfl),List.drop_left]
  rfl
def opsR : Nat → List UInt8 → Bool → List OpP × List UInt8 × Bool
  | 0,b,bad => ([],b,bad)
  | c + 1,b,bad => if bad = true then ([],b,bad) else ((decOpI b bad).1 :: (opsR c (decOpI b bad).2.1 (decOpI b bad).2.2).1,(opsR c (decOpI b bad).2.1 (decOpI b bad).2.2).2)
theorem opsR_enc : ∀ (l : List OpP) (r : List UInt8),(∀ o ∈ l,VOp o) → opsR l.length (l.flatMap encOp ++ r) false = (l,r,false)
  | [],r,_ => rfl
  | o :: l,r,h => by
    have e := op_enc (r := l.flatMap encOp ++ r) (h o (.head _))
    have e2 := opsR_enc l r (fun x hx => h x (.tail _ hx))
    rw [show (o :: l).flatMap encOp ++ r = encOp o ++ (l.flatMap encOp ++ r) by simp,List.length_cons]
    unfold opsR
    rw [e]
    dsimp only
    rw [e2]
    rfl
def cntO (many : Int) : Nat := min many.toNat 17
def decPtS (l m : List Int) (ops : List OpP) (b4 : List UInt8) (x4 : Bool) : Pt × Bool := (⟨l.getD 0 0,l.getD 1 0,l.getD 2 0,pairs m,ops,(decBytes b4).1⟩,x4 || decide ((decBytes b4).2.2 ≠ 0))
def decPtO (l m : List Int) (b2 : List UInt8) (x2 : Bool) : Pt × Bool :=
  decPtS l m (opsR (cntO (decInt b2).1) (b2.drop (decInt b2).2.1) (x2 || decide ((decInt b2).2.2 ≠ 0))).1 (opsR (cntO (decInt b2).1) (b2.drop (decInt b2).2.1) (x2 || decide ((decInt b2).2.2 ≠ 0))).2.1 (opsR (cntO (decInt b2).1) (b2.drop (decInt b2).2.1) (x2 || decide ((decInt b2).2.2 ≠ 0))).2.2
def decPtM (l : List Int) (b1 : List UInt8) (x1 : Bool) : Pt × Bool := decPtO l (rdL b1 x1 (-1) 2) (b1.drop (decInts b1).2.1) (rdBad b1 x1 (-1) 2)
def decPtI (b : List UInt8) : Pt × Bool := decPtM (rdL b false 3 1) (b.drop (decInts b).2.1) (rdBad b false 3 1)
def Good (p : Pt) : Prop := encE p = 0
theorem good_parts {p : Pt} (h : Good p) : OkHead p ∧ p.needs.length ≤ 8 ∧ p.ops.length ≤ 16 ∧ OkNeeds p ∧ OkOps p ∧ p.sl.length ≤ 1200 := by
  unfold Good encE at h
  by_cases c : validE p = 0
  · rw [if_neg (fun d => d c)] at h
    have hs : p.sl.length ≤ 1200 := by
      split at h
      · simp at h
      · omega
    unfold validE at c
    by_cases c1 : OkHead p
    · rw [if_neg (fun d => d c1)] at c
      by_cases c2 : 8 < p.needs.length ∨ 16 < p.ops.length
      · rw [if_pos c2] at c; simp at c
      rw [if_neg c2] at c
      by_cases c3 : p.ops = []
      · rw [if_pos c3] at c; simp at c
      rw [if_neg c3] at c
      by_cases c4 : OkNeeds p
      · rw [if_neg (fun d => d c4)] at c
        by_cases c5 : OkOps p
        · exact ⟨c1,by omega,by omega,c4,c5,hs⟩
        · rw [if_pos c5] at c; simp at c
      · rw [if_pos c4] at c; simp at c
    · rw [if_pos c1] at c; simp at c
  · rw [if_pos c] at h; exact (c h).elim
theorem pt_enc {p : Pt} (h : Good p) : decPtI (encPt p) = (p,false) := by
  obtain ⟨h1,h2,h3,h4,h5,h6⟩ := good_parts h
  unfold OkHead at h1
  have e : encPt p = encInts [p.o,p.s,p.day] ++ (encInts (needNums p.needs) ++ (encInt p.ops.length ++ (p.ops.flatMap encOp ++ (encBytes p.sl ++ [])))) := by simp only [encPt,List.append_assoc,List.append_nil]
  obtain ⟨a1,a2,a3⟩ := rd_enc (l := [p.o,p.s,p.day]) (r := encInts (needNums p.needs) ++ (encInt p.ops.length ++ (p.ops.flatMap encOp ++ (encBytes p.sl ++ [])))) (many := 3) (by' := 1) (by
    intro x hx
    simp only [List.mem_cons,List.not_mem_nil,or_false] at hx
    rw [inR_i64]
    rcases hx with rfl | rfl | rfl <;> omega) (by simp) (fun _ => rfl) (by simp)
  obtain ⟨b1,b2,b3⟩ := rd_enc (l := needNums p.needs) (r := encInt p.ops.length ++ (p.ops.flatMap encOp ++ (encBytes p.sl ++ []))) (many := -1) (by' := 2) (by
    intro x hx
    obtain ⟨y,hy,hx⟩ := List.mem_flatMap.1 hx
    obtain ⟨i,hi,hy⟩ := List.getElem_of_mem hy
    have hv := h4 i hi
    unfold OkNeedAt at hv
    rw [getD_lt hi,hy] at hv
    simp only [List.mem_cons,List.not_mem_nil,or_false] at hx
    rw [inR_i64]
    rcases hx with rfl | rfl <;> omega) (by rw [needs_len]; omega) (fun hc => by omega) (by rw [needs_len]; omega)
  have c1 := dec_enc (m := (p.ops.length : Int)) (rest := p.ops.flatMap encOp ++ (encBytes p.sl ++ [])) (nat_in (by omega))
  have d1 := opsR_enc p.ops (encBytes p.sl ++ []) h5
  have f1 := bytes_enc (s := p.sl) (rest := []) (by omega)
  unfold decPtI decPtM
  rw [e,a1,a2,a3,b1,b2,b3]
  unfold decPtO
  rw [c1,show cntO ((p.ops.length : Int),(encInt (p.ops.length : Int)).length,(0 : Int)).1 = p.ops.length by simp [cntO]; omega,List.drop_left]
  rw [show (false || decide (((p.ops.length : Int),(encInt (p.ops.length : Int)).length,(0 : Int)).2.2 ≠ 0)) = false from rfl,d1]
  unfold decPtS
  rw [f1,pairs_flat]
  rfl
noncomputable def decodeI (b : List UInt8) : Pt × Int := open Classical in if (decPtI b).2 = false ∧ encE (decPtI b).1 = 0 ∧ encPt (decPtI b).1 = b then ((decPtI b).1,0) else (pt0,2)
theorem decode_good {p : Pt} (h : Good p) : decodeI (encPt p) = (p,0) := by
  unfold decodeI
  rw [pt_enc h,if_pos ⟨rfl,h,rfl⟩]
end Go.Proofs.YtoeckfegggongaaGreatDoor
end
section
namespace Go.Proofs.YtoeckfegggongaaGreatDoor
open Go Go.Aw
theorem r34 {args : List D} {H : AH} {R : D → AH → Prop} (h : facts args → xcode Tryz.prog x34 (args ++ List.replicate (9 - args.length) (.tup [])) H (retR Tryz.prog [(.tmp 4)] R)) : ACall Tryz.prog 34 args H R :=
  xcall_bodyR hm Tryz.func34 rfl (by kernel_rfl) (by kernel_rfl) (by kernel_rfl) (by kernel_rfl) (by kernel_rfl) (by kernel_rfl) h
theorem f_chunk {fi : Nat} {xs : List (List D)} {k : Int} {H : AH} {R : D → AH → Prop} (hfi : fi = 64) (hk : 1 ≤ k) (h : ∀ b2 b3,freshH H b2 → (b2 ≠ b3 ∧ freshH H b3) → R (.fn fi [.ptr b2 0,.ptr b3 0]) ((b3,.cells [.int .i64 k]) :: (b2,.cells [.slc xs]) :: H)) : ACall Tryz.prog 34 [.slc xs,.int .i64 k] H R := by
  refine r34 fun hf => ?_
  subst hfi
  simp +contextual only [x34,q_retNR,q_retRR,k_resR,show (k < 1) = False from eq_false (by omega),↓U34,↓XP,XW0,XW1,reduceSub,reduceAdd,reduceMul,reduceEqDiff,reduceLeDiff,Nat.reduceBEq,reduceCtorEq,TYX]
  refine fun b2 h2 b3 h3 _ => ⟨_,Sbn.sub (List.Sublist.refl _),h b2 b3 h2 h3⟩
section
variable {l : List XO} {r : List (List XO × XO × Bool)} {dst : Option Tmp} {g : Option (Option (Tmp × Bool))} {tk ta fl : Bool} {t : TypeId} {ps : Array (Nat × Operand)}
theorem ao_b : alOf ((l,⟨.build t ps,dst,g,tk,ta⟩,fl) :: r) = alOf r := .trans rfl rfl
theorem ac_b : alCnt ((l,⟨.build t ps,dst,g,tk,ta⟩,fl) :: r) = 0 + alCnt r := .trans rfl rfl
theorem is_b : isAl (.build t ps) = false := .trans rfl rfl
end
theorem rdL_len {b : List UInt8} {bad : Bool} {m : Nat} : (rdL b bad (m : Int) 1).length = m := by
  unfold rdL
  split
  · simp
  · next h =>
    unfold rdBad at h
    simp at h
    omega
theorem rdL_by {b : List UInt8} {bad : Bool} {k : Nat} : (rdL b bad (-1) k).length % k = 0 := by
  unfold rdL
  split
  · simp
  · next h =>
    unfold rdBad at h
    simp at h
    exact h.2
theorem rdL_le {b : List UInt8} {bad : Bool} {k : Nat} : (rdL b bad (-1) k).length ≤ b.length := by
  unfold rdL
  split
  · simp
  · exact ints_le.2
theorem list_ten {l : List Int} (h : l.length = 10) : ∃ a0 a1 a2 a3 a4 a5 a6 a7 a8 a9,l = [a0,a1,a2,a3,a4,a5,a6,a7,a8,a9] := by
  match l,h with
  | [a0,a1,a2,a3,a4,a5,a6,a7,a8,a9],_ => exact ⟨_,_,_,_,_,_,_,_,_,_,rfl⟩
theorem chunk_3 {m : List Int} {j : Nat} (h3 : m.length % 3 = 0) (hj : j < cntK (ints m).length 3) : (chunkD (ints m) 3 j).length = 3 ∧ (chunkD (ints m) 3 j).getD 0 [] = [.int .i64 (triple m j).o] ∧ (chunkD (ints m) 3 j).getD 1 [] = [.int .i64 (triple m j).s] ∧ (chunkD (ints m) 3 j).getD 2 [] = [.int .i64 (triple m j).i] := by
  unfold cntK at hj
  rw [ints_len] at hj
  have hlt : j * 3 + 2 < m.length := by omega
  have hg : ∀ i,i < 3 → (chunkD (ints m) 3 j).getD i [] = [.int .i64 (m.getD (3 * j + i) 0)] := by
    intro i hi
    unfold chunkD
    rw [List.getD_eq_getElem?_getD,List.getElem?_take_of_lt hi,List.getElem?_drop,ints,List.getElem?_map,List.getElem?_eq_getElem (show j * 3 + i < m.length by omega)]
    rw [List.getD_eq_getElem?_getD,List.getElem?_eq_getElem (show 3 * j + i < m.length by omega)]
    simp only [Option.map_some,Option.getD_some,Nat.mul_comm j 3]
  refine ⟨?_,hg 0 (by omega),hg 1 (by omega),hg 2 (by omega)⟩
  unfold chunkD
  rw [List.length_take,List.length_drop,ints_len]
  omega
theorem cnt_3 {m : List Int} (h3 : m.length % 3 = 0) : cntK (ints m).length 3 = m.length / 3 := by
  unfold cntK
  rw [ints_len]
  omega
theorem f_op {b : List UInt8} {bad : Bool} {br : Nat} {H : AH} {R : D → AH → Prop} (hB : b.length ≤ 1000000000) (hg : getH H br = some (rdO b bad)) (h : R (.agg (decOpI b bad).1.d) (setH H br (rdO (decOpI b bad).2.1 (decOpI b bad).2.2))) : ACall Tryz.prog 37 [.ptr br 0] H R := by
  refine b37 fun hf => ?_
  have hbig := big_eq
  simp +contextual only [x37,bytesD_len,ints_len,ao_b,ac_b,is_b,↓U37,↓XP,XW0,XW1,reduceSub,reduceAdd,reduceMul,reduceEqDiff,reduceLeDiff,Nat.reduceBEq,reduceCtorEq,TYX]
  intro b2 h2
  have e2 : br ≠ b2 := fun e => by
    have := freshH_none h2
    rw [← e,hg] at this
    simp at this
  refine f_rdInts (b := b) (bad := bad) (many := ((10 : Nat) : Int)) (by' := 1) hB (by omega) (by omega) (by omega) (by rw [h_miss e2]; exact hg) fun d hd => ?_
  rw [h_skip e2]
  have hg1 : ∀ o,getH (setH H br o) br = some o := fun o => h_own (by rw [hg]; rfl)
  have hl := rdL_len (b := b) (bad := bad) (m := 10)
  obtain ⟨l,hl0⟩ : ∃ l,rdL b bad ((10 : Nat) : Int) 1 = l := ⟨_,rfl⟩
  obtain ⟨bad1,hbad1⟩ : ∃ x,rdBad b bad ((10 : Nat) : Int) 1 = x := ⟨_,rfl⟩
  obtain ⟨c1,hc1⟩ : ∃ x,b.drop (decInts b).2.1 = x := ⟨_,rfl⟩
  rw [hl0] at hl hd
  rw [hbad1,hc1]
  obtain ⟨a0,a1,a2,a3,a4,a5,a6,a7,a8,a9,rfl⟩ := list_ten hl
  have hB1 : c1.length ≤ 1000000000 := by rw [← hc1]; simp; omega
  clear hl
  obtain ⟨xs,hxs,hx10,x0,x1,x2,x3,x4,x5,x6,x7,x8,x9⟩ : ∃ xs,ints [a0,a1,a2,a3,a4,a5,a6,a7,a8,a9] = xs ∧ xs.length = 10 ∧ xs.getD 0 [] = [.int .i64 a0] ∧ xs.getD 1 [] = [.int .i64 a1] ∧ xs.getD 2 [] = [.int .i64 a2] ∧ xs.getD 3 [] = [.int .i64 a3] ∧ xs.getD 4 [] = [.int .i64 a4] ∧ xs.getD 5 [] = [.int .i64 a5] ∧ xs.getD 6 [] = [.int .i64 a6] ∧ xs.getD 7 [] = [.int .i64 a7] ∧ xs.getD 8 [] = [.int .i64 a8] ∧ xs.getD 9 [] = [.int .i64 a9] := ⟨_,rfl,rfl,rfl,rfl,rfl,rfl,rfl,rfl,rfl,rfl,rfl,rfl⟩
  rw [hxs] at hd
  simp +contextual only [x37,bytesD_len,ints_len,ao_b,ac_b,is_b,hd,hx10,x0,x1,x2,x3,x4,x5,x6,x7,x8,x9,show ((10 : Nat) : Int) = 10 from rfl,Int.reduceToNat,Int.reduceLE,Int.reduceLT,↓U37,↓XP,XW0,XW1,reduceSub,reduceAdd,reduceMul,reduceEqDiff,reduceLeDiff,Nat.reduceBEq,reduceCtorEq,TYX]
  refine fun _ _ _ _ _ _ _ _ _ _ _ b4 hb4 => ?_
  obtain ⟨h24,h4⟩ := hb4
  have e4 : br ≠ b4 := fun e => by
    have := freshH_none h4
    rw [← e,hg] at this
    simp at this
  rw [c_gh]
  refine Gz.take (j := 7) rfl (fun h => (h rfl).elim) ?_
  simp only [dropR,if_true]
  simp +contextual only [x37,bytesD_len,ints_len,ao_b,ac_b,is_b,↓U37,↓XP,XW0,XW1,reduceSub,reduceAdd,reduceMul,reduceEqDiff,reduceLeDiff,Nat.reduceBEq,reduceCtorEq,TYX]
  refine f_rdInts (b := c1) (bad := bad1) (many := -1) (by' := 3) hB1 (by omega) (by omega) (by omega) (by rw [h_miss e4,h_miss e2]; exact hg1 _) fun d2 hd2 => ?_
  rw [h_skip e4,h_skip e2,h_two]
  have hm3 := rdL_by (b := c1) (bad := bad1) (k := 3)
  have hml := rdL_le (b := c1) (bad := bad1) (k := 3)
  obtain ⟨m,hm0⟩ : ∃ m,rdL c1 bad1 (-1) ((3 : Nat) : Int).toNat = m := ⟨_,rfl⟩
  rw [show ((3 : Nat) : Int).toNat = 3 from rfl] at hm0
  obtain ⟨bad2,hbad2⟩ : ∃ x,rdBad c1 bad1 (-1) 3 = x := ⟨_,rfl⟩
  obtain ⟨c2,hc2⟩ : ∃ x,c1.drop (decInts c1).2.1 = x := ⟨_,rfl⟩
  have hB2 : c2.length ≤ 1000000000 := by rw [← hc2]; simp; omega
  rw [hm0] at hm3 hml hd2
  rw [hbad2,hc2]
  obtain ⟨fi,hfi⟩ : ∃ fi,fi = 64 := ⟨_,rfl⟩
  simp +contextual only [x37,bytesD_len,ints_len,ao_b,ac_b,is_b,hd2,↓U37,↓XP,XW0,XW1,reduceSub,reduceAdd,reduceMul,reduceEqDiff,reduceLeDiff,Nat.reduceBEq,reduceCtorEq,TYX]
  refine fun _ => f_chunk (fi := fi) hfi (by omega) fun bA bB hA hB' => ?_
  simp +contextual only [x37,bytesD_len,ints_len,ao_b,ac_b,is_b,↓U37,↓XP,XW0,XW1,reduceSub,reduceAdd,reduceMul,reduceEqDiff,reduceLeDiff,Nat.reduceBEq,reduceCtorEq,TYX]
  have hAB : bA ≠ bB := hB'.1
  refine XRF.chunkK hm (by rw [hfi]; exact it64) (p := 48) (t := 5) (k := 3) (xs := ints m) (b1 := bA) (b2 := bB) (f := fi) rfl (by show (48 : Nat) < 93; omega) (by rw [h_miss hAB]; exact h_hit) h_hit (by omega) (by omega) ints_1
    (fun pre H' => H' = ((b4,AO.cells [.int .i64 a0,.int .i64 a1,.int .i64 a2,.int .i64 a3,.int .i64 a4,.int .i64 a5,.int .i64 a6,.own (idsD (pre.map (triple m))),.int .i64 a7,.str [],.str [],.int .i64 a8,.int .i64 a9]) :: (b2,AO.cells [.int .i64 0,.int .i64 0,.int .i64 0,.int .i64 0,.int .i64 0,.int .i64 0,.int .i64 0,.own [],.int .i64 0,.str [],.str [],.int .i64 0,.int .i64 0]) :: setH H br (rdO c2 bad2)))
    _ (by rw [e_miss hAB,e_hit,e_hit]; exact Sbn.sub (List.Sublist.refl _)) rfl ?_ ?_
  · intro pre j H' hI hj hpl hfact K hK
    subst hI
    obtain ⟨y3,y0,y1,y2⟩ := chunk_3 hm3 hj
    rw [cnt_3 hm3] at hj hpl
    generalize chunkD (ints m) 3 j = ys at y3 y0 y1 y2 ⊢
    have nx := fun F' H'' => hK F' H'' _ (Sbn.sub (List.Sublist.refl _)) 
    clear hK
    rw [List.map_append,List.map_cons,List.map_nil,← ids_app] at nx
    have il : (idsD (pre.map (triple m))).length = pre.length := by simp [idsD]
    have hac := ids_3 (l := pre.map (triple m))
    generalize idsD (pre.map (triple m)) = acc at nx il hac ⊢
    generalize triple m j = tj at nx y0 y1 y2
    simp +contextual only [x37,bytesD_len,ints_len,ao_b,ac_b,is_b,y3,y0,y1,y2,hd,hd2,show ((3 : Nat) : Int) = 3 from rfl,Int.reduceToNat,Int.reduceLE,Int.reduceLT,↓U37,↓XP,XW0,XW1,reduceSub,reduceAdd,reduceMul,reduceEqDiff,reduceLeDiff,Nat.reduceBEq,reduceCtorEq,TYX]
    have n4 : getH ((b2,AO.cells [.int .i64 0,.int .i64 0,.int .i64 0,.int .i64 0,.int .i64 0,.int .i64 0,.int .i64 0,.own [],.int .i64 0,.str [],.str [],.int .i64 0,.int .i64 0]) :: setH H br (rdO c2 bad2)) b4 = none := by
      rw [h_miss (Ne.symm h24),h_oth (Ne.symm e4)]
      exact freshH_none h4
    exact ⟨n4,fun _ _ _ => ⟨hac,by omega,by omega,nx _ _ rfl⟩⟩
  · intro H' hI
    subst hI
    rw [cnt_3 hm3,show (List.range (m.length / 3)).map (triple m) = triples m from rfl]
    have hg5 : getH ((b4,AO.cells [.int .i64 a0,.int .i64 a1,.int .i64 a2,.int .i64 a3,.int .i64 a4,.int .i64 a5,.int .i64 a6,.own (idsD (triples m)),.int .i64 a7,.str [],.str [],.int .i64 a8,.int .i64 a9]) :: (b2,AO.cells [.int .i64 0,.int .i64 0,.int .i64 0,.int .i64 0,.int .i64 0,.int .i64 0,.int .i64 0,.own [],.int .i64 0,.str [],.str [],.int .i64 0,.int .i64 0]) :: setH H br (rdO c2 bad2)) br = some (rdO c2 bad2) := by
      rw [h_miss e4,h_miss e2]
      exact hg1 _
    have hg5' := hg5
    unfold rdO at hg5'
    simp +contextual only [x37,bytesD_len,ints_len,ao_b,ac_b,is_b,hd,hd2,hg5',rdO,↓U37,↓XP,XW0,XW1,reduceSub,reduceAdd,reduceMul,reduceEqDiff,reduceLeDiff,Nat.reduceBEq,reduceCtorEq,TYX]
    refine fun _ => f_wGetStrings hB2 ?_
    simp +contextual only [x37,bytesD_len,ints_len,ao_b,ac_b,is_b,hd,hd2,↓U37,↓XP,XW0,XW1,reduceSub,reduceAdd,reduceMul,reduceEqDiff,reduceLeDiff,Nat.reduceBEq,reduceCtorEq,TYX]
    refine fun _ _ _ => f_took (b := c2) (bad := bad2) strs_le.1 hg5 ?_
    rw [h_skip e4,h_skip e2,h_two]
    obtain ⟨ss,hss⟩ : ∃ s,decStrs c2 = s := ⟨_,rfl⟩
    rw [hss]
    obtain ⟨ss,kk,ee⟩ := ss
    dsimp only
    have sl : (strs ss).length = ss.length := strs_len
    have hp : decOpI b bad = decOpS [a0,a1,a2,a3,a4,a5,a6,a7,a8,a9] m c2 bad2 := by
      unfold decOpI decOpM
      rw [show rdL b bad 10 1 = _ from hl0,show rdBad b bad 10 1 = _ from hbad1,hc1,hm0,hc2,hbad2]
    rw [hp] at h
    clear hp
    unfold decOpS at h
    rw [hss] at h
    dsimp only at h
    by_cases c2l : ss.length = 2
    · have s0 := strs_get (l := ss) (i := 0) (by omega)
      have s1 := strs_get (l := ss) (i := 1) (by omega)
      have c2' : ((ss.length : Int) = 2) = True := eq_true (by omega)
      rw [if_pos c2l] at h
      have n4 : ∀ o,getH ((b2,AO.cells [.int .i64 0,.int .i64 0,.int .i64 0,.int .i64 0,.int .i64 0,.int .i64 0,.int .i64 0,.own [],.int .i64 0,.str [],.str [],.int .i64 0,.int .i64 0]) :: setH H br o) b4 = none := fun o => by
        rw [h_miss (Ne.symm h24),h_oth (Ne.symm e4)]
        exact freshH_none h4
      simp +contextual only [x37,bytesD_len,ints_len,ao_b,ac_b,is_b,hd,hd2,sl,c2',c2l,s0,s1,n4,h_miss h24,h_skip h24,show ((2 : Nat) : Int) = 2 from rfl,show (9 < 13) = True from eq_true (by omega),show (10 < 13) = True from eq_true (by omega),Int.reduceToNat,Int.reduceLE,Int.reduceLT,↓U37,↓XP,XW0,XW1,reduceSub,reduceAdd,reduceMul,reduceEqDiff,reduceLeDiff,Nat.reduceBEq,reduceCtorEq,TYX]
      exact fun _ _ _ => h
    · have c2' : ((ss.length : Int) = 2) = False := eq_false (by omega)
      rw [if_neg c2l] at h
      simp +contextual only [x37,bytesD_len,ints_len,ao_b,ac_b,is_b,hd,hd2,sl,c2',h_miss e4,h_miss e2,hg1,rdO,h_skip e4,h_skip e2,h_two,h_miss h24,h_skip h24,↓U37,↓XP,XW0,XW1,reduceSub,reduceAdd,reduceMul,reduceEqDiff,reduceLeDiff,Nat.reduceBEq,reduceCtorEq,TYX]
      exact fun _ => h
end Go.Proofs.YtoeckfegggongaaGreatDoor
end
section
namespace Go.Proofs.YtoeckfegggongaaGreatDoor
open Go Go.Aw
theorem goL_allB {α : Type} {f : List UInt8 → α × Nat × Int} {p : α → Prop} {B : Nat} (hf : ∀ b,b.length ≤ B → p (f b).1) : ∀ (n : Nat) (b : List UInt8),b.length ≤ B → ∀ x ∈ (goL f n b).1,p x
  | 0,b,_ => by simp [goL]
  | n + 1,b,hb => by
    have h2 := goL_allB hf n (b.drop (f b).2.1) (by simp; omega)
    unfold goL
    split
    · simp
    · split
      · simp
      · intro x hx
        rcases List.mem_cons.1 hx with rfl | hx
        · exact hf b hb
        · exact h2 x hx
theorem strs_all {b : List UInt8} {B : Nat} (hb : b.length ≤ B) : ∀ x ∈ (decStrs b).1,x.length ≤ B := by
  unfold decStrs decL
  split
  · simp
  · split
    · simp
    · exact goL_allB (f := decBytes) (p := fun x : List UInt8 => x.length ≤ B) (B := B) (fun b hb => Nat.le_trans bytes_sl hb) _ _ (by rw [List.length_drop]; omega)
theorem getDl_all {l : List (List UInt8)} {B i : Nat} (h : ∀ x ∈ l,x.length ≤ B) : (l.getD i []).length ≤ B := by
  rw [List.getD_eq_getElem?_getD]
  cases e : l[i]? with
  | none => simp
  | some x => exact h x (List.mem_of_getElem? e)
theorem op_le {b : List UInt8} {bad : Bool} {B : Nat} (hb : b.length ≤ B) : (decOpI b bad).1.ids.length ≤ B ∧ (decOpI b bad).1.name.length ≤ B ∧ (decOpI b bad).1.text.length ≤ B ∧ (decOpI b bad).2.1.length ≤ b.length := by
  unfold decOpI decOpM decOpS
  obtain ⟨c1,h1⟩ : ∃ x,b.drop (decInts b).2.1 = x := ⟨_,rfl⟩
  have l1 : c1.length ≤ b.length := by rw [← h1]; simp
  rw [h1]
  obtain ⟨c2,h2⟩ : ∃ x,c1.drop (decInts c1).2.1 = x := ⟨_,rfl⟩
  have l2 : c2.length ≤ c1.length := by rw [← h2]; simp
  rw [h2]
  have h3 := rdL_le (b := c1) (bad := rdBad b bad 10 1) (k := 3)
  have h4 : (triples (rdL c1 (rdBad b bad 10 1) (-1) 3)).length ≤ B := by unfold triples; rw [List.length_map,List.length_range]; omega
  have h5 := strs_all (b := c2) (B := B) (by omega)
  split
  · refine ⟨h4,getDl_all h5,getDl_all h5,?_⟩
    show (c2.drop _).length ≤ _
    rw [List.length_drop]
    omega
  · refine ⟨h4,Nat.zero_le _,Nat.zero_le _,?_⟩
    show (c2.drop _).length ≤ _
    rw [List.length_drop]
    omega
theorem opsR_le {B : Nat} : ∀ (c : Nat) (b : List UInt8) (bad : Bool),b.length ≤ B → (opsR c b bad).1.length ≤ c ∧ (opsR c b bad).2.1.length ≤ b.length ∧ ∀ o ∈ (opsR c b bad).1,o.ids.length ≤ B ∧ o.name.length ≤ B ∧ o.text.length ≤ B
  | 0,b,bad,hb => by simp [opsR]
  | c + 1,b,bad,hb => by
    unfold opsR
    split
    · simp
    · have h1 := op_le (b := b) (bad := bad) hb
      have h2 := opsR_le (B := B) c (decOpI b bad).2.1 (decOpI b bad).2.2 (by omega)
      refine ⟨by simp; exact h2.1,by dsimp only; omega,?_⟩
      intro o ho
      rcases List.mem_cons.1 ho with rfl | ho
      · exact ⟨h1.1,h1.2.1,h1.2.2.1⟩
      · exact h2.2.2 o ho
theorem list_three {l : List Int} (h : l.length = 3) : ∃ a0 a1 a2,l = [a0,a1,a2] := by
  match l,h with
  | [a0,a1,a2],_ => exact ⟨_,_,_,rfl⟩
theorem chunk_2 {m : List Int} {j : Nat} (h2 : m.length % 2 = 0) (hj : j < cntK (ints m).length 2) : (chunkD (ints m) 2 j).length = 2 ∧ (chunkD (ints m) 2 j).getD 0 [] = [.int .i64 (pair m j).o] ∧ (chunkD (ints m) 2 j).getD 1 [] = [.int .i64 (pair m j).s] := by
  unfold cntK at hj
  rw [ints_len] at hj
  have hlt : j * 2 + 1 < m.length := by omega
  have hg : ∀ i,i < 2 → (chunkD (ints m) 2 j).getD i [] = [.int .i64 (m.getD (2 * j + i) 0)] := by
    intro i hi
    unfold chunkD
    rw [List.getD_eq_getElem?_getD,List.getElem?_take_of_lt hi,List.getElem?_drop,ints,List.getElem?_map,List.getElem?_eq_getElem (show j * 2 + i < m.length by omega)]
    rw [List.getD_eq_getElem?_getD,List.getElem?_eq_getElem (show 2 * j + i < m.length by omega)]
    simp only [Option.map_some,Option.getD_some,Nat.mul_comm j 2]
  refine ⟨?_,hg 0 (by omega),hg 1 (by omega)⟩
  unfold chunkD
  rw [List.length_take,List.length_drop,ints_len]
  omega
theorem cnt_2 {m : List Int} (h2 : m.length % 2 = 0) : cntK (ints m).length 2 = m.length / 2 := by
  unfold cntK
  rw [ints_len]
  omega
theorem f_equal {a b : List UInt8} {H : AH} {R : D → AH → Prop} (h : R (.bool (decide (a = b))) H) : ACall Tryz.prog 39 [.slc (a.map byteD),.slc (b.map byteD)] H R := by
  refine b39 fun hf => ?_
  simp +contextual only [x39,unbyteD,↓u39_s0,↓XP,XW0,XW1,reduceSub,reduceAdd,reduceMul,reduceEqDiff,reduceLeDiff,Nat.reduceBEq,reduceCtorEq,TYX]
  exact ⟨isByteD,fun _ => ⟨isByteD,fun _ => h⟩⟩
end Go.Proofs.YtoeckfegggongaaGreatDoor
end
section
namespace Go.Proofs.YtoeckfegggongaaGreatDoor
open Go Go.Aw
theorem enc_sml {n : Int} (h : sml n) : (encInt n).length ≤ 4 := by
  have : (digs (mag n)).length ≤ 3 := digs_len 3 _ (by unfold sml at h; unfold mag; split <;> omega)
  simp only [encInt,List.length_cons,List.length_map,List.length_reverse]
  omega
theorem flat_sml : ∀ {l : List Int},(∀ x ∈ l,sml x) → (l.flatMap encInt).length ≤ 4 * l.length
  | [],_ => by simp
  | x :: r,h => by
    have h1 := enc_sml (h x (.head _))
    have h2 := flat_sml (l := r) (fun y hy => h y (.tail _ hy))
    simp only [List.flatMap_cons,List.length_append,List.length_cons]
    omega
theorem ints_sml {l : List Int} (h : ∀ x ∈ l,sml x) (hl : l.length ≤ 1000) : (encInts l).length ≤ 4 + 4 * l.length := by
  have h1 := flat_sml h
  have h2 := enc_sml (n := (l.length : Int)) (by unfold sml; omega)
  simp only [encInts,List.length_append]
  omega
theorem op_sml {o : OpP} (h : TOp o) : (encOp o).length ≤ 200 := by
  obtain ⟨h1,h2,h3,h4,h5⟩ := vop_nums h.v
  have h6 := h.tx
  have e1 := ints_sml (l := opNums o) h1 (by show (10 : Nat) ≤ 1000; omega)
  have e2 := ints_sml (l := o.ids.flatMap id3) (by
    intro x hx
    obtain ⟨y,hy,hx⟩ := List.mem_flatMap.1 hx
    have := h2 y hy
    simp only [id3,List.mem_cons,List.not_mem_nil,or_false] at hx
    rcases hx with rfl | rfl | rfl
    · exact this.1
    · exact this.2.1
    · exact this.2.2) (by rw [ids3_len]; omega)
  have e3 := enc_sml (n := (o.name.length : Int)) (by unfold sml; omega)
  have e4 := enc_sml (n := (o.text.length : Int)) (by unfold sml; omega)
  have e5 := enc_sml (n := ((2 : Nat) : Int)) (by unfold sml; omega)
  rw [show (opNums o).length = 10 from rfl] at e1
  rw [ids3_len] at e2
  simp only [encOp,encStrs,encBytes,List.length_append,List.flatMap_cons,List.flatMap_nil,List.length_cons,List.length_nil,Nat.zero_add,Nat.reduceAdd] at *
  omega
theorem ops_sml : ∀ {l : List OpP},(∀ o ∈ l,TOp o) → (l.flatMap encOp).length ≤ 200 * l.length
  | [],_ => by simp
  | x :: r,h => by
    have h1 := op_sml (h x (.head _))
    have h2 := ops_sml (l := r) (fun y hy => h y (.tail _ hy))
    simp only [List.flatMap_cons,List.length_append,List.length_cons]
    omega
structure FV (p : Pt) : Prop where
  v : validE p = 0
  sl : p.sl = []
  fit : Fit p
  ol : p.ops.length ≤ 14
  nl : p.needs.length ≤ 3
  q : QV p
  s : p.s ≤ 16
  dy : 1 ≤ p.day ∧ p.day ≤ 100
theorem fv_of {p : Pt} (h : QV p) (hs : p.s ≤ 16) (hd : 1 ≤ p.day ∧ p.day ≤ 100) (hl : p.ops.length ≤ 14) : FV p := by
  have hnl := h.nl
  have h1 : OkHead p := by
    unfold OkHead
    have := h.oo
    have := h.ss
    omega
  have h2 : OkNeeds p := by
    intro i hi
    obtain ⟨g1,g2,g3,g4,g5,g6⟩ := h.nd i hi
    exact ⟨g1,by omega,g3,g4,g5,g6⟩
  have h3 : OkOps p := fun o ho => (h.T o ho).v
  have hlen : (encPt (bare p)).length ≤ 6800 := by
    have := h.oo
    have := h.ss
    have e1 := ints_sml (l := [p.o,p.s,p.day]) (by
      intro x hx
      simp only [List.mem_cons,List.not_mem_nil,or_false] at hx
      unfold sml
      rcases hx with rfl | rfl | rfl <;> omega) (by simp)
    have e2 := ints_sml (l := needNums p.needs) (by
      intro x hx
      obtain ⟨y,hy,hx⟩ := List.mem_flatMap.1 hx
      obtain ⟨i,hi,hy⟩ := List.getElem_of_mem hy
      have hv := h.nd i hi
      rw [getD_lt hi,hy] at hv
      simp only [List.mem_cons,List.not_mem_nil,or_false] at hx
      unfold sml
      rcases hx with rfl | rfl <;> omega) (by rw [needs_len]; omega)
    have e3 := enc_sml (n := (p.ops.length : Int)) (by unfold sml; omega)
    have e4 := ops_sml h.T
    have e5 := enc_sml (n := ((0 : Nat) : Int)) (by unfold sml; omega)
    rw [needs_len] at e2
    simp only [encPt,bare,encBytes,List.length_append,List.length_cons,List.length_nil,Nat.zero_add,Nat.reduceAdd] at *
    omega
  refine ⟨?_,h.sl,⟨by omega,by omega,fun o ho => ?_,fun o ho => ?_,fun o ho => ?_,by rw [h.sl]; simp⟩,hl,hnl,h,hs,hd⟩
  · unfold validE
    rw [if_neg (fun d => d h1),if_neg (by omega),if_neg h.ne,if_neg (fun d => d h2),if_neg (fun d => d h3),if_neg (by omega)]
  · have := (vop_nums (h.T o ho).v).2.2.1; omega
  · have := (vop_nums (h.T o ho).v).2.2.2.1; omega
  · have := (vop_nums (h.T o ho).v).2.2.2.2; omega
theorem best_range {l out : List Pt} : ∀ n : Nat,bestTo l out n < n ∧ -1 ≤ bestTo l out n
  | 0 => by simp [bestTo]
  | n + 1 => by
    have := best_range (l := l) (out := out) n
    unfold bestTo
    split <;> omega
theorem ordered_mem {l : List Pt} : ∀ n : Nat,∀ p ∈ (orderedTo l n).1,p ∈ l
  | 0 => by simp [orderedTo]
  | n + 1 => by
    have h := ordered_mem (l := l) n
    unfold orderedTo
    dsimp only
    split
    · split
      · exact h
      · rename_i hc
        intro p hp
        rcases List.mem_append.1 hp with hp | hp
        · exact h p hp
        · rw [List.mem_singleton.1 hp]
          have := best_range (l := l) (out := (orderedTo l n).1) l.length
          exact getD_mem (by omega)
    · exact h
theorem best_some {l out : List Pt} {i : Nat} (hr : ready out (l.getD i default) = true) (hk : known out (l.getD i default).o (l.getD i default).s = false) : ∀ n : Nat,i < n → 0 ≤ bestTo l out n
  | 0,h => by omega
  | n + 1,h => by
    unfold bestTo
    split
    · omega
    · rename_i hc
      by_cases e : i = n
      · subst e
        refine Classical.byContradiction fun hneg => hc ?_
        unfold better
        dsimp only
        rw [hr,hk]
        simp
        left
        left
        omega
      · exact best_some hr hk n (by omega)
theorem ordered_keep {l : List Pt} {n : Nat} (h : (orderedTo l n).1 ≠ []) : (orderedTo l (n + 1)).1 ≠ [] := by
  unfold orderedTo
  dsimp only
  split
  · split
    · exact h
    · simp
  · exact h
theorem ordered_ne {l : List Pt} (h0 : 0 < l.length) (h1 : (l.getD 0 default).needs = []) (h2 : (l.getD 0 default).s = 1) : ordered l ≠ [] := by
  have hb : 0 ≤ bestTo l [] l.length := best_some (i := 0) (by unfold ready; rw [h1,h2]; simp) (by simp [known]) _ h0
  have base : (orderedTo l 1).1 ≠ [] := by
    have hb' : ¬ (bestTo l (orderedTo l 0).1 l.length < 0) := by
      show ¬ (bestTo l [] l.length < 0)
      omega
    unfold orderedTo
    dsimp only
    rw [if_pos (show (orderedTo l 0).2 = true from rfl),if_neg hb']
    simp
  have go : ∀ n : Nat,(orderedTo l (n + 1)).1 ≠ [] := by
    intro n
    induction n with
    | zero => exact base
    | succ n ih => exact ordered_keep ih
  unfold ordered
  obtain ⟨n,hn⟩ : ∃ n,l.length = n + 1 := ⟨l.length - 1,by omega⟩
  rw [hn]
  exact go n
theorem rounds_nil {o : Int} {m : List Int} : ∀ q : Nat,(nextRounds ⟨[],[]⟩ o m q).p = { pt0 with o := o,s := 1,day := 1 }
  | 0 => rfl
  | q + 1 => by
    have h := rounds_nil (o := o) (m := m) q
    simp only [nextRounds]
    unfold nextRound
    dsimp only
    rw [if_pos (.inl (by simp [last,lastTo]))]
    exact h
theorem first_ok (l : List Int) {offices : Nat} : ∀ i : Nat,0 < i → ((patchesTo l offices i).l.getD 0 default).needs = [] ∧ ((patchesTo l offices i).l.getD 0 default).s = 1
  | 0,h => by omega
  | 1,_ => by
    have hg := GInv.nil
    have e : (patchesTo l offices 1).l = (next ⟨[],[]⟩ offices (l.drop (2 + 32 * 0))).l := rfl
    rw [e]
    unfold Go.Proofs.YtoeckfegggongaaGreatDoor.next
    dsimp only
    have hr := rounds_nil (o := atOf (l.drop (2 + 32 * 0)) 0 offices) (m := l.drop (2 + 32 * 0)) offices
    obtain ⟨_,g2,_,_⟩ := rounds_needs (x := ⟨[],[]⟩) (o := atOf (l.drop (2 + 32 * 0)) 0 offices) (m := l.drop (2 + 32 * 0)) offices
    obtain ⟨h1,_⟩ := rounds_inv hg (o := atOf (l.drop (2 + 32 * 0)) 0 offices) (m := l.drop (2 + 32 * 0)) offices
    generalize nextRounds ⟨[],[]⟩ (atOf (l.drop (2 + 32 * 0)) 0 offices) (l.drop (2 + 32 * 0)) offices = s at hr g2 h1 ⊢
    obtain ⟨more,e1,_⟩ := steps_inv (x := ⟨[],[]⟩) (seen := s.seen) (p := { s.p with day := s.p.day + atOf (l.drop (2 + 32 * 0)) 4 4 }) (m := l.drop (2 + 32 * 0)) g2 (VOk.base hg h1 g2) (1 + atN (l.drop (2 + 32 * 0)) 5 2)
    have e3 := e1.eq
    generalize nextSteps ⟨[],[]⟩ s.seen { s.p with day := s.p.day + atOf (l.drop (2 + 32 * 0)) 4 4 } (l.drop (2 + 32 * 0)) (1 + atN (l.drop (2 + 32 * 0)) 5 2) = p at e3 ⊢
    simp only [List.nil_append,List.getD_cons_zero]
    rw [e3]
    dsimp only
    rw [hr]
    exact ⟨rfl,rfl⟩
  | i + 2,_ => by
    have h := first_ok l (offices := offices) (i + 1) (by omega)
    have e : (patchesTo l offices (i + 2)).l = (next (patchesTo l offices (i + 1)) offices (l.drop (2 + 32 * (i + 1)))).l := rfl
    rw [e]
    unfold Go.Proofs.YtoeckfegggongaaGreatDoor.next
    dsimp only
    rw [getD_app ?_]
    · exact h
    · have e2 : (patchesTo l offices (i + 1)).l = (next (patchesTo l offices i) offices (l.drop (2 + 32 * i))).l := rfl
      rw [e2,next_len]
      omega
theorem patches_ok (l : List Int) : (∀ p ∈ patches l,FV p) ∧ 0 < (patches l).length ∧ (patches l).length ≤ 9 := by
  have a1 := atN_lt (l := l) (i := 1) (n := 2) (by omega)
  have a1' : atN l 1 2 < 2 := a1
  have a0 := atN_lt (l := l) (i := 0) (n := 8) (by omega)
  have a0' : atN l 0 8 < 8 := a0
  obtain ⟨h1,h2,h3⟩ := to_inv l (offices := 2 + atN l 1 2) (by omega) (by omega) (2 + atN l 0 8) (by omega)
  obtain ⟨f1,f2⟩ := first_ok l (offices := 2 + atN l 1 2) (2 + atN l 0 8) (by omega)
  unfold patches
  generalize patchesTo l (2 + atN l 1 2) (2 + atN l 0 8) = x at h1 h2 h3 f1 f2 ⊢
  refine ⟨fun p hp => ?_,List.length_pos_iff.2 (ordered_ne (by omega) f1 f2),?_⟩
  · have hm := ordered_mem _ p hp
    have hs := h1.sq p hm
    have hd := h1.dy p hm
    exact fv_of (h2.q p hm) (by omega) (by omega) (h1.op p hm)
  · have : ∀ n : Nat,(orderedTo x.l n).1.length ≤ n := by
      intro n
      induction n with
      | zero => simp [orderedTo]
      | succ n ih =>
        unfold orderedTo
        dsimp only
        split
        · split
          · dsimp only; omega
          · rw [List.length_append,List.length_singleton]; omega
        · omega
    have := this x.l.length
    unfold ordered
    omega
end Go.Proofs.YtoeckfegggongaaGreatDoor
end
section
namespace Go.Proofs.YtoeckfegggongaaGreatDoor
open Go Go.Aw
theorem Sz.fit {n : Nat} {p : Pt} (h : Sz n p) (hn : n ≤ 1000) : Fit p :=
  ⟨by have := h.ops; omega,by have := h.needs; omega,fun o ho => by have := h.ids o ho; omega,h.name,h.text,h.sl⟩
theorem FV.sz {p : Pt} (h : FV p) : Sz 20 p :=
  ⟨by have := h.ol; omega,by have := h.nl; omega,fun o ho => by have := (vop_nums (h.q.T o ho).v).2.2.1; omega,h.fit.name,h.fit.text,h.fit.sl⟩
theorem FV.ne {p : Pt} (h : FV p) : 0 < p.ops.length := by
  have := h.q.ne
  cases e : p.ops with
  | nil => exact (this e).elim
  | cons a l => simp
end Go.Proofs.YtoeckfegggongaaGreatDoor
end
section
namespace Go.Proofs.YtoeckfegggongaaGreatDoor
open Go Go.Aw
theorem w_dops {xb : List (List D)} {a0 a1 a2 many : Int} {nd : D} {zo : AO} {b2 br b6 : Nat} {b3 : List UInt8} {x3 : Bool} {H : AH} {Q : AQ} {F : List D} (hb3 : b3.length ≤ 3000000) (nr6 : br ≠ b6) (n26 : b2 ≠ b6) (h6 : freshH H b6) (nbr : br ≠ b2) (hr : freshH H br)
    (hF : ∀ i : Nat,i = 0 → Fr 116 [(0,.slc xb),(2,.ptr b2 0),(4,.ptr br 0),(6,.ptr b6 0),(8,.int .i64 many),(11,.int .i64 (i : Int))] F)
    (hE : ∀ (os : List OpP) (bb : List UInt8) (bad : Bool),opsR (cntO many) b3 x3 = (os,bb,bad) → ∀ F',Fr 116 [(0,.slc xb),(2,.ptr b2 0),(4,.ptr br 0),(6,.ptr b6 0)] F' → Q (.exit 2) F' ((b6,AO.cells [.int .i64 a0,.int .i64 a1,.int .i64 a2,nd,.own (opsD os),.str []]) :: (br,rdO bb bad) :: (b2,zo) :: H)) :
    XW Tryz.prog x16_L3 F ((b6,AO.cells [.int .i64 a0,.int .i64 a1,.int .i64 a2,nd,.own [],.str []]) :: (br,rdO b3 x3) :: (b2,zo) :: H) Q := by
  have hbig := big_eq
  have hc17 : cntO many ≤ 17 := by unfold cntO; omega
  refine XW.loopK Go.Proofs.YtoeckfegggongaaGreatDoor.hm (fun F H' => ∃ (i : Nat) (os : List OpP) (bb : List UInt8) (bad : Bool),i ≤ cntO many ∧ os.length = i ∧ bb.length ≤ 3000000 ∧ opsR (cntO many) b3 x3 = (os ++ (opsR (cntO many - i) bb bad).1,(opsR (cntO many - i) bb bad).2) ∧ Fr 116 [(0,.slc xb),(2,.ptr b2 0),(4,.ptr br 0),(6,.ptr b6 0),(8,.int .i64 many),(11,.int .i64 (i : Int))] F ∧ H' = ((b6,AO.cells [.int .i64 a0,.int .i64 a1,.int .i64 a2,nd,.own (opsD os),.str []]) :: (br,rdO bb bad) :: (b2,zo) :: H)) (fun F H => match F.getD 11 .any with | .int _ n' => 17 - n'.toNat | _ => 0) ⟨0,[],b3,x3,by omega,rfl,hb3,by simp,hF 0 rfl,rfl⟩ ?_
  rintro _ _ ⟨i,os,bb,bad,hi,hos,hbb,hcon,hF,rfl⟩ K hN hE' hR
  obtain ⟨z,rfl⟩ : ∃ z : Nat → D,_ = .slc xb :: z 1 :: .ptr b2 0 :: z 3 :: .ptr br 0 :: z 5 :: .ptr b6 0 :: z 7 :: .int .i64 many :: zz z 9 2 (.int .i64 (i : Int) :: zz z 12 104 []) := hF.lit
  try dsimp only [zz,reduceAdd] at *
  clear hF hR
  have ol : (opsD os).length = os.length := ops_len
  have nb6 : getH ((b2,zo) :: H) b6 = none := freshH_none ⟨Ne.symm n26,h6⟩
  have nb7 : getH ((b2,zo) :: H) br = none := freshH_none ⟨nbr,hr⟩
  by_cases hlt : i < cntO many ∧ bad = false
  · obtain ⟨hlt,hbd⟩ := hlt
    subst hbd
    have m1 : ((i : Int) < many) = True := eq_true (by unfold cntO at hlt; omega)
    have m2 : ((i : Int) ≤ 16) = True := eq_true (by omega)
    have hle := op_le (b := bb) (bad := false) hbb
    have nx : ∀ F' H',back ((b6,AO.cells [.int .i64 a0,.int .i64 a1,.int .i64 a2,nd,.own (opsD os),.str []]) :: (br,rdO bb false) :: (b2,zo) :: H).length H' = ((b6,AO.cells [.int .i64 a0,.int .i64 a1,.int .i64 a2,nd,.own (opsD (os ++ [(decOpI bb false).1])),.str []]) :: (br,rdO (decOpI bb false).2.1 (decOpI bb false).2.2) :: (b2,zo) :: H) → Fr 116 [(0,.slc xb),(2,.ptr b2 0),(4,.ptr br 0),(6,.ptr b6 0),(8,.int .i64 many),(11,.int .i64 ((i + 1 : Nat) : Int))] F' → K .normal F' H' := fun F' H' hH hF' => hN _ _ ⟨i + 1,os ++ [(decOpI bb false).1],(decOpI bb false).2.1,(decOpI bb false).2.2,hlt,by simp [hos],by omega,by
        obtain ⟨q,hq⟩ : ∃ q,cntO many - i = q + 1 := ⟨cntO many - i - 1,by omega⟩
        rw [hcon,hq,show cntO many - (i + 1) = q by omega]
        simp [opsR],hF',hH⟩ (by
      rw [List.getD_eq_getElem?_getD,hF'.2.2.2.2.2.2.1]
      simp only [List.getD_cons_succ,List.getD_cons_zero,Option.getD_some]
      omega)
    clear hN hE hE' hcon
    have hcall : ∀ H1,getH H1 br = some (AO.cells [.slc (bb.map byteD),.bool false]) → ACall Tryz.prog 37 [.ptr br 0] H1 (fun d' H' => d' = .agg (decOpI bb false).1.d ∧ H' = setH H1 br (rdO (decOpI bb false).2.1 (decOpI bb false).2.2)) := fun H1 hg => f_op (b := bb) (bad := false) (by omega) hg ⟨rfl,rfl⟩
    have hod : (decOpI bb false).1.d.length = 13 := rfl
    simp +contextual only [x16,bytesD_len,ints_len,ops_len,ao_b,ac_b,is_b,m1,m2,rdO,h_miss nr6,↓U16,↓XP,XW0,XW1,reduceSub,reduceAdd,reduceMul,reduceEqDiff,reduceLeDiff,Nat.reduceBEq,reduceCtorEq,TYX]
    refine ⟨nb6,_,br,_,_,nb7,.inr (by simpa using nr6),by rw [h_miss nr6]; exact h_hit,hcall,?_⟩
    generalize (decOpI bb false).2.1 = bb' at nx ⊢
    generalize (decOpI bb false).2.2 = bad' at nx ⊢
    generalize (decOpI bb false).1 = o at nx ⊢
    rw [← ops_app] at nx
    have hod : o.d = [.int .i64 o.k,.int .i64 o.on.o,.int .i64 o.on.s,.int .i64 o.on.i,.int .i64 o.to.o,.int .i64 o.to.s,.int .i64 o.to.i,.slc (idsD o.ids),.int .i64 o.n,.str o.name,.str o.text,.int .i64 o.a,.int .i64 o.b] := rfl
    simp +contextual only [x16,bytesD_len,ints_len,ops_len,ao_b,ac_b,is_b,hod,rdO,h_skip nr6,wrap_succ (show i ≤ big by omega),ol,↓U16,↓XP,XW0,XW1,reduceSub,reduceAdd,reduceMul,reduceEqDiff,reduceLeDiff,Nat.reduceBEq,reduceCtorEq,TYX]
    refine ⟨ops_13,by omega,by omega,nx _ _ (back_0 rfl) ?_⟩
    exact ⟨rfl,rfl,rfl,rfl,rfl,rfl,rfl,trivial⟩
  · have e0 : opsR (cntO many - i) bb bad = ([],bb,bad) := by
      rcases Classical.em (bad = true) with hb | hb
      · subst hb
        cases cntO many - i <;> rfl
      · have : cntO many - i = 0 := by
          have : ¬ i < cntO many := fun h => hlt ⟨h,by simpa using hb⟩
          omega
        rw [this]
        rfl
    rw [e0,List.append_nil] at hcon
    have fin := fun F' => hE os bb bad hcon F'
    clear hN hE hcon e0
    by_cases c1 : (i : Int) < many
    · by_cases c2 : i ≤ 16
      · have hb : bad = true := by
          refine Classical.byContradiction fun hb => hlt ⟨?_,by simpa using hb⟩
          unfold cntO
          omega
        subst hb
        simp +contextual only [x16,bytesD_len,ints_len,ops_len,ao_b,ac_b,is_b,eq_true c1,show ((i : Int) ≤ 16) = True from eq_true (by omega),rdO,h_miss nr6,↓U16,↓XP,XW0,XW1,reduceSub,reduceAdd,reduceMul,reduceEqDiff,reduceLeDiff,Nat.reduceBEq,reduceCtorEq,TYX]
        exact hE' _ _ _ (fin _ ⟨rfl,rfl,rfl,rfl,rfl,trivial⟩)
      · simp +contextual only [x16,bytesD_len,ints_len,ops_len,ao_b,ac_b,is_b,eq_true c1,show ((i : Int) ≤ 16) = False from eq_false (by omega),rdO,h_miss nr6,↓U16,↓XP,XW0,XW1,reduceSub,reduceAdd,reduceMul,reduceEqDiff,reduceLeDiff,Nat.reduceBEq,reduceCtorEq,TYX]
        exact hE' _ _ _ (fin _ ⟨rfl,rfl,rfl,rfl,rfl,trivial⟩)
    · simp +contextual only [x16,bytesD_len,ints_len,ops_len,ao_b,ac_b,is_b,eq_false c1,rdO,h_miss nr6,↓U16,↓XP,XW0,XW1,reduceSub,reduceAdd,reduceMul,reduceEqDiff,reduceLeDiff,Nat.reduceBEq,reduceCtorEq,TYX]
      exact hE' _ _ _ (fin _ ⟨rfl,rfl,rfl,rfl,rfl,trivial⟩)
theorem f_decode {b : List UInt8} {H : AH} {R : D → AH → Prop} (hB : b.length ≤ 3000000) (h : R (.tup [.agg (decodeI b).1.d,.int .i64 (decodeI b).2]) H) : ACall Tryz.prog 16 [.slc (b.map byteD)] H R := by
  refine b16 fun hf => ?_
  have hbig := big_eq
  simp +contextual only [x16,bytesD_len,ints_len,ao_b,ac_b,is_b,↓U16,↓XP,XW0,XW1,reduceSub,reduceAdd,reduceMul,reduceEqDiff,reduceLeDiff,Nat.reduceBEq,reduceCtorEq,TYX]
  intro b2 h2 br hr
  have e2 : b2 ≠ br := hr.1
  have hr2 := hr.2
  refine f_rdInts (b := b) (bad := false) (many := ((3 : Nat) : Int)) (by' := 1) (by omega) (by omega) (by omega) (by omega) h_hit fun d hd => ?_
  rw [h_set]
  have hl := rdL_len (b := b) (bad := false) (m := 3)
  obtain ⟨l,hl0⟩ : ∃ l,rdL b false ((3 : Nat) : Int) 1 = l := ⟨_,rfl⟩
  obtain ⟨bad1,hbad1⟩ : ∃ x,rdBad b false ((3 : Nat) : Int) 1 = x := ⟨_,rfl⟩
  obtain ⟨c1,hc1⟩ : ∃ x,b.drop (decInts b).2.1 = x := ⟨_,rfl⟩
  rw [hl0] at hl hd
  rw [hbad1,hc1]
  obtain ⟨a0,a1,a2,rfl⟩ := list_three hl
  have hB1 : c1.length ≤ b.length := by rw [← hc1]; simp
  clear hl
  obtain ⟨xs,hxs,hx3,x0,x1,x2⟩ : ∃ xs,ints [a0,a1,a2] = xs ∧ xs.length = 3 ∧ xs.getD 0 [] = [.int .i64 a0] ∧ xs.getD 1 [] = [.int .i64 a1] ∧ xs.getD 2 [] = [.int .i64 a2] := ⟨_,rfl,rfl,rfl,rfl,rfl⟩
  rw [hxs] at hd
  simp +contextual only [x16,bytesD_len,ints_len,ao_b,ac_b,is_b,hd,hx3,x0,x1,x2,show ((3 : Nat) : Int) = 3 from rfl,Int.reduceToNat,Int.reduceLE,Int.reduceLT,↓U16,↓XP,XW0,XW1,reduceSub,reduceAdd,reduceMul,reduceEqDiff,reduceLeDiff,Nat.reduceBEq,reduceCtorEq,TYX]
  rintro _ _ _ _ b6 ⟨nr6,n26,h6⟩
  obtain ⟨zo,hzz⟩ : ∃ zo,AO.cells [.int .i64 0,.int .i64 0,.int .i64 0,.own [],.own [],.str []] = zo := ⟨_,rfl⟩
  rw [c_gh]
  refine Gz.bind (k := fun F'' H'' => F'' = _ ∧ H'' = _) (Gz.take (j := 3) rfl (fun h => (h rfl).elim) ⟨rfl,rfl⟩) ?_
  rintro _ _ ⟨rfl,rfl⟩
  refine Gz.take (j := 4) rfl (fun h => (h rfl).elim) ?_
  simp only [dropR,if_true]
  rw [hzz]
  simp +contextual only [x16,bytesD_len,ints_len,ao_b,ac_b,is_b,↓U16,↓XP,XW0,XW1,reduceSub,reduceAdd,reduceMul,reduceEqDiff,reduceLeDiff,Nat.reduceBEq,reduceCtorEq,TYX]
  refine f_rdInts (b := c1) (bad := bad1) (many := -1) (by' := 2) (by omega) (by omega) (by omega) (by omega) (by rw [h_miss nr6]; exact h_hit) fun d2 hd2 => ?_
  rw [h_skip nr6,h_set]
  have hm2 := rdL_by (b := c1) (bad := bad1) (k := 2)
  have hml := rdL_le (b := c1) (bad := bad1) (k := 2)
  obtain ⟨m,hm0⟩ : ∃ m,rdL c1 bad1 (-1) 2 = m := ⟨_,rfl⟩
  obtain ⟨bad2,hbad2⟩ : ∃ x,rdBad c1 bad1 (-1) 2 = x := ⟨_,rfl⟩
  obtain ⟨c2,hc2⟩ : ∃ x,c1.drop (decInts c1).2.1 = x := ⟨_,rfl⟩
  have hB2 : c2.length ≤ c1.length := by rw [← hc2]; simp
  rw [hm0] at hm2 hml hd2
  rw [hbad2,hc2]
  obtain ⟨fi,hfi⟩ : ∃ fi,fi = 64 := ⟨_,rfl⟩
  simp +contextual only [x16,bytesD_len,ints_len,ao_b,ac_b,is_b,hd2,↓U16,↓XP,XW0,XW1,reduceSub,reduceAdd,reduceMul,reduceEqDiff,reduceLeDiff,Nat.reduceBEq,reduceCtorEq,TYX]
  refine fun _ => f_chunk (fi := fi) hfi (by omega) fun bA bB hA hB' => ?_
  have hAB : bA ≠ bB := hB'.1
  simp +contextual only [x16,bytesD_len,ints_len,ao_b,ac_b,is_b,↓U16,↓XP,XW0,XW1,reduceSub,reduceAdd,reduceMul,reduceEqDiff,reduceLeDiff,Nat.reduceBEq,reduceCtorEq,TYX]
  refine XRF.chunkK hm (by rw [hfi]; exact it64) (p := 32) (t := 7) (k := 2) (xs := ints m) (b1 := bA) (b2 := bB) (f := fi) rfl (by show (32 : Nat) < 116; omega) (by rw [h_miss hAB]; exact h_hit) h_hit (by omega) (by omega) ints_1
    (fun pre H' => H' = ((b6,AO.cells [.int .i64 a0,.int .i64 a1,.int .i64 a2,.own (refsD (pre.map (pair m))),.own [],.str []]) :: (br,rdO c2 bad2) :: (b2,zo) :: H))
    _ (by rw [e_miss hAB,e_hit,e_hit]; exact Sbn.sub (List.Sublist.refl _)) rfl ?_ ?_
  · intro pre j H' hI hj hpl hfact K hK
    subst hI
    obtain ⟨y2,y0,y1⟩ := chunk_2 hm2 hj
    rw [cnt_2 hm2] at hj hpl
    generalize chunkD (ints m) 2 j = ys at y2 y0 y1 ⊢
    have nx := fun F' H'' => hK F' H'' _ (Sbn.sub (List.Sublist.refl _)) 
    clear hK
    rw [List.map_append,List.map_cons,List.map_nil,← refs_app] at nx
    have il : (refsD (pre.map (pair m))).length = pre.length := by simp [refsD]
    have hac := refs_2 (l := pre.map (pair m))
    generalize refsD (pre.map (pair m)) = acc at nx il hac ⊢
    generalize pair m j = tj at nx y0 y1
    simp +contextual only [x16,bytesD_len,ints_len,ao_b,ac_b,is_b,y2,y0,y1,hd,hd2,show ((2 : Nat) : Int) = 2 from rfl,Int.reduceToNat,Int.reduceLE,Int.reduceLT,↓U16,↓XP,XW0,XW1,reduceSub,reduceAdd,reduceMul,reduceEqDiff,reduceLeDiff,Nat.reduceBEq,reduceCtorEq,TYX]
    have n6 : getH ((br,rdO c2 bad2) :: (b2,zo) :: H) b6 = none := freshH_none ⟨Ne.symm nr6,Ne.symm n26,h6⟩
    exact ⟨n6,fun _ _ => ⟨hac,by omega,by omega,nx _ _ rfl⟩⟩
  · intro H' hI
    subst hI
    rw [cnt_2 hm2,show (List.range (m.length / 2)).map (pair m) = pairs m from rfl]
    simp +contextual only [x16,bytesD_len,ints_len,ao_b,ac_b,is_b,hd,hd2,rdO,h_miss nr6,↓U16,↓XP,XW0,XW1,reduceSub,reduceAdd,reduceMul,reduceEqDiff,reduceLeDiff,Nat.reduceBEq,reduceCtorEq,TYX]
    refine fun _ => f_wGetInt ?_
    simp +contextual only [x16,bytesD_len,ints_len,ao_b,ac_b,is_b,hd,hd2,↓U16,↓XP,XW0,XW1,reduceSub,reduceAdd,reduceMul,reduceEqDiff,reduceLeDiff,Nat.reduceBEq,reduceCtorEq,TYX]
    have hr0 : getH ((b6,AO.cells [.int .i64 a0,.int .i64 a1,.int .i64 a2,.own (refsD (pairs m)),.own [],.str []]) :: (br,rdO c2 bad2) :: (b2,zo) :: H) br = some (rdO c2 bad2) := by rw [h_miss nr6]; exact h_hit
    refine fun _ _ _ => f_took (b := c2) (bad := bad2) dec_le hr0 ?_
    rw [h_skip nr6,h_set]
    have hle3 : (c2.drop (decInt c2).2.1).length ≤ c2.length := by simp
    obtain ⟨t,ht⟩ : ∃ t,decInt c2 = t := ⟨_,rfl⟩
    rw [ht] at hle3 ⊢
    obtain ⟨many,kk,ee⟩ := t
    dsimp only at hle3 ⊢
    simp +contextual only [x16,bytesD_len,ints_len,ao_b,ac_b,is_b,hd,hd2,↓U16,↓XP,XW0,XW1,reduceSub,reduceAdd,reduceMul,reduceEqDiff,reduceLeDiff,Nat.reduceBEq,reduceCtorEq,TYX]
    refine w_dops (xb := b.map byteD) (by omega) nr6 n26 h6 (Ne.symm e2) hr2 (fun i hi => by subst hi; exact ⟨rfl,rfl,rfl,rfl,rfl,rfl,rfl,trivial⟩) fun os bb bad hops F' hF' => ?_
    obtain ⟨z,rfl⟩ : ∃ z : Nat → D,_ = (let xb := b.map byteD; [.slc xb,z 1,.ptr b2 0,z 3,.ptr br 0,z 5,.ptr b6 0,z 7,z 8,z 9,z 10,z 11,z 12,z 13,z 14,z 15,z 16,z 17,z 18,z 19,z 20,z 21,z 22,z 23,z 24,z 25,z 26,z 27,z 28,z 29,z 30,z 31,z 32,z 33,z 34,z 35,z 36,z 37,z 38,z 39,z 40,z 41,z 42,z 43,z 44,z 45,z 46,z 47,z 48,z 49,z 50,z 51,z 52,z 53,z 54,z 55,z 56,z 57,z 58,z 59,z 60,z 61,z 62,z 63,z 64,z 65,z 66,z 67,z 68,z 69,z 70,z 71,z 72,z 73,z 74,z 75,z 76,z 77,z 78,z 79,z 80,z 81,z 82,z 83,z 84,z 85,z 86,z 87,z 88,z 89,z 90,z 91,z 92,z 93,z 94,z 95,z 96,z 97,z 98,z 99,z 100,z 101,z 102,z 103,z 104,z 105,z 106,z 107,z 108,z 109,z 110,z 111,z 112,z 113,z 114,z 115]) := hF'.lit
    clear hF'
    have hor := opsR_le (B := 3000000) (cntO many) (c2.drop kk) (bad2 || decide (ee ≠ 0)) (by omega)
    rw [hops] at hor
    obtain ⟨o1,o2,o3⟩ := hor
    dsimp only at o1 o2 o3
    simp +contextual only [x16,bytesD_len,ints_len,ao_b,ac_b,is_b,rdO,h_miss nr6,↓U16,↓XP,XW0,XW1,reduceSub,reduceAdd,reduceMul,reduceEqDiff,reduceLeDiff,Nat.reduceBEq,reduceCtorEq,TYX]
    refine fun _ => f_wGetBytes ?_
    simp +contextual only [x16,bytesD_len,ints_len,ao_b,ac_b,is_b,h_miss nr6,↓U16,↓XP,XW0,XW1,reduceSub,reduceAdd,reduceMul,reduceEqDiff,reduceLeDiff,Nat.reduceBEq,reduceCtorEq,TYX]
    have hr1 : getH ((b6,AO.cells [.int .i64 a0,.int .i64 a1,.int .i64 a2,.own (refsD (pairs m)),.own (opsD os),.str []]) :: (br,rdO bb bad) :: (b2,zo) :: H) br = some (rdO bb bad) := by rw [h_miss nr6]; exact h_hit
    refine fun _ _ _ => f_took (b := bb) (bad := bad) bytes_le hr1 ?_
    rw [h_skip nr6,h_set]
    have hsl := bytes_sl (b := bb)
    have hp : decPtI b = (⟨a0,a1,a2,pairs m,os,(decBytes bb).1⟩,bad || decide ((decBytes bb).2.2 ≠ 0)) := by
      unfold decPtI decPtM
      rw [show rdL b false 3 1 = _ from hl0,show rdBad b false 3 1 = _ from hbad1,hc1,hm0,hc2,hbad2]
      unfold decPtO
      rw [ht,hops]
      rfl
    unfold decodeI at h
    rw [hp] at h
    clear hp
    dsimp only at h
    generalize (decBytes bb).2.2 = e5 at h ⊢
    generalize (decBytes bb).2.1 = k5 at h ⊢
    generalize (decBytes bb).1 = sl at h hsl ⊢
    obtain ⟨bad5,hbad5⟩ : ∃ x,(bad || decide (e5 ≠ 0)) = x := ⟨_,rfl⟩
    rw [hbad5] at h ⊢
    clear hbad5
    subst hzz
    cases bad5 with
    | true =>
      rw [if_neg (by simp)] at h
      simp +contextual only [x16,bytesD_len,ints_len,ao_b,ac_b,is_b,rdO,h_miss nr6,h_miss n26,h_skip n26,h_miss e2,h_skip e2,↓U16,↓XP,XW0,XW1,reduceSub,reduceAdd,reduceMul,reduceEqDiff,reduceLeDiff,Nat.reduceBEq,reduceCtorEq,TYX]
      exact h
    | false =>
      simp +contextual only [x16,bytesD_len,ints_len,ao_b,ac_b,is_b,rdO,h_miss nr6,↓U16,↓XP,XW0,XW1,reduceSub,reduceAdd,reduceMul,reduceEqDiff,reduceLeDiff,Nat.reduceBEq,reduceCtorEq,TYX]
      obtain ⟨p,hp⟩ : ∃ p : Pt,(⟨a0,a1,a2,pairs m,os,sl⟩ : Pt) = p := ⟨_,rfl⟩
      have hpd : [D.int .i64 a0,.int .i64 a1,.int .i64 a2,.slc (refsD (pairs m)),.slc (opsD os),.str sl] = p.d := by rw [← hp]; rfl
      have hfit : Fit p := by
        rw [← hp]
        have : cntO many ≤ 17 := by unfold cntO; omega
        exact ⟨by show os.length ≤ 1000; omega,by show (pairs m).length ≤ 3000000; unfold pairs; rw [List.length_map,List.length_range]; omega,fun o ho => (o3 o ho).1,fun o ho => (o3 o ho).2.1,fun o ho => (o3 o ho).2.2,by show sl.length ≤ 3000000; omega⟩
      rw [hp] at h
      rw [hpd]
      refine f_iEncode hfit ?_
      rcases Classical.em (encE p = 0) with g1 | g1
      · rw [if_pos g1,g1]
        rcases Classical.em (encPt p = b) with g2 | g2
        · rw [if_pos ⟨rfl,g1,g2⟩] at h
          have g3 : decide (b = encPt p) = true := decide_eq_true g2.symm
          simp +contextual only [x16,bytesD_len,ints_len,ao_b,ac_b,is_b,rdO,h_miss nr6,↓U16,↓XP,XW0,XW1,reduceSub,reduceAdd,reduceMul,reduceEqDiff,reduceLeDiff,Nat.reduceBEq,reduceCtorEq,TYX]
          refine fun _ _ => f_equal ?_
          rw [g3]
          simp +contextual only [x16,bytesD_len,ints_len,ao_b,ac_b,is_b,rdO,h_miss nr6,h_miss n26,h_skip n26,h_miss e2,h_skip e2,↓U16,↓XP,XW0,XW1,reduceSub,reduceAdd,reduceMul,reduceEqDiff,reduceLeDiff,Nat.reduceBEq,reduceCtorEq,TYX]
          rw [hpd]
          exact h
        · rw [if_neg (fun h => g2 h.2.2)] at h
          have g3 : decide (b = encPt p) = false := decide_eq_false (fun h => g2 h.symm)
          simp +contextual only [x16,bytesD_len,ints_len,ao_b,ac_b,is_b,rdO,h_miss nr6,↓U16,↓XP,XW0,XW1,reduceSub,reduceAdd,reduceMul,reduceEqDiff,reduceLeDiff,Nat.reduceBEq,reduceCtorEq,TYX]
          refine fun _ _ => f_equal ?_
          rw [g3]
          simp +contextual only [x16,bytesD_len,ints_len,ao_b,ac_b,is_b,rdO,h_miss nr6,h_miss n26,h_skip n26,h_miss e2,h_skip e2,↓U16,↓XP,XW0,XW1,reduceSub,reduceAdd,reduceMul,reduceEqDiff,reduceLeDiff,Nat.reduceBEq,reduceCtorEq,TYX]
          exact h
      · rw [if_neg g1]
        rw [if_neg (fun h => g1 h.2.1)] at h
        simp +contextual only [x16,bytesD_len,ints_len,ao_b,ac_b,is_b,rdO,eq_false g1,h_miss nr6,h_miss n26,h_skip n26,h_miss e2,h_skip e2,↓U16,↓XP,XW0,XW1,reduceSub,reduceAdd,reduceMul,reduceEqDiff,reduceLeDiff,Nat.reduceBEq,reduceCtorEq,TYX]
        exact fun _ _ => h
end Go.Proofs.YtoeckfegggongaaGreatDoor
end
