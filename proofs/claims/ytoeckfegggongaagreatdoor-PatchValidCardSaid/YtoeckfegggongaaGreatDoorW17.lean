/- A part of the proof of what the last text says: Gt3, Gt6, Gt8, Gt4. Conditions: those in each theorem. -/
import Derived.Test.YtoeckfegggongaaGreatDoorW16
import Derived.KernelRfl
set_option linter.unusedVariables false
set_option linter.unusedSimpArgs false
set_option maxRecDepth 100000
set_option maxHeartbeats 16000000
open Nat (reduceSub reduceAdd reduceMul reduceEqDiff reduceLeDiff)
section
namespace Go.Proofs.YtoeckfegggongaaGreatDoor
open Go Go.Aw
theorem Sz.same {n : Nat} {p q : Pt} (h : Sz n p) (e1 : q.ops = p.ops) (e2 : q.needs = p.needs) (e3 : q.sl = p.sl) : Sz (n + 14) q :=
  ⟨by rw [e1]; have := h.ops; omega,by rw [e2]; have := h.needs; omega,by rw [e1]; intro o ho; have := h.ids o ho; omega,by rw [e1]; exact h.name,by rw [e1]; exact h.text,by rw [e3]; exact h.sl⟩
theorem getD_mem1 {l : List OpP} {k : Nat} (h : k < l.length) : l.getD k default ∈ l := by
  simp [h]
theorem pick_int {l : List Int} {r : Int} (h0 : 0 ≤ r) (h1 : r < l.length) : ∃ v ∈ l,(ints l).getD r.toNat [] = [.int .i64 v] := by
  have hl : r.toNat < l.length := by omega
  exact ⟨l[r.toNat],List.getElem_mem hl,by simp [ints,hl]⟩
theorem bytesB : (Tryz.prog.info? 5).map (·.bytes) = some 1 := by kernel_rfl
theorem infoB {n : Int} (h : n ≤ 100000) : match Tryz.prog.info? 5 with | some i => (i.bytes : Int) * n ≤ 140737488355328 ∧ n ≤ 140737488355328 | none => False := by
  have h4 := bytesB
  cases hq : Tryz.prog.info? 5 with
  | none => rw [hq] at h4; cases h4
  | some i =>
    rw [hq] at h4
    simp only [Option.map_some,Option.some.injEq] at h4
    simp only [h4]
    omega
theorem zeroB {n : Nat} : ∀ x ∈ List.replicate n [D.int .u8 0],isByte x := by
  intro x hx
  rw [(List.mem_replicate.1 hx).2]
  exact ⟨by omega,by omega⟩
theorem spA_0 {n : Nat} {p : Pt} {a how bb kk near : Int} {b4 b8 : Nat} {F : List D} {H : AH} {R : D → AH → Prop} (hm : around how 20 = 0) (hn : n ≤ 900) (hp : Sz n p) (n48 : b4 ≠ b8) (hF : Fr 278 [(1,.int .i64 a),(2,.int .i64 how),(3,.int .i64 bb),(4,.ptr b4 0),(8,.ptr b8 0),(11,.int .i64 kk),(12,.int .i64 near)] F) (h : ∀ q,Sz (n + 14) q → R (.agg q.d) H) : xcode Tryz.prog x6_s38 F ((b8,.cells [.int .i64 0,.int .i64 0,.int .i64 0,.own [],.own [],.str []]) :: (b4,.cells [.int .i64 p.o,.int .i64 p.s,.int .i64 p.day,.own (refsD p.needs),.own (opsD p.ops),.str p.sl]) :: H) (retQ Tryz.prog [(.cell 8 26)] H.length R) := by
  obtain ⟨z,rfl⟩ : ∃ z : Nat → D,_ = z 0 :: .int .i64 a :: .int .i64 how :: .int .i64 bb :: .ptr b4 0 :: zz z 5 3 (.ptr b8 0 :: zz z 9 2 (.int .i64 kk :: .int .i64 near :: zz z 13 265 [])) := hF.lit
  try dsimp only [zz,reduceAdd] at *
  clear hF
  have hbig := big_eq
  simp +contextual only [x6,refs_len,ops_len,h_miss,h_skip,Int.reduceEq,n48,↓U6,↓XP,XW0,XW1,reduceSub,reduceAdd,reduceMul,reduceEqDiff,reduceLeDiff,Nat.reduceBEq,reduceCtorEq,TYX]
  refine f_around (by omega) ?_
  rw [hm]
  simp +contextual only [x6,refs_len,ops_len,h_miss,h_skip,Int.reduceEq,n48,↓U6,↓XP,XW0,XW1,reduceSub,reduceAdd,reduceMul,reduceEqDiff,reduceLeDiff,Nat.reduceBEq,reduceCtorEq,TYX]
  exact fun _ => h { p with o := near } (hp.same rfl rfl rfl)
theorem spA_1 {n : Nat} {p : Pt} {a how bb kk near : Int} {b4 b8 : Nat} {F : List D} {H : AH} {R : D → AH → Prop} (hm : around how 20 = 1) (hn : n ≤ 900) (hp : Sz n p) (n48 : b4 ≠ b8) (hF : Fr 278 [(1,.int .i64 a),(2,.int .i64 how),(3,.int .i64 bb),(4,.ptr b4 0),(8,.ptr b8 0),(11,.int .i64 kk),(12,.int .i64 near)] F) (h : ∀ q,Sz (n + 14) q → R (.agg q.d) H) : xcode Tryz.prog x6_s38 F ((b8,.cells [.int .i64 0,.int .i64 0,.int .i64 0,.own [],.own [],.str []]) :: (b4,.cells [.int .i64 p.o,.int .i64 p.s,.int .i64 p.day,.own (refsD p.needs),.own (opsD p.ops),.str p.sl]) :: H) (retQ Tryz.prog [(.cell 8 26)] H.length R) := by
  obtain ⟨z,rfl⟩ : ∃ z : Nat → D,_ = z 0 :: .int .i64 a :: .int .i64 how :: .int .i64 bb :: .ptr b4 0 :: zz z 5 3 (.ptr b8 0 :: zz z 9 2 (.int .i64 kk :: .int .i64 near :: zz z 13 265 [])) := hF.lit
  try dsimp only [zz,reduceAdd] at *
  clear hF
  have hbig := big_eq
  simp +contextual only [x6,refs_len,ops_len,h_miss,h_skip,Int.reduceEq,n48,↓U6,↓XP,XW0,XW1,reduceSub,reduceAdd,reduceMul,reduceEqDiff,reduceLeDiff,Nat.reduceBEq,reduceCtorEq,TYX]
  refine f_around (by omega) ?_
  rw [hm]
  simp +contextual only [x6,refs_len,ops_len,h_miss,h_skip,Int.reduceEq,n48,↓U6,↓XP,XW0,XW1,reduceSub,reduceAdd,reduceMul,reduceEqDiff,reduceLeDiff,Nat.reduceBEq,reduceCtorEq,TYX]
  exact fun _ => ⟨by omega,h { p with s := near } (hp.same rfl rfl rfl)⟩
theorem spA_2 {n : Nat} {p : Pt} {a how bb kk near : Int} {b4 b8 : Nat} {F : List D} {H : AH} {R : D → AH → Prop} (hm : around how 20 = 2) (hn : n ≤ 900) (hp : Sz n p) (n48 : b4 ≠ b8) (hF : Fr 278 [(1,.int .i64 a),(2,.int .i64 how),(3,.int .i64 bb),(4,.ptr b4 0),(8,.ptr b8 0),(11,.int .i64 kk),(12,.int .i64 near)] F) (h : ∀ q,Sz (n + 14) q → R (.agg q.d) H) : xcode Tryz.prog x6_s38 F ((b8,.cells [.int .i64 0,.int .i64 0,.int .i64 0,.own [],.own [],.str []]) :: (b4,.cells [.int .i64 p.o,.int .i64 p.s,.int .i64 p.day,.own (refsD p.needs),.own (opsD p.ops),.str p.sl]) :: H) (retQ Tryz.prog [(.cell 8 26)] H.length R) := by
  obtain ⟨z,rfl⟩ : ∃ z : Nat → D,_ = z 0 :: .int .i64 a :: .int .i64 how :: .int .i64 bb :: .ptr b4 0 :: zz z 5 3 (.ptr b8 0 :: zz z 9 2 (.int .i64 kk :: .int .i64 near :: zz z 13 265 [])) := hF.lit
  try dsimp only [zz,reduceAdd] at *
  clear hF
  have hbig := big_eq
  simp +contextual only [x6,refs_len,ops_len,h_miss,h_skip,Int.reduceEq,n48,↓U6,↓XP,XW0,XW1,reduceSub,reduceAdd,reduceMul,reduceEqDiff,reduceLeDiff,Nat.reduceBEq,reduceCtorEq,TYX]
  refine f_around (by omega) ?_
  rw [hm]
  simp +contextual only [x6,refs_len,ops_len,h_miss,h_skip,Int.reduceEq,n48,↓U6,↓XP,XW0,XW1,reduceSub,reduceAdd,reduceMul,reduceEqDiff,reduceLeDiff,Nat.reduceBEq,reduceCtorEq,TYX]
  refine fun _ => f_around (by omega) ?_
  obtain ⟨r1,r2⟩ := around_range (n := bb) (most := 5) (by omega)
  generalize around bb 5 = r at r1 r2 ⊢
  obtain ⟨v,hv,e⟩ := pick_int (l := [0,1,1048576,1048577,bb]) r1 r2
  have e' : [[D.int .i64 0],[D.int .i64 1],[D.int .i64 1048576],[D.int .i64 1048577],[D.int .i64 bb]].getD r.toNat [] = [.int .i64 v] := e
  simp +contextual only [x6,refs_len,ops_len,h_miss,h_skip,Int.reduceEq,n48,e',r1,show r < ((5 : Nat) : Int) from r2,↓U6,↓XP,XW0,XW1,reduceSub,reduceAdd,reduceMul,reduceEqDiff,reduceLeDiff,Nat.reduceBEq,reduceCtorEq,TYX]
  exact fun _ _ => ⟨by omega,h { p with day := v } (hp.same rfl rfl rfl)⟩
theorem spA_4 {n : Nat} {p : Pt} {a how bb kk near : Int} {b4 b8 : Nat} {F : List D} {H : AH} {R : D → AH → Prop} (hm : around how 20 = 4) (hn : n ≤ 900) (hp : Sz n p) (n48 : b4 ≠ b8) (hF : Fr 278 [(1,.int .i64 a),(2,.int .i64 how),(3,.int .i64 bb),(4,.ptr b4 0),(8,.ptr b8 0),(11,.int .i64 kk),(12,.int .i64 near)] F) (h : ∀ q,Sz (n + 14) q → R (.agg q.d) H) : xcode Tryz.prog x6_s38 F ((b8,.cells [.int .i64 0,.int .i64 0,.int .i64 0,.own [],.own [],.str []]) :: (b4,.cells [.int .i64 p.o,.int .i64 p.s,.int .i64 p.day,.own (refsD p.needs),.own (opsD p.ops),.str p.sl]) :: H) (retQ Tryz.prog [(.cell 8 26)] H.length R) := by
  obtain ⟨z,rfl⟩ : ∃ z : Nat → D,_ = z 0 :: .int .i64 a :: .int .i64 how :: .int .i64 bb :: .ptr b4 0 :: zz z 5 3 (.ptr b8 0 :: zz z 9 2 (.int .i64 kk :: .int .i64 near :: zz z 13 265 [])) := hF.lit
  try dsimp only [zz,reduceAdd] at *
  clear hF
  have hbig := big_eq
  simp +contextual only [x6,refs_len,ops_len,h_miss,h_skip,Int.reduceEq,n48,↓U6,↓XP,XW0,XW1,reduceSub,reduceAdd,reduceMul,reduceEqDiff,reduceLeDiff,Nat.reduceBEq,reduceCtorEq,TYX]
  refine f_around (by omega) ?_
  rw [hm]
  simp +contextual only [x6,refs_len,ops_len,h_miss,h_skip,Int.reduceEq,n48,↓U6,↓XP,XW0,XW1,reduceSub,reduceAdd,reduceMul,reduceEqDiff,reduceLeDiff,Nat.reduceBEq,reduceCtorEq,TYX]
  exact fun _ _ => ⟨ops_13,by omega,h { p with ops := [] } ⟨Nat.zero_le _,by have := hp.needs; simp only; omega,(by simp),(by simp),(by simp),hp.sl⟩⟩
theorem spA_17 {n : Nat} {p : Pt} {a how bb kk near : Int} {b4 b8 : Nat} {F : List D} {H : AH} {R : D → AH → Prop} (hm : around how 20 = 17) (hn : n ≤ 900) (hp : Sz n p) (n48 : b4 ≠ b8) (hF : Fr 278 [(1,.int .i64 a),(2,.int .i64 how),(3,.int .i64 bb),(4,.ptr b4 0),(8,.ptr b8 0),(11,.int .i64 kk),(12,.int .i64 near)] F) (h : ∀ q,Sz (n + 14) q → R (.agg q.d) H) : xcode Tryz.prog x6_s38 F ((b8,.cells [.int .i64 0,.int .i64 0,.int .i64 0,.own [],.own [],.str []]) :: (b4,.cells [.int .i64 p.o,.int .i64 p.s,.int .i64 p.day,.own (refsD p.needs),.own (opsD p.ops),.str p.sl]) :: H) (retQ Tryz.prog [(.cell 8 26)] H.length R) := by
  obtain ⟨z,rfl⟩ : ∃ z : Nat → D,_ = z 0 :: .int .i64 a :: .int .i64 how :: .int .i64 bb :: .ptr b4 0 :: zz z 5 3 (.ptr b8 0 :: zz z 9 2 (.int .i64 kk :: .int .i64 near :: zz z 13 265 [])) := hF.lit
  try dsimp only [zz,reduceAdd] at *
  clear hF
  have hbig := big_eq
  simp +contextual only [x6,refs_len,ops_len,h_miss,h_skip,Int.reduceEq,n48,↓U6,↓XP,XW0,XW1,reduceSub,reduceAdd,reduceMul,reduceEqDiff,reduceLeDiff,Nat.reduceBEq,reduceCtorEq,TYX]
  refine f_around (by omega) ?_
  rw [hm]
  simp +contextual only [x6,refs_len,ops_len,h_miss,h_skip,Int.reduceEq,n48,↓U6,↓XP,XW0,XW1,reduceSub,reduceAdd,reduceMul,reduceEqDiff,reduceLeDiff,Nat.reduceBEq,reduceCtorEq,TYX]
  refine fun _ => f_around (by omega) ?_
  obtain ⟨r1,r2⟩ := around_range (n := bb) (most := 4) (by omega)
  generalize around bb 4 = r at r1 r2 ⊢
  obtain ⟨v,hv,e⟩ := pick_int (l := [0,1,1200,1201]) r1 r2
  have e' : [[D.int .i64 0],[D.int .i64 1],[D.int .i64 1200],[D.int .i64 1201]].getD r.toNat [] = [.int .i64 v] := e
  have hv' : 0 ≤ v ∧ v ≤ 1201 := by
    simp only [List.mem_cons,List.not_mem_nil,or_false] at hv
    omega
  simp +contextual only [x6,refs_len,ops_len,h_miss,h_skip,Int.reduceEq,n48,e',r1,show r < ((4 : Nat) : Int) from r2,↓U6,↓XP,XW0,XW1,reduceSub,reduceAdd,reduceMul,reduceEqDiff,reduceLeDiff,Nat.reduceBEq,reduceCtorEq,TYX]
  exact fun _ _ => ⟨hv'.1,infoB (by omega),zeroB,fun _ => h { p with sl := (List.replicate v.toNat [D.int .u8 0]).map unbyte } ⟨by have := hp.ops; simp only; omega,by have := hp.needs; simp only; omega,fun o ho => by have := hp.ids o ho; omega,hp.name,hp.text,by simp only [List.length_map,List.length_replicate]; omega⟩⟩
end Go.Proofs.YtoeckfegggongaaGreatDoor
end
section
namespace Go.Proofs.YtoeckfegggongaaGreatDoor
open Go Go.Aw
theorem op_plain {l : List OpP} : ∀ x ∈ opsD l,∀ d ∈ x,plain d = true := by
  intro x hx d hd
  obtain ⟨o,_,rfl⟩ := List.mem_map.1 hx
  simp only [OpP.d,List.mem_cons,List.not_mem_nil,or_false] at hd
  rcases hd with rfl | rfl | rfl | rfl | rfl | rfl | rfl | rfl | rfl | rfl | rfl | rfl | rfl <;> rfl
theorem sp_fz {F : List D} {H : AH} {b b4 b8 n : Nat} {o8 : AO} {c0 c1 c2 c3 c5 : D} {l : List OpP} {rest : List D} (h1 : b4 ≠ b) (h2 : b4 ≠ b8) (hl : l.length = n) :
    Fz F ((b,.cells ((opsD l).flatten ++ rest)) :: (b8,o8) :: (b4,.cells [c0,c1,c2,c3,.hsl b n,c5]) :: H) F ((b8,o8) :: (b4,.cells [c0,c1,c2,c3,.slc (opsD l),c5]) :: H) := by
  have h := Fz.freezeC (F := F) (H := (b,.cells ((opsD l).flatten ++ rest)) :: (b8,o8) :: (b4,.cells [c0,c1,c2,c3,.hsl b n,c5]) :: H) (b' := b4) (j := 4) (b := b) (n := n) (sz := 13) (ds := [c0,c1,c2,c3,.hsl b n,c5]) (cs := (opsD l).flatten ++ rest) (xs := opsD l) (rest := rest) h1
    (by rw [h_miss h1,h_miss h2,h_hit]) rfl h_hit rfl (by rw [ops_len,hl]) ops_13 (by omega) op_plain
  rw [h_skip h1,h_skip h2,h_set,e_hit] at h
  exact h
theorem wr1 {l : List OpP} {kk j : Nat} {v : D} {rest : List D} (hk : kk < l.length) {o' : OpP} (hj : j < 13) (e : (l.getD kk default).d.set j v = o'.d) :
    ((opsD l).flatten ++ rest).set (kk * 13 + j) v = (opsD (l.set kk o')).flatten ++ rest := by
  rw [fl_set ops_13 (by rw [ops_len]; exact hk) hj,ops_get hk,e,ops_set]
theorem wr2 {l : List OpP} {kk j m : Nat} {v : List D} {rest : List D} (hk : kk < l.length) {o' : OpP} (hj : j + m ≤ 13) (e : (l.getD kk default).d.take j ++ (v ++ (l.getD kk default).d.drop (j + m)) = o'.d) :
    ((opsD l).flatten ++ rest).take (kk * 13 + j) ++ (v ++ ((opsD l).flatten ++ rest).drop (kk * 13 + j + m)) = (opsD (l.set kk o')).flatten ++ rest := by
  rw [fl_sets ops_13 (by rw [ops_len]; exact hk) hj,ops_get hk,e,ops_set]
theorem wrC2 {l : List OpP} {kk j : Nat} {x y : D} {rest : List D} (hk : kk < l.length) {o' : OpP} (hj : j + 2 ≤ 13) (e : (l.getD kk default).d.take j ++ ([x,y] ++ (l.getD kk default).d.drop (j + 2)) = o'.d) :
    ((opsD l).flatten ++ rest).take (kk * 13 + j) ++ x :: y :: ((opsD l).flatten ++ rest).drop (kk * 13 + j + 2) = (opsD (l.set kk o')).flatten ++ rest := wr2 hk hj e
theorem wrC3 {l : List OpP} {kk j : Nat} {x y z : D} {rest : List D} (hk : kk < l.length) {o' : OpP} (hj : j + 3 ≤ 13) (e : (l.getD kk default).d.take j ++ ([x,y,z] ++ (l.getD kk default).d.drop (j + 3)) = o'.d) :
    ((opsD l).flatten ++ rest).take (kk * 13 + j) ++ x :: y :: z :: ((opsD l).flatten ++ rest).drop (kk * 13 + j + 3) = (opsD (l.set kk o')).flatten ++ rest := wr2 hk hj e
theorem wrC13 {l : List OpP} {kk : Nat} {rest : List D} (hk : kk < l.length) {o' : OpP} :
    ((opsD l).flatten ++ rest).take (kk * 13) ++ (o'.d ++ ((opsD l).flatten ++ rest).drop (kk * 13 + 13)) = (opsD (l.set kk o')).flatten ++ rest :=
  wr2 (j := 0) (m := 13) hk (by omega) (by simp [OpP.d])
theorem gz_th {F : List D} {H : AH} {k : List D → AH → Prop} (h : Gz F H fun F' H' => Gz F' H' k) : Gz F H k := Gz.bind h fun _ _ h => h
theorem rd1 {l : List OpP} {kk j : Nat} {rest : List D} (hk : kk < l.length) (hj : j < 13) : ((opsD l).flatten ++ rest)[kk * 13 + j]? = (l.getD kk default).d[j]? := by
  rw [fl_get ops_13 (by rw [ops_len]; exact hk) hj,ops_get hk]
theorem rd2 {l : List OpP} {kk j m : Nat} {rest : List D} (hk : kk < l.length) (hj : j + m ≤ 13) : (((opsD l).flatten ++ rest).drop (kk * 13 + j)).take m = ((l.getD kk default).d.drop j).take m := by
  rw [fl_gets ops_13 (by rw [ops_len]; exact hk) hj,ops_get hk]
theorem wr_len {l : List OpP} {rest : List D} {kk : Nat} (hk : kk < l.length) : kk * 13 + 13 ≤ ((opsD l).flatten ++ rest).length := by
  rw [List.length_append,flat_len (sz := 13) ops_13,ops_len]
  have : (kk + 1) * 13 ≤ l.length * 13 := Nat.mul_le_mul_right _ hk
  omega
theorem spB {n : Nat} {p : Pt} {a how bb : Int} {H : AH} {R : D → AH → Prop} (hn : n ≤ 900) (hp : Sz n p) (hne : 0 < p.ops.length)
    (h : ∀ (b b4 b8 m kk : Nat) (near : Int) (F : List D),b4 ≠ b8 → b4 ≠ b → b8 ≠ b → kk < p.ops.length → Fr 278 [(1,.int .i64 a),(2,.int .i64 how),(3,.int .i64 bb),(4,.ptr b4 0),(8,.ptr b8 0),(11,.int .i64 (kk : Int)),(12,.int .i64 near)] F → xcode Tryz.prog x6v_s38 F ((b,.cells ((opsD p.ops).flatten ++ List.replicate m .any)) :: (b8,.cells [.int .i64 0,.int .i64 0,.int .i64 0,.own [],.own [],.str []]) :: (b4,.cells [.int .i64 p.o,.int .i64 p.s,.int .i64 p.day,.own (refsD p.needs),.hsl b p.ops.length,.str p.sl]) :: H) (retQ Tryz.prog [(.cell 8 26)] H.length R)) :
    ACall Tryz.prog 6 [.agg p.d,.int .i64 a,.int .i64 how,.int .i64 bb] H R := by
  refine b6v fun hf => ?_
  have hbig := big_eq
  have hd := @dE p
  have l1 := hp.ops
  have l2 := hp.needs
  have hx : opsD p.ops ≠ [] := by
    intro e
    have := congrArg List.length e
    rw [ops_len] at this
    simp at this
    rw [this] at hne
    simp at hne
  simp +contextual only [x6v,↓u6v_s42,↓u6v_s41,↓u6v_s40,↓u6v_s39,refs_len,ops_len,h_miss,h_skip,hd,hx,↓XP,XW0,XW1,reduceSub,reduceAdd,reduceMul,reduceEqDiff,reduceLeDiff,Nat.reduceBEq,reduceCtorEq,TYX]
  intro b4 h4 b8 hh h8
  obtain ⟨n48,h8'⟩ := hh
  have a1 := around_range (n := a) (most := (p.ops.length : Int)) (by omega)
  have a2 := around_range (n := bb) (most := 22) (by omega)
  obtain ⟨kk,hk⟩ := Int.eq_ofNat_of_zero_le a1.1
  refine ⟨refs_2,by omega,by omega,fun _ => ⟨ops_13,by omega,fun b m hh => ?_⟩⟩
  obtain ⟨n8b,n4b,hb⟩ := hh
  refine ⟨by omega,f_around (by omega) ?_⟩
  rw [hk]
  simp +contextual only [x6v,↓u6v_s42,↓u6v_s41,↓u6v_s40,↓u6v_s39,refs_len,ops_len,h_miss,h_skip,hd,n48,n8b,n4b,↓XP,XW0,XW1,reduceSub,reduceAdd,reduceMul,reduceEqDiff,reduceLeDiff,Nat.reduceBEq,reduceCtorEq,TYX]
  refine fun _ => f_around (by omega) ?_
  simp +contextual only [x6v,↓u6v_s42,↓u6v_s41,↓u6v_s40,↓u6v_s39,refs_len,ops_len,h_miss,h_skip,hd,n48,n8b,n4b,wrap_id (show -9223372036854775808 ≤ around bb 22 - 2 by omega) (by omega),↓XP,XW0,XW1,reduceSub,reduceAdd,reduceMul,reduceEqDiff,reduceLeDiff,Nat.reduceBEq,reduceCtorEq,TYX]
  intros
  refine h b b4 b8 m kk (around bb 22 - 2) _ n48 n4b n8b (by omega) ?_
  exact ⟨rfl,rfl,rfl,rfl,rfl,rfl,rfl,rfl,trivial⟩
end Go.Proofs.YtoeckfegggongaaGreatDoor
end
section
namespace Go.Proofs.YtoeckfegggongaaGreatDoor
open Go Go.Aw
theorem spB_6 {n : Nat} {p : Pt} {a how bb near : Int} {b b4 b8 m kk : Nat} {F : List D} {H : AH} {R : D → AH → Prop} (hm : around how 20 = 6) (hn : n ≤ 900) (hp : Sz n p) (n48 : b4 ≠ b8) (n4b : b4 ≠ b) (n8b : b8 ≠ b) (hk : kk < p.ops.length) (hF : Fr 278 [(1,.int .i64 a),(2,.int .i64 how),(3,.int .i64 bb),(4,.ptr b4 0),(8,.ptr b8 0),(11,.int .i64 (kk : Int)),(12,.int .i64 near)] F) (h : ∀ q,Sz (n + 14) q → R (.agg q.d) H) : xcode Tryz.prog x6v_s38 F ((b,.cells ((opsD p.ops).flatten ++ List.replicate m .any)) :: (b8,.cells [.int .i64 0,.int .i64 0,.int .i64 0,.own [],.own [],.str []]) :: (b4,.cells [.int .i64 p.o,.int .i64 p.s,.int .i64 p.day,.own (refsD p.needs),.hsl b p.ops.length,.str p.sl]) :: H) (retQ Tryz.prog [(.cell 8 26)] H.length R) := by
  obtain ⟨z,rfl⟩ : ∃ z : Nat → D,_ = z 0 :: .int .i64 a :: .int .i64 how :: .int .i64 bb :: .ptr b4 0 :: zz z 5 3 (.ptr b8 0 :: zz z 9 2 (.int .i64 (kk : Int) :: .int .i64 near :: zz z 13 265 [])) := hF.lit
  try dsimp only [zz,reduceAdd] at *
  clear hF
  have hbig := big_eq
  have wl := wr_len (rest := List.replicate m .any) hk
  have ho := getD_mem1 hk
  have o1 := hp.ids _ ho
  have o2 := hp.name _ ho
  have o3 := hp.text _ ho
  obtain ⟨o,eo⟩ : ∃ o,p.ops.getD kk default = o := ⟨_,rfl⟩
  rw [eo] at o1 o2 o3
  simp +contextual only [x6v,refs_len,ops_len,h_miss,h_skip,Int.reduceEq,n48,n4b,n8b,hk,Int.ofNat_lt,List.length_set,↓U6v,↓XP,XW0,XW1,reduceSub,reduceAdd,reduceMul,reduceEqDiff,reduceLeDiff,Nat.reduceBEq,reduceCtorEq,TYX]
  refine f_around (by omega) ?_
  rw [hm]
  simp +contextual only [x6v,refs_len,ops_len,h_miss,h_skip,Int.reduceEq,n48,n4b,n8b,hk,Int.ofNat_lt,List.length_set,↓U6v,↓XP,XW0,XW1,reduceSub,reduceAdd,reduceMul,reduceEqDiff,reduceLeDiff,Nat.reduceBEq,reduceCtorEq,TYX]
  refine fun _ => ⟨by omega,?_⟩
  have e := wr1 (rest := List.replicate m .any) (v := .int .i64 near) (o' := { o with k := near }) (j := 0) hk (by omega) (by rw [eo]; rfl)
  try rw [Nat.add_zero] at e
  rw [e]
  refine gh_intro (sp_fz n4b n48 (by rw [List.length_set])) ?_
  simp +contextual only [x6v,refs_len,ops_len,h_miss,h_skip,Int.reduceEq,n48,n4b,n8b,hk,Int.ofNat_lt,List.length_set,↓U6v,↓XP,XW0,XW1,reduceSub,reduceAdd,reduceMul,reduceEqDiff,reduceLeDiff,Nat.reduceBEq,reduceCtorEq,TYX]
  exact h { p with ops := p.ops.set kk _ } (hp.setOp (by simp only; omega) (by simp only; omega) (by simp only; omega))
theorem spB_7 {n : Nat} {p : Pt} {a how bb near : Int} {b b4 b8 m kk : Nat} {F : List D} {H : AH} {R : D → AH → Prop} (hm : around how 20 = 7) (hn : n ≤ 900) (hp : Sz n p) (n48 : b4 ≠ b8) (n4b : b4 ≠ b) (n8b : b8 ≠ b) (hk : kk < p.ops.length) (hF : Fr 278 [(1,.int .i64 a),(2,.int .i64 how),(3,.int .i64 bb),(4,.ptr b4 0),(8,.ptr b8 0),(11,.int .i64 (kk : Int)),(12,.int .i64 near)] F) (h : ∀ q,Sz (n + 14) q → R (.agg q.d) H) : xcode Tryz.prog x6v_s38 F ((b,.cells ((opsD p.ops).flatten ++ List.replicate m .any)) :: (b8,.cells [.int .i64 0,.int .i64 0,.int .i64 0,.own [],.own [],.str []]) :: (b4,.cells [.int .i64 p.o,.int .i64 p.s,.int .i64 p.day,.own (refsD p.needs),.hsl b p.ops.length,.str p.sl]) :: H) (retQ Tryz.prog [(.cell 8 26)] H.length R) := by
  obtain ⟨z,rfl⟩ : ∃ z : Nat → D,_ = z 0 :: .int .i64 a :: .int .i64 how :: .int .i64 bb :: .ptr b4 0 :: zz z 5 3 (.ptr b8 0 :: zz z 9 2 (.int .i64 (kk : Int) :: .int .i64 near :: zz z 13 265 [])) := hF.lit
  try dsimp only [zz,reduceAdd] at *
  clear hF
  have hbig := big_eq
  have wl := wr_len (rest := List.replicate m .any) hk
  have ho := getD_mem1 hk
  have o1 := hp.ids _ ho
  have o2 := hp.name _ ho
  have o3 := hp.text _ ho
  obtain ⟨o,eo⟩ : ∃ o,p.ops.getD kk default = o := ⟨_,rfl⟩
  rw [eo] at o1 o2 o3
  simp +contextual only [x6v,refs_len,ops_len,h_miss,h_skip,Int.reduceEq,n48,n4b,n8b,hk,Int.ofNat_lt,List.length_set,↓U6v,↓XP,XW0,XW1,reduceSub,reduceAdd,reduceMul,reduceEqDiff,reduceLeDiff,Nat.reduceBEq,reduceCtorEq,TYX]
  refine f_around (by omega) ?_
  rw [hm]
  simp +contextual only [x6v,refs_len,ops_len,h_miss,h_skip,Int.reduceEq,n48,n4b,n8b,hk,Int.ofNat_lt,List.length_set,↓U6v,↓XP,XW0,XW1,reduceSub,reduceAdd,reduceMul,reduceEqDiff,reduceLeDiff,Nat.reduceBEq,reduceCtorEq,TYX]
  refine fun _ => ⟨_,f_around (by omega) ⟨rfl,rfl⟩,?_⟩
  simp +contextual only [x6v,refs_len,ops_len,h_miss,h_skip,Int.reduceEq,n48,n4b,n8b,hk,Int.ofNat_lt,List.length_set,↓U6v,↓XP,XW0,XW1,reduceSub,reduceAdd,reduceMul,reduceEqDiff,reduceLeDiff,Nat.reduceBEq,reduceCtorEq,TYX]
  refine fun _ => ⟨_,f_around (by omega) ⟨rfl,rfl⟩,?_⟩
  simp +contextual only [x6v,refs_len,ops_len,h_miss,h_skip,Int.reduceEq,n48,n4b,n8b,hk,Int.ofNat_lt,List.length_set,↓U6v,↓XP,XW0,XW1,reduceSub,reduceAdd,reduceMul,reduceEqDiff,reduceLeDiff,Nat.reduceBEq,reduceCtorEq,TYX]
  refine fun _ => ⟨by omega,?_⟩
  have e := wrC3 (rest := List.replicate m .any) (x := .int .i64 (near)) (y := .int .i64 (around bb 19)) (z := .int .i64 (IntKind.i64.wrap (around (IntKind.i64.wrap (bb.tdiv 5)) 18 - 1))) (o' := { o with on := ⟨near,around bb 19,IntKind.i64.wrap (around (IntKind.i64.wrap (bb.tdiv 5)) 18 - 1)⟩ }) (j := 1) hk (by omega) (by rw [eo]; rfl)
  try rw [Nat.add_zero] at e
  rw [e]
  refine gh_intro (sp_fz n4b n48 (by rw [List.length_set])) ?_
  simp +contextual only [x6v,refs_len,ops_len,h_miss,h_skip,Int.reduceEq,n48,n4b,n8b,hk,Int.ofNat_lt,List.length_set,↓U6v,↓XP,XW0,XW1,reduceSub,reduceAdd,reduceMul,reduceEqDiff,reduceLeDiff,Nat.reduceBEq,reduceCtorEq,TYX]
  exact h { p with ops := p.ops.set kk _ } (hp.setOp (by simp only; omega) (by simp only; omega) (by simp only; omega))
theorem spB_8 {n : Nat} {p : Pt} {a how bb near : Int} {b b4 b8 m kk : Nat} {F : List D} {H : AH} {R : D → AH → Prop} (hm : around how 20 = 8) (hn : n ≤ 900) (hp : Sz n p) (n48 : b4 ≠ b8) (n4b : b4 ≠ b) (n8b : b8 ≠ b) (hk : kk < p.ops.length) (hF : Fr 278 [(1,.int .i64 a),(2,.int .i64 how),(3,.int .i64 bb),(4,.ptr b4 0),(8,.ptr b8 0),(11,.int .i64 (kk : Int)),(12,.int .i64 near)] F) (h : ∀ q,Sz (n + 14) q → R (.agg q.d) H) : xcode Tryz.prog x6v_s38 F ((b,.cells ((opsD p.ops).flatten ++ List.replicate m .any)) :: (b8,.cells [.int .i64 0,.int .i64 0,.int .i64 0,.own [],.own [],.str []]) :: (b4,.cells [.int .i64 p.o,.int .i64 p.s,.int .i64 p.day,.own (refsD p.needs),.hsl b p.ops.length,.str p.sl]) :: H) (retQ Tryz.prog [(.cell 8 26)] H.length R) := by
  obtain ⟨z,rfl⟩ : ∃ z : Nat → D,_ = z 0 :: .int .i64 a :: .int .i64 how :: .int .i64 bb :: .ptr b4 0 :: zz z 5 3 (.ptr b8 0 :: zz z 9 2 (.int .i64 (kk : Int) :: .int .i64 near :: zz z 13 265 [])) := hF.lit
  try dsimp only [zz,reduceAdd] at *
  clear hF
  have hbig := big_eq
  have wl := wr_len (rest := List.replicate m .any) hk
  have ho := getD_mem1 hk
  have o1 := hp.ids _ ho
  have o2 := hp.name _ ho
  have o3 := hp.text _ ho
  obtain ⟨o,eo⟩ : ∃ o,p.ops.getD kk default = o := ⟨_,rfl⟩
  rw [eo] at o1 o2 o3
  simp +contextual only [x6v,refs_len,ops_len,h_miss,h_skip,Int.reduceEq,n48,n4b,n8b,hk,Int.ofNat_lt,List.length_set,↓U6v,↓XP,XW0,XW1,reduceSub,reduceAdd,reduceMul,reduceEqDiff,reduceLeDiff,Nat.reduceBEq,reduceCtorEq,TYX]
  refine f_around (by omega) ?_
  rw [hm]
  simp +contextual only [x6v,refs_len,ops_len,h_miss,h_skip,Int.reduceEq,n48,n4b,n8b,hk,Int.ofNat_lt,List.length_set,↓U6v,↓XP,XW0,XW1,reduceSub,reduceAdd,reduceMul,reduceEqDiff,reduceLeDiff,Nat.reduceBEq,reduceCtorEq,TYX]
  refine fun _ => ⟨_,f_around (by omega) ⟨rfl,rfl⟩,?_⟩
  simp +contextual only [x6v,refs_len,ops_len,h_miss,h_skip,Int.reduceEq,n48,n4b,n8b,hk,Int.ofNat_lt,List.length_set,↓U6v,↓XP,XW0,XW1,reduceSub,reduceAdd,reduceMul,reduceEqDiff,reduceLeDiff,Nat.reduceBEq,reduceCtorEq,TYX]
  refine fun _ => ⟨_,f_around (by omega) ⟨rfl,rfl⟩,?_⟩
  simp +contextual only [x6v,refs_len,ops_len,h_miss,h_skip,Int.reduceEq,n48,n4b,n8b,hk,Int.ofNat_lt,List.length_set,↓U6v,↓XP,XW0,XW1,reduceSub,reduceAdd,reduceMul,reduceEqDiff,reduceLeDiff,Nat.reduceBEq,reduceCtorEq,TYX]
  refine fun _ => ⟨by omega,?_⟩
  have e := wrC3 (rest := List.replicate m .any) (x := .int .i64 (around bb 9)) (y := .int .i64 (near)) (z := .int .i64 (IntKind.i64.wrap (around (IntKind.i64.wrap (bb.tdiv 5)) 18 - 1))) (o' := { o with to := ⟨around bb 9,near,IntKind.i64.wrap (around (IntKind.i64.wrap (bb.tdiv 5)) 18 - 1)⟩ }) (j := 4) hk (by omega) (by rw [eo]; rfl)
  try rw [Nat.add_zero] at e
  rw [e]
  refine gh_intro (sp_fz n4b n48 (by rw [List.length_set])) ?_
  simp +contextual only [x6v,refs_len,ops_len,h_miss,h_skip,Int.reduceEq,n48,n4b,n8b,hk,Int.ofNat_lt,List.length_set,↓U6v,↓XP,XW0,XW1,reduceSub,reduceAdd,reduceMul,reduceEqDiff,reduceLeDiff,Nat.reduceBEq,reduceCtorEq,TYX]
  exact h { p with ops := p.ops.set kk _ } (hp.setOp (by simp only; omega) (by simp only; omega) (by simp only; omega))
theorem spB_9 {n : Nat} {p : Pt} {a how bb near : Int} {b b4 b8 m kk : Nat} {F : List D} {H : AH} {R : D → AH → Prop} (hm : around how 20 = 9) (hn : n ≤ 900) (hp : Sz n p) (n48 : b4 ≠ b8) (n4b : b4 ≠ b) (n8b : b8 ≠ b) (hk : kk < p.ops.length) (hF : Fr 278 [(1,.int .i64 a),(2,.int .i64 how),(3,.int .i64 bb),(4,.ptr b4 0),(8,.ptr b8 0),(11,.int .i64 (kk : Int)),(12,.int .i64 near)] F) (h : ∀ q,Sz (n + 14) q → R (.agg q.d) H) : xcode Tryz.prog x6v_s38 F ((b,.cells ((opsD p.ops).flatten ++ List.replicate m .any)) :: (b8,.cells [.int .i64 0,.int .i64 0,.int .i64 0,.own [],.own [],.str []]) :: (b4,.cells [.int .i64 p.o,.int .i64 p.s,.int .i64 p.day,.own (refsD p.needs),.hsl b p.ops.length,.str p.sl]) :: H) (retQ Tryz.prog [(.cell 8 26)] H.length R) := by
  obtain ⟨z,rfl⟩ : ∃ z : Nat → D,_ = z 0 :: .int .i64 a :: .int .i64 how :: .int .i64 bb :: .ptr b4 0 :: zz z 5 3 (.ptr b8 0 :: zz z 9 2 (.int .i64 (kk : Int) :: .int .i64 near :: zz z 13 265 [])) := hF.lit
  try dsimp only [zz,reduceAdd] at *
  clear hF
  have hbig := big_eq
  have wl := wr_len (rest := List.replicate m .any) hk
  have ho := getD_mem1 hk
  have o1 := hp.ids _ ho
  have o2 := hp.name _ ho
  have o3 := hp.text _ ho
  obtain ⟨o,eo⟩ : ∃ o,p.ops.getD kk default = o := ⟨_,rfl⟩
  rw [eo] at o1 o2 o3
  simp +contextual only [x6v,refs_len,ops_len,h_miss,h_skip,Int.reduceEq,n48,n4b,n8b,hk,Int.ofNat_lt,List.length_set,↓U6v,↓XP,XW0,XW1,reduceSub,reduceAdd,reduceMul,reduceEqDiff,reduceLeDiff,Nat.reduceBEq,reduceCtorEq,TYX]
  refine f_around (by omega) ?_
  rw [hm]
  simp +contextual only [x6v,refs_len,ops_len,h_miss,h_skip,Int.reduceEq,n48,n4b,n8b,hk,Int.ofNat_lt,List.length_set,↓U6v,↓XP,XW0,XW1,reduceSub,reduceAdd,reduceMul,reduceEqDiff,reduceLeDiff,Nat.reduceBEq,reduceCtorEq,TYX]
  refine fun _ => ⟨by omega,by rw [rd2 hk (by omega),eo]; rfl,by omega,?_⟩
  rw [rd2 hk (by omega),eo]
  have e := wr2 (rest := List.replicate m .any) (v := List.map D.view1 ((o.d.drop 1).take 3)) (o' := { o with to := o.on }) (j := 4) (m := 3) hk (by omega) (by rw [eo]; rfl)
  try rw [Nat.add_zero] at e
  rw [e]
  refine gh_intro (sp_fz n4b n48 (by rw [List.length_set])) ?_
  simp +contextual only [x6v,refs_len,ops_len,h_miss,h_skip,Int.reduceEq,n48,n4b,n8b,hk,Int.ofNat_lt,List.length_set,↓U6v,↓XP,XW0,XW1,reduceSub,reduceAdd,reduceMul,reduceEqDiff,reduceLeDiff,Nat.reduceBEq,reduceCtorEq,TYX]
  exact h { p with ops := p.ops.set kk _ } (hp.setOp (by simp only; omega) (by simp only; omega) (by simp only; omega))
theorem spB_10 {n : Nat} {p : Pt} {a how bb near : Int} {b b4 b8 m kk : Nat} {F : List D} {H : AH} {R : D → AH → Prop} (hm : around how 20 = 10) (hn : n ≤ 900) (hp : Sz n p) (n48 : b4 ≠ b8) (n4b : b4 ≠ b) (n8b : b8 ≠ b) (hk : kk < p.ops.length) (hF : Fr 278 [(1,.int .i64 a),(2,.int .i64 how),(3,.int .i64 bb),(4,.ptr b4 0),(8,.ptr b8 0),(11,.int .i64 (kk : Int)),(12,.int .i64 near)] F) (h : ∀ q,Sz (n + 14) q → R (.agg q.d) H) : xcode Tryz.prog x6v_s38 F ((b,.cells ((opsD p.ops).flatten ++ List.replicate m .any)) :: (b8,.cells [.int .i64 0,.int .i64 0,.int .i64 0,.own [],.own [],.str []]) :: (b4,.cells [.int .i64 p.o,.int .i64 p.s,.int .i64 p.day,.own (refsD p.needs),.hsl b p.ops.length,.str p.sl]) :: H) (retQ Tryz.prog [(.cell 8 26)] H.length R) := by
  obtain ⟨z,rfl⟩ : ∃ z : Nat → D,_ = z 0 :: .int .i64 a :: .int .i64 how :: .int .i64 bb :: .ptr b4 0 :: zz z 5 3 (.ptr b8 0 :: zz z 9 2 (.int .i64 (kk : Int) :: .int .i64 near :: zz z 13 265 [])) := hF.lit
  try dsimp only [zz,reduceAdd] at *
  clear hF
  have hbig := big_eq
  have wl := wr_len (rest := List.replicate m .any) hk
  have ho := getD_mem1 hk
  have o1 := hp.ids _ ho
  have o2 := hp.name _ ho
  have o3 := hp.text _ ho
  obtain ⟨o,eo⟩ : ∃ o,p.ops.getD kk default = o := ⟨_,rfl⟩
  rw [eo] at o1 o2 o3
  simp +contextual only [x6v,refs_len,ops_len,h_miss,h_skip,Int.reduceEq,n48,n4b,n8b,hk,Int.ofNat_lt,List.length_set,↓U6v,↓XP,XW0,XW1,reduceSub,reduceAdd,reduceMul,reduceEqDiff,reduceLeDiff,Nat.reduceBEq,reduceCtorEq,TYX]
  refine f_around (by omega) ?_
  rw [hm]
  simp +contextual only [x6v,refs_len,ops_len,h_miss,h_skip,Int.reduceEq,n48,n4b,n8b,hk,Int.ofNat_lt,List.length_set,↓U6v,↓XP,XW0,XW1,reduceSub,reduceAdd,reduceMul,reduceEqDiff,reduceLeDiff,Nat.reduceBEq,reduceCtorEq,TYX]
  refine fun _ => ⟨_,f_around (by omega) ⟨rfl,rfl⟩,?_⟩
  obtain ⟨r1,r2⟩ := around_range (n := bb) (most := 10) (by omega)
  generalize around bb 10 = r at r1 r2 ⊢
  obtain ⟨v,hv,e⟩ := pick_int (l := [-2,-1,0,1,2,1023,1024,1048576,1048577,bb]) r1 r2
  have e' : [[D.int .i64 (-2)],[D.int .i64 (-1)],[D.int .i64 0],[D.int .i64 1],[D.int .i64 2],[D.int .i64 1023],[D.int .i64 1024],[D.int .i64 1048576],[D.int .i64 1048577],[D.int .i64 bb]].getD r.toNat [] = [.int .i64 v] := e
  simp +contextual only [x6v,refs_len,ops_len,h_miss,h_skip,Int.reduceEq,n48,n4b,n8b,hk,Int.ofNat_lt,List.length_set,e',r1,show r < ((10 : Nat) : Int) from r2,↓U6v,↓XP,XW0,XW1,reduceSub,reduceAdd,reduceMul,reduceEqDiff,reduceLeDiff,Nat.reduceBEq,reduceCtorEq,TYX]
  refine fun _ _ => ⟨by omega,?_⟩
  have e := wr1 (rest := List.replicate m .any) (v := .int .i64 v) (o' := { o with n := v }) (j := 8) hk (by omega) (by rw [eo]; rfl)
  try rw [Nat.add_zero] at e
  rw [e]
  refine gh_intro (sp_fz n4b n48 (by rw [List.length_set])) ?_
  simp +contextual only [x6v,refs_len,ops_len,h_miss,h_skip,Int.reduceEq,n48,n4b,n8b,hk,Int.ofNat_lt,List.length_set,↓U6v,↓XP,XW0,XW1,reduceSub,reduceAdd,reduceMul,reduceEqDiff,reduceLeDiff,Nat.reduceBEq,reduceCtorEq,TYX]
  exact h { p with ops := p.ops.set kk _ } (hp.setOp (by simp only; omega) (by simp only; omega) (by simp only; omega))
theorem spB_11 {n : Nat} {p : Pt} {a how bb near : Int} {b b4 b8 m kk : Nat} {F : List D} {H : AH} {R : D → AH → Prop} (hm : around how 20 = 11) (hn : n ≤ 900) (hp : Sz n p) (n48 : b4 ≠ b8) (n4b : b4 ≠ b) (n8b : b8 ≠ b) (hk : kk < p.ops.length) (hF : Fr 278 [(1,.int .i64 a),(2,.int .i64 how),(3,.int .i64 bb),(4,.ptr b4 0),(8,.ptr b8 0),(11,.int .i64 (kk : Int)),(12,.int .i64 near)] F) (h : ∀ q,Sz (n + 14) q → R (.agg q.d) H) : xcode Tryz.prog x6v_s38 F ((b,.cells ((opsD p.ops).flatten ++ List.replicate m .any)) :: (b8,.cells [.int .i64 0,.int .i64 0,.int .i64 0,.own [],.own [],.str []]) :: (b4,.cells [.int .i64 p.o,.int .i64 p.s,.int .i64 p.day,.own (refsD p.needs),.hsl b p.ops.length,.str p.sl]) :: H) (retQ Tryz.prog [(.cell 8 26)] H.length R) := by
  obtain ⟨z,rfl⟩ : ∃ z : Nat → D,_ = z 0 :: .int .i64 a :: .int .i64 how :: .int .i64 bb :: .ptr b4 0 :: zz z 5 3 (.ptr b8 0 :: zz z 9 2 (.int .i64 (kk : Int) :: .int .i64 near :: zz z 13 265 [])) := hF.lit
  try dsimp only [zz,reduceAdd] at *
  clear hF
  have hbig := big_eq
  have wl := wr_len (rest := List.replicate m .any) hk
  have ho := getD_mem1 hk
  have o1 := hp.ids _ ho
  have o2 := hp.name _ ho
  have o3 := hp.text _ ho
  obtain ⟨o,eo⟩ : ∃ o,p.ops.getD kk default = o := ⟨_,rfl⟩
  rw [eo] at o1 o2 o3
  simp +contextual only [x6v,refs_len,ops_len,h_miss,h_skip,Int.reduceEq,n48,n4b,n8b,hk,Int.ofNat_lt,List.length_set,↓U6v,↓XP,XW0,XW1,reduceSub,reduceAdd,reduceMul,reduceEqDiff,reduceLeDiff,Nat.reduceBEq,reduceCtorEq,TYX]
  refine f_around (by omega) ?_
  rw [hm]
  simp +contextual only [x6v,refs_len,ops_len,h_miss,h_skip,Int.reduceEq,n48,n4b,n8b,hk,Int.ofNat_lt,List.length_set,↓U6v,↓XP,XW0,XW1,reduceSub,reduceAdd,reduceMul,reduceEqDiff,reduceLeDiff,Nat.reduceBEq,reduceCtorEq,TYX]
  refine fun _ => ⟨_,f_around (by omega) ⟨rfl,rfl⟩,?_⟩
  obtain ⟨r1,r2⟩ := around_range (n := bb) (most := 18) (by omega)
  generalize around bb 18 = r at r1 r2 ⊢
  simp +contextual only [x6v,refs_len,ops_len,h_miss,h_skip,Int.reduceEq,n48,n4b,n8b,hk,Int.ofNat_lt,List.length_set,↓U6v,↓XP,XW0,XW1,reduceSub,reduceAdd,reduceMul,reduceEqDiff,reduceLeDiff,Nat.reduceBEq,reduceCtorEq,TYX]
  refine fun _ => ⟨by omega,by omega,by omega,?_⟩
  have e := wr1 (rest := List.replicate m .any) (v := .str (List.take r.toNat [115,105,120,116,101,101,110,32,108,101,116,116,101,114,115,33,33])) (o' := { o with name := List.take r.toNat [115,105,120,116,101,101,110,32,108,101,116,116,101,114,115,33,33] }) (j := 9) hk (by omega) (by rw [eo]; rfl)
  try rw [Nat.add_zero] at e
  rw [e]
  refine gh_intro (sp_fz n4b n48 (by rw [List.length_set])) ?_
  simp +contextual only [x6v,refs_len,ops_len,h_miss,h_skip,Int.reduceEq,n48,n4b,n8b,hk,Int.ofNat_lt,List.length_set,↓U6v,↓XP,XW0,XW1,reduceSub,reduceAdd,reduceMul,reduceEqDiff,reduceLeDiff,Nat.reduceBEq,reduceCtorEq,TYX]
  exact h { p with ops := p.ops.set kk _ } (hp.setOp (by simp only; omega) (by simp only [List.length_take]; omega) (by simp only; omega))
theorem spB_12 {n : Nat} {p : Pt} {a how bb near : Int} {b b4 b8 m kk : Nat} {F : List D} {H : AH} {R : D → AH → Prop} (hm : around how 20 = 12) (hn : n ≤ 900) (hp : Sz n p) (n48 : b4 ≠ b8) (n4b : b4 ≠ b) (n8b : b8 ≠ b) (hk : kk < p.ops.length) (hF : Fr 278 [(1,.int .i64 a),(2,.int .i64 how),(3,.int .i64 bb),(4,.ptr b4 0),(8,.ptr b8 0),(11,.int .i64 (kk : Int)),(12,.int .i64 near)] F) (h : ∀ q,Sz (n + 14) q → R (.agg q.d) H) : xcode Tryz.prog x6v_s38 F ((b,.cells ((opsD p.ops).flatten ++ List.replicate m .any)) :: (b8,.cells [.int .i64 0,.int .i64 0,.int .i64 0,.own [],.own [],.str []]) :: (b4,.cells [.int .i64 p.o,.int .i64 p.s,.int .i64 p.day,.own (refsD p.needs),.hsl b p.ops.length,.str p.sl]) :: H) (retQ Tryz.prog [(.cell 8 26)] H.length R) := by
  obtain ⟨z,rfl⟩ : ∃ z : Nat → D,_ = z 0 :: .int .i64 a :: .int .i64 how :: .int .i64 bb :: .ptr b4 0 :: zz z 5 3 (.ptr b8 0 :: zz z 9 2 (.int .i64 (kk : Int) :: .int .i64 near :: zz z 13 265 [])) := hF.lit
  try dsimp only [zz,reduceAdd] at *
  clear hF
  have hbig := big_eq
  have wl := wr_len (rest := List.replicate m .any) hk
  have ho := getD_mem1 hk
  have o1 := hp.ids _ ho
  have o2 := hp.name _ ho
  have o3 := hp.text _ ho
  obtain ⟨o,eo⟩ : ∃ o,p.ops.getD kk default = o := ⟨_,rfl⟩
  rw [eo] at o1 o2 o3
  simp +contextual only [x6v,refs_len,ops_len,h_miss,h_skip,Int.reduceEq,n48,n4b,n8b,hk,Int.ofNat_lt,List.length_set,↓U6v,↓XP,XW0,XW1,reduceSub,reduceAdd,reduceMul,reduceEqDiff,reduceLeDiff,Nat.reduceBEq,reduceCtorEq,TYX]
  refine f_around (by omega) ?_
  rw [hm]
  simp +contextual only [x6v,refs_len,ops_len,h_miss,h_skip,Int.reduceEq,n48,n4b,n8b,hk,Int.ofNat_lt,List.length_set,↓U6v,↓XP,XW0,XW1,reduceSub,reduceAdd,reduceMul,reduceEqDiff,reduceLeDiff,Nat.reduceBEq,reduceCtorEq,TYX]
  refine fun _ => ⟨_,f_around (by omega) ⟨rfl,rfl⟩,?_⟩
  obtain ⟨r1,r2⟩ := around_range (n := bb) (most := 4) (by omega)
  generalize around bb 4 = r at r1 r2 ⊢
  obtain ⟨v,hv,e⟩ := pick_int (l := [0,1,1024,1025]) r1 r2
  have hv' : 0 ≤ v ∧ v ≤ 1025 := by
    simp only [List.mem_cons,List.not_mem_nil,or_false] at hv
    omega
  have e' : [[D.int .i64 0],[D.int .i64 1],[D.int .i64 1024],[D.int .i64 1025]].getD r.toNat [] = [.int .i64 v] := e
  simp +contextual only [x6v,refs_len,ops_len,h_miss,h_skip,Int.reduceEq,n48,n4b,n8b,hk,Int.ofNat_lt,List.length_set,e',r1,show r < ((4 : Nat) : Int) from r2,↓U6v,↓XP,XW0,XW1,reduceSub,reduceAdd,reduceMul,reduceEqDiff,reduceLeDiff,Nat.reduceBEq,reduceCtorEq,TYX]
  refine fun _ _ => ⟨by omega,infoB (by omega),zeroB,fun _ => ⟨by omega,?_⟩⟩
  have e := wr1 (rest := List.replicate m .any) (v := .str (List.map unbyte (List.replicate v.toNat [D.int .u8 0]))) (o' := { o with text := List.map unbyte (List.replicate v.toNat [D.int .u8 0]) }) (j := 10) hk (by omega) (by rw [eo]; rfl)
  try rw [Nat.add_zero] at e
  rw [e]
  refine gh_intro (sp_fz n4b n48 (by rw [List.length_set])) ?_
  simp +contextual only [x6v,refs_len,ops_len,h_miss,h_skip,Int.reduceEq,n48,n4b,n8b,hk,Int.ofNat_lt,List.length_set,↓U6v,↓XP,XW0,XW1,reduceSub,reduceAdd,reduceMul,reduceEqDiff,reduceLeDiff,Nat.reduceBEq,reduceCtorEq,TYX]
  exact h { p with ops := p.ops.set kk _ } (hp.setOp (by simp only; omega) (by simp only; omega) (by simp only [List.length_map,List.length_replicate]; omega))
theorem spB_13 {n : Nat} {p : Pt} {a how bb near : Int} {b b4 b8 m kk : Nat} {F : List D} {H : AH} {R : D → AH → Prop} (hm : around how 20 = 13) (hn : n ≤ 900) (hp : Sz n p) (n48 : b4 ≠ b8) (n4b : b4 ≠ b) (n8b : b8 ≠ b) (hk : kk < p.ops.length) (hF : Fr 278 [(1,.int .i64 a),(2,.int .i64 how),(3,.int .i64 bb),(4,.ptr b4 0),(8,.ptr b8 0),(11,.int .i64 (kk : Int)),(12,.int .i64 near)] F) (h : ∀ q,Sz (n + 14) q → R (.agg q.d) H) : xcode Tryz.prog x6v_s38 F ((b,.cells ((opsD p.ops).flatten ++ List.replicate m .any)) :: (b8,.cells [.int .i64 0,.int .i64 0,.int .i64 0,.own [],.own [],.str []]) :: (b4,.cells [.int .i64 p.o,.int .i64 p.s,.int .i64 p.day,.own (refsD p.needs),.hsl b p.ops.length,.str p.sl]) :: H) (retQ Tryz.prog [(.cell 8 26)] H.length R) := by
  obtain ⟨z,rfl⟩ : ∃ z : Nat → D,_ = z 0 :: .int .i64 a :: .int .i64 how :: .int .i64 bb :: .ptr b4 0 :: zz z 5 3 (.ptr b8 0 :: zz z 9 2 (.int .i64 (kk : Int) :: .int .i64 near :: zz z 13 265 [])) := hF.lit
  try dsimp only [zz,reduceAdd] at *
  clear hF
  have hbig := big_eq
  have wl := wr_len (rest := List.replicate m .any) hk
  have ho := getD_mem1 hk
  have o1 := hp.ids _ ho
  have o2 := hp.name _ ho
  have o3 := hp.text _ ho
  obtain ⟨o,eo⟩ : ∃ o,p.ops.getD kk default = o := ⟨_,rfl⟩
  rw [eo] at o1 o2 o3
  simp +contextual only [x6v,refs_len,ops_len,h_miss,h_skip,Int.reduceEq,n48,n4b,n8b,hk,Int.ofNat_lt,List.length_set,↓U6v,↓XP,XW0,XW1,reduceSub,reduceAdd,reduceMul,reduceEqDiff,reduceLeDiff,Nat.reduceBEq,reduceCtorEq,TYX]
  refine f_around (by omega) ?_
  rw [hm]
  simp +contextual only [x6v,refs_len,ops_len,h_miss,h_skip,Int.reduceEq,n48,n4b,n8b,hk,Int.ofNat_lt,List.length_set,↓U6v,↓XP,XW0,XW1,reduceSub,reduceAdd,reduceMul,reduceEqDiff,reduceLeDiff,Nat.reduceBEq,reduceCtorEq,TYX]
  refine fun _ => ⟨_,f_around (by omega) ⟨rfl,rfl⟩,?_⟩
  simp +contextual only [x6v,refs_len,ops_len,h_miss,h_skip,Int.reduceEq,n48,n4b,n8b,hk,Int.ofNat_lt,List.length_set,↓U6v,↓XP,XW0,XW1,reduceSub,reduceAdd,reduceMul,reduceEqDiff,reduceLeDiff,Nat.reduceBEq,reduceCtorEq,TYX]
  refine fun _ => ⟨_,f_around (by omega) ⟨rfl,rfl⟩,?_⟩
  simp +contextual only [x6v,refs_len,ops_len,h_miss,h_skip,Int.reduceEq,n48,n4b,n8b,hk,Int.ofNat_lt,List.length_set,↓U6v,↓XP,XW0,XW1,reduceSub,reduceAdd,reduceMul,reduceEqDiff,reduceLeDiff,Nat.reduceBEq,reduceCtorEq,TYX]
  refine fun _ => ⟨by omega,?_⟩
  have e := wrC2 (rest := List.replicate m .any) (x := .int .i64 (around bb 3)) (y := .int .i64 (around bb 5)) (o' := { o with a := around bb 3,b := around bb 5 }) (j := 11) hk (by omega) (by rw [eo]; rfl)
  try rw [Nat.add_zero] at e
  rw [e]
  refine gh_intro (sp_fz n4b n48 (by rw [List.length_set])) ?_
  simp +contextual only [x6v,refs_len,ops_len,h_miss,h_skip,Int.reduceEq,n48,n4b,n8b,hk,Int.ofNat_lt,List.length_set,↓U6v,↓XP,XW0,XW1,reduceSub,reduceAdd,reduceMul,reduceEqDiff,reduceLeDiff,Nat.reduceBEq,reduceCtorEq,TYX]
  exact h { p with ops := p.ops.set kk _ } (hp.setOp (by simp only; omega) (by simp only; omega) (by simp only; omega))
theorem spB_14 {n : Nat} {p : Pt} {a how bb near : Int} {b b4 b8 m kk : Nat} {F : List D} {H : AH} {R : D → AH → Prop} (hm : around how 20 = 14) (hn : n ≤ 900) (hp : Sz n p) (n48 : b4 ≠ b8) (n4b : b4 ≠ b) (n8b : b8 ≠ b) (hk : kk < p.ops.length) (hF : Fr 278 [(1,.int .i64 a),(2,.int .i64 how),(3,.int .i64 bb),(4,.ptr b4 0),(8,.ptr b8 0),(11,.int .i64 (kk : Int)),(12,.int .i64 near)] F) (h : ∀ q,Sz (n + 14) q → R (.agg q.d) H) : xcode Tryz.prog x6v_s38 F ((b,.cells ((opsD p.ops).flatten ++ List.replicate m .any)) :: (b8,.cells [.int .i64 0,.int .i64 0,.int .i64 0,.own [],.own [],.str []]) :: (b4,.cells [.int .i64 p.o,.int .i64 p.s,.int .i64 p.day,.own (refsD p.needs),.hsl b p.ops.length,.str p.sl]) :: H) (retQ Tryz.prog [(.cell 8 26)] H.length R) := by
  obtain ⟨z,rfl⟩ : ∃ z : Nat → D,_ = z 0 :: .int .i64 a :: .int .i64 how :: .int .i64 bb :: .ptr b4 0 :: zz z 5 3 (.ptr b8 0 :: zz z 9 2 (.int .i64 (kk : Int) :: .int .i64 near :: zz z 13 265 [])) := hF.lit
  try dsimp only [zz,reduceAdd] at *
  clear hF
  have hbig := big_eq
  have wl := wr_len (rest := List.replicate m .any) hk
  have ho := getD_mem1 hk
  have o1 := hp.ids _ ho
  have o2 := hp.name _ ho
  have o3 := hp.text _ ho
  obtain ⟨o,eo⟩ : ∃ o,p.ops.getD kk default = o := ⟨_,rfl⟩
  rw [eo] at o1 o2 o3
  simp +contextual only [x6v,refs_len,ops_len,h_miss,h_skip,Int.reduceEq,n48,n4b,n8b,hk,Int.ofNat_lt,List.length_set,↓U6v,↓XP,XW0,XW1,reduceSub,reduceAdd,reduceMul,reduceEqDiff,reduceLeDiff,Nat.reduceBEq,reduceCtorEq,TYX]
  refine f_around (by omega) ?_
  rw [hm]
  simp +contextual only [x6v,refs_len,ops_len,h_miss,h_skip,Int.reduceEq,n48,n4b,n8b,hk,Int.ofNat_lt,List.length_set,↓U6v,↓XP,XW0,XW1,reduceSub,reduceAdd,reduceMul,reduceEqDiff,reduceLeDiff,Nat.reduceBEq,reduceCtorEq,TYX]
  rw [rd1 hk (by omega),eo,show o.d[7]? = some (.slc (idsD o.ids)) from rfl]
  simp +contextual only [x6v,refs_len,ops_len,h_miss,h_skip,Int.reduceEq,n48,n4b,n8b,hk,Int.ofNat_lt,List.length_set,↓U6v,↓XP,XW0,XW1,reduceSub,reduceAdd,reduceMul,reduceEqDiff,reduceLeDiff,Nat.reduceBEq,reduceCtorEq,TYX]
  have il : (idsD o.ids).length = o.ids.length := by simp [idsD]
  refine fun _ _ => ⟨ids_3,by omega,by omega,?_⟩
  rw [c_gh]
  refine gz_th (Gz.viewC (bx := b) (j := kk * 13 + 7) h_hit (by rw [List.getElem?_set_self (by omega)]) ?_)
  rw [h_set,List.set_set]
  have e := wr1 (rest := List.replicate m .any) (v := .slc (idsD (⟨1,1,near⟩ :: o.ids))) (o' := { o with ids := ⟨1,1,near⟩ :: o.ids }) (j := 7) hk (by omega) (by rw [eo]; rfl)
  rw [show ([D.int .i64 1,D.int .i64 1,D.int .i64 near] :: idsD o.ids) = idsD (⟨1,1,near⟩ :: o.ids) from rfl,e]
  refine Gz.of_fz (sp_fz n4b n48 (by rw [List.length_set])) ?_
  simp +contextual only [x6v,refs_len,ops_len,h_miss,h_skip,Int.reduceEq,n48,n4b,n8b,hk,Int.ofNat_lt,List.length_set,↓U6v,↓XP,XW0,XW1,reduceSub,reduceAdd,reduceMul,reduceEqDiff,reduceLeDiff,Nat.reduceBEq,reduceCtorEq,TYX]
  exact h { p with ops := p.ops.set kk _ } (hp.setOp (by simp only [List.length_cons]; omega) (by simp only; omega) (by simp only; omega))
theorem spB_15 {n : Nat} {p : Pt} {a how bb near : Int} {b b4 b8 m kk : Nat} {F : List D} {H : AH} {R : D → AH → Prop} (hm : around how 20 = 15) (hn : n ≤ 900) (hp : Sz n p) (n48 : b4 ≠ b8) (n4b : b4 ≠ b) (n8b : b8 ≠ b) (hk : kk < p.ops.length) (hF : Fr 278 [(1,.int .i64 a),(2,.int .i64 how),(3,.int .i64 bb),(4,.ptr b4 0),(8,.ptr b8 0),(11,.int .i64 (kk : Int)),(12,.int .i64 near)] F) (h : ∀ q,Sz (n + 14) q → R (.agg q.d) H) : xcode Tryz.prog x6v_s38 F ((b,.cells ((opsD p.ops).flatten ++ List.replicate m .any)) :: (b8,.cells [.int .i64 0,.int .i64 0,.int .i64 0,.own [],.own [],.str []]) :: (b4,.cells [.int .i64 p.o,.int .i64 p.s,.int .i64 p.day,.own (refsD p.needs),.hsl b p.ops.length,.str p.sl]) :: H) (retQ Tryz.prog [(.cell 8 26)] H.length R) := by
  obtain ⟨z,rfl⟩ : ∃ z : Nat → D,_ = z 0 :: .int .i64 a :: .int .i64 how :: .int .i64 bb :: .ptr b4 0 :: zz z 5 3 (.ptr b8 0 :: zz z 9 2 (.int .i64 (kk : Int) :: .int .i64 near :: zz z 13 265 [])) := hF.lit
  try dsimp only [zz,reduceAdd] at *
  clear hF
  have hbig := big_eq
  have wl := wr_len (rest := List.replicate m .any) hk
  have ho := getD_mem1 hk
  have o1 := hp.ids _ ho
  have o2 := hp.name _ ho
  have o3 := hp.text _ ho
  obtain ⟨o,eo⟩ : ∃ o,p.ops.getD kk default = o := ⟨_,rfl⟩
  rw [eo] at o1 o2 o3
  simp +contextual only [x6v,refs_len,ops_len,h_miss,h_skip,Int.reduceEq,n48,n4b,n8b,hk,Int.ofNat_lt,List.length_set,↓U6v,↓XP,XW0,XW1,reduceSub,reduceAdd,reduceMul,reduceEqDiff,reduceLeDiff,Nat.reduceBEq,reduceCtorEq,TYX]
  refine f_around (by omega) ?_
  rw [hm]
  simp +contextual only [x6v,refs_len,ops_len,h_miss,h_skip,Int.reduceEq,n48,n4b,n8b,hk,Int.ofNat_lt,List.length_set,↓U6v,↓XP,XW0,XW1,reduceSub,reduceAdd,reduceMul,reduceEqDiff,reduceLeDiff,Nat.reduceBEq,reduceCtorEq,TYX]
  refine fun _ => ⟨_,f_around (by omega) ⟨rfl,rfl⟩,?_⟩
  simp +contextual only [x6v,refs_len,ops_len,h_miss,h_skip,Int.reduceEq,n48,n4b,n8b,hk,Int.ofNat_lt,List.length_set,↓U6v,↓XP,XW0,XW1,reduceSub,reduceAdd,reduceMul,reduceEqDiff,reduceLeDiff,Nat.reduceBEq,reduceCtorEq,TYX]
  refine fun _ => ⟨_,f_around (by omega) ⟨rfl,rfl⟩,?_⟩
  simp +contextual only [x6v,refs_len,ops_len,h_miss,h_skip,Int.reduceEq,n48,n4b,n8b,hk,Int.ofNat_lt,List.length_set,↓U6v,↓XP,XW0,XW1,reduceSub,reduceAdd,reduceMul,reduceEqDiff,reduceLeDiff,Nat.reduceBEq,reduceCtorEq,TYX]
  refine fun _ => ⟨by omega,?_⟩
  have e := wrC13 (l := p.ops) (rest := List.replicate m .any) (o' := ⟨16,⟨1,1,0⟩,id0,[⟨1,1,2⟩,⟨1,1,around bb 4⟩],IntKind.i64.wrap (around (IntKind.i64.wrap (bb.tdiv 4)) 5 - 2),[],[],0,0⟩) hk
  simp only [OpP.d,idsD,Id3.d,id0,List.map_cons,List.map_nil,List.cons_append,List.nil_append] at e
  rw [e]
  refine gh_intro (sp_fz n4b n48 (by rw [List.length_set])) ?_
  simp +contextual only [x6v,refs_len,ops_len,h_miss,h_skip,Int.reduceEq,n48,n4b,n8b,hk,Int.ofNat_lt,List.length_set,↓U6v,↓XP,XW0,XW1,reduceSub,reduceAdd,reduceMul,reduceEqDiff,reduceLeDiff,Nat.reduceBEq,reduceCtorEq,TYX]
  exact h { p with ops := p.ops.set kk _ } (hp.setOp (by simp only [List.length_cons,List.length_nil]; omega) (by simp) (by simp))
theorem spB_19 {n : Nat} {p : Pt} {a how bb near : Int} {b b4 b8 m kk : Nat} {F : List D} {H : AH} {R : D → AH → Prop} (hm : around how 20 = 19) (hn : n ≤ 900) (hp : Sz n p) (n48 : b4 ≠ b8) (n4b : b4 ≠ b) (n8b : b8 ≠ b) (hk : kk < p.ops.length) (hF : Fr 278 [(1,.int .i64 a),(2,.int .i64 how),(3,.int .i64 bb),(4,.ptr b4 0),(8,.ptr b8 0),(11,.int .i64 (kk : Int)),(12,.int .i64 near)] F) (h : ∀ q,Sz (n + 14) q → R (.agg q.d) H) : xcode Tryz.prog x6v_s38 F ((b,.cells ((opsD p.ops).flatten ++ List.replicate m .any)) :: (b8,.cells [.int .i64 0,.int .i64 0,.int .i64 0,.own [],.own [],.str []]) :: (b4,.cells [.int .i64 p.o,.int .i64 p.s,.int .i64 p.day,.own (refsD p.needs),.hsl b p.ops.length,.str p.sl]) :: H) (retQ Tryz.prog [(.cell 8 26)] H.length R) := by
  obtain ⟨z,rfl⟩ : ∃ z : Nat → D,_ = z 0 :: .int .i64 a :: .int .i64 how :: .int .i64 bb :: .ptr b4 0 :: zz z 5 3 (.ptr b8 0 :: zz z 9 2 (.int .i64 (kk : Int) :: .int .i64 near :: zz z 13 265 [])) := hF.lit
  try dsimp only [zz,reduceAdd] at *
  clear hF
  have hbig := big_eq
  have wl := wr_len (rest := List.replicate m .any) hk
  have ho := getD_mem1 hk
  have o1 := hp.ids _ ho
  have o2 := hp.name _ ho
  have o3 := hp.text _ ho
  obtain ⟨o,eo⟩ : ∃ o,p.ops.getD kk default = o := ⟨_,rfl⟩
  rw [eo] at o1 o2 o3
  simp +contextual only [x6v,refs_len,ops_len,h_miss,h_skip,Int.reduceEq,n48,n4b,n8b,hk,Int.ofNat_lt,List.length_set,↓U6v,↓XP,XW0,XW1,reduceSub,reduceAdd,reduceMul,reduceEqDiff,reduceLeDiff,Nat.reduceBEq,reduceCtorEq,TYX]
  refine f_around (by omega) ?_
  rw [hm]
  simp +contextual only [x6v,refs_len,ops_len,h_miss,h_skip,Int.reduceEq,n48,n4b,n8b,hk,Int.ofNat_lt,List.length_set,↓U6v,↓XP,XW0,XW1,reduceSub,reduceAdd,reduceMul,reduceEqDiff,reduceLeDiff,Nat.reduceBEq,reduceCtorEq,TYX]
  refine fun _ => ⟨_,f_around (by omega) ⟨rfl,rfl⟩,?_⟩
  simp +contextual only [x6v,refs_len,ops_len,h_miss,h_skip,Int.reduceEq,n48,n4b,n8b,hk,Int.ofNat_lt,List.length_set,↓U6v,↓XP,XW0,XW1,reduceSub,reduceAdd,reduceMul,reduceEqDiff,reduceLeDiff,Nat.reduceBEq,reduceCtorEq,TYX]
  refine fun _ => ⟨by omega,?_⟩
  have e := wr1 (rest := List.replicate m .any) (v := .int .i64 (IntKind.i64.wrap (1 + around bb 18))) (o' := { o with k := IntKind.i64.wrap (1 + around bb 18) }) (j := 0) hk (by omega) (by rw [eo]; rfl)
  try rw [Nat.add_zero] at e
  rw [e]
  refine gh_intro (sp_fz n4b n48 (by rw [List.length_set])) ?_
  simp +contextual only [x6v,refs_len,ops_len,h_miss,h_skip,Int.reduceEq,n48,n4b,n8b,hk,Int.ofNat_lt,List.length_set,↓U6v,↓XP,XW0,XW1,reduceSub,reduceAdd,reduceMul,reduceEqDiff,reduceLeDiff,Nat.reduceBEq,reduceCtorEq,TYX]
  exact h { p with ops := p.ops.set kk _ } (hp.setOp (by simp only; omega) (by simp only; omega) (by simp only; omega))
end Go.Proofs.YtoeckfegggongaaGreatDoor
end
section
namespace Go.Proofs.YtoeckfegggongaaGreatDoor
open Go Go.Aw
theorem spA_3 {n : Nat} {p : Pt} {a how bb kk near : Int} {b4 b8 : Nat} {F : List D} {H : AH} {R : D → AH → Prop} (hm : around how 20 = 3) (hn : n ≤ 900) (hp : Sz n p) (n48 : b4 ≠ b8) (hF : Fr 278 [(1,.int .i64 a),(2,.int .i64 how),(3,.int .i64 bb),(4,.ptr b4 0),(8,.ptr b8 0),(11,.int .i64 kk),(12,.int .i64 near)] F) (h : ∀ q,Sz (n + 14) q → R (.agg q.d) H) : xcode Tryz.prog x6_s38 F ((b8,.cells [.int .i64 0,.int .i64 0,.int .i64 0,.own [],.own [],.str []]) :: (b4,.cells [.int .i64 p.o,.int .i64 p.s,.int .i64 p.day,.own (refsD p.needs),.own (opsD p.ops),.str p.sl]) :: H) (retQ Tryz.prog [(.cell 8 26)] H.length R) := by
  obtain ⟨z,rfl⟩ : ∃ z : Nat → D,_ = z 0 :: .int .i64 a :: .int .i64 how :: .int .i64 bb :: .ptr b4 0 :: zz z 5 3 (.ptr b8 0 :: zz z 9 2 (.int .i64 kk :: .int .i64 near :: zz z 13 265 [])) := hF.lit
  try dsimp only [zz,reduceAdd] at *
  clear hF
  have hbig := big_eq
  simp +contextual only [x6,refs_len,ops_len,h_miss,h_skip,Int.reduceEq,n48,↓U6,↓XP,XW0,XW1,reduceSub,reduceAdd,reduceMul,reduceEqDiff,reduceLeDiff,Nat.reduceBEq,reduceCtorEq,TYX]
  refine f_around (by omega) ?_
  rw [hm]
  simp +contextual only [x6,refs_len,ops_len,h_miss,h_skip,Int.reduceEq,n48,↓U6,↓XP,XW0,XW1,reduceSub,reduceAdd,reduceMul,reduceEqDiff,reduceLeDiff,Nat.reduceBEq,reduceCtorEq,TYX]
  refine fun _ => ?_
  rw [c_gh]
  refine Gz.giveA (bx := b4) (j := 3) (xs := refsD p.needs) (by rw [h_miss n48,h_hit]) rfl (fun b cap H' g1 g2 g3 => ?_)
  simp +contextual only [x6,refs_len,ops_len,h_miss,h_skip,Int.reduceEq,n48,g1,↓U6,↓XP,XW0,XW1,reduceSub,reduceAdd,reduceMul,reduceEqDiff,reduceLeDiff,Nat.reduceBEq,reduceCtorEq,TYX]
  refine ⟨_,f_around (by omega) ⟨rfl,rfl⟩,?_⟩
  simp +contextual only [x6,refs_len,ops_len,h_miss,h_skip,Int.reduceEq,n48,g1,↓U6,↓XP,XW0,XW1,reduceSub,reduceAdd,reduceMul,reduceEqDiff,reduceLeDiff,Nat.reduceBEq,reduceCtorEq,TYX]
  obtain ⟨r1,r2⟩ := around_range (n := bb) (most := 10) (by omega)
  obtain ⟨r3,r4⟩ := around_range (n := IntKind.i64.wrap (bb.tdiv 10)) (most := 19) (by omega)
  refine fun _ => ⟨_,f_around (by omega) ⟨rfl,rfl⟩,?_⟩
  simp +contextual only [x6,refs_len,ops_len,h_miss,h_skip,Int.reduceEq,n48,g1,↓U6,↓XP,XW0,XW1,reduceSub,reduceAdd,reduceMul,reduceEqDiff,reduceLeDiff,Nat.reduceBEq,reduceCtorEq,TYX]
  intros
  rw [x_apg]
  refine Gz.takeS (s := 64) (b := b) (cap := cap) (xs := refsD p.needs) rfl g2 ?_
  rw [g3]
  simp +contextual only [x6,refs_len,ops_len,h_miss,h_skip,Int.reduceEq,n48,↓U6,↓XP,XW0,XW1,reduceSub,reduceAdd,reduceMul,reduceEqDiff,reduceLeDiff,Nat.reduceBEq,reduceCtorEq,TYX]
  rw [show ∀ x y,refsD p.needs ++ [[.int .i64 x,.int .i64 y]] = refsD (p.needs ++ [⟨x,y⟩]) from fun x y => by simp [refsD,Rf.d]]
  have l1 := hp.ops
  have l2 := hp.needs
  exact ⟨refs_2,by omega,by omega,h { p with needs := p.needs ++ [_] } ⟨by simp only; omega,by simp only [List.length_append,List.length_singleton]; omega,fun o ho => by have := hp.ids o ho; omega,hp.name,hp.text,hp.sl⟩⟩
end Go.Proofs.YtoeckfegggongaaGreatDoor
end
