/- The statement on patches' encodings -/
import Derived.Test.YtoeckfegggongaaGreatDoorV28
import Derived.Test.YtoeckfegggongaaGreatDoorCards
import Derived.Test.YtoeckfegggongaaGreatDoorTie
import Derived.Deep.DeepHandedRow
import Derived.Lib.LaidTab
set_option linter.unusedVariables false
set_option linter.unusedSimpArgs false
set_option maxRecDepth 100000
set_option maxHeartbeats 16000000
open Nat renaming reduceSub → qa,reduceAdd → qb,reduceMul → qc,reduceEqDiff → qd,reduceLeDiff → qe,reduceBEq → qf
section
namespace Go.Proofs.YtoeckfegggongaaGreatDoor
open Go Go.Aw
theorem Sz.sm {p : Pt} (h : Sz 34 p) : Sm p :=
 ⟨by have := h.ops; omega,by have := h.needs; omega,fun o ho=>by have := h.ids o ho; omega,h.name,h.text,h.sl⟩
theorem VH {p : Pt} : 0 < (ji p).length := by
 simp only [ji,qN,qy,List.length_append,List.length_cons]
 omega
theorem f_pe {l : List Int} {a how bb : Int} {s : List UInt8} {H : AH} {R : D → AH → Prop} (hs : s.length ≤ 3000000) (h : R (.bool true) H) : ACall Tryz.prog 4 [.slc (ints l),.int .i64 a,.int .i64 how,.int .i64 bb,.str s] H R := by
 refine b4 fun hf=>?_
 have hbig := qt
 simp +contextual only [x4,qh,jA,jb,qU,jd,jc,↓U4,↓XP,qm,XW1,qa,qb,qc,qd,qe,qf,reduceCtorEq]
 intros
 refine f_some fun p hp=>?_
 have hd := @dE p
 simp +contextual only [x4,qh,jA,jb,qU,jd,jc,hd,↓U4,↓XP,qm,XW1,qa,qb,qc,qd,qe,qf,reduceCtorEq]
 intro WG h11
 refine ⟨by omega,f_spoil (p := p) (n := 20) (by omega) hp.sz hp.ne fun q hq=>?_⟩
 have hdq := @dE q
 have fq := hq.fit (by omega)
 simp +contextual only [x4,qh,jA,jb,qU,jd,jc,hd,hdq,↓U4,↓XP,qm,XW1,qa,qb,qc,qd,qe,qf,reduceCtorEq]
 intro WI hh
 obtain ⟨n12,h12⟩ := hh
 refine f_short (n := 20) (by omega) ?_
 simp +contextual only [x4,qh,jA,jb,qU,jd,jc,hd,hdq,n12,qg,qi,↓U4,↓XP,qm,XW1,qa,qb,qc,qd,qe,qf,reduceCtorEq]
 intro _
 obtain ⟨p',hp'⟩ : ∃ p' : Pt,{ p with sl := s.take 20 } = p' := ⟨_,rfl⟩
 have hd' : p'.d = [.int .i64 p.o,.int .i64 p.s,.int .i64 p.day,.slc (qO p.needs),.slc (qM p.ops),.str (s.take 20)] := by rw [← hp']; rfl
 have hz := hp.sz
 have sp' : Sm p' := by
  rw [← hp']
  exact ⟨by have := hz.ops; simp only; omega,by have := hz.needs; simp only; omega,fun o ho=>by have := hz.ids o ho; omega,hz.name,hz.text,by simp only [List.length_take]; omega⟩
 have sq := hq.sm
 refine r_e1 (p := p') (q := q) (s := s) (how := how) (bb := bb) (WG := WG) (WI := WI) (i := 0) sp'.fit fq rfl ?_ (fun F' hF'=>?_)
 ·refine ⟨rfl,rfl,rfl,rfl,rfl,rfl,?_,rfl,trivial⟩
  simp only [j8,List.map_cons,List.map_nil,hd',hdq]
  rfl
 obtain ⟨z,rfl⟩ : ∃ z : Nat → D,_ = zz z 0 2 (.int .i64 how :: .int .i64 bb :: .str s :: zz z 5 6 (.ptr WG 0 :: .ptr WI 0 :: zz z 13 132 [])) := hF'.lit
 try dsimp only [zz,qb] at *
 clear hF'
 simp +contextual only [x4,qh,jA,jb,qU,jd,jc,n12,qg,qi,↓U4,↓XP,qm,XW1,qa,qb,qc,qd,qe,qf,reduceCtorEq]
 simp only [← hd']
 refine Ji sp'.fit fun l1=>?_
 have l2 := VH (p := p')
 obtain ⟨L,hL⟩ : ∃ L,ji p' = L := ⟨_,rfl⟩
 rw [hL] at l1 l2 ⊢
 simp +contextual only [x4,qh,jA,jb,qU,jd,jc,↓U4,↓XP,qm,XW1,qa,qb,qc,qd,qe,qf,reduceCtorEq]
 refine fun _=>qP (by omega) ?_
 obtain ⟨r1,r2⟩ := jf (n := bb) (most := (L.length : Int)) (by omega)
 obtain ⟨k,hk⟩ := Int.eq_ofNat_of_zero_le r1
 rw [hk] at r2 ⊢
 have hkl : k < L.length := by omega
 have hne : L.map qr ≠ [] := by
  intro e
  have := congrArg List.length e
  simp at this
  rw [this] at l2
  simp at l2
 simp +contextual only [x4,qh,jA,jb,qU,jd,jc,hne,hkl,Int.ofNat_lt,↓U4,↓XP,qm,XW1,qa,qb,qc,qd,qe,qf,reduceCtorEq]
 refine fun _=>⟨qC,by omega,fun b m hh=>?_⟩
 obtain ⟨nb12,nb11,hb⟩ := hh
 have fl := wG (sz := 1) (qC (l := L))
 rw [qh] at fl
 refine ⟨by rw [List.length_append]; omega,?_⟩
 obtain ⟨c,hc⟩ : ∃ c : UInt8,(D.int .u8 (IntKind.u8.wrap how)) = .int .u8 (c.toNat : Int) := by
  refine ⟨UInt8.ofNat (IntKind.u8.wrap how).toNat,?_⟩
  rw [IntKind.wrap_u8,UInt8.toNat_ofNat']
  congr 1
  omega
 have e1 := Vy (xs := L.map qr) (sz := 1) (k := k) (j := 0) (v := D.int .u8 (c.toNat : Int)) (rest := List.replicate m .any) qC (by simpa using hkl) (by omega)
 have e2 : (L.map qr).set k (((L.map qr).getD k []).set 0 (D.int .u8 (c.toNat : Int))) = (L.set k c).map qr := by
  rw [List.map_set]
  congr 1
  simp [hkl,qr]
 rw [Nat.add_zero,e2] at e1
 rw [hc,e1,uG]
 refine Vx (gz_rn (bx := WG) (p := p') (by rw [hd',qg nb11,qg n12,jV]) fun rp=>?_)
 refine Vx (gz_rn (bx := WI) (p := q) (by rw [hdq,qg nb12,jV]) fun rq=>?_)
 have lq := QK sq rq
 have lL := QK sp' rp
 rw [hL] at lL
 obtain ⟨M,hM⟩ : ∃ M,L.set k c = M := ⟨_,rfl⟩
 have lM : M.length = L.length := by rw [← hM,List.length_set]
 rw [hM]
 refine Gz.of_fz (Fz.freeze (s := 21) (b := b) (n := L.length) (sz := 1) (xs := M.map qr) (rest := List.replicate m .any) rfl jV rfl (by simp [lM]) qC (by omega) (fun x hx d hd=>?_)) ?_
 ·obtain ⟨y,_,rfl⟩ := List.mem_map.1 hx
  simp only [qr,List.mem_singleton] at hd
  subst hd
  rfl
 rw [ub]
 have w1 : IntKind.i64.wrap ((k : Int) + 1) = ((k + 1 : Nat) : Int) := qp (by omega)
 have t1 : (L.map qr).take k = (L.take k).map qr := (List.map_take ..).symm
 have t2 : ((L.map qr).take L.length).drop (k + 1) = (L.drop (k + 1)).map qr := qR
 simp +contextual only [x4,qh,jA,jb,qU,jd,jc,n12,qg,qi,w1,t1,t2,↓U4,↓XP,qm,XW1,qa,qb,qc,qd,qe,qf,reduceCtorEq]
 obtain ⟨A,hA⟩ : ∃ A,L.take k = A := ⟨_,rfl⟩
 obtain ⟨B,hB⟩ : ∃ B,L.drop (k + 1) = B := ⟨_,rfl⟩
 have lA : A.length ≤ L.length := by rw [← hA]; simp; omega
 have lB : B.length ≤ L.length := by rw [← hB]; simp
 have lAB : A.length + B.length ≤ L.length := by rw [← hA,← hB,List.length_take,List.length_drop]; omega
 rw [hA,hB]
 refine ⟨qC,by omega,qC,by omega,qC,by omega,qC,by omega,qC,qC,by omega,qC,by omega,qC,by omega,?_⟩
 refine ⟨_,Ji fq (fun _=>⟨rfl,rfl⟩),?_⟩
 simp +contextual only [x4,qh,jA,jb,qU,jd,jc,n12,qg,qi,↓U4,↓XP,qm,XW1,qa,qb,qc,qd,qe,qf,reduceCtorEq]
 intro _ _
 obtain ⟨c2,hc2⟩ : ∃ c : UInt8,(D.int .u8 (IntKind.u8.wrap bb)) = .int .u8 (c.toNat : Int) := by
  refine ⟨UInt8.ofNat (IntKind.u8.wrap bb).toNat,?_⟩
  rw [IntKind.wrap_u8,UInt8.toNat_ofNat']
  congr 1
  omega
 rw [hc2]
 refine r_e2 (T := [L,M,A,A ++ B,L ++ [c2],ji q,s,[]]) (i := 0) (fun x hx=>?_) (by simp) rfl ?_ (fun F' hF'=>?_)
 ·simp only [List.mem_cons,List.not_mem_nil,or_false] at hx
  rcases hx with rfl | rfl | rfl | rfl | rfl | rfl | rfl | rfl <;> first | omega | (simp only [List.length_append,List.length_singleton,List.length_nil]; omega)
 ·refine ⟨rfl,?_,rfl,trivial⟩
  simp only [Ks,List.map_cons,List.map_nil,List.map_append]
  rfl
 ·obtain ⟨z,rfl⟩ : ∃ z : Nat → D,_ = [z 0,z 1,z 2,z 3,z 4,z 5,z 6,z 7,z 8,z 9,z 10,z 11,z 12,z 13,z 14,z 15,z 16,z 17,z 18,z 19,z 20,z 21,.own (Ks [L,M,A,A ++ B,L ++ [c2],ji q,s,[]]),z 23,z 24,z 25,z 26,z 27,z 28,z 29,z 30,z 31,z 32,z 33,z 34,z 35,z 36,z 37,z 38,z 39,z 40,z 41,z 42,z 43,z 44,z 45,z 46,z 47,z 48,z 49,z 50,z 51,z 52,z 53,z 54,z 55,z 56,z 57,z 58,z 59,z 60,z 61,z 62,z 63,z 64,z 65,z 66,z 67,z 68,z 69,z 70,z 71,z 72,z 73,z 74,z 75,z 76,z 77,z 78,z 79,z 80,z 81,z 82,z 83,z 84,z 85,z 86,z 87,z 88,z 89,z 90,z 91,z 92,z 93,z 94,z 95,z 96,z 97,z 98,z 99,z 100,z 101,z 102,z 103,z 104,z 105,z 106,z 107,z 108,z 109,z 110,z 111,z 112,z 113,z 114,z 115,z 116,z 117,z 118,z 119,z 120,z 121,z 122,z 123,z 124,z 125,z 126,z 127,z 128,z 129,z 130,z 131,z 132,z 133,z 134,z 135,z 136,z 137,z 138,z 139,z 140,z 141,z 142,z 143,z 144] := hF'.lit
  clear hF'
  simp +contextual only [x4,qh,jA,jb,qU,jd,jc,↓U4,↓XP,qm,XW1,qa,qb,qc,qd,qe,qf,reduceCtorEq]
  refine f_lives ?_
  simp +contextual only [x4,qh,jA,jb,qU,jd,jc,↓U4,↓XP,qm,XW1,qa,qb,qc,qd,qe,qf,reduceCtorEq]
  exact h
end Go.Proofs.YtoeckfegggongaaGreatDoor
end
section
namespace Go.Proofs.YtoeckfegggongaaGreatDoor
open Go Go.Aw Go.RowKit Go.ChangeShapes Go.WideShapes
theorem rd_int : Rd Tryz.prog 3 1 (fun n : Int=>[.int .i64 n]) (fun _=>True) := Rd.int Tryz.underlying3
theorem rd_str : Rd Tryz.prog 9 1 (fun s : List UInt8=>[.str s]) (fun s=>s.length ≤ 1048576) := Rd.str Tryz.underlying9
theorem rd_ints : Rd Tryz.prog 22 1 (fun l : List Int=>[.slc (ints l)]) (fun l=>l.length ≤ 1048576) :=
 (Rd.slice Tryz.underlying22 (by kernel_rfl) (by decide) rd_int).imp fun _ h=>h.1
theorem own : ownKnob Tryz.prog.godebug = none := by kernel_rfl
theorem kids : Kids Tryz.prog (· < Tryz.prog.types.size) := kids_rows (by kernel_rfl) (by kernel_rfl)
theorem full : ∀ t e,t < Tryz.prog.types.size → Tryz.prog.underlying t = some (.slice e) → 0 < Tryz.prog.cellsOf e := slices_full_of Tryz.prog (by kernel_rfl)
theorem bound {H : Type} {l : List (DataW H)} (hk : Rows.uptoSmall H l = true) : Rows.uptoBulkAll l ≤ 1048576 := of_decide_eq_true hk
def KR : Array Value := (match (Rows.laid_wordbook_hash_constants : DataW Unit) with
 | .agg l=>l.map fun (d : DataW Unit)=>match d with
  | .lit (.int k n)=>Value.int k n
  | _=>undef
 | _=>[]).toArray
noncomputable def za (os : Os) : World :=
 { World.holding Tryz.prog os ⟨#[],#[],[]⟩ with heap := (World.holding Tryz.prog os ⟨#[],#[],[]⟩).heap.modify 0 fun
   | .cells _ t frozen=>.cells KR t frozen
   | o=>o }
theorem Un (os : Os) : laidMet Tryz.prog Rows.patchEncodesUptoRow.laid ((za os).forCall (fun _ _=>0) ⟨#[],#[.slice none 0 0,.int .i64 0,.int .i64 0,.int .i64 0,.string .empty],[]⟩).memory :=
 laidMet_of_run' 70 (by kernel_rfl) (by kernel_rfl)
end Go.Proofs.YtoeckfegggongaaGreatDoor
end
section
namespace Go.Proofs.YtoeckfegggongaaGreatDoor.pe
open Go Go.Aw Go.RowKit Go.ChangeShapes Go.WideShapes Go.ChangeAt
theorem contract (H : Type) (enc : TypeId × Value → H) (W : World) (base : Nat) (args : Array Value) (ds gs : List (DataW H)) (before : List MemPlace)
  (hval : ∀ (j : Nat) t v,Tryz.f4.params[j]? = some t → args[j]? = some v → Value.okWide Tryz.prog W .any base t v)
  (hW : DataW.Whole enc Tryz.prog Tryz.f4.params.toList Rows.patchEncodesSpec.vars false W args.toList ds gs before) (hk : Rows.uptoSmall H (ds ++ gs) = true) :
  Calls Tryz.prog 4 args W fun e W'=>∃ v,e = .returned v ∧ Rows.patchEncodesSpec.post enc Tryz.prog Tryz.f4 false true false false W args v W' := by
 have hW' := hW
 have hbd := bound hk
 obtain ⟨p,q,hA0,hV,rfl,hfz,hnd⟩ := hW
 have hA : DataW.TrodAll enc Tryz.prog W 0 (fun _=>true) true Tryz.f4.params.toList args.toList ds p := hA0
 rw [Tryz.params4] at hA hval
 obtain ⟨v0,vs0,d0,ds0,p0,q0,hargs,rfl,rfl,h0,r0⟩ := trodAll_cons hA
 obtain ⟨v1,vs1,d1,ds1,p1,q1,rfl,rfl,rfl,h1,r1⟩ := trodAll_cons r0
 obtain ⟨v2,vs2,d2,ds2,p2,q2,rfl,rfl,rfl,h2,r2⟩ := trodAll_cons r1
 obtain ⟨v3,vs3,d3,ds3,p3,q3,rfl,rfl,rfl,h3,r3⟩ := trodAll_cons r2
 obtain ⟨v4,vs4,d4,ds4,p4,q4,rfl,rfl,rfl,h4,r4⟩ := trodAll_cons r3
 obtain ⟨rfl,rfl,rfl⟩ := trodAll_nil r4
 obtain rfl : args = #[v0,v1,v2,v3,v4] := by cases args; simp_all
 obtain ⟨rfl,rfl⟩ := trodVars_none hV
 simp only [List.append_nil,Rows.uptoBulkAll] at hbd
 obtain ⟨l,hq0,e0⟩ := rd_ints.arg1 (by kernel_rfl) (hval 0 _ v0 rfl rfl) h0 (by omega)
 obtain ⟨a,hq1,e1⟩ := rd_int.arg1 (by kernel_rfl) (hval 1 _ v1 rfl rfl) h1 (by omega)
 obtain ⟨how,hq2,e2⟩ := rd_int.arg1 (by kernel_rfl) (hval 2 _ v2 rfl rfl) h2 (by omega)
 obtain ⟨bb,hq3,e3⟩ := rd_int.arg1 (by kernel_rfl) (hval 3 _ v3 rfl rfl) h3 (by omega)
 obtain ⟨s,hq4,e4⟩ := rd_str.arg1 (by kernel_rfl) (hval 4 _ v4 rfl rfl) h4 (by omega)
 refine ((f_pe (l := l) (a := a) (how := how) (bb := bb) (s := s) (H := []) (R := fun d H=>d = .bool true) (by omega) rfl).calls W _ rfl ?_).mono ?_
 ·intro j d v hd hv
  match j with
  | 0=>cases hd; cases hv; exact e0
  | 1=>cases hd; cases hv; exact e1
  | 2=>cases hd; cases hv; exact e2
  | 3=>cases hd; cases hv; exact e3
  | 4=>cases hd; cases hv; exact e4
  | j + 5=>cases hd
 ·rintro e W' ⟨v,d,H',K',rfl,rfl,hb,hr⟩
  have hv : v = .bool true := by cases hr with | bool=>rfl
  subst hv
  exact ⟨_,rfl,W0 kids full (by rw [Tryz.params4]; decide) hW' rfl hb rfl Tryz.underlying4 rfl⟩
theorem reads (os : Os) {H : Type} (enc : TypeId × Value → H) : ∃ places,DataW.whole enc Tryz.prog ((za os).forCall (fun _ _=>0) ⟨#[],#[.slice none 0 0,.int .i64 0,.int .i64 0,.int .i64 0,.string .empty],[]⟩).memory Tryz.f4.params.toList Rows.patchEncodesSpec.vars false #[Value.slice none 0 0,Value.int .i64 0,Value.int .i64 0,Value.int .i64 0,Value.string .empty].toList 8 = some ([.nil,.lit (.int .i64 0),.lit (.int .i64 0),.lit (.int .i64 0),.lit (.string [])],[],places) :=
 ⟨[],by kernel_rfl⟩
theorem lifted (os : Os) (started : os.Started) (H : Type) (enc : TypeId × Value → H) (F : Stop.Interp) :
  ReturnsInHanded {} Tryz.checked os 4 .any ((Rows.OpenSpec.upto Rows.patchEncodesSpec).preRow enc Tryz.prog Tryz.f4 Rows.patchEncodesUptoRow.domain false Rows.patchEncodesUptoRow.laid) (((Rows.OpenSpec.upto Rows.patchEncodesSpec).at F).post enc Tryz.prog Tryz.f4 false true false false) := by
 obtain ⟨places,hx⟩ := reads os enc
 refine returnsInHanded_of_row (C := Tryz.checked) (s := Rows.OpenSpec.upto Rows.patchEncodesSpec) own started (by kernel_rfl) Tryz.func4
  (witness_row_at (enc := enc) (C := Tryz.checked) false (za os) #[.slice none 0 0,.int .i64 0,.int .i64 0,.int .i64 0,.string .empty] rfl (by kernel_rfl) (by kernel_rfl) (by kernel_rfl)
   (OpenSpec.preRow_of_cond 8 hx (by kernel_rfl) (fun k hk=>by cases hk; kernel_rfl) (by kernel_rfl) (Un os))) ?_
 intro W base args ds gs before hval hW _ hcond _ _ _ _
 exact contract H enc W base args ds gs before hval hW (hcond _ rfl)
theorem said : Rows.PatchEncodesUptoSaid :=
 OpenClaim.holds_of_cond 4 Tryz.f4 rfl rfl rfl rfl rfl rfl rfl ⟨rfl,rfl,rfl,rfl,rfl⟩ rfl rfl rfl rfl rfl (by kernel_rfl) Tryz.func4 (by kernel_rfl)
  (of_decide_eq_true (by kernel_rfl)) (by unfold Func.isWrapper; first | (rw [if_pos (by decide +kernel)]; kernel_rfl) | (rw [if_neg (by decide +kernel)]; exact ⟨rfl,rfl⟩))
  (fun os started H enc _ F=>by rw [OpenClaim.pre_eq_preRow]; exact lifted os started H enc F)
theorem plain (f : FuncId) (fn : Func) (hf : Tryz.pinned.checked.prog.funcNamed "wordbook/wordbooklaw17.PatchEncodes" = some f) (hfn : Tryz.pinned.checked.prog.funcs[f]? = some fn) :
  false = Tryz.pinned.checked.prog.looks [] ∧ ∀ (j : Nat) t,fn.params[j]? = some t → Tryz.pinned.checked.prog.wantsStandIn t = false := by
 obtain rfl : f = 4 := Option.some.inj ((show Tryz.prog.funcNamed "wordbook/wordbooklaw17.PatchEncodes" = some 4 by kernel_rfl).symm.trans hf) |>.symm
 obtain rfl : fn = Tryz.f4 := (Option.some.inj (Tryz.func4.symm.trans hfn)).symm
 refine ⟨by kernel_rfl,fun j t ht=>?_⟩
 rw [Tryz.params4] at ht
 have hm := Array.mem_of_getElem? ht
 have hall : ∀ t ∈ [22,3,3,3,9],Tryz.prog.wantsStandIn t = false := by
  intro t ht
  simp only [List.mem_cons,List.not_mem_nil,or_false] at ht
  rcases ht with rfl | rfl | rfl | rfl | rfl <;> kernel_rfl
 exact hall t (by simpa using hm)
theorem card : Rows.PatchEncodesUptoCardSaid :=
 Claim7.holds_tied_plain_at .later [] _ _ _ _ said (fun _ h=>by cases h) (by kernel_rfl) (fun _ h=>by cases h) patchEncodesUpto_row_tie rfl ⟨rfl,rfl⟩ (by kernel_rfl) rfl plain (by kernel_rfl)
end Go.Proofs.YtoeckfegggongaaGreatDoor.pe
end
