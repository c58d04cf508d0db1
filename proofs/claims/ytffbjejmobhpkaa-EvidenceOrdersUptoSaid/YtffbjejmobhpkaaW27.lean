/- The statement of EvidenceOrders in its second form: for every input within the bound the call returns true, writes nothing that was there, and its arguments read as before. Conditions: none but the statement's own bound. -/
import Derived.Test.YtffbjejmobhpkaaW26
set_option linter.unusedVariables false
set_option linter.unusedSimpArgs false
set_option maxRecDepth 100000
set_option maxHeartbeats 16000000
open Nat renaming reduceSub → qa,reduceAdd → qb,reduceMul → qc,reduceEqDiff → qd,reduceLeDiff → qe,reduceBEq → qf
section
namespace Go.Proofs.Ytffbjejmobhpkaa.orders
open Go Go.Aw Go.RowKit Go.ChangeShapes Go.WideShapes Go.ChangeAt
theorem contract (H : Type) (enc : TypeId × Value → H) (W : World) (base : Nat) (args : Array Value) (ds gs : List (DataW H)) (before : List MemPlace)
  (hval : ∀ (j : Nat) t v,Try.f4.params[j]? = some t → args[j]? = some v → Value.okWide Try.prog W .any base t v)
  (hW : DataW.Whole enc Try.prog Try.f4.params.toList Rows.evidenceOrdersSpec.vars false W args.toList ds gs before) (hk : Rows.uptoSmall H (ds ++ gs) = true) :
  Calls Try.prog 4 args W fun e W'=>∃ v,e = .returned v ∧ Rows.evidenceOrdersSpec.post enc Try.prog Try.f4 false true false false W args v W' := by
 have hW' := hW
 have hbd := bound hk
 obtain ⟨p,q,hA0,hV,rfl,hfz,hnd⟩ := hW
 have hA : DataW.TrodAll enc Try.prog W 0 (fun _=>true) true Try.f4.params.toList args.toList ds p := hA0
 rw [Try.params4] at hA hval
 obtain ⟨v0,vs0,d0,ds0,p0,q0,hargs,rfl,rfl,h0,r0⟩ := trodAll_cons hA
 obtain ⟨v1,vs1,d1,ds1,p1,q1,rfl,rfl,rfl,h1,r1⟩ := trodAll_cons r0
 obtain ⟨v2,vs2,d2,ds2,p2,q2,rfl,rfl,rfl,h2,r2⟩ := trodAll_cons r1
 obtain ⟨rfl,rfl,rfl⟩ := trodAll_nil r2
 obtain rfl : args = #[v0,v1,v2] := by cases args; simp_all
 obtain ⟨rfl,rfl⟩ := trodVars_none hV
 simp only [List.append_nil,Rows.uptoBulkAll] at hbd
 obtain ⟨l,hq0,e0⟩ := rd_ints.arg1 (by kernel_rfl) (hval 0 _ v0 rfl rfl) h0 (by omega)
 obtain ⟨m,hq1,e1⟩ := rd_ints.arg1 (by kernel_rfl) (hval 1 _ v1 rfl rfl) h1 (by omega)
 obtain ⟨day,hq2,e2⟩ := rd_ints.arg1 (by kernel_rfl) (hval 2 _ v2 rfl rfl) h2 (by omega)
 refine ((f_mOrders (l := l) (m := m) (k := day) (H := []) (R := fun d H=>d = .bool true) rfl).calls W _ rfl ?_).mono ?_
 ·intro j d v hd hv
  match j with
  | 0=>cases hd; cases hv; exact e0
  | 1=>cases hd; cases hv; exact e1
  | 2=>cases hd; cases hv; exact e2
  | j + 3=>cases hd
 ·rintro e W' ⟨v,d,H',K',rfl,rfl,hb,hr⟩
  have hv : v = .bool true := by cases hr with | bool=>rfl
  subst hv
  exact ⟨_,rfl,post_true kids full (by rw [Try.params4]; decide) hW' rfl hb rfl Try.underlying4 rfl⟩
theorem lifted (os : Os) (started : os.Started) (H : Type) (enc : TypeId × Value → H) (F : Stop.Interp) :
  ReturnsInHanded {} Try.checked os 4 .any ((Rows.OpenSpec.upto Rows.evidenceOrdersSpec).pre6 enc Try.prog Try.f4 Rows.evidenceOrdersUptoRow.domain false) (((Rows.OpenSpec.upto Rows.evidenceOrdersSpec).at F).post enc Try.prog Try.f4 false true false false) := by
 refine returnsInHanded_of_cond (C := Try.checked) (s := Rows.OpenSpec.upto Rows.evidenceOrdersSpec) (k := Rows.uptoSmall) rfl own started (by kernel_rfl) Try.func4
  (OpenSpec.witness (enc := enc) (C := Try.checked) (s := Rows.OpenSpec.upto Rows.evidenceOrdersSpec) (k := Rows.uptoSmall) rfl false ⟨#[],#[.slice none 0 0,.slice none 0 0,.slice none 0 0],[]⟩ 8 (by kernel_rfl) (by kernel_rfl) (by kernel_rfl)
   (x := ([.nil,.nil,.nil],[],[])) (by kernel_rfl) rfl (by kernel_rfl)) ?_
 intro W base args ds gs before hval hW _ hk _
 exact contract H enc W base args ds gs before hval hW hk
theorem proved : Rows.EvidenceOrdersUptoSaid :=
 OpenClaim.holds_of_cond 4 Try.f4 rfl rfl rfl rfl rfl rfl rfl ⟨rfl,rfl,rfl,rfl,rfl⟩ rfl rfl rfl rfl rfl (by kernel_rfl) Try.func4 (by kernel_rfl)
  (of_decide_eq_true (by kernel_rfl)) (by unfold Func.isWrapper; first | (rw [if_pos (by decide +kernel)]; kernel_rfl) | (rw [if_neg (by decide +kernel)]; exact ⟨rfl,rfl⟩))
  (fun os started H enc _ F=>lifted os started H enc F)
end Go.Proofs.Ytffbjejmobhpkaa.orders
end
