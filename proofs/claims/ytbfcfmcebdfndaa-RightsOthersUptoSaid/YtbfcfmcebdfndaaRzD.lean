/- The statement of RightsOthers in its second form: for every input within the bound the call returns true, writes nothing that was there, and its arguments read as before. Conditions: none but the statement's own bound. -/
import Derived.Test.YtbfcfmcebdfndaaRz1
import Derived.Test.YtbfcfmcebdfndaaRl5
namespace Go.Proofs.Ytbfcfmcebdfndaa.others
open Go Go.Aw Go.RowKit Go.ChangeShapes Go.WideShapes Go.ChangeAt
set_option linter.unusedVariables false

theorem contract (H : Type) (enc : TypeId × Value → H) (W : World) (base : Nat) (args : Array Value) (ds gs : List (DataW H)) (before : List MemPlace)
    (hval : ∀ (j : Nat) t v, Try.f7.params[j]? = some t → args[j]? = some v → Value.okWide Try.prog W .any base t v)
    (hW : DataW.Whole enc Try.prog Try.f7.params.toList Rows.rightsOthersSpec.vars false W args.toList ds gs before) (hk : Rows.uptoSmall H (ds ++ gs) = true) :
    Calls Try.prog 7 args W fun e W' => ∃ v, e = .returned v ∧ Rows.rightsOthersSpec.post enc Try.prog Try.f7 false true false false W args v W' := by
  have hW' := hW
  have hbd := bound hk
  obtain ⟨p, q, hA0, hV, rfl, hfz, hnd⟩ := hW
  have hA : DataW.TrodAll enc Try.prog W 0 (fun _ => true) true Try.f7.params.toList args.toList ds p := hA0
  rw [Try.params7] at hA hval
  obtain ⟨v0, vs0, d0, ds0, p0, q0, hargs, rfl, rfl, h0, r0⟩ := trodAll_cons hA
  obtain ⟨v1, vs1, d1, ds1, p1, q1, rfl, rfl, rfl, h1, r1⟩ := trodAll_cons r0
  obtain ⟨v2, vs2, d2, ds2, p2, q2, rfl, rfl, rfl, h2, r2⟩ := trodAll_cons r1
  obtain ⟨v3, vs3, d3, ds3, p3, q3, rfl, rfl, rfl, h3, r3⟩ := trodAll_cons r2
  obtain ⟨v4, vs4, d4, ds4, p4, q4, rfl, rfl, rfl, h4, r4⟩ := trodAll_cons r3
  obtain ⟨v5, vs5, d5, ds5, p5, q5, rfl, rfl, rfl, h5, r5⟩ := trodAll_cons r4
  obtain ⟨v6, vs6, d6, ds6, p6, q6, rfl, rfl, rfl, h6, r6⟩ := trodAll_cons r5
  obtain ⟨rfl, rfl, rfl⟩ := trodAll_nil r6
  obtain rfl : args = #[v0, v1, v2, v3, v4, v5, v6] := by cases args; simp_all
  obtain ⟨rfl, rfl⟩ := trodVars_none hV
  simp only [List.append_nil, Rows.uptoBulkAll] at hbd
  obtain ⟨l, hq0, e0⟩ := rd_ints.arg1 (by kernel_rfl) (hval 0 _ v0 rfl rfl) h0 (by omega)
  obtain ⟨m, hq1, e1⟩ := rd_ints.arg1 (by kernel_rfl) (hval 1 _ v1 rfl rfl) h1 (by omega)
  obtain ⟨who, hq2, e2⟩ := rd_int.arg1 (by kernel_rfl) (hval 2 _ v2 rfl rfl) h2 (by omega)
  obtain ⟨at0, hq3, e3⟩ := rd_int.arg1 (by kernel_rfl) (hval 3 _ v3 rfl rfl) h3 (by omega)
  obtain ⟨owners, hq4, e4⟩ := rd_int.arg1 (by kernel_rfl) (hval 4 _ v4 rfl rfl) h4 (by omega)
  obtain ⟨copies, hq5, e5⟩ := rd_int.arg1 (by kernel_rfl) (hval 5 _ v5 rfl rfl) h5 (by omega)
  obtain ⟨day, hq6, e6⟩ := rd_int.arg1 (by kernel_rfl) (hval 6 _ v6 rfl rfl) h6 (by omega)
  refine ((r_others (l := l) (m := m) (who := who) (at_ := at0) (owners := owners) (copies := copies) (day := day) (H := []) (R := fun d H => d = .bool true) rfl).calls W _ rfl ?_).mono ?_
  · intro j d v hd hv
    match j with
    | 0 => cases hd; cases hv; exact e0
    | 1 => cases hd; cases hv; exact e1
    | 2 => cases hd; cases hv; exact e2
    | 3 => cases hd; cases hv; exact e3
    | 4 => cases hd; cases hv; exact e4
    | 5 => cases hd; cases hv; exact e5
    | 6 => cases hd; cases hv; exact e6
    | j + 7 => cases hd
  · rintro e W' ⟨v, d, H', K', rfl, rfl, hb, hr⟩
    have hv : v = .bool true := by cases hr with | bool => rfl
    subst hv
    exact ⟨_, rfl, post_true kids full (by rw [Try.params7]; decide) hW' rfl hb rfl Try.underlying4 rfl⟩

set_option maxRecDepth 100000 in
theorem lifted (os : Os) (started : os.Started) (H : Type) (enc : TypeId × Value → H) (F : Stop.Interp) :
    ReturnsInHanded {} Try.checked os 7 .any ((Rows.OpenSpec.upto Rows.rightsOthersSpec).pre6 enc Try.prog Try.f7 Rows.rightsOthersUptoRow.domain false) (((Rows.OpenSpec.upto Rows.rightsOthersSpec).at F).post enc Try.prog Try.f7 false true false false) := by
  refine returnsInHanded_of_cond (C := Try.checked) (s := Rows.OpenSpec.upto Rows.rightsOthersSpec) (k := Rows.uptoSmall) rfl own started (by kernel_rfl) Try.func7
    (OpenSpec.witness (enc := enc) (C := Try.checked) (s := Rows.OpenSpec.upto Rows.rightsOthersSpec) (k := Rows.uptoSmall) rfl false ⟨#[], #[.slice none 0 0, .slice none 0 0, .int .i64 0, .int .i64 0, .int .i64 0, .int .i64 0, .int .i64 0], []⟩ 8 (by kernel_rfl) (by kernel_rfl) (by kernel_rfl)
      (x := ([.nil, .nil, .lit (.int .i64 0), .lit (.int .i64 0), .lit (.int .i64 0), .lit (.int .i64 0), .lit (.int .i64 0)], [], [])) (by kernel_rfl) rfl (by kernel_rfl)) ?_
  intro W base args ds gs before hval hW _ hk _
  exact contract H enc W base args ds gs before hval hW hk

theorem proved : Rows.RightsOthersUptoSaid :=
  OpenClaim.holds_of_cond 7 Try.f7 rfl rfl rfl rfl rfl rfl rfl ⟨rfl, rfl, rfl, rfl, rfl⟩ rfl rfl rfl rfl rfl (by kernel_rfl) Try.func7 (by kernel_rfl)
    (of_decide_eq_true (by kernel_rfl)) (by unfold Func.isWrapper; first | (rw [if_pos (by decide +kernel)]; kernel_rfl) | (rw [if_neg (by decide +kernel)]; exact ⟨rfl, rfl⟩))
    (fun os started H enc _ F => lifted os started H enc F)
end Go.Proofs.Ytbfcfmcebdfndaa.others
