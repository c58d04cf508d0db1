/- How the arguments of the statements on rights read. Conditions: the bound of the second form of a statement. -/
import Derived.Test.YtbfcfmcebdfndaaAw19
import Derived.Test.YtbfcfmcebdfndaaRh6
namespace Go.Proofs.Ytbfcfmcebdfndaa
open Go Go.Aw Go.RowKit Go.ChangeShapes Go.WideShapes
set_option linter.unusedVariables false

theorem rd_int : Rd Try.prog 3 1 (fun n : Int => [.int .i64 n]) (fun _ => True) := Rd.int Try.underlying3
theorem rd_str : Rd Try.prog 9 1 (fun s : List UInt8 => [.str s]) (fun s => s.length ≤ 1048576) := Rd.str Try.underlying9
theorem rd_ints : Rd Try.prog 24 1 (fun l : List Int => [.slc (ints l)]) (fun l => l.length ≤ 1048576) :=
  (Rd.slice Try.underlying24 (by kernel_rfl) (by decide) rd_int).imp fun _ h => h.1
theorem rd_strs : Rd Try.prog 28 1 (fun l : List (List UInt8) => [.slc (strs l)]) (fun l => l.length ≤ 1048576) :=
  (Rd.slice Try.underlying28 (by kernel_rfl) (by decide) rd_str).imp fun _ h => h.1
theorem rd_tm : Rd Try.prog 43 3 Tm.d (fun _ => True) :=
  (Rd.struct Try.underlying43 (by kernel_rfl) (.cons rfl rd_str (.cons rfl rd_int (.cons rfl rd_int .nil)))).map (fun a => ⟨a.1, a.2.1, a.2.2.1⟩) (fun _ => rfl) (fun _ _ => trivial)
theorem rd_pr : Rd Try.prog 37 3 Pr.d (fun p => p.owners.length ≤ 1048576) :=
  (Rd.struct Try.underlying37 (by kernel_rfl) (.cons rfl rd_int (.cons rfl rd_int (.cons rfl rd_strs .nil)))).map (fun a => ⟨a.1, a.2.1, a.2.2.1⟩) (fun _ => rfl) (fun _ h => h.2.2.1)
theorem rd_tms : Rd Try.prog 22 1 (fun l : List Tm => [.slc (tms l)]) (fun l => l.length ≤ 1048576) :=
  (Rd.slice Try.underlying22 (by kernel_rfl) (by decide) rd_tm).imp fun _ h => h.1
theorem rd_prs : Rd Try.prog 23 1 (fun l : List Pr => [.slc (prs l)]) (fun l => l.length ≤ 1048576) :=
  (Rd.slice Try.underlying23 (by kernel_rfl) (by decide) rd_pr).imp fun _ h => h.1
theorem own : ownKnob Try.prog.godebug = none := by kernel_rfl
theorem kids : Kids Try.prog (· < Try.prog.types.size) := kids_rows (by kernel_rfl) (by kernel_rfl)
theorem full : ∀ t e, t < Try.prog.types.size → Try.prog.underlying t = some (.slice e) → 0 < Try.prog.cellsOf e := slices_full_of Try.prog (by kernel_rfl)
theorem bound {H : Type} {l : List (DataW H)} (hk : Rows.uptoSmall H l = true) : Rows.uptoBulkAll l ≤ 1048576 := of_decide_eq_true hk
end Go.Proofs.Ytbfcfmcebdfndaa
