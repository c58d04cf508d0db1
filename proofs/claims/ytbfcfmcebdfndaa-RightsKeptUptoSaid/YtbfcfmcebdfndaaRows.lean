/-
  No cell of these rows narrows 'for every input' (looked for: loops, veiled, ifaces, maps, wideKeys, modest, calm, conditions, laid).
  DERIVED. THE GIVEN ROWS OF THIS SEAT. 5 by the template 'for every input the law returns true; each argument reads behind the call as it read before'; 0 by the template 'total and deterministic' (their statements: YtbfcfmcebdfndaaTotals.lean).
  GIVEN WITH THE SEED: the statements are not yours to turn. If you find one false, say at which input.
  Laid BY PROGRAM, IN A SANDBOX (cutbox-rows.mjs): the forced cells as the released guide's own fill.sh prints them over the translation 46db42c39c7f7541… (all of the seat's roots in one cut). By AI agents, Wed Nov 11 2026. No macro, syntax, notation, axiom, sorry.
-/
import Derived.Test.YtbfcfmcebdfndaaChecked
import GoSem.Claim
import GoSem.ClaimJoined
import GoSem.ClaimMapViews
import Derived.JoinedTies
import Derived.KernelRfl
namespace Go.Proofs.Ytbfcfmcebdfndaa
/- THE CELL 'sum', in the pinned program and in every row, IS THE sha256 OF THE DUMP (.gsa) THAT YtbfcfmcebdfndaaProg.lean LOADS. Nothing in Lean hashes anything: it is a label: what it is worth is what the hold of that sum in a sandbox is worth. -/
noncomputable def Try.pinned : Pinned := { name := "ytbfcfmcebdfndaa", sum := "46db42c39c7f7541f6487a8bfa3a1e58f54f03813789c15bde28402a7d946bd9", checked := Try.checked }
namespace Rows
def none {H : Type} : Left H := { results := [], args := [] }

/-- 'wordbooklaw25.RightsAnswers': WHATEVER THE INPUT: true; the input reads as it did. -/
def rightsAnswersSpec : ChangeSpec := { name := "rightsAnswers", fn := fun _ => fun
  | [d1, d2, d3, d4, d5, d6, d7] => { results := [.lit (.bool true)], args := [d1, d2, d3, d4, d5, d6, d7] }
  | _ => none }
def rightsAnswersRow : OpenClaim := { program := "ytbfcfmcebdfndaa", sum := "46db42c39c7f7541f6487a8bfa3a1e58f54f03813789c15bde28402a7d946bd9", func := "wordbook/wordbooklaw25.RightsAnswers", spec := "rightsAnswers", unfollowed := true, recurses := true, apart := false }
def RightsAnswersSaid : Prop := rightsAnswersRow.holds Try.pinned (OpenSpec.ofChange rightsAnswersSpec)

/-- ITS FALSE NEIGHBOUR: 'it returns false'. Refute it at one input. -/
def rightsAnswersWrong : ChangeSpec := { name := "rightsAnswers", fn := fun _ => fun
  | [d1, d2, d3, d4, d5, d6, d7] => { results := [.lit (.bool false)], args := [d1, d2, d3, d4, d5, d6, d7] }
  | _ => none }
def RightsAnswersWrongFalsely : Prop := rightsAnswersRow.holds Try.pinned (OpenSpec.ofChange rightsAnswersWrong)

/-- 'wordbooklaw25.RightsRecords': WHATEVER THE INPUT: true; the input reads as it did. -/
def rightsRecordsSpec : ChangeSpec := { name := "rightsRecords", fn := fun _ => fun
  | [d1, d2, d3, d4, d5] => { results := [.lit (.bool true)], args := [d1, d2, d3, d4, d5] }
  | _ => none }
def rightsRecordsRow : OpenClaim := { program := "ytbfcfmcebdfndaa", sum := "46db42c39c7f7541f6487a8bfa3a1e58f54f03813789c15bde28402a7d946bd9", func := "wordbook/wordbooklaw25.RightsRecords", spec := "rightsRecords", unfollowed := true, recurses := true, apart := false }
def RightsRecordsSaid : Prop := rightsRecordsRow.holds Try.pinned (OpenSpec.ofChange rightsRecordsSpec)

/-- ITS FALSE NEIGHBOUR: 'it returns false'. Refute it at one input. -/
def rightsRecordsWrong : ChangeSpec := { name := "rightsRecords", fn := fun _ => fun
  | [d1, d2, d3, d4, d5] => { results := [.lit (.bool false)], args := [d1, d2, d3, d4, d5] }
  | _ => none }
def RightsRecordsWrongFalsely : Prop := rightsRecordsRow.holds Try.pinned (OpenSpec.ofChange rightsRecordsWrong)

/-- 'wordbooklaw25.RightsKept': WHATEVER THE INPUT: true; the input reads as it did. -/
def rightsKeptSpec : ChangeSpec := { name := "rightsKept", fn := fun _ => fun
  | [d1, d2] => { results := [.lit (.bool true)], args := [d1, d2] }
  | _ => none }
def rightsKeptRow : OpenClaim := { program := "ytbfcfmcebdfndaa", sum := "46db42c39c7f7541f6487a8bfa3a1e58f54f03813789c15bde28402a7d946bd9", func := "wordbook/wordbooklaw25.RightsKept", spec := "rightsKept", unfollowed := true, recurses := true, apart := false }
def RightsKeptSaid : Prop := rightsKeptRow.holds Try.pinned (OpenSpec.ofChange rightsKeptSpec)

/-- ITS FALSE NEIGHBOUR: 'it returns false'. Refute it at one input. -/
def rightsKeptWrong : ChangeSpec := { name := "rightsKept", fn := fun _ => fun
  | [d1, d2] => { results := [.lit (.bool false)], args := [d1, d2] }
  | _ => none }
def RightsKeptWrongFalsely : Prop := rightsKeptRow.holds Try.pinned (OpenSpec.ofChange rightsKeptWrong)

/-- 'wordbooklaw25.RightsDays': WHATEVER THE INPUT: true; the input reads as it did. -/
def rightsDaysSpec : ChangeSpec := { name := "rightsDays", fn := fun _ => fun
  | [d1, d2, d3, d4, d5, d6, d7] => { results := [.lit (.bool true)], args := [d1, d2, d3, d4, d5, d6, d7] }
  | _ => none }
def rightsDaysRow : OpenClaim := { program := "ytbfcfmcebdfndaa", sum := "46db42c39c7f7541f6487a8bfa3a1e58f54f03813789c15bde28402a7d946bd9", func := "wordbook/wordbooklaw25.RightsDays", spec := "rightsDays", unfollowed := true, recurses := true, apart := false }
def RightsDaysSaid : Prop := rightsDaysRow.holds Try.pinned (OpenSpec.ofChange rightsDaysSpec)

/-- ITS FALSE NEIGHBOUR: 'it returns false'. Refute it at one input. -/
def rightsDaysWrong : ChangeSpec := { name := "rightsDays", fn := fun _ => fun
  | [d1, d2, d3, d4, d5, d6, d7] => { results := [.lit (.bool false)], args := [d1, d2, d3, d4, d5, d6, d7] }
  | _ => none }
def RightsDaysWrongFalsely : Prop := rightsDaysRow.holds Try.pinned (OpenSpec.ofChange rightsDaysWrong)

/-- 'wordbooklaw25.RightsOthers': WHATEVER THE INPUT: true; the input reads as it did. -/
def rightsOthersSpec : ChangeSpec := { name := "rightsOthers", fn := fun _ => fun
  | [d1, d2, d3, d4, d5, d6, d7] => { results := [.lit (.bool true)], args := [d1, d2, d3, d4, d5, d6, d7] }
  | _ => none }
def rightsOthersRow : OpenClaim := { program := "ytbfcfmcebdfndaa", sum := "46db42c39c7f7541f6487a8bfa3a1e58f54f03813789c15bde28402a7d946bd9", func := "wordbook/wordbooklaw25.RightsOthers", spec := "rightsOthers", unfollowed := true, recurses := true, apart := false }
def RightsOthersSaid : Prop := rightsOthersRow.holds Try.pinned (OpenSpec.ofChange rightsOthersSpec)

/-- ITS FALSE NEIGHBOUR: 'it returns false'. Refute it at one input. -/
def rightsOthersWrong : ChangeSpec := { name := "rightsOthers", fn := fun _ => fun
  | [d1, d2, d3, d4, d5, d6, d7] => { results := [.lit (.bool false)], args := [d1, d2, d3, d4, d5, d6, d7] }
  | _ => none }
def RightsOthersWrongFalsely : Prop := rightsOthersRow.holds Try.pinned (OpenSpec.ofChange rightsOthersWrong)

/- THE SECOND FORM. 'bulk': how many values and letters a reading holds, each counted each time it is reached (what is shared counts as often as it is met; a slice's spare places count too). A statement '..UptoSaid' is the law's where the arguments, and the package variables that the reading takes, are together of bulk at most 1048576: NARROWER than '..Said'. Prove '..Said' where nothing that the law and all that it calls make is longer than what came in: it says more and counts as full. Else prove '..UptoSaid'. A law counts once. -/
mutual
def uptoBulk {H : Type} : DataW H → Nat
  | .lit (.string bytes) => bytes.length + 1
  | .lit _ => 1
  | .nil => 1
  | .ptr d => uptoBulk d + 1
  | .slice elems spare => uptoBulkAll elems + uptoBulkAll spare + 1
  | .agg parts => uptoBulkAll parts + 1
  | .iface _ d => uptoBulk d + 1
  | .map entries => uptoBulkEntries entries + 1
  | .held _ => 1
def uptoBulkAll {H : Type} : List (DataW H) → Nat
  | [] => 0
  | d :: r => uptoBulk d + uptoBulkAll r
def uptoBulkEntries {H : Type} : List (Lit × DataW H) → Nat
  | [] => 0
  | x :: r => uptoBulkEntry x + uptoBulkEntries r
def uptoBulkEntry {H : Type} : Lit × DataW H → Nat
  | (.string bytes, d) => bytes.length + uptoBulk d + 1
  | (_, d) => uptoBulk d + 1
 end
def uptoSmall : (H : Type) → List (DataW H) → Bool := fun _ ds => decide (uptoBulkAll ds ≤ 1048576)
def OpenSpec.upto (s : _root_.Go.ChangeSpec) : _root_.Go.OpenSpec := { _root_.Go.OpenSpec.ofChange s with cond := some uptoSmall }

/-- 'wordbooklaw25.RightsAnswers', WHERE WHAT IT READS IS OF BULK AT MOST 1048576: true; the input reads as it did. -/
def rightsAnswersUptoRow : OpenClaim := { program := "ytbfcfmcebdfndaa", sum := "46db42c39c7f7541f6487a8bfa3a1e58f54f03813789c15bde28402a7d946bd9", func := "wordbook/wordbooklaw25.RightsAnswers", spec := "rightsAnswers", unfollowed := true, recurses := true, apart := false, narrowed := true }
def RightsAnswersUptoSaid : Prop := rightsAnswersUptoRow.holds Try.pinned (OpenSpec.upto rightsAnswersSpec)

/-- 'wordbooklaw25.RightsRecords', WHERE WHAT IT READS IS OF BULK AT MOST 1048576: true; the input reads as it did. -/
def rightsRecordsUptoRow : OpenClaim := { program := "ytbfcfmcebdfndaa", sum := "46db42c39c7f7541f6487a8bfa3a1e58f54f03813789c15bde28402a7d946bd9", func := "wordbook/wordbooklaw25.RightsRecords", spec := "rightsRecords", unfollowed := true, recurses := true, apart := false, narrowed := true }
def RightsRecordsUptoSaid : Prop := rightsRecordsUptoRow.holds Try.pinned (OpenSpec.upto rightsRecordsSpec)

/-- 'wordbooklaw25.RightsKept', WHERE WHAT IT READS IS OF BULK AT MOST 1048576: true; the input reads as it did. -/
def rightsKeptUptoRow : OpenClaim := { program := "ytbfcfmcebdfndaa", sum := "46db42c39c7f7541f6487a8bfa3a1e58f54f03813789c15bde28402a7d946bd9", func := "wordbook/wordbooklaw25.RightsKept", spec := "rightsKept", unfollowed := true, recurses := true, apart := false, narrowed := true }
def RightsKeptUptoSaid : Prop := rightsKeptUptoRow.holds Try.pinned (OpenSpec.upto rightsKeptSpec)

/-- 'wordbooklaw25.RightsDays', WHERE WHAT IT READS IS OF BULK AT MOST 1048576: true; the input reads as it did. -/
def rightsDaysUptoRow : OpenClaim := { program := "ytbfcfmcebdfndaa", sum := "46db42c39c7f7541f6487a8bfa3a1e58f54f03813789c15bde28402a7d946bd9", func := "wordbook/wordbooklaw25.RightsDays", spec := "rightsDays", unfollowed := true, recurses := true, apart := false, narrowed := true }
def RightsDaysUptoSaid : Prop := rightsDaysUptoRow.holds Try.pinned (OpenSpec.upto rightsDaysSpec)

/-- 'wordbooklaw25.RightsOthers', WHERE WHAT IT READS IS OF BULK AT MOST 1048576: true; the input reads as it did. -/
def rightsOthersUptoRow : OpenClaim := { program := "ytbfcfmcebdfndaa", sum := "46db42c39c7f7541f6487a8bfa3a1e58f54f03813789c15bde28402a7d946bd9", func := "wordbook/wordbooklaw25.RightsOthers", spec := "rightsOthers", unfollowed := true, recurses := true, apart := false, narrowed := true }
def RightsOthersUptoSaid : Prop := rightsOthersUptoRow.holds Try.pinned (OpenSpec.upto rightsOthersSpec)

end Rows
end Go.Proofs.Ytbfcfmcebdfndaa
