/-
  No cell of these rows narrows 'for every input' (looked for: loops, veiled, ifaces, maps, wideKeys, modest, calm, conditions, laid).
  DERIVED. THE GIVEN ROWS OF THIS SEAT. 6 by the template 'for every input the law returns true; each argument reads behind the call as it read before'; 0 by the template 'total and deterministic' (their statements: YtffbjejmobhpkaaTotals.lean).
  GIVEN WITH THE SEED: the statements are not yours to turn. If you find one false, say at which input.
  Laid BY PROGRAM, IN A SANDBOX (cutbox-rows.mjs): the forced cells as the released guide's own fill.sh prints them over the translation 8ff9ae65a409f813… (all of the seat's roots in one cut). By AI agents, Wed Nov 11 2026. No macro, syntax, notation, axiom, sorry.
-/
import Derived.Test.YtffbjejmobhpkaaChecked
import GoSem.Claim
import GoSem.ClaimJoined
import GoSem.ClaimMapViews
import Derived.JoinedTies
import Derived.KernelRfl
namespace Go.Proofs.Ytffbjejmobhpkaa
/- THE CELL 'sum', in the pinned program and in every row, IS THE sha256 OF THE DUMP (.gsa) THAT YtffbjejmobhpkaaProg.lean LOADS. Nothing in Lean hashes anything: it is a label: what it is worth is what the hold of that sum in a sandbox is worth. -/
noncomputable def Try.pinned : Pinned := { name := "ytffbjejmobhpkaa", sum := "8ff9ae65a409f813282831a1a50b91ef1b03cd9d9ec6d4aa8880fb2626684e3b", checked := Try.checked }
namespace Rows
def none {H : Type} : Left H := { results := [], args := [] }

/-- 'wordbooklaw21.EvidenceFirst': WHATEVER THE INPUT: true; the input reads as it did. -/
def evidenceFirstSpec : ChangeSpec := { name := "evidenceFirst", fn := fun _ => fun
  | [d1, d2, d3] => { results := [.lit (.bool true)], args := [d1, d2, d3] }
  | _ => none }
def evidenceFirstRow : OpenClaim := { program := "ytffbjejmobhpkaa", sum := "8ff9ae65a409f813282831a1a50b91ef1b03cd9d9ec6d4aa8880fb2626684e3b", func := "wordbook/wordbooklaw21.EvidenceFirst", spec := "evidenceFirst", unfollowed := true, recurses := true, plainKeys := false, apart := false }
def EvidenceFirstSaid : Prop := evidenceFirstRow.holds Try.pinned (OpenSpec.ofChange evidenceFirstSpec)

/-- ITS FALSE NEIGHBOUR: 'it returns false'. Refute it at one input. -/
def evidenceFirstWrong : ChangeSpec := { name := "evidenceFirst", fn := fun _ => fun
  | [d1, d2, d3] => { results := [.lit (.bool false)], args := [d1, d2, d3] }
  | _ => none }
def EvidenceFirstWrongFalsely : Prop := evidenceFirstRow.holds Try.pinned (OpenSpec.ofChange evidenceFirstWrong)

/-- 'wordbooklaw21.EvidenceOrders': WHATEVER THE INPUT: true; the input reads as it did. -/
def evidenceOrdersSpec : ChangeSpec := { name := "evidenceOrders", fn := fun _ => fun
  | [d1, d2, d3] => { results := [.lit (.bool true)], args := [d1, d2, d3] }
  | _ => none }
def evidenceOrdersRow : OpenClaim := { program := "ytffbjejmobhpkaa", sum := "8ff9ae65a409f813282831a1a50b91ef1b03cd9d9ec6d4aa8880fb2626684e3b", func := "wordbook/wordbooklaw21.EvidenceOrders", spec := "evidenceOrders", unfollowed := true, recurses := true, plainKeys := false, apart := false }
def EvidenceOrdersSaid : Prop := evidenceOrdersRow.holds Try.pinned (OpenSpec.ofChange evidenceOrdersSpec)

/-- ITS FALSE NEIGHBOUR: 'it returns false'. Refute it at one input. -/
def evidenceOrdersWrong : ChangeSpec := { name := "evidenceOrders", fn := fun _ => fun
  | [d1, d2, d3] => { results := [.lit (.bool false)], args := [d1, d2, d3] }
  | _ => none }
def EvidenceOrdersWrongFalsely : Prop := evidenceOrdersRow.holds Try.pinned (OpenSpec.ofChange evidenceOrdersWrong)

/-- 'wordbooklaw21.EvidenceLinear': WHATEVER THE INPUT: true; the input reads as it did. -/
def evidenceLinearSpec : ChangeSpec := { name := "evidenceLinear", fn := fun _ => fun
  | [d1, d2, d3] => { results := [.lit (.bool true)], args := [d1, d2, d3] }
  | _ => none }
def evidenceLinearRow : OpenClaim := { program := "ytffbjejmobhpkaa", sum := "8ff9ae65a409f813282831a1a50b91ef1b03cd9d9ec6d4aa8880fb2626684e3b", func := "wordbook/wordbooklaw21.EvidenceLinear", spec := "evidenceLinear", unfollowed := true, recurses := true, plainKeys := false, apart := false }
def EvidenceLinearSaid : Prop := evidenceLinearRow.holds Try.pinned (OpenSpec.ofChange evidenceLinearSpec)

/-- ITS FALSE NEIGHBOUR: 'it returns false'. Refute it at one input. -/
def evidenceLinearWrong : ChangeSpec := { name := "evidenceLinear", fn := fun _ => fun
  | [d1, d2, d3] => { results := [.lit (.bool false)], args := [d1, d2, d3] }
  | _ => none }
def EvidenceLinearWrongFalsely : Prop := evidenceLinearRow.holds Try.pinned (OpenSpec.ofChange evidenceLinearWrong)

/-- 'wordbooklaw21.EvidenceChain': WHATEVER THE INPUT: true; the input reads as it did. -/
def evidenceChainSpec : ChangeSpec := { name := "evidenceChain", fn := fun _ => fun
  | [d1, d2, d3] => { results := [.lit (.bool true)], args := [d1, d2, d3] }
  | _ => none }
def evidenceChainRow : OpenClaim := { program := "ytffbjejmobhpkaa", sum := "8ff9ae65a409f813282831a1a50b91ef1b03cd9d9ec6d4aa8880fb2626684e3b", func := "wordbook/wordbooklaw21.EvidenceChain", spec := "evidenceChain", unfollowed := true, recurses := true, plainKeys := false, apart := false }
def EvidenceChainSaid : Prop := evidenceChainRow.holds Try.pinned (OpenSpec.ofChange evidenceChainSpec)

/-- ITS FALSE NEIGHBOUR: 'it returns false'. Refute it at one input. -/
def evidenceChainWrong : ChangeSpec := { name := "evidenceChain", fn := fun _ => fun
  | [d1, d2, d3] => { results := [.lit (.bool false)], args := [d1, d2, d3] }
  | _ => none }
def EvidenceChainWrongFalsely : Prop := evidenceChainRow.holds Try.pinned (OpenSpec.ofChange evidenceChainWrong)

/-- 'wordbooklaw21.EvidenceDates': WHATEVER THE INPUT: true; the input reads as it did. -/
def evidenceDatesSpec : ChangeSpec := { name := "evidenceDates", fn := fun _ => fun
  | [d1, d2, d3, d4] => { results := [.lit (.bool true)], args := [d1, d2, d3, d4] }
  | _ => none }
def evidenceDatesRow : OpenClaim := { program := "ytffbjejmobhpkaa", sum := "8ff9ae65a409f813282831a1a50b91ef1b03cd9d9ec6d4aa8880fb2626684e3b", func := "wordbook/wordbooklaw21.EvidenceDates", spec := "evidenceDates", unfollowed := true, recurses := true, plainKeys := false, apart := false }
def EvidenceDatesSaid : Prop := evidenceDatesRow.holds Try.pinned (OpenSpec.ofChange evidenceDatesSpec)

/-- ITS FALSE NEIGHBOUR: 'it returns false'. Refute it at one input. -/
def evidenceDatesWrong : ChangeSpec := { name := "evidenceDates", fn := fun _ => fun
  | [d1, d2, d3, d4] => { results := [.lit (.bool false)], args := [d1, d2, d3, d4] }
  | _ => none }
def EvidenceDatesWrongFalsely : Prop := evidenceDatesRow.holds Try.pinned (OpenSpec.ofChange evidenceDatesWrong)

/-- 'wordbooklaw21.EvidenceDays': WHATEVER THE INPUT: true; the input reads as it did. -/
def evidenceDaysSpec : ChangeSpec := { name := "evidenceDays", fn := fun _ => fun
  | [d1, d2, d3] => { results := [.lit (.bool true)], args := [d1, d2, d3] }
  | _ => none }
def evidenceDaysRow : OpenClaim := { program := "ytffbjejmobhpkaa", sum := "8ff9ae65a409f813282831a1a50b91ef1b03cd9d9ec6d4aa8880fb2626684e3b", func := "wordbook/wordbooklaw21.EvidenceDays", spec := "evidenceDays", unfollowed := true, recurses := true, plainKeys := false, apart := false }
def EvidenceDaysSaid : Prop := evidenceDaysRow.holds Try.pinned (OpenSpec.ofChange evidenceDaysSpec)

/-- ITS FALSE NEIGHBOUR: 'it returns false'. Refute it at one input. -/
def evidenceDaysWrong : ChangeSpec := { name := "evidenceDays", fn := fun _ => fun
  | [d1, d2, d3] => { results := [.lit (.bool false)], args := [d1, d2, d3] }
  | _ => none }
def EvidenceDaysWrongFalsely : Prop := evidenceDaysRow.holds Try.pinned (OpenSpec.ofChange evidenceDaysWrong)

/- THE SECOND FORM. 'bulk': how many values and letters a reading holds, each counted each time it is reached (what is shared counts as often as it is met; a slice's spare places count too). A statement '..UptoSaid' is the law's where the arguments, and the package variables that the reading takes, are together of bulk at most 1048576: NARROWER than '..Said'. Prove '..Said' where nothing that the law and all that it calls make is longer than what came in: it says more and counts as full. Else prove '..UptoSaid'. A law counts once. -/
mutual
def uptoBulk {H : Type} : DataW H → Nat
  | .lit (.string bytes) => bytes.length + 1
  | .lit _ => 1
  | .nil => 1
  | .ptr d => uptoBulk d + 1
  | .slice elems spare => uptoBulkAll elems + uptoBulkAll spare + 1
  | .agg parts => uptoBulkAll parts + 1
  | .iface _ d => uptoBulk d + 1
  | .map entries => uptoBulkEntries entries + 1
  | .held _ => 1
def uptoBulkAll {H : Type} : List (DataW H) → Nat
  | [] => 0
  | d :: r => uptoBulk d + uptoBulkAll r
def uptoBulkEntries {H : Type} : List (Lit × DataW H) → Nat
  | [] => 0
  | x :: r => uptoBulkEntry x + uptoBulkEntries r
def uptoBulkEntry {H : Type} : Lit × DataW H → Nat
  | (.string bytes, d) => bytes.length + uptoBulk d + 1
  | (_, d) => uptoBulk d + 1
 end
def uptoSmall : (H : Type) → List (DataW H) → Bool := fun _ ds => decide (uptoBulkAll ds ≤ 1048576)
def OpenSpec.upto (s : _root_.Go.ChangeSpec) : _root_.Go.OpenSpec := { _root_.Go.OpenSpec.ofChange s with cond := some uptoSmall }

/-- 'wordbooklaw21.EvidenceFirst', WHERE WHAT IT READS IS OF BULK AT MOST 1048576: true; the input reads as it did. -/
def evidenceFirstUptoRow : OpenClaim := { program := "ytffbjejmobhpkaa", sum := "8ff9ae65a409f813282831a1a50b91ef1b03cd9d9ec6d4aa8880fb2626684e3b", func := "wordbook/wordbooklaw21.EvidenceFirst", spec := "evidenceFirst", unfollowed := true, recurses := true, plainKeys := false, apart := false, narrowed := true }
def EvidenceFirstUptoSaid : Prop := evidenceFirstUptoRow.holds Try.pinned (OpenSpec.upto evidenceFirstSpec)

/-- 'wordbooklaw21.EvidenceOrders', WHERE WHAT IT READS IS OF BULK AT MOST 1048576: true; the input reads as it did. -/
def evidenceOrdersUptoRow : OpenClaim := { program := "ytffbjejmobhpkaa", sum := "8ff9ae65a409f813282831a1a50b91ef1b03cd9d9ec6d4aa8880fb2626684e3b", func := "wordbook/wordbooklaw21.EvidenceOrders", spec := "evidenceOrders", unfollowed := true, recurses := true, plainKeys := false, apart := false, narrowed := true }
def EvidenceOrdersUptoSaid : Prop := evidenceOrdersUptoRow.holds Try.pinned (OpenSpec.upto evidenceOrdersSpec)

/-- 'wordbooklaw21.EvidenceLinear', WHERE WHAT IT READS IS OF BULK AT MOST 1048576: true; the input reads as it did. -/
def evidenceLinearUptoRow : OpenClaim := { program := "ytffbjejmobhpkaa", sum := "8ff9ae65a409f813282831a1a50b91ef1b03cd9d9ec6d4aa8880fb2626684e3b", func := "wordbook/wordbooklaw21.EvidenceLinear", spec := "evidenceLinear", unfollowed := true, recurses := true, plainKeys := false, apart := false, narrowed := true }
def EvidenceLinearUptoSaid : Prop := evidenceLinearUptoRow.holds Try.pinned (OpenSpec.upto evidenceLinearSpec)

/-- 'wordbooklaw21.EvidenceChain', WHERE WHAT IT READS IS OF BULK AT MOST 1048576: true; the input reads as it did. -/
def evidenceChainUptoRow : OpenClaim := { program := "ytffbjejmobhpkaa", sum := "8ff9ae65a409f813282831a1a50b91ef1b03cd9d9ec6d4aa8880fb2626684e3b", func := "wordbook/wordbooklaw21.EvidenceChain", spec := "evidenceChain", unfollowed := true, recurses := true, plainKeys := false, apart := false, narrowed := true }
def EvidenceChainUptoSaid : Prop := evidenceChainUptoRow.holds Try.pinned (OpenSpec.upto evidenceChainSpec)

/-- 'wordbooklaw21.EvidenceDates', WHERE WHAT IT READS IS OF BULK AT MOST 1048576: true; the input reads as it did. -/
def evidenceDatesUptoRow : OpenClaim := { program := "ytffbjejmobhpkaa", sum := "8ff9ae65a409f813282831a1a50b91ef1b03cd9d9ec6d4aa8880fb2626684e3b", func := "wordbook/wordbooklaw21.EvidenceDates", spec := "evidenceDates", unfollowed := true, recurses := true, plainKeys := false, apart := false, narrowed := true }
def EvidenceDatesUptoSaid : Prop := evidenceDatesUptoRow.holds Try.pinned (OpenSpec.upto evidenceDatesSpec)

/-- 'wordbooklaw21.EvidenceDays', WHERE WHAT IT READS IS OF BULK AT MOST 1048576: true; the input reads as it did. -/
def evidenceDaysUptoRow : OpenClaim := { program := "ytffbjejmobhpkaa", sum := "8ff9ae65a409f813282831a1a50b91ef1b03cd9d9ec6d4aa8880fb2626684e3b", func := "wordbook/wordbooklaw21.EvidenceDays", spec := "evidenceDays", unfollowed := true, recurses := true, plainKeys := false, apart := false, narrowed := true }
def EvidenceDaysUptoSaid : Prop := evidenceDaysUptoRow.holds Try.pinned (OpenSpec.upto evidenceDaysSpec)

end Rows
end Go.Proofs.Ytffbjejmobhpkaa
