/-
  No cell of these rows narrows 'for every input' (looked for: loops, veiled, ifaces, maps, wideKeys, modest, calm, conditions, laid).
  DERIVED. THE GIVEN ROWS OF THIS SEAT. 6 by the template 'for every input the law returns true; each argument reads behind the call as it read before'; 0 by the template 'total and deterministic' (their statements: YtbaebeackbciaaaTotals.lean).
  GIVEN WITH THE SEED: the statements are not yours to turn. If you find one false, say at which input.
  Laid BY PROGRAM, IN A SANDBOX (cutbox-rows.mjs): the forced cells as the released guide's own fill.sh prints them over the translation dfa6c309caedf469… (all of the seat's roots in one cut). By AI agents, Wed Nov 11 2026. No macro, syntax, notation, axiom, sorry.
-/
import Derived.Test.YtbaebeackbciaaaChecked
import GoSem.Claim
import GoSem.ClaimJoined
import GoSem.ClaimMapViews
import Derived.JoinedTies
import Derived.KernelRfl
namespace Go.Proofs.Ytbaebeackbciaaa
/- THE CELL 'sum', in the pinned program and in every row, IS THE sha256 OF THE DUMP (.gsa) THAT YtbaebeackbciaaaProg.lean LOADS. Nothing in Lean hashes anything: it is a label: what it is worth is what the hold of that sum in a sandbox is worth. -/
noncomputable def Try.pinned : Pinned := { name := "ytbaebeackbciaaa", sum := "dfa6c309caedf469dec7e22f19306ea1c8a33dfcaa5c01034f75bdff435e353a", checked := Try.checked }
namespace Rows
def none {H : Type} : Left H := { results := [], args := [] }

/-- 'cohesionlaw35.JournalChanges': WHATEVER THE INPUT: true; the input reads as it did. -/
def journalChangesSpec : ChangeSpec := { name := "journalChanges", fn := fun _ => fun
  | [d1, d2, d3] => { results := [.lit (.bool true)], args := [d1, d2, d3] }
  | _ => none }
def journalChangesRow : OpenClaim := { program := "ytbaebeackbciaaa", sum := "dfa6c309caedf469dec7e22f19306ea1c8a33dfcaa5c01034f75bdff435e353a", func := "cohesion/cohesionlaw35.JournalChanges", spec := "journalChanges", unfollowed := true, recurses := true, apart := false }
def JournalChangesSaid : Prop := journalChangesRow.holds Try.pinned (OpenSpec.ofChange journalChangesSpec)

/-- ITS FALSE NEIGHBOUR: 'it returns false'. Refute it at one input. -/
def journalChangesWrong : ChangeSpec := { name := "journalChanges", fn := fun _ => fun
  | [d1, d2, d3] => { results := [.lit (.bool false)], args := [d1, d2, d3] }
  | _ => none }
def JournalChangesWrongFalsely : Prop := journalChangesRow.holds Try.pinned (OpenSpec.ofChange journalChangesWrong)

/-- 'cohesionlaw35.JournalGrows': WHATEVER THE INPUT: true; the input reads as it did. -/
def journalGrowsSpec : ChangeSpec := { name := "journalGrows", fn := fun _ => fun
  | [d1, d2] => { results := [.lit (.bool true)], args := [d1, d2] }
  | _ => none }
def journalGrowsRow : OpenClaim := { program := "ytbaebeackbciaaa", sum := "dfa6c309caedf469dec7e22f19306ea1c8a33dfcaa5c01034f75bdff435e353a", func := "cohesion/cohesionlaw35.JournalGrows", spec := "journalGrows", unfollowed := true, recurses := true, apart := false }
def JournalGrowsSaid : Prop := journalGrowsRow.holds Try.pinned (OpenSpec.ofChange journalGrowsSpec)

/-- ITS FALSE NEIGHBOUR: 'it returns false'. Refute it at one input. -/
def journalGrowsWrong : ChangeSpec := { name := "journalGrows", fn := fun _ => fun
  | [d1, d2] => { results := [.lit (.bool false)], args := [d1, d2] }
  | _ => none }
def JournalGrowsWrongFalsely : Prop := journalGrowsRow.holds Try.pinned (OpenSpec.ofChange journalGrowsWrong)

/-- 'cohesionlaw35.JournalSum': WHATEVER THE INPUT: true; the input reads as it did. -/
def journalSumSpec : ChangeSpec := { name := "journalSum", fn := fun _ => fun
  | [d1, d2, d3, d4] => { results := [.lit (.bool true)], args := [d1, d2, d3, d4] }
  | _ => none }
def journalSumRow : OpenClaim := { program := "ytbaebeackbciaaa", sum := "dfa6c309caedf469dec7e22f19306ea1c8a33dfcaa5c01034f75bdff435e353a", func := "cohesion/cohesionlaw35.JournalSum", spec := "journalSum", unfollowed := true, recurses := true, apart := false }
def JournalSumSaid : Prop := journalSumRow.holds Try.pinned (OpenSpec.ofChange journalSumSpec)

/-- ITS FALSE NEIGHBOUR: 'it returns false'. Refute it at one input. -/
def journalSumWrong : ChangeSpec := { name := "journalSum", fn := fun _ => fun
  | [d1, d2, d3, d4] => { results := [.lit (.bool false)], args := [d1, d2, d3, d4] }
  | _ => none }
def JournalSumWrongFalsely : Prop := journalSumRow.holds Try.pinned (OpenSpec.ofChange journalSumWrong)

/-- 'cohesionlaw35.JournalCuts': WHATEVER THE INPUT: true; the input reads as it did. -/
def journalCutsSpec : ChangeSpec := { name := "journalCuts", fn := fun _ => fun
  | [d1, d2] => { results := [.lit (.bool true)], args := [d1, d2] }
  | _ => none }
def journalCutsRow : OpenClaim := { program := "ytbaebeackbciaaa", sum := "dfa6c309caedf469dec7e22f19306ea1c8a33dfcaa5c01034f75bdff435e353a", func := "cohesion/cohesionlaw35.JournalCuts", spec := "journalCuts", unfollowed := true, recurses := true, apart := false }
def JournalCutsSaid : Prop := journalCutsRow.holds Try.pinned (OpenSpec.ofChange journalCutsSpec)

/-- ITS FALSE NEIGHBOUR: 'it returns false'. Refute it at one input. -/
def journalCutsWrong : ChangeSpec := { name := "journalCuts", fn := fun _ => fun
  | [d1, d2] => { results := [.lit (.bool false)], args := [d1, d2] }
  | _ => none }
def JournalCutsWrongFalsely : Prop := journalCutsRow.holds Try.pinned (OpenSpec.ofChange journalCutsWrong)

/-- 'cohesionlaw35.JournalAnswers': WHATEVER THE INPUT: true; the input reads as it did. -/
def journalAnswersSpec : ChangeSpec := { name := "journalAnswers", fn := fun _ => fun
  | [d1, d2, d3, d4] => { results := [.lit (.bool true)], args := [d1, d2, d3, d4] }
  | _ => none }
def journalAnswersRow : OpenClaim := { program := "ytbaebeackbciaaa", sum := "dfa6c309caedf469dec7e22f19306ea1c8a33dfcaa5c01034f75bdff435e353a", func := "cohesion/cohesionlaw35.JournalAnswers", spec := "journalAnswers", unfollowed := true, recurses := true, apart := false }
def JournalAnswersSaid : Prop := journalAnswersRow.holds Try.pinned (OpenSpec.ofChange journalAnswersSpec)

/-- ITS FALSE NEIGHBOUR: 'it returns false'. Refute it at one input. -/
def journalAnswersWrong : ChangeSpec := { name := "journalAnswers", fn := fun _ => fun
  | [d1, d2, d3, d4] => { results := [.lit (.bool false)], args := [d1, d2, d3, d4] }
  | _ => none }
def JournalAnswersWrongFalsely : Prop := journalAnswersRow.holds Try.pinned (OpenSpec.ofChange journalAnswersWrong)

/-- 'cohesionlaw35.JournalBatches': WHATEVER THE INPUT: true; the input reads as it did. -/
def journalBatchesSpec : ChangeSpec := { name := "journalBatches", fn := fun _ => fun
  | [d1, d2] => { results := [.lit (.bool true)], args := [d1, d2] }
  | _ => none }
def journalBatchesRow : OpenClaim := { program := "ytbaebeackbciaaa", sum := "dfa6c309caedf469dec7e22f19306ea1c8a33dfcaa5c01034f75bdff435e353a", func := "cohesion/cohesionlaw35.JournalBatches", spec := "journalBatches", unfollowed := true, recurses := true, apart := false }
def JournalBatchesSaid : Prop := journalBatchesRow.holds Try.pinned (OpenSpec.ofChange journalBatchesSpec)

/-- ITS FALSE NEIGHBOUR: 'it returns false'. Refute it at one input. -/
def journalBatchesWrong : ChangeSpec := { name := "journalBatches", fn := fun _ => fun
  | [d1, d2] => { results := [.lit (.bool false)], args := [d1, d2] }
  | _ => none }
def JournalBatchesWrongFalsely : Prop := journalBatchesRow.holds Try.pinned (OpenSpec.ofChange journalBatchesWrong)

/- THE SECOND FORM. 'bulk': how many values and letters a reading holds, each counted each time it is reached (what is shared counts as often as it is met; a slice's spare places count too). A statement '..UptoSaid' is the law's where the arguments, and the package variables that the reading takes, are together of bulk at most 1048576: NARROWER than '..Said'. Prove '..Said' where nothing that the law and all that it calls make is longer than what came in: it says more and counts as full. Else prove '..UptoSaid'. A law counts once. -/
mutual
def uptoBulk {H : Type} : DataW H → Nat
  | .lit (.string bytes) => bytes.length + 1
  | .lit _ => 1
  | .nil => 1
  | .ptr d => uptoBulk d + 1
  | .slice elems spare => uptoBulkAll elems + uptoBulkAll spare + 1
  | .agg parts => uptoBulkAll parts + 1
  | .iface _ d => uptoBulk d + 1
  | .map entries => uptoBulkEntries entries + 1
  | .held _ => 1
def uptoBulkAll {H : Type} : List (DataW H) → Nat
  | [] => 0
  | d :: r => uptoBulk d + uptoBulkAll r
def uptoBulkEntries {H : Type} : List (Lit × DataW H) → Nat
  | [] => 0
  | x :: r => uptoBulkEntry x + uptoBulkEntries r
def uptoBulkEntry {H : Type} : Lit × DataW H → Nat
  | (.string bytes, d) => bytes.length + uptoBulk d + 1
  | (_, d) => uptoBulk d + 1
 end
def uptoSmall : (H : Type) → List (DataW H) → Bool := fun _ ds => decide (uptoBulkAll ds ≤ 1048576)
def OpenSpec.upto (s : _root_.Go.ChangeSpec) : _root_.Go.OpenSpec := { _root_.Go.OpenSpec.ofChange s with cond := some uptoSmall }

/-- 'cohesionlaw35.JournalChanges', WHERE WHAT IT READS IS OF BULK AT MOST 1048576: true; the input reads as it did. -/
def journalChangesUptoRow : OpenClaim := { program := "ytbaebeackbciaaa", sum := "dfa6c309caedf469dec7e22f19306ea1c8a33dfcaa5c01034f75bdff435e353a", func := "cohesion/cohesionlaw35.JournalChanges", spec := "journalChanges", unfollowed := true, recurses := true, apart := false, narrowed := true }
def JournalChangesUptoSaid : Prop := journalChangesUptoRow.holds Try.pinned (OpenSpec.upto journalChangesSpec)

/-- 'cohesionlaw35.JournalGrows', WHERE WHAT IT READS IS OF BULK AT MOST 1048576: true; the input reads as it did. -/
def journalGrowsUptoRow : OpenClaim := { program := "ytbaebeackbciaaa", sum := "dfa6c309caedf469dec7e22f19306ea1c8a33dfcaa5c01034f75bdff435e353a", func := "cohesion/cohesionlaw35.JournalGrows", spec := "journalGrows", unfollowed := true, recurses := true, apart := false, narrowed := true }
def JournalGrowsUptoSaid : Prop := journalGrowsUptoRow.holds Try.pinned (OpenSpec.upto journalGrowsSpec)

/-- 'cohesionlaw35.JournalSum', WHERE WHAT IT READS IS OF BULK AT MOST 1048576: true; the input reads as it did. -/
def journalSumUptoRow : OpenClaim := { program := "ytbaebeackbciaaa", sum := "dfa6c309caedf469dec7e22f19306ea1c8a33dfcaa5c01034f75bdff435e353a", func := "cohesion/cohesionlaw35.JournalSum", spec := "journalSum", unfollowed := true, recurses := true, apart := false, narrowed := true }
def JournalSumUptoSaid : Prop := journalSumUptoRow.holds Try.pinned (OpenSpec.upto journalSumSpec)

/-- 'cohesionlaw35.JournalCuts', WHERE WHAT IT READS IS OF BULK AT MOST 1048576: true; the input reads as it did. -/
def journalCutsUptoRow : OpenClaim := { program := "ytbaebeackbciaaa", sum := "dfa6c309caedf469dec7e22f19306ea1c8a33dfcaa5c01034f75bdff435e353a", func := "cohesion/cohesionlaw35.JournalCuts", spec := "journalCuts", unfollowed := true, recurses := true, apart := false, narrowed := true }
def JournalCutsUptoSaid : Prop := journalCutsUptoRow.holds Try.pinned (OpenSpec.upto journalCutsSpec)

/-- 'cohesionlaw35.JournalAnswers', WHERE WHAT IT READS IS OF BULK AT MOST 1048576: true; the input reads as it did. -/
def journalAnswersUptoRow : OpenClaim := { program := "ytbaebeackbciaaa", sum := "dfa6c309caedf469dec7e22f19306ea1c8a33dfcaa5c01034f75bdff435e353a", func := "cohesion/cohesionlaw35.JournalAnswers", spec := "journalAnswers", unfollowed := true, recurses := true, apart := false, narrowed := true }
def JournalAnswersUptoSaid : Prop := journalAnswersUptoRow.holds Try.pinned (OpenSpec.upto journalAnswersSpec)

/-- 'cohesionlaw35.JournalBatches', WHERE WHAT IT READS IS OF BULK AT MOST 1048576: true; the input reads as it did. -/
def journalBatchesUptoRow : OpenClaim := { program := "ytbaebeackbciaaa", sum := "dfa6c309caedf469dec7e22f19306ea1c8a33dfcaa5c01034f75bdff435e353a", func := "cohesion/cohesionlaw35.JournalBatches", spec := "journalBatches", unfollowed := true, recurses := true, apart := false, narrowed := true }
def JournalBatchesUptoSaid : Prop := journalBatchesUptoRow.holds Try.pinned (OpenSpec.upto journalBatchesSpec)

end Rows
end Go.Proofs.Ytbaebeackbciaaa
