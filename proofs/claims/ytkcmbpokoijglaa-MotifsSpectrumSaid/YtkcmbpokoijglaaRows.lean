/-
  No cell of these rows narrows 'for every input' (looked for: loops, veiled, ifaces, maps, wideKeys, modest, calm, conditions, laid).
  DERIVED. THE GIVEN ROWS OF THIS SEAT. 6 by the template 'for every input the law returns true; each argument reads behind the call as it read before'; 0 by the template 'total and deterministic' (their statements: YtkcmbpokoijglaaTotals.lean).
  GIVEN WITH THE SEED: the statements are not yours to turn. If you find one false, say at which input.
  Laid BY PROGRAM, IN A SANDBOX (cutbox-rows.mjs): the forced cells as the released guide's own fill.sh prints them over the translation 0b6ea61dc686f835… (all of the seat's roots in one cut). By AI agents, Wed Nov 11 2026. No macro, syntax, notation, axiom, sorry.
-/
import Derived.Test.YtkcmbpokoijglaaChecked
import GoSem.Claim
import GoSem.ClaimJoined
import GoSem.ClaimMapViews
import Derived.JoinedTies
import Derived.KernelRfl
namespace Go.Proofs.Ytkcmbpokoijglaa
/- THE CELL 'sum', in the pinned program and in every row, IS THE sha256 OF THE DUMP (.gsa) THAT YtkcmbpokoijglaaProg.lean LOADS. Nothing in Lean hashes anything: it is a label: what it is worth is what the hold of that sum in a sandbox is worth. -/
noncomputable def Try.pinned : Pinned := { name := "ytkcmbpokoijglaa", sum := "0b6ea61dc686f8357a2b1b18a4ce0b7d5c2a2ad5678c703c4680e005fbe4ddcc", checked := Try.checked }
namespace Rows
def none {H : Type} : Left H := { results := [], args := [] }

/-- 'cohesionlaw31.MotifsBack': WHATEVER THE INPUT: true; the input reads as it did. -/
def motifsBackSpec : ChangeSpec := { name := "motifsBack", fn := fun _ => fun
  | [d1, d2] => { results := [.lit (.bool true)], args := [d1, d2] }
  | _ => none }
def motifsBackRow : OpenClaim := { program := "ytkcmbpokoijglaa", sum := "0b6ea61dc686f8357a2b1b18a4ce0b7d5c2a2ad5678c703c4680e005fbe4ddcc", func := "cohesion/cohesionlaw31.MotifsBack", spec := "motifsBack", unfollowed := true, recurses := true, plainKeys := false, apart := false }
def MotifsBackSaid : Prop := motifsBackRow.holds Try.pinned (OpenSpec.ofChange motifsBackSpec)

/-- ITS FALSE NEIGHBOUR: 'it returns false'. Refute it at one input. -/
def motifsBackWrong : ChangeSpec := { name := "motifsBack", fn := fun _ => fun
  | [d1, d2] => { results := [.lit (.bool false)], args := [d1, d2] }
  | _ => none }
def MotifsBackWrongFalsely : Prop := motifsBackRow.holds Try.pinned (OpenSpec.ofChange motifsBackWrong)

/-- 'cohesionlaw31.MotifsNames': WHATEVER THE INPUT: true; the input reads as it did. -/
def motifsNamesSpec : ChangeSpec := { name := "motifsNames", fn := fun _ => fun
  | [d1, d2] => { results := [.lit (.bool true)], args := [d1, d2] }
  | _ => none }
def motifsNamesRow : OpenClaim := { program := "ytkcmbpokoijglaa", sum := "0b6ea61dc686f8357a2b1b18a4ce0b7d5c2a2ad5678c703c4680e005fbe4ddcc", func := "cohesion/cohesionlaw31.MotifsNames", spec := "motifsNames", unfollowed := true, recurses := true, plainKeys := false, apart := false }
def MotifsNamesSaid : Prop := motifsNamesRow.holds Try.pinned (OpenSpec.ofChange motifsNamesSpec)

/-- ITS FALSE NEIGHBOUR: 'it returns false'. Refute it at one input. -/
def motifsNamesWrong : ChangeSpec := { name := "motifsNames", fn := fun _ => fun
  | [d1, d2] => { results := [.lit (.bool false)], args := [d1, d2] }
  | _ => none }
def MotifsNamesWrongFalsely : Prop := motifsNamesRow.holds Try.pinned (OpenSpec.ofChange motifsNamesWrong)

/-- 'cohesionlaw31.MotifsAll': WHATEVER THE INPUT: true; the input reads as it did. -/
def motifsAllSpec : ChangeSpec := { name := "motifsAll", fn := fun _ => fun
  | [d1, d2, d3] => { results := [.lit (.bool true)], args := [d1, d2, d3] }
  | _ => none }
def motifsAllRow : OpenClaim := { program := "ytkcmbpokoijglaa", sum := "0b6ea61dc686f8357a2b1b18a4ce0b7d5c2a2ad5678c703c4680e005fbe4ddcc", func := "cohesion/cohesionlaw31.MotifsAll", spec := "motifsAll", unfollowed := true, recurses := true, plainKeys := false, apart := false }
def MotifsAllSaid : Prop := motifsAllRow.holds Try.pinned (OpenSpec.ofChange motifsAllSpec)

/-- ITS FALSE NEIGHBOUR: 'it returns false'. Refute it at one input. -/
def motifsAllWrong : ChangeSpec := { name := "motifsAll", fn := fun _ => fun
  | [d1, d2, d3] => { results := [.lit (.bool false)], args := [d1, d2, d3] }
  | _ => none }
def MotifsAllWrongFalsely : Prop := motifsAllRow.holds Try.pinned (OpenSpec.ofChange motifsAllWrong)

/-- 'cohesionlaw31.MotifsAnswers': WHATEVER THE INPUT: true; the input reads as it did. -/
def motifsAnswersSpec : ChangeSpec := { name := "motifsAnswers", fn := fun _ => fun
  | [d1, d2, d3, d4, d5] => { results := [.lit (.bool true)], args := [d1, d2, d3, d4, d5] }
  | _ => none }
def motifsAnswersRow : OpenClaim := { program := "ytkcmbpokoijglaa", sum := "0b6ea61dc686f8357a2b1b18a4ce0b7d5c2a2ad5678c703c4680e005fbe4ddcc", func := "cohesion/cohesionlaw31.MotifsAnswers", spec := "motifsAnswers", unfollowed := true, recurses := true, plainKeys := false, apart := false }
def MotifsAnswersSaid : Prop := motifsAnswersRow.holds Try.pinned (OpenSpec.ofChange motifsAnswersSpec)

/-- ITS FALSE NEIGHBOUR: 'it returns false'. Refute it at one input. -/
def motifsAnswersWrong : ChangeSpec := { name := "motifsAnswers", fn := fun _ => fun
  | [d1, d2, d3, d4, d5] => { results := [.lit (.bool false)], args := [d1, d2, d3, d4, d5] }
  | _ => none }
def MotifsAnswersWrongFalsely : Prop := motifsAnswersRow.holds Try.pinned (OpenSpec.ofChange motifsAnswersWrong)

/-- 'cohesionlaw31.MotifsBeginnings': WHATEVER THE INPUT: true; the input reads as it did. -/
def motifsBeginningsSpec : ChangeSpec := { name := "motifsBeginnings", fn := fun _ => fun
  | [d1, d2] => { results := [.lit (.bool true)], args := [d1, d2] }
  | _ => none }
def motifsBeginningsRow : OpenClaim := { program := "ytkcmbpokoijglaa", sum := "0b6ea61dc686f8357a2b1b18a4ce0b7d5c2a2ad5678c703c4680e005fbe4ddcc", func := "cohesion/cohesionlaw31.MotifsBeginnings", spec := "motifsBeginnings", unfollowed := true, recurses := true, plainKeys := false, apart := false }
def MotifsBeginningsSaid : Prop := motifsBeginningsRow.holds Try.pinned (OpenSpec.ofChange motifsBeginningsSpec)

/-- ITS FALSE NEIGHBOUR: 'it returns false'. Refute it at one input. -/
def motifsBeginningsWrong : ChangeSpec := { name := "motifsBeginnings", fn := fun _ => fun
  | [d1, d2] => { results := [.lit (.bool false)], args := [d1, d2] }
  | _ => none }
def MotifsBeginningsWrongFalsely : Prop := motifsBeginningsRow.holds Try.pinned (OpenSpec.ofChange motifsBeginningsWrong)

/-- 'cohesionlaw31.MotifsSpectrum': WHATEVER THE INPUT: true; the input reads as it did. -/
def motifsSpectrumSpec : ChangeSpec := { name := "motifsSpectrum", fn := fun _ => fun
  | [d1, d2, d3, d4] => { results := [.lit (.bool true)], args := [d1, d2, d3, d4] }
  | _ => none }
def motifsSpectrumRow : OpenClaim := { program := "ytkcmbpokoijglaa", sum := "0b6ea61dc686f8357a2b1b18a4ce0b7d5c2a2ad5678c703c4680e005fbe4ddcc", func := "cohesion/cohesionlaw31.MotifsSpectrum", spec := "motifsSpectrum", unfollowed := true, recurses := true, plainKeys := false, apart := false }
def MotifsSpectrumSaid : Prop := motifsSpectrumRow.holds Try.pinned (OpenSpec.ofChange motifsSpectrumSpec)

/-- ITS FALSE NEIGHBOUR: 'it returns false'. Refute it at one input. -/
def motifsSpectrumWrong : ChangeSpec := { name := "motifsSpectrum", fn := fun _ => fun
  | [d1, d2, d3, d4] => { results := [.lit (.bool false)], args := [d1, d2, d3, d4] }
  | _ => none }
def MotifsSpectrumWrongFalsely : Prop := motifsSpectrumRow.holds Try.pinned (OpenSpec.ofChange motifsSpectrumWrong)

/- THE SECOND FORM. 'bulk': how many values and letters a reading holds, each counted each time it is reached (what is shared counts as often as it is met; a slice's spare places count too). A statement '..UptoSaid' is the law's where the arguments, and the package variables that the reading takes, are together of bulk at most 1048576: NARROWER than '..Said'. Prove '..Said' where nothing that the law and all that it calls make is longer than what came in: it says more and counts as full. Else prove '..UptoSaid'. A law counts once. -/
mutual
def uptoBulk {H : Type} : DataW H → Nat
  | .lit (.string bytes) => bytes.length + 1
  | .lit _ => 1
  | .nil => 1
  | .ptr d => uptoBulk d + 1
  | .slice elems spare => uptoBulkAll elems + uptoBulkAll spare + 1
  | .agg parts => uptoBulkAll parts + 1
  | .iface _ d => uptoBulk d + 1
  | .map entries => uptoBulkEntries entries + 1
  | .held _ => 1
def uptoBulkAll {H : Type} : List (DataW H) → Nat
  | [] => 0
  | d :: r => uptoBulk d + uptoBulkAll r
def uptoBulkEntries {H : Type} : List (Lit × DataW H) → Nat
  | [] => 0
  | x :: r => uptoBulkEntry x + uptoBulkEntries r
def uptoBulkEntry {H : Type} : Lit × DataW H → Nat
  | (.string bytes, d) => bytes.length + uptoBulk d + 1
  | (_, d) => uptoBulk d + 1
 end
def uptoSmall : (H : Type) → List (DataW H) → Bool := fun _ ds => decide (uptoBulkAll ds ≤ 1048576)
def OpenSpec.upto (s : _root_.Go.ChangeSpec) : _root_.Go.OpenSpec := { _root_.Go.OpenSpec.ofChange s with cond := some uptoSmall }

/-- 'cohesionlaw31.MotifsBack', WHERE WHAT IT READS IS OF BULK AT MOST 1048576: true; the input reads as it did. -/
def motifsBackUptoRow : OpenClaim := { program := "ytkcmbpokoijglaa", sum := "0b6ea61dc686f8357a2b1b18a4ce0b7d5c2a2ad5678c703c4680e005fbe4ddcc", func := "cohesion/cohesionlaw31.MotifsBack", spec := "motifsBack", unfollowed := true, recurses := true, plainKeys := false, apart := false, narrowed := true }
def MotifsBackUptoSaid : Prop := motifsBackUptoRow.holds Try.pinned (OpenSpec.upto motifsBackSpec)

/-- 'cohesionlaw31.MotifsNames', WHERE WHAT IT READS IS OF BULK AT MOST 1048576: true; the input reads as it did. -/
def motifsNamesUptoRow : OpenClaim := { program := "ytkcmbpokoijglaa", sum := "0b6ea61dc686f8357a2b1b18a4ce0b7d5c2a2ad5678c703c4680e005fbe4ddcc", func := "cohesion/cohesionlaw31.MotifsNames", spec := "motifsNames", unfollowed := true, recurses := true, plainKeys := false, apart := false, narrowed := true }
def MotifsNamesUptoSaid : Prop := motifsNamesUptoRow.holds Try.pinned (OpenSpec.upto motifsNamesSpec)

/-- 'cohesionlaw31.MotifsAll', WHERE WHAT IT READS IS OF BULK AT MOST 1048576: true; the input reads as it did. -/
def motifsAllUptoRow : OpenClaim := { program := "ytkcmbpokoijglaa", sum := "0b6ea61dc686f8357a2b1b18a4ce0b7d5c2a2ad5678c703c4680e005fbe4ddcc", func := "cohesion/cohesionlaw31.MotifsAll", spec := "motifsAll", unfollowed := true, recurses := true, plainKeys := false, apart := false, narrowed := true }
def MotifsAllUptoSaid : Prop := motifsAllUptoRow.holds Try.pinned (OpenSpec.upto motifsAllSpec)

/-- 'cohesionlaw31.MotifsAnswers', WHERE WHAT IT READS IS OF BULK AT MOST 1048576: true; the input reads as it did. -/
def motifsAnswersUptoRow : OpenClaim := { program := "ytkcmbpokoijglaa", sum := "0b6ea61dc686f8357a2b1b18a4ce0b7d5c2a2ad5678c703c4680e005fbe4ddcc", func := "cohesion/cohesionlaw31.MotifsAnswers", spec := "motifsAnswers", unfollowed := true, recurses := true, plainKeys := false, apart := false, narrowed := true }
def MotifsAnswersUptoSaid : Prop := motifsAnswersUptoRow.holds Try.pinned (OpenSpec.upto motifsAnswersSpec)

/-- 'cohesionlaw31.MotifsBeginnings', WHERE WHAT IT READS IS OF BULK AT MOST 1048576: true; the input reads as it did. -/
def motifsBeginningsUptoRow : OpenClaim := { program := "ytkcmbpokoijglaa", sum := "0b6ea61dc686f8357a2b1b18a4ce0b7d5c2a2ad5678c703c4680e005fbe4ddcc", func := "cohesion/cohesionlaw31.MotifsBeginnings", spec := "motifsBeginnings", unfollowed := true, recurses := true, plainKeys := false, apart := false, narrowed := true }
def MotifsBeginningsUptoSaid : Prop := motifsBeginningsUptoRow.holds Try.pinned (OpenSpec.upto motifsBeginningsSpec)

/-- 'cohesionlaw31.MotifsSpectrum', WHERE WHAT IT READS IS OF BULK AT MOST 1048576: true; the input reads as it did. -/
def motifsSpectrumUptoRow : OpenClaim := { program := "ytkcmbpokoijglaa", sum := "0b6ea61dc686f8357a2b1b18a4ce0b7d5c2a2ad5678c703c4680e005fbe4ddcc", func := "cohesion/cohesionlaw31.MotifsSpectrum", spec := "motifsSpectrum", unfollowed := true, recurses := true, plainKeys := false, apart := false, narrowed := true }
def MotifsSpectrumUptoSaid : Prop := motifsSpectrumUptoRow.holds Try.pinned (OpenSpec.upto motifsSpectrumSpec)

end Rows
end Go.Proofs.Ytkcmbpokoijglaa
