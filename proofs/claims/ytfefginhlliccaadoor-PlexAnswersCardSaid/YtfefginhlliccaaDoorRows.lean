/-
  NARROWER THAN 'FOR EVERY INPUT', by the rows' own cells (each row's printed sentence says how): PlexSizes: laid · PlexParts: laid · PlexCliques: laid · PlexAnswers: laid · PlexGoes: laid.
  DERIVED. THE GIVEN ROWS OF THIS SEAT. 5 by the template 'for every input the law returns true; each argument reads behind the call as it read before'; 0 by the template 'total and deterministic' (their statements: YtfefginhlliccaaDoorTotals.lean).
  GIVEN WITH THE SEED: the statements are not yours to turn. If you find one false, say at which input.
  Laid BY PROGRAM, IN A SANDBOX (cutbox-rows.mjs): the forced cells as the released guide's own fill.sh prints them over the translation af036e40c5d97013… (all of the seat's roots in one cut). By AI agents, Wed Nov 11 2026. No macro, syntax, notation, axiom, sorry.
-/
import Derived.Test.YtfefginhlliccaaDoorChecked
import GoSem.Claim
import GoSem.ClaimJoined
import GoSem.ClaimMapViews
import Derived.JoinedTies
import Derived.KernelRfl
namespace Go.Proofs.YtfefginhlliccaaDoor
/- THE CELL 'sum', in the pinned program and in every row, IS THE sha256 OF THE DUMP (.gsa) THAT YtfefginhlliccaaDoorProg.lean LOADS. Nothing in Lean hashes anything: it is a label: what it is worth is what the hold of that sum in a sandbox is worth. -/
noncomputable def Tryd.pinned : Pinned := { name := "ytfefginhlliccaadoor", sum := "af036e40c5d97013c7b22525079c7ab7452b0b6074995f84525b7e04c031a6b1", checked := Tryd.checked }
namespace Rows
def none {H : Type} : Left H := { results := [], args := [] }

/- WHAT THE LISTED PACKAGE-LEVEL VARIABLES READ AS WHEN THE CALL BEGINS. Each datum BY PROGRAM (the guide's laid-datum.mjs) off the statement by which the dump's own 'gosem.cut.vars' lays the variable. In a bare row this is a premise. The card (YtfefginhlliccaaDoorCards.lean) ties it to the program's text. -/
def laid_math_bits_deBruijn64tab {H : Type} : DataW H := .agg [.lit (.int .u8 0), .lit (.int .u8 1), .lit (.int .u8 56), .lit (.int .u8 2), .lit (.int .u8 57), .lit (.int .u8 49), .lit (.int .u8 28), .lit (.int .u8 3), .lit (.int .u8 61), .lit (.int .u8 58), .lit (.int .u8 42), .lit (.int .u8 50), .lit (.int .u8 38), .lit (.int .u8 29), .lit (.int .u8 17), .lit (.int .u8 4), .lit (.int .u8 62), .lit (.int .u8 47), .lit (.int .u8 59), .lit (.int .u8 36), .lit (.int .u8 45), .lit (.int .u8 43), .lit (.int .u8 51), .lit (.int .u8 22), .lit (.int .u8 53), .lit (.int .u8 39), .lit (.int .u8 33), .lit (.int .u8 30), .lit (.int .u8 24), .lit (.int .u8 18), .lit (.int .u8 12), .lit (.int .u8 5), .lit (.int .u8 63), .lit (.int .u8 55), .lit (.int .u8 48), .lit (.int .u8 27), .lit (.int .u8 60), .lit (.int .u8 41), .lit (.int .u8 37), .lit (.int .u8 16), .lit (.int .u8 46), .lit (.int .u8 35), .lit (.int .u8 44), .lit (.int .u8 21), .lit (.int .u8 52), .lit (.int .u8 32), .lit (.int .u8 23), .lit (.int .u8 11), .lit (.int .u8 54), .lit (.int .u8 26), .lit (.int .u8 40), .lit (.int .u8 15), .lit (.int .u8 34), .lit (.int .u8 20), .lit (.int .u8 31), .lit (.int .u8 10), .lit (.int .u8 25), .lit (.int .u8 14), .lit (.int .u8 19), .lit (.int .u8 9), .lit (.int .u8 13), .lit (.int .u8 8), .lit (.int .u8 7), .lit (.int .u8 6)]

/-- 'cohesionlaw28.PlexSizes': WHATEVER THE INPUT: true; the input reads as it did. -/
def plexSizesSpec : ChangeSpec := { name := "plexSizes", fn := fun _ => fun
  | [d1, d2] => { results := [.lit (.bool true)], args := [d1, d2] }
  | _ => none }
def plexSizesRow : OpenClaim := { program := "ytfefginhlliccaadoor", sum := "af036e40c5d97013c7b22525079c7ab7452b0b6074995f84525b7e04c031a6b1", func := "cohesion/cohesionlaw28.PlexSizes", spec := "plexSizes", unfollowed := true, recurses := true, named := ["math/bits.deBruijn64tab"], apart := false, laid := [("math/bits.deBruijn64tab", laid_math_bits_deBruijn64tab)] }
def PlexSizesSaid : Prop := plexSizesRow.holds Tryd.pinned (OpenSpec.ofChange plexSizesSpec)

/-- ITS FALSE NEIGHBOUR: 'it returns false'. Refute it at one input. -/
def plexSizesWrong : ChangeSpec := { name := "plexSizes", fn := fun _ => fun
  | [d1, d2] => { results := [.lit (.bool false)], args := [d1, d2] }
  | _ => none }
def PlexSizesWrongFalsely : Prop := plexSizesRow.holds Tryd.pinned (OpenSpec.ofChange plexSizesWrong)

/-- 'cohesionlaw28.PlexParts': WHATEVER THE INPUT: true; the input reads as it did. -/
def plexPartsSpec : ChangeSpec := { name := "plexParts", fn := fun _ => fun
  | [d1, d2] => { results := [.lit (.bool true)], args := [d1, d2] }
  | _ => none }
def plexPartsRow : OpenClaim := { program := "ytfefginhlliccaadoor", sum := "af036e40c5d97013c7b22525079c7ab7452b0b6074995f84525b7e04c031a6b1", func := "cohesion/cohesionlaw28.PlexParts", spec := "plexParts", unfollowed := true, recurses := true, named := ["math/bits.deBruijn64tab"], apart := false, laid := [("math/bits.deBruijn64tab", laid_math_bits_deBruijn64tab)] }
def PlexPartsSaid : Prop := plexPartsRow.holds Tryd.pinned (OpenSpec.ofChange plexPartsSpec)

/-- ITS FALSE NEIGHBOUR: 'it returns false'. Refute it at one input. -/
def plexPartsWrong : ChangeSpec := { name := "plexParts", fn := fun _ => fun
  | [d1, d2] => { results := [.lit (.bool false)], args := [d1, d2] }
  | _ => none }
def PlexPartsWrongFalsely : Prop := plexPartsRow.holds Tryd.pinned (OpenSpec.ofChange plexPartsWrong)

/-- 'cohesionlaw28.PlexCliques': WHATEVER THE INPUT: true; the input reads as it did. -/
def plexCliquesSpec : ChangeSpec := { name := "plexCliques", fn := fun _ => fun
  | [d1, d2, d3] => { results := [.lit (.bool true)], args := [d1, d2, d3] }
  | _ => none }
def plexCliquesRow : OpenClaim := { program := "ytfefginhlliccaadoor", sum := "af036e40c5d97013c7b22525079c7ab7452b0b6074995f84525b7e04c031a6b1", func := "cohesion/cohesionlaw28.PlexCliques", spec := "plexCliques", unfollowed := true, recurses := true, named := ["math/bits.deBruijn64tab"], apart := false, laid := [("math/bits.deBruijn64tab", laid_math_bits_deBruijn64tab)] }
def PlexCliquesSaid : Prop := plexCliquesRow.holds Tryd.pinned (OpenSpec.ofChange plexCliquesSpec)

/-- ITS FALSE NEIGHBOUR: 'it returns false'. Refute it at one input. -/
def plexCliquesWrong : ChangeSpec := { name := "plexCliques", fn := fun _ => fun
  | [d1, d2, d3] => { results := [.lit (.bool false)], args := [d1, d2, d3] }
  | _ => none }
def PlexCliquesWrongFalsely : Prop := plexCliquesRow.holds Tryd.pinned (OpenSpec.ofChange plexCliquesWrong)

/-- 'cohesionlaw28.PlexAnswers': WHATEVER THE INPUT: true; the input reads as it did. -/
def plexAnswersSpec : ChangeSpec := { name := "plexAnswers", fn := fun _ => fun
  | [d1, d2, d3, d4, d5, d6] => { results := [.lit (.bool true)], args := [d1, d2, d3, d4, d5, d6] }
  | _ => none }
def plexAnswersRow : OpenClaim := { program := "ytfefginhlliccaadoor", sum := "af036e40c5d97013c7b22525079c7ab7452b0b6074995f84525b7e04c031a6b1", func := "cohesion/cohesionlaw28.PlexAnswers", spec := "plexAnswers", unfollowed := true, recurses := true, named := ["math/bits.deBruijn64tab"], apart := false, laid := [("math/bits.deBruijn64tab", laid_math_bits_deBruijn64tab)] }
def PlexAnswersSaid : Prop := plexAnswersRow.holds Tryd.pinned (OpenSpec.ofChange plexAnswersSpec)

/-- ITS FALSE NEIGHBOUR: 'it returns false'. Refute it at one input. -/
def plexAnswersWrong : ChangeSpec := { name := "plexAnswers", fn := fun _ => fun
  | [d1, d2, d3, d4, d5, d6] => { results := [.lit (.bool false)], args := [d1, d2, d3, d4, d5, d6] }
  | _ => none }
def PlexAnswersWrongFalsely : Prop := plexAnswersRow.holds Tryd.pinned (OpenSpec.ofChange plexAnswersWrong)

/-- 'cohesionlaw28.PlexGoes': WHATEVER THE INPUT: true; the input reads as it did. -/
def plexGoesSpec : ChangeSpec := { name := "plexGoes", fn := fun _ => fun
  | [d1, d2, d3] => { results := [.lit (.bool true)], args := [d1, d2, d3] }
  | _ => none }
def plexGoesRow : OpenClaim := { program := "ytfefginhlliccaadoor", sum := "af036e40c5d97013c7b22525079c7ab7452b0b6074995f84525b7e04c031a6b1", func := "cohesion/cohesionlaw28.PlexGoes", spec := "plexGoes", unfollowed := true, recurses := true, named := ["math/bits.deBruijn64tab"], apart := false, laid := [("math/bits.deBruijn64tab", laid_math_bits_deBruijn64tab)] }
def PlexGoesSaid : Prop := plexGoesRow.holds Tryd.pinned (OpenSpec.ofChange plexGoesSpec)

/-- ITS FALSE NEIGHBOUR: 'it returns false'. Refute it at one input. -/
def plexGoesWrong : ChangeSpec := { name := "plexGoes", fn := fun _ => fun
  | [d1, d2, d3] => { results := [.lit (.bool false)], args := [d1, d2, d3] }
  | _ => none }
def PlexGoesWrongFalsely : Prop := plexGoesRow.holds Tryd.pinned (OpenSpec.ofChange plexGoesWrong)

/- THE SECOND FORM. 'bulk': how many values and letters a reading holds, each counted each time it is reached (what is shared counts as often as it is met; a slice's spare places count too). A statement '..UptoSaid' is the law's where the arguments, and the package variables that the reading takes, are together of bulk at most 1048576: NARROWER than '..Said'. Prove '..Said' where nothing that the law and all that it calls make is longer than what came in: it says more and counts as full. Else prove '..UptoSaid'. A law counts once. -/
mutual
def uptoBulk {H : Type} : DataW H → Nat
  | .lit (.string bytes) => bytes.length + 1
  | .lit _ => 1
  | .nil => 1
  | .ptr d => uptoBulk d + 1
  | .slice elems spare => uptoBulkAll elems + uptoBulkAll spare + 1
  | .agg parts => uptoBulkAll parts + 1
  | .iface _ d => uptoBulk d + 1
  | .map entries => uptoBulkEntries entries + 1
  | .held _ => 1
def uptoBulkAll {H : Type} : List (DataW H) → Nat
  | [] => 0
  | d :: r => uptoBulk d + uptoBulkAll r
def uptoBulkEntries {H : Type} : List (Lit × DataW H) → Nat
  | [] => 0
  | x :: r => uptoBulkEntry x + uptoBulkEntries r
def uptoBulkEntry {H : Type} : Lit × DataW H → Nat
  | (.string bytes, d) => bytes.length + uptoBulk d + 1
  | (_, d) => uptoBulk d + 1
 end
def uptoSmall : (H : Type) → List (DataW H) → Bool := fun _ ds => decide (uptoBulkAll ds ≤ 1048576)
def OpenSpec.upto (s : _root_.Go.ChangeSpec) : _root_.Go.OpenSpec := { _root_.Go.OpenSpec.ofChange s with cond := some uptoSmall }

/-- 'cohesionlaw28.PlexSizes', WHERE WHAT IT READS IS OF BULK AT MOST 1048576: true; the input reads as it did. -/
def plexSizesUptoRow : OpenClaim := { program := "ytfefginhlliccaadoor", sum := "af036e40c5d97013c7b22525079c7ab7452b0b6074995f84525b7e04c031a6b1", func := "cohesion/cohesionlaw28.PlexSizes", spec := "plexSizes", unfollowed := true, recurses := true, named := ["math/bits.deBruijn64tab"], apart := false, laid := [("math/bits.deBruijn64tab", laid_math_bits_deBruijn64tab)], narrowed := true }
def PlexSizesUptoSaid : Prop := plexSizesUptoRow.holds Tryd.pinned (OpenSpec.upto plexSizesSpec)

/-- 'cohesionlaw28.PlexParts', WHERE WHAT IT READS IS OF BULK AT MOST 1048576: true; the input reads as it did. -/
def plexPartsUptoRow : OpenClaim := { program := "ytfefginhlliccaadoor", sum := "af036e40c5d97013c7b22525079c7ab7452b0b6074995f84525b7e04c031a6b1", func := "cohesion/cohesionlaw28.PlexParts", spec := "plexParts", unfollowed := true, recurses := true, named := ["math/bits.deBruijn64tab"], apart := false, laid := [("math/bits.deBruijn64tab", laid_math_bits_deBruijn64tab)], narrowed := true }
def PlexPartsUptoSaid : Prop := plexPartsUptoRow.holds Tryd.pinned (OpenSpec.upto plexPartsSpec)

/-- 'cohesionlaw28.PlexCliques', WHERE WHAT IT READS IS OF BULK AT MOST 1048576: true; the input reads as it did. -/
def plexCliquesUptoRow : OpenClaim := { program := "ytfefginhlliccaadoor", sum := "af036e40c5d97013c7b22525079c7ab7452b0b6074995f84525b7e04c031a6b1", func := "cohesion/cohesionlaw28.PlexCliques", spec := "plexCliques", unfollowed := true, recurses := true, named := ["math/bits.deBruijn64tab"], apart := false, laid := [("math/bits.deBruijn64tab", laid_math_bits_deBruijn64tab)], narrowed := true }
def PlexCliquesUptoSaid : Prop := plexCliquesUptoRow.holds Tryd.pinned (OpenSpec.upto plexCliquesSpec)

/-- 'cohesionlaw28.PlexAnswers', WHERE WHAT IT READS IS OF BULK AT MOST 1048576: true; the input reads as it did. -/
def plexAnswersUptoRow : OpenClaim := { program := "ytfefginhlliccaadoor", sum := "af036e40c5d97013c7b22525079c7ab7452b0b6074995f84525b7e04c031a6b1", func := "cohesion/cohesionlaw28.PlexAnswers", spec := "plexAnswers", unfollowed := true, recurses := true, named := ["math/bits.deBruijn64tab"], apart := false, laid := [("math/bits.deBruijn64tab", laid_math_bits_deBruijn64tab)], narrowed := true }
def PlexAnswersUptoSaid : Prop := plexAnswersUptoRow.holds Tryd.pinned (OpenSpec.upto plexAnswersSpec)

/-- 'cohesionlaw28.PlexGoes', WHERE WHAT IT READS IS OF BULK AT MOST 1048576: true; the input reads as it did. -/
def plexGoesUptoRow : OpenClaim := { program := "ytfefginhlliccaadoor", sum := "af036e40c5d97013c7b22525079c7ab7452b0b6074995f84525b7e04c031a6b1", func := "cohesion/cohesionlaw28.PlexGoes", spec := "plexGoes", unfollowed := true, recurses := true, named := ["math/bits.deBruijn64tab"], apart := false, laid := [("math/bits.deBruijn64tab", laid_math_bits_deBruijn64tab)], narrowed := true }
def PlexGoesUptoSaid : Prop := plexGoesUptoRow.holds Tryd.pinned (OpenSpec.upto plexGoesSpec)

end Rows
end Go.Proofs.YtfefginhlliccaaDoor
