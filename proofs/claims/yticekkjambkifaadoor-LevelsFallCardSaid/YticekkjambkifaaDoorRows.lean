/-
  NARROWER THAN 'FOR EVERY INPUT', by the rows' own cells (each row's printed sentence says how): LevelsCores: laid · LevelsFall: laid · LevelsChecks: laid · LevelsBuild: laid · LevelsBalance: laid · DensestProves: laid · DensestInside: laid · DensestDenser: laid · DensestSteps: laid.
  DERIVED. THE GIVEN ROWS OF THIS SEAT. 9 by the template 'for every input the law returns true; each argument reads behind the call as it read before'; 0 by the template 'total and deterministic' (their statements: YticekkjambkifaaDoorTotals.lean).
  GIVEN WITH THE SEED: the statements are not yours to turn. If you find one false, say at which input.
  Laid BY PROGRAM, IN A SANDBOX (cutbox-rows.mjs): the forced cells as the released guide's own fill.sh prints them over the translation c5838539445536a5… (all of the seat's roots in one cut). By AI agents, Wed Nov 11 2026. No macro, syntax, notation, axiom, sorry.
-/
import Derived.Test.YticekkjambkifaaDoorChecked
import GoSem.Claim
import GoSem.ClaimJoined
import GoSem.ClaimMapViews
import Derived.JoinedTies
import Derived.KernelRfl
namespace Go.Proofs.YticekkjambkifaaDoor
/- THE CELL 'sum', in the pinned program and in every row, IS THE sha256 OF THE DUMP (.gsa) THAT YticekkjambkifaaDoorProg.lean LOADS. Nothing in Lean hashes anything: it is a label: what it is worth is what the hold of that sum in a sandbox is worth. -/
noncomputable def Tryd.pinned : Pinned := { name := "yticekkjambkifaadoor", sum := "c5838539445536a5332a85b50b46c14853193533eeea56066900b54b4a92c133", checked := Tryd.checked }
namespace Rows
def none {H : Type} : Left H := { results := [], args := [] }

/- WHAT THE LISTED PACKAGE-LEVEL VARIABLES READ AS WHEN THE CALL BEGINS. Each datum BY PROGRAM (the guide's laid-datum.mjs) off the statement by which the dump's own 'gosem.cut.vars' lays the variable. In a bare row this is a premise. The card (YticekkjambkifaaDoorCards.lean) ties it to the program's text. -/
def laid_math_bits_deBruijn64tab {H : Type} : DataW H := .agg [.lit (.int .u8 0), .lit (.int .u8 1), .lit (.int .u8 56), .lit (.int .u8 2), .lit (.int .u8 57), .lit (.int .u8 49), .lit (.int .u8 28), .lit (.int .u8 3), .lit (.int .u8 61), .lit (.int .u8 58), .lit (.int .u8 42), .lit (.int .u8 50), .lit (.int .u8 38), .lit (.int .u8 29), .lit (.int .u8 17), .lit (.int .u8 4), .lit (.int .u8 62), .lit (.int .u8 47), .lit (.int .u8 59), .lit (.int .u8 36), .lit (.int .u8 45), .lit (.int .u8 43), .lit (.int .u8 51), .lit (.int .u8 22), .lit (.int .u8 53), .lit (.int .u8 39), .lit (.int .u8 33), .lit (.int .u8 30), .lit (.int .u8 24), .lit (.int .u8 18), .lit (.int .u8 12), .lit (.int .u8 5), .lit (.int .u8 63), .lit (.int .u8 55), .lit (.int .u8 48), .lit (.int .u8 27), .lit (.int .u8 60), .lit (.int .u8 41), .lit (.int .u8 37), .lit (.int .u8 16), .lit (.int .u8 46), .lit (.int .u8 35), .lit (.int .u8 44), .lit (.int .u8 21), .lit (.int .u8 52), .lit (.int .u8 32), .lit (.int .u8 23), .lit (.int .u8 11), .lit (.int .u8 54), .lit (.int .u8 26), .lit (.int .u8 40), .lit (.int .u8 15), .lit (.int .u8 34), .lit (.int .u8 20), .lit (.int .u8 31), .lit (.int .u8 10), .lit (.int .u8 25), .lit (.int .u8 14), .lit (.int .u8 19), .lit (.int .u8 9), .lit (.int .u8 13), .lit (.int .u8 8), .lit (.int .u8 7), .lit (.int .u8 6)]

/-- 'cohesionlaw22.LevelsCores': WHATEVER THE INPUT: true; the input reads as it did. -/
def levelsCoresSpec : ChangeSpec := { name := "levelsCores", fn := fun _ => fun
  | [d] => { results := [.lit (.bool true)], args := [d] }
  | _ => none }
def levelsCoresRow : OpenClaim := { program := "yticekkjambkifaadoor", sum := "c5838539445536a5332a85b50b46c14853193533eeea56066900b54b4a92c133", func := "cohesion/cohesionlaw22.LevelsCores", spec := "levelsCores", inPlace := ["math/bits.Sub64"], unfollowed := true, recurses := true, named := ["math/bits.deBruijn64tab"], apart := false, laid := [("math/bits.deBruijn64tab", laid_math_bits_deBruijn64tab)] }
def LevelsCoresSaid : Prop := levelsCoresRow.holds Tryd.pinned (OpenSpec.ofChange levelsCoresSpec)

/-- ITS FALSE NEIGHBOUR: 'it returns false'. Refute it at one input. -/
def levelsCoresWrong : ChangeSpec := { name := "levelsCores", fn := fun _ => fun
  | [d] => { results := [.lit (.bool false)], args := [d] }
  | _ => none }
def LevelsCoresWrongFalsely : Prop := levelsCoresRow.holds Tryd.pinned (OpenSpec.ofChange levelsCoresWrong)

/-- 'cohesionlaw22.LevelsFall': WHATEVER THE INPUT: true; the input reads as it did. -/
def levelsFallSpec : ChangeSpec := { name := "levelsFall", fn := fun _ => fun
  | [d] => { results := [.lit (.bool true)], args := [d] }
  | _ => none }
def levelsFallRow : OpenClaim := { program := "yticekkjambkifaadoor", sum := "c5838539445536a5332a85b50b46c14853193533eeea56066900b54b4a92c133", func := "cohesion/cohesionlaw22.LevelsFall", spec := "levelsFall", inPlace := ["math/bits.Sub64"], unfollowed := true, recurses := true, named := ["math/bits.deBruijn64tab"], apart := false, laid := [("math/bits.deBruijn64tab", laid_math_bits_deBruijn64tab)] }
def LevelsFallSaid : Prop := levelsFallRow.holds Tryd.pinned (OpenSpec.ofChange levelsFallSpec)

/-- ITS FALSE NEIGHBOUR: 'it returns false'. Refute it at one input. -/
def levelsFallWrong : ChangeSpec := { name := "levelsFall", fn := fun _ => fun
  | [d] => { results := [.lit (.bool false)], args := [d] }
  | _ => none }
def LevelsFallWrongFalsely : Prop := levelsFallRow.holds Tryd.pinned (OpenSpec.ofChange levelsFallWrong)

/-- 'cohesionlaw22.LevelsChecks': WHATEVER THE INPUT: true; the input reads as it did. -/
def levelsChecksSpec : ChangeSpec := { name := "levelsChecks", fn := fun _ => fun
  | [d1, d2, d3] => { results := [.lit (.bool true)], args := [d1, d2, d3] }
  | _ => none }
def levelsChecksRow : OpenClaim := { program := "yticekkjambkifaadoor", sum := "c5838539445536a5332a85b50b46c14853193533eeea56066900b54b4a92c133", func := "cohesion/cohesionlaw22.LevelsChecks", spec := "levelsChecks", inPlace := ["math/bits.Sub64"], unfollowed := true, recurses := true, named := ["math/bits.deBruijn64tab"], apart := false, laid := [("math/bits.deBruijn64tab", laid_math_bits_deBruijn64tab)] }
def LevelsChecksSaid : Prop := levelsChecksRow.holds Tryd.pinned (OpenSpec.ofChange levelsChecksSpec)

/-- ITS FALSE NEIGHBOUR: 'it returns false'. Refute it at one input. -/
def levelsChecksWrong : ChangeSpec := { name := "levelsChecks", fn := fun _ => fun
  | [d1, d2, d3] => { results := [.lit (.bool false)], args := [d1, d2, d3] }
  | _ => none }
def LevelsChecksWrongFalsely : Prop := levelsChecksRow.holds Tryd.pinned (OpenSpec.ofChange levelsChecksWrong)

/-- 'cohesionlaw22.LevelsBuild': WHATEVER THE INPUT: true; the input reads as it did. -/
def levelsBuildSpec : ChangeSpec := { name := "levelsBuild", fn := fun _ => fun
  | [d1, d2, d3, d4] => { results := [.lit (.bool true)], args := [d1, d2, d3, d4] }
  | _ => none }
def levelsBuildRow : OpenClaim := { program := "yticekkjambkifaadoor", sum := "c5838539445536a5332a85b50b46c14853193533eeea56066900b54b4a92c133", func := "cohesion/cohesionlaw22.LevelsBuild", spec := "levelsBuild", inPlace := ["math/bits.Sub64"], unfollowed := true, recurses := true, named := ["math/bits.deBruijn64tab"], apart := false, laid := [("math/bits.deBruijn64tab", laid_math_bits_deBruijn64tab)] }
def LevelsBuildSaid : Prop := levelsBuildRow.holds Tryd.pinned (OpenSpec.ofChange levelsBuildSpec)

/-- ITS FALSE NEIGHBOUR: 'it returns false'. Refute it at one input. -/
def levelsBuildWrong : ChangeSpec := { name := "levelsBuild", fn := fun _ => fun
  | [d1, d2, d3, d4] => { results := [.lit (.bool false)], args := [d1, d2, d3, d4] }
  | _ => none }
def LevelsBuildWrongFalsely : Prop := levelsBuildRow.holds Tryd.pinned (OpenSpec.ofChange levelsBuildWrong)

/-- 'cohesionlaw22.LevelsBalance': WHATEVER THE INPUT: true; the input reads as it did. -/
def levelsBalanceSpec : ChangeSpec := { name := "levelsBalance", fn := fun _ => fun
  | [d] => { results := [.lit (.bool true)], args := [d] }
  | _ => none }
def levelsBalanceRow : OpenClaim := { program := "yticekkjambkifaadoor", sum := "c5838539445536a5332a85b50b46c14853193533eeea56066900b54b4a92c133", func := "cohesion/cohesionlaw22.LevelsBalance", spec := "levelsBalance", inPlace := ["math/bits.Sub64"], unfollowed := true, recurses := true, named := ["math/bits.deBruijn64tab"], apart := false, laid := [("math/bits.deBruijn64tab", laid_math_bits_deBruijn64tab)] }
def LevelsBalanceSaid : Prop := levelsBalanceRow.holds Tryd.pinned (OpenSpec.ofChange levelsBalanceSpec)

/-- ITS FALSE NEIGHBOUR: 'it returns false'. Refute it at one input. -/
def levelsBalanceWrong : ChangeSpec := { name := "levelsBalance", fn := fun _ => fun
  | [d] => { results := [.lit (.bool false)], args := [d] }
  | _ => none }
def LevelsBalanceWrongFalsely : Prop := levelsBalanceRow.holds Tryd.pinned (OpenSpec.ofChange levelsBalanceWrong)

/-- 'cohesionlaw19.DensestProves': WHATEVER THE INPUT: true; the input reads as it did. -/
def densestProvesSpec : ChangeSpec := { name := "densestProves", fn := fun _ => fun
  | [d] => { results := [.lit (.bool true)], args := [d] }
  | _ => none }
def densestProvesRow : OpenClaim := { program := "yticekkjambkifaadoor", sum := "c5838539445536a5332a85b50b46c14853193533eeea56066900b54b4a92c133", func := "cohesion/cohesionlaw19.DensestProves", spec := "densestProves", inPlace := ["math/bits.Sub64"], unfollowed := true, recurses := true, named := ["math/bits.deBruijn64tab"], apart := false, laid := [("math/bits.deBruijn64tab", laid_math_bits_deBruijn64tab)] }
def DensestProvesSaid : Prop := densestProvesRow.holds Tryd.pinned (OpenSpec.ofChange densestProvesSpec)

/-- ITS FALSE NEIGHBOUR: 'it returns false'. Refute it at one input. -/
def densestProvesWrong : ChangeSpec := { name := "densestProves", fn := fun _ => fun
  | [d] => { results := [.lit (.bool false)], args := [d] }
  | _ => none }
def DensestProvesWrongFalsely : Prop := densestProvesRow.holds Tryd.pinned (OpenSpec.ofChange densestProvesWrong)

/-- 'cohesionlaw19.DensestInside': WHATEVER THE INPUT: true; the input reads as it did. -/
def densestInsideSpec : ChangeSpec := { name := "densestInside", fn := fun _ => fun
  | [d] => { results := [.lit (.bool true)], args := [d] }
  | _ => none }
def densestInsideRow : OpenClaim := { program := "yticekkjambkifaadoor", sum := "c5838539445536a5332a85b50b46c14853193533eeea56066900b54b4a92c133", func := "cohesion/cohesionlaw19.DensestInside", spec := "densestInside", inPlace := ["math/bits.Sub64"], unfollowed := true, recurses := true, named := ["math/bits.deBruijn64tab"], apart := false, laid := [("math/bits.deBruijn64tab", laid_math_bits_deBruijn64tab)] }
def DensestInsideSaid : Prop := densestInsideRow.holds Tryd.pinned (OpenSpec.ofChange densestInsideSpec)

/-- ITS FALSE NEIGHBOUR: 'it returns false'. Refute it at one input. -/
def densestInsideWrong : ChangeSpec := { name := "densestInside", fn := fun _ => fun
  | [d] => { results := [.lit (.bool false)], args := [d] }
  | _ => none }
def DensestInsideWrongFalsely : Prop := densestInsideRow.holds Tryd.pinned (OpenSpec.ofChange densestInsideWrong)

/-- 'cohesionlaw19.DensestDenser': WHATEVER THE INPUT: true; the input reads as it did. -/
def densestDenserSpec : ChangeSpec := { name := "densestDenser", fn := fun _ => fun
  | [d1, d2, d3, d4] => { results := [.lit (.bool true)], args := [d1, d2, d3, d4] }
  | _ => none }
def densestDenserRow : OpenClaim := { program := "yticekkjambkifaadoor", sum := "c5838539445536a5332a85b50b46c14853193533eeea56066900b54b4a92c133", func := "cohesion/cohesionlaw19.DensestDenser", spec := "densestDenser", inPlace := ["math/bits.Sub64"], unfollowed := true, recurses := true, named := ["math/bits.deBruijn64tab"], apart := false, laid := [("math/bits.deBruijn64tab", laid_math_bits_deBruijn64tab)] }
def DensestDenserSaid : Prop := densestDenserRow.holds Tryd.pinned (OpenSpec.ofChange densestDenserSpec)

/-- ITS FALSE NEIGHBOUR: 'it returns false'. Refute it at one input. -/
def densestDenserWrong : ChangeSpec := { name := "densestDenser", fn := fun _ => fun
  | [d1, d2, d3, d4] => { results := [.lit (.bool false)], args := [d1, d2, d3, d4] }
  | _ => none }
def DensestDenserWrongFalsely : Prop := densestDenserRow.holds Tryd.pinned (OpenSpec.ofChange densestDenserWrong)

/-- 'cohesionlaw19.DensestSteps': WHATEVER THE INPUT: true; the input reads as it did. -/
def densestStepsSpec : ChangeSpec := { name := "densestSteps", fn := fun _ => fun
  | [d1, d2, d3] => { results := [.lit (.bool true)], args := [d1, d2, d3] }
  | _ => none }
def densestStepsRow : OpenClaim := { program := "yticekkjambkifaadoor", sum := "c5838539445536a5332a85b50b46c14853193533eeea56066900b54b4a92c133", func := "cohesion/cohesionlaw19.DensestSteps", spec := "densestSteps", inPlace := ["math/bits.Sub64"], unfollowed := true, recurses := true, named := ["math/bits.deBruijn64tab"], apart := false, laid := [("math/bits.deBruijn64tab", laid_math_bits_deBruijn64tab)] }
def DensestStepsSaid : Prop := densestStepsRow.holds Tryd.pinned (OpenSpec.ofChange densestStepsSpec)

/-- ITS FALSE NEIGHBOUR: 'it returns false'. Refute it at one input. -/
def densestStepsWrong : ChangeSpec := { name := "densestSteps", fn := fun _ => fun
  | [d1, d2, d3] => { results := [.lit (.bool false)], args := [d1, d2, d3] }
  | _ => none }
def DensestStepsWrongFalsely : Prop := densestStepsRow.holds Tryd.pinned (OpenSpec.ofChange densestStepsWrong)

/- THE SECOND FORM. 'bulk': how many values and letters a reading holds, each counted each time it is reached (what is shared counts as often as it is met; a slice's spare places count too). A statement '..UptoSaid' is the law's where the arguments, and the package variables that the reading takes, are together of bulk at most 1048576: NARROWER than '..Said'. Prove '..Said' where nothing that the law and all that it calls make is longer than what came in: it says more and counts as full. Else prove '..UptoSaid'. A law counts once. -/
mutual
def uptoBulk {H : Type} : DataW H → Nat
  | .lit (.string bytes) => bytes.length + 1
  | .lit _ => 1
  | .nil => 1
  | .ptr d => uptoBulk d + 1
  | .slice elems spare => uptoBulkAll elems + uptoBulkAll spare + 1
  | .agg parts => uptoBulkAll parts + 1
  | .iface _ d => uptoBulk d + 1
  | .map entries => uptoBulkEntries entries + 1
  | .held _ => 1
def uptoBulkAll {H : Type} : List (DataW H) → Nat
  | [] => 0
  | d :: r => uptoBulk d + uptoBulkAll r
def uptoBulkEntries {H : Type} : List (Lit × DataW H) → Nat
  | [] => 0
  | x :: r => uptoBulkEntry x + uptoBulkEntries r
def uptoBulkEntry {H : Type} : Lit × DataW H → Nat
  | (.string bytes, d) => bytes.length + uptoBulk d + 1
  | (_, d) => uptoBulk d + 1
 end
def uptoSmall : (H : Type) → List (DataW H) → Bool := fun _ ds => decide (uptoBulkAll ds ≤ 1048576)
def OpenSpec.upto (s : _root_.Go.ChangeSpec) : _root_.Go.OpenSpec := { _root_.Go.OpenSpec.ofChange s with cond := some uptoSmall }

/-- 'cohesionlaw22.LevelsCores', WHERE WHAT IT READS IS OF BULK AT MOST 1048576: true; the input reads as it did. -/
def levelsCoresUptoRow : OpenClaim := { program := "yticekkjambkifaadoor", sum := "c5838539445536a5332a85b50b46c14853193533eeea56066900b54b4a92c133", func := "cohesion/cohesionlaw22.LevelsCores", spec := "levelsCores", inPlace := ["math/bits.Sub64"], unfollowed := true, recurses := true, named := ["math/bits.deBruijn64tab"], apart := false, laid := [("math/bits.deBruijn64tab", laid_math_bits_deBruijn64tab)], narrowed := true }
def LevelsCoresUptoSaid : Prop := levelsCoresUptoRow.holds Tryd.pinned (OpenSpec.upto levelsCoresSpec)

/-- 'cohesionlaw22.LevelsFall', WHERE WHAT IT READS IS OF BULK AT MOST 1048576: true; the input reads as it did. -/
def levelsFallUptoRow : OpenClaim := { program := "yticekkjambkifaadoor", sum := "c5838539445536a5332a85b50b46c14853193533eeea56066900b54b4a92c133", func := "cohesion/cohesionlaw22.LevelsFall", spec := "levelsFall", inPlace := ["math/bits.Sub64"], unfollowed := true, recurses := true, named := ["math/bits.deBruijn64tab"], apart := false, laid := [("math/bits.deBruijn64tab", laid_math_bits_deBruijn64tab)], narrowed := true }
def LevelsFallUptoSaid : Prop := levelsFallUptoRow.holds Tryd.pinned (OpenSpec.upto levelsFallSpec)

/-- 'cohesionlaw22.LevelsChecks', WHERE WHAT IT READS IS OF BULK AT MOST 1048576: true; the input reads as it did. -/
def levelsChecksUptoRow : OpenClaim := { program := "yticekkjambkifaadoor", sum := "c5838539445536a5332a85b50b46c14853193533eeea56066900b54b4a92c133", func := "cohesion/cohesionlaw22.LevelsChecks", spec := "levelsChecks", inPlace := ["math/bits.Sub64"], unfollowed := true, recurses := true, named := ["math/bits.deBruijn64tab"], apart := false, laid := [("math/bits.deBruijn64tab", laid_math_bits_deBruijn64tab)], narrowed := true }
def LevelsChecksUptoSaid : Prop := levelsChecksUptoRow.holds Tryd.pinned (OpenSpec.upto levelsChecksSpec)

/-- 'cohesionlaw22.LevelsBuild', WHERE WHAT IT READS IS OF BULK AT MOST 1048576: true; the input reads as it did. -/
def levelsBuildUptoRow : OpenClaim := { program := "yticekkjambkifaadoor", sum := "c5838539445536a5332a85b50b46c14853193533eeea56066900b54b4a92c133", func := "cohesion/cohesionlaw22.LevelsBuild", spec := "levelsBuild", inPlace := ["math/bits.Sub64"], unfollowed := true, recurses := true, named := ["math/bits.deBruijn64tab"], apart := false, laid := [("math/bits.deBruijn64tab", laid_math_bits_deBruijn64tab)], narrowed := true }
def LevelsBuildUptoSaid : Prop := levelsBuildUptoRow.holds Tryd.pinned (OpenSpec.upto levelsBuildSpec)

/-- 'cohesionlaw22.LevelsBalance', WHERE WHAT IT READS IS OF BULK AT MOST 1048576: true; the input reads as it did. -/
def levelsBalanceUptoRow : OpenClaim := { program := "yticekkjambkifaadoor", sum := "c5838539445536a5332a85b50b46c14853193533eeea56066900b54b4a92c133", func := "cohesion/cohesionlaw22.LevelsBalance", spec := "levelsBalance", inPlace := ["math/bits.Sub64"], unfollowed := true, recurses := true, named := ["math/bits.deBruijn64tab"], apart := false, laid := [("math/bits.deBruijn64tab", laid_math_bits_deBruijn64tab)], narrowed := true }
def LevelsBalanceUptoSaid : Prop := levelsBalanceUptoRow.holds Tryd.pinned (OpenSpec.upto levelsBalanceSpec)

/-- 'cohesionlaw19.DensestProves', WHERE WHAT IT READS IS OF BULK AT MOST 1048576: true; the input reads as it did. -/
def densestProvesUptoRow : OpenClaim := { program := "yticekkjambkifaadoor", sum := "c5838539445536a5332a85b50b46c14853193533eeea56066900b54b4a92c133", func := "cohesion/cohesionlaw19.DensestProves", spec := "densestProves", inPlace := ["math/bits.Sub64"], unfollowed := true, recurses := true, named := ["math/bits.deBruijn64tab"], apart := false, laid := [("math/bits.deBruijn64tab", laid_math_bits_deBruijn64tab)], narrowed := true }
def DensestProvesUptoSaid : Prop := densestProvesUptoRow.holds Tryd.pinned (OpenSpec.upto densestProvesSpec)

/-- 'cohesionlaw19.DensestInside', WHERE WHAT IT READS IS OF BULK AT MOST 1048576: true; the input reads as it did. -/
def densestInsideUptoRow : OpenClaim := { program := "yticekkjambkifaadoor", sum := "c5838539445536a5332a85b50b46c14853193533eeea56066900b54b4a92c133", func := "cohesion/cohesionlaw19.DensestInside", spec := "densestInside", inPlace := ["math/bits.Sub64"], unfollowed := true, recurses := true, named := ["math/bits.deBruijn64tab"], apart := false, laid := [("math/bits.deBruijn64tab", laid_math_bits_deBruijn64tab)], narrowed := true }
def DensestInsideUptoSaid : Prop := densestInsideUptoRow.holds Tryd.pinned (OpenSpec.upto densestInsideSpec)

/-- 'cohesionlaw19.DensestDenser', WHERE WHAT IT READS IS OF BULK AT MOST 1048576: true; the input reads as it did. -/
def densestDenserUptoRow : OpenClaim := { program := "yticekkjambkifaadoor", sum := "c5838539445536a5332a85b50b46c14853193533eeea56066900b54b4a92c133", func := "cohesion/cohesionlaw19.DensestDenser", spec := "densestDenser", inPlace := ["math/bits.Sub64"], unfollowed := true, recurses := true, named := ["math/bits.deBruijn64tab"], apart := false, laid := [("math/bits.deBruijn64tab", laid_math_bits_deBruijn64tab)], narrowed := true }
def DensestDenserUptoSaid : Prop := densestDenserUptoRow.holds Tryd.pinned (OpenSpec.upto densestDenserSpec)

/-- 'cohesionlaw19.DensestSteps', WHERE WHAT IT READS IS OF BULK AT MOST 1048576: true; the input reads as it did. -/
def densestStepsUptoRow : OpenClaim := { program := "yticekkjambkifaadoor", sum := "c5838539445536a5332a85b50b46c14853193533eeea56066900b54b4a92c133", func := "cohesion/cohesionlaw19.DensestSteps", spec := "densestSteps", inPlace := ["math/bits.Sub64"], unfollowed := true, recurses := true, named := ["math/bits.deBruijn64tab"], apart := false, laid := [("math/bits.deBruijn64tab", laid_math_bits_deBruijn64tab)], narrowed := true }
def DensestStepsUptoSaid : Prop := densestStepsUptoRow.holds Tryd.pinned (OpenSpec.upto densestStepsSpec)

end Rows
end Go.Proofs.YticekkjambkifaaDoor
