/-
  NARROWER THAN 'FOR EVERY INPUT', by the rows' own cells (each row's printed sentence says how): CoreChecks: laid · CoreProves: laid · CoreOrder: laid · CoreIndex: laid · CoreGreatest: laid · CoreNumbers: laid.
  DERIVED. THE GIVEN ROWS OF THIS SEAT. 6 by the template 'for every input the law returns true; each argument reads behind the call as it read before'; 0 by the template 'total and deterministic' (their statements: YtciehcageghggaaDoorTotals.lean).
  GIVEN WITH THE SEED: the statements are not yours to turn. If you find one false, say at which input.
  Laid BY PROGRAM, IN A SANDBOX (cutbox-rows.mjs): the forced cells as the released guide's own fill.sh prints them over the translation 14f3bafeca4206e5… (all of the seat's roots in one cut). By AI agents, Wed Nov 11 2026. No macro, syntax, notation, axiom, sorry.
-/
import Derived.Test.YtciehcageghggaaDoorChecked
import GoSem.Claim
import GoSem.ClaimJoined
import GoSem.ClaimMapViews
import Derived.JoinedTies
import Derived.KernelRfl
namespace Go.Proofs.YtciehcageghggaaDoor
/- THE CELL 'sum', in the pinned program and in every row, IS THE sha256 OF THE DUMP (.gsa) THAT YtciehcageghggaaDoorProg.lean LOADS. Nothing in Lean hashes anything: it is a label: what it is worth is what the hold of that sum in a sandbox is worth. -/
noncomputable def Tryd.pinned : Pinned := { name := "ytciehcageghggaadoor", sum := "14f3bafeca4206e53d238b0add596961874e0123a23bb01e06f3cf36bf2f2494", checked := Tryd.checked }
namespace Rows
def none {H : Type} : Left H := { results := [], args := [] }

/- WHAT THE LISTED PACKAGE-LEVEL VARIABLES READ AS WHEN THE CALL BEGINS. Each datum BY PROGRAM (the guide's laid-datum.mjs) off the statement by which the dump's own 'gosem.cut.vars' lays the variable. In a bare row this is a premise. The card (YtciehcageghggaaDoorCards.lean) ties it to the program's text. -/
def laid_math_bits_deBruijn64tab {H : Type} : DataW H := .agg [.lit (.int .u8 0), .lit (.int .u8 1), .lit (.int .u8 56), .lit (.int .u8 2), .lit (.int .u8 57), .lit (.int .u8 49), .lit (.int .u8 28), .lit (.int .u8 3), .lit (.int .u8 61), .lit (.int .u8 58), .lit (.int .u8 42), .lit (.int .u8 50), .lit (.int .u8 38), .lit (.int .u8 29), .lit (.int .u8 17), .lit (.int .u8 4), .lit (.int .u8 62), .lit (.int .u8 47), .lit (.int .u8 59), .lit (.int .u8 36), .lit (.int .u8 45), .lit (.int .u8 43), .lit (.int .u8 51), .lit (.int .u8 22), .lit (.int .u8 53), .lit (.int .u8 39), .lit (.int .u8 33), .lit (.int .u8 30), .lit (.int .u8 24), .lit (.int .u8 18), .lit (.int .u8 12), .lit (.int .u8 5), .lit (.int .u8 63), .lit (.int .u8 55), .lit (.int .u8 48), .lit (.int .u8 27), .lit (.int .u8 60), .lit (.int .u8 41), .lit (.int .u8 37), .lit (.int .u8 16), .lit (.int .u8 46), .lit (.int .u8 35), .lit (.int .u8 44), .lit (.int .u8 21), .lit (.int .u8 52), .lit (.int .u8 32), .lit (.int .u8 23), .lit (.int .u8 11), .lit (.int .u8 54), .lit (.int .u8 26), .lit (.int .u8 40), .lit (.int .u8 15), .lit (.int .u8 34), .lit (.int .u8 20), .lit (.int .u8 31), .lit (.int .u8 10), .lit (.int .u8 25), .lit (.int .u8 14), .lit (.int .u8 19), .lit (.int .u8 9), .lit (.int .u8 13), .lit (.int .u8 8), .lit (.int .u8 7), .lit (.int .u8 6)]

/-- 'cohesionlaw10.CoreChecks': WHATEVER THE INPUT: true; the input reads as it did. -/
def coreChecksSpec : ChangeSpec := { name := "coreChecks", fn := fun _ => fun
  | [d1, d2, d3] => { results := [.lit (.bool true)], args := [d1, d2, d3] }
  | _ => none }
def coreChecksRow : OpenClaim := { program := "ytciehcageghggaadoor", sum := "14f3bafeca4206e53d238b0add596961874e0123a23bb01e06f3cf36bf2f2494", func := "cohesion/cohesionlaw10.CoreChecks", spec := "coreChecks", named := ["math/bits.deBruijn64tab"], apart := false, laid := [("math/bits.deBruijn64tab", laid_math_bits_deBruijn64tab)] }
def CoreChecksSaid : Prop := coreChecksRow.holds Tryd.pinned (OpenSpec.ofChange coreChecksSpec)

/-- ITS FALSE NEIGHBOUR: 'it returns false'. Refute it at one input. -/
def coreChecksWrong : ChangeSpec := { name := "coreChecks", fn := fun _ => fun
  | [d1, d2, d3] => { results := [.lit (.bool false)], args := [d1, d2, d3] }
  | _ => none }
def CoreChecksWrongFalsely : Prop := coreChecksRow.holds Tryd.pinned (OpenSpec.ofChange coreChecksWrong)

/-- 'cohesionlaw10.CoreProves': WHATEVER THE INPUT: true; the input reads as it did. -/
def coreProvesSpec : ChangeSpec := { name := "coreProves", fn := fun _ => fun
  | [d1, d2] => { results := [.lit (.bool true)], args := [d1, d2] }
  | _ => none }
def coreProvesRow : OpenClaim := { program := "ytciehcageghggaadoor", sum := "14f3bafeca4206e53d238b0add596961874e0123a23bb01e06f3cf36bf2f2494", func := "cohesion/cohesionlaw10.CoreProves", spec := "coreProves", named := ["math/bits.deBruijn64tab"], apart := false, laid := [("math/bits.deBruijn64tab", laid_math_bits_deBruijn64tab)] }
def CoreProvesSaid : Prop := coreProvesRow.holds Tryd.pinned (OpenSpec.ofChange coreProvesSpec)

/-- ITS FALSE NEIGHBOUR: 'it returns false'. Refute it at one input. -/
def coreProvesWrong : ChangeSpec := { name := "coreProves", fn := fun _ => fun
  | [d1, d2] => { results := [.lit (.bool false)], args := [d1, d2] }
  | _ => none }
def CoreProvesWrongFalsely : Prop := coreProvesRow.holds Tryd.pinned (OpenSpec.ofChange coreProvesWrong)

/-- 'cohesionlaw10.CoreOrder': WHATEVER THE INPUT: true; the input reads as it did. -/
def coreOrderSpec : ChangeSpec := { name := "coreOrder", fn := fun _ => fun
  | [d] => { results := [.lit (.bool true)], args := [d] }
  | _ => none }
def coreOrderRow : OpenClaim := { program := "ytciehcageghggaadoor", sum := "14f3bafeca4206e53d238b0add596961874e0123a23bb01e06f3cf36bf2f2494", func := "cohesion/cohesionlaw10.CoreOrder", spec := "coreOrder", named := ["math/bits.deBruijn64tab"], apart := false, laid := [("math/bits.deBruijn64tab", laid_math_bits_deBruijn64tab)] }
def CoreOrderSaid : Prop := coreOrderRow.holds Tryd.pinned (OpenSpec.ofChange coreOrderSpec)

/-- ITS FALSE NEIGHBOUR: 'it returns false'. Refute it at one input. -/
def coreOrderWrong : ChangeSpec := { name := "coreOrder", fn := fun _ => fun
  | [d] => { results := [.lit (.bool false)], args := [d] }
  | _ => none }
def CoreOrderWrongFalsely : Prop := coreOrderRow.holds Tryd.pinned (OpenSpec.ofChange coreOrderWrong)

/-- 'cohesionlaw10.CoreIndex': WHATEVER THE INPUT: true; the input reads as it did. -/
def coreIndexSpec : ChangeSpec := { name := "coreIndex", fn := fun _ => fun
  | [d1, d2] => { results := [.lit (.bool true)], args := [d1, d2] }
  | _ => none }
def coreIndexRow : OpenClaim := { program := "ytciehcageghggaadoor", sum := "14f3bafeca4206e53d238b0add596961874e0123a23bb01e06f3cf36bf2f2494", func := "cohesion/cohesionlaw10.CoreIndex", spec := "coreIndex", named := ["math/bits.deBruijn64tab"], apart := false, laid := [("math/bits.deBruijn64tab", laid_math_bits_deBruijn64tab)] }
def CoreIndexSaid : Prop := coreIndexRow.holds Tryd.pinned (OpenSpec.ofChange coreIndexSpec)

/-- ITS FALSE NEIGHBOUR: 'it returns false'. Refute it at one input. -/
def coreIndexWrong : ChangeSpec := { name := "coreIndex", fn := fun _ => fun
  | [d1, d2] => { results := [.lit (.bool false)], args := [d1, d2] }
  | _ => none }
def CoreIndexWrongFalsely : Prop := coreIndexRow.holds Tryd.pinned (OpenSpec.ofChange coreIndexWrong)

/-- 'cohesionlaw10.CoreGreatest': WHATEVER THE INPUT: true; the input reads as it did. -/
def coreGreatestSpec : ChangeSpec := { name := "coreGreatest", fn := fun _ => fun
  | [d1, d2] => { results := [.lit (.bool true)], args := [d1, d2] }
  | _ => none }
def coreGreatestRow : OpenClaim := { program := "ytciehcageghggaadoor", sum := "14f3bafeca4206e53d238b0add596961874e0123a23bb01e06f3cf36bf2f2494", func := "cohesion/cohesionlaw10.CoreGreatest", spec := "coreGreatest", named := ["math/bits.deBruijn64tab"], apart := false, laid := [("math/bits.deBruijn64tab", laid_math_bits_deBruijn64tab)] }
def CoreGreatestSaid : Prop := coreGreatestRow.holds Tryd.pinned (OpenSpec.ofChange coreGreatestSpec)

/-- ITS FALSE NEIGHBOUR: 'it returns false'. Refute it at one input. -/
def coreGreatestWrong : ChangeSpec := { name := "coreGreatest", fn := fun _ => fun
  | [d1, d2] => { results := [.lit (.bool false)], args := [d1, d2] }
  | _ => none }
def CoreGreatestWrongFalsely : Prop := coreGreatestRow.holds Tryd.pinned (OpenSpec.ofChange coreGreatestWrong)

/-- 'cohesionlaw10.CoreNumbers': WHATEVER THE INPUT: true; the input reads as it did. -/
def coreNumbersSpec : ChangeSpec := { name := "coreNumbers", fn := fun _ => fun
  | [d1, d2, d3] => { results := [.lit (.bool true)], args := [d1, d2, d3] }
  | _ => none }
def coreNumbersRow : OpenClaim := { program := "ytciehcageghggaadoor", sum := "14f3bafeca4206e53d238b0add596961874e0123a23bb01e06f3cf36bf2f2494", func := "cohesion/cohesionlaw10.CoreNumbers", spec := "coreNumbers", named := ["math/bits.deBruijn64tab"], apart := false, laid := [("math/bits.deBruijn64tab", laid_math_bits_deBruijn64tab)] }
def CoreNumbersSaid : Prop := coreNumbersRow.holds Tryd.pinned (OpenSpec.ofChange coreNumbersSpec)

/-- ITS FALSE NEIGHBOUR: 'it returns false'. Refute it at one input. -/
def coreNumbersWrong : ChangeSpec := { name := "coreNumbers", fn := fun _ => fun
  | [d1, d2, d3] => { results := [.lit (.bool false)], args := [d1, d2, d3] }
  | _ => none }
def CoreNumbersWrongFalsely : Prop := coreNumbersRow.holds Tryd.pinned (OpenSpec.ofChange coreNumbersWrong)

/- THE SECOND FORM. 'bulk': how many values and letters a reading holds, each counted each time it is reached (what is shared counts as often as it is met; a slice's spare places count too). A statement '..UptoSaid' is the law's where the arguments, and the package variables that the reading takes, are together of bulk at most 1048576: NARROWER than '..Said'. Prove '..Said' where nothing that the law and all that it calls make is longer than what came in: it says more and counts as full. Else prove '..UptoSaid'. A law counts once. -/
mutual
def uptoBulk {H : Type} : DataW H → Nat
  | .lit (.string bytes) => bytes.length + 1
  | .lit _ => 1
  | .nil => 1
  | .ptr d => uptoBulk d + 1
  | .slice elems spare => uptoBulkAll elems + uptoBulkAll spare + 1
  | .agg parts => uptoBulkAll parts + 1
  | .iface _ d => uptoBulk d + 1
  | .map entries => uptoBulkEntries entries + 1
  | .held _ => 1
def uptoBulkAll {H : Type} : List (DataW H) → Nat
  | [] => 0
  | d :: r => uptoBulk d + uptoBulkAll r
def uptoBulkEntries {H : Type} : List (Lit × DataW H) → Nat
  | [] => 0
  | x :: r => uptoBulkEntry x + uptoBulkEntries r
def uptoBulkEntry {H : Type} : Lit × DataW H → Nat
  | (.string bytes, d) => bytes.length + uptoBulk d + 1
  | (_, d) => uptoBulk d + 1
 end
def uptoSmall : (H : Type) → List (DataW H) → Bool := fun _ ds => decide (uptoBulkAll ds ≤ 1048576)
def OpenSpec.upto (s : _root_.Go.ChangeSpec) : _root_.Go.OpenSpec := { _root_.Go.OpenSpec.ofChange s with cond := some uptoSmall }

/-- 'cohesionlaw10.CoreChecks', WHERE WHAT IT READS IS OF BULK AT MOST 1048576: true; the input reads as it did. -/
def coreChecksUptoRow : OpenClaim := { program := "ytciehcageghggaadoor", sum := "14f3bafeca4206e53d238b0add596961874e0123a23bb01e06f3cf36bf2f2494", func := "cohesion/cohesionlaw10.CoreChecks", spec := "coreChecks", named := ["math/bits.deBruijn64tab"], apart := false, laid := [("math/bits.deBruijn64tab", laid_math_bits_deBruijn64tab)], narrowed := true }
def CoreChecksUptoSaid : Prop := coreChecksUptoRow.holds Tryd.pinned (OpenSpec.upto coreChecksSpec)

/-- 'cohesionlaw10.CoreProves', WHERE WHAT IT READS IS OF BULK AT MOST 1048576: true; the input reads as it did. -/
def coreProvesUptoRow : OpenClaim := { program := "ytciehcageghggaadoor", sum := "14f3bafeca4206e53d238b0add596961874e0123a23bb01e06f3cf36bf2f2494", func := "cohesion/cohesionlaw10.CoreProves", spec := "coreProves", named := ["math/bits.deBruijn64tab"], apart := false, laid := [("math/bits.deBruijn64tab", laid_math_bits_deBruijn64tab)], narrowed := true }
def CoreProvesUptoSaid : Prop := coreProvesUptoRow.holds Tryd.pinned (OpenSpec.upto coreProvesSpec)

/-- 'cohesionlaw10.CoreOrder', WHERE WHAT IT READS IS OF BULK AT MOST 1048576: true; the input reads as it did. -/
def coreOrderUptoRow : OpenClaim := { program := "ytciehcageghggaadoor", sum := "14f3bafeca4206e53d238b0add596961874e0123a23bb01e06f3cf36bf2f2494", func := "cohesion/cohesionlaw10.CoreOrder", spec := "coreOrder", named := ["math/bits.deBruijn64tab"], apart := false, laid := [("math/bits.deBruijn64tab", laid_math_bits_deBruijn64tab)], narrowed := true }
def CoreOrderUptoSaid : Prop := coreOrderUptoRow.holds Tryd.pinned (OpenSpec.upto coreOrderSpec)

/-- 'cohesionlaw10.CoreIndex', WHERE WHAT IT READS IS OF BULK AT MOST 1048576: true; the input reads as it did. -/
def coreIndexUptoRow : OpenClaim := { program := "ytciehcageghggaadoor", sum := "14f3bafeca4206e53d238b0add596961874e0123a23bb01e06f3cf36bf2f2494", func := "cohesion/cohesionlaw10.CoreIndex", spec := "coreIndex", named := ["math/bits.deBruijn64tab"], apart := false, laid := [("math/bits.deBruijn64tab", laid_math_bits_deBruijn64tab)], narrowed := true }
def CoreIndexUptoSaid : Prop := coreIndexUptoRow.holds Tryd.pinned (OpenSpec.upto coreIndexSpec)

/-- 'cohesionlaw10.CoreGreatest', WHERE WHAT IT READS IS OF BULK AT MOST 1048576: true; the input reads as it did. -/
def coreGreatestUptoRow : OpenClaim := { program := "ytciehcageghggaadoor", sum := "14f3bafeca4206e53d238b0add596961874e0123a23bb01e06f3cf36bf2f2494", func := "cohesion/cohesionlaw10.CoreGreatest", spec := "coreGreatest", named := ["math/bits.deBruijn64tab"], apart := false, laid := [("math/bits.deBruijn64tab", laid_math_bits_deBruijn64tab)], narrowed := true }
def CoreGreatestUptoSaid : Prop := coreGreatestUptoRow.holds Tryd.pinned (OpenSpec.upto coreGreatestSpec)

/-- 'cohesionlaw10.CoreNumbers', WHERE WHAT IT READS IS OF BULK AT MOST 1048576: true; the input reads as it did. -/
def coreNumbersUptoRow : OpenClaim := { program := "ytciehcageghggaadoor", sum := "14f3bafeca4206e53d238b0add596961874e0123a23bb01e06f3cf36bf2f2494", func := "cohesion/cohesionlaw10.CoreNumbers", spec := "coreNumbers", named := ["math/bits.deBruijn64tab"], apart := false, laid := [("math/bits.deBruijn64tab", laid_math_bits_deBruijn64tab)], narrowed := true }
def CoreNumbersUptoSaid : Prop := coreNumbersUptoRow.holds Tryd.pinned (OpenSpec.upto coreNumbersSpec)

end Rows
end Go.Proofs.YtciehcageghggaaDoor
