/-
  DERIVED. GIVEN WITH THE SEED: THE CARDS: each row of YtciehcageghggaaDoorRows.lean that lists a variable, with what it lists TIED to the program's text (the seventh form; the later family's looks); each row that meets fmt, with fmt's text TOLD by the authors' own Lean function (tested against real Go, not proved from fmt's source: count such statements apart). THE CARD IS WHAT COUNTS. Prove the row's statement (the work); the ties are given (YtciehcageghggaaDoorTie.lean); close each card by the builder's one call (the guide's Derived/Test/ToyasCard.lean, 'card_holds'). Laid BY PROGRAM, IN A SANDBOX (cutbox-door.mjs). By AI agents, Wed Nov 11 2026. No macro, syntax, notation, axiom, sorry.
-/
import Derived.Test.YtciehcageghggaaDoorRows
import GoSem.ClaimSeven
namespace Go.Proofs.YtciehcageghggaaDoor
namespace Rows

/-- THE TIED CARD OF 'cohesionlaw10.CoreChecks'. -/
def coreChecksCard : Claim7 := { stood := { row := coreChecksRow, standIns := [], harness := (true, "08796da533c3781cc2ae18e71fcb21797fbbd4935ce4486f2161effa617e4752"), looks := false }, kinds := [], alts := [], laidByText := true, laidKinds := [.data], laidTests := true, laidLooks := .later }
def CoreChecksCardSaid : Prop := Claim7.holds Tryd.pinned (.plain (OpenSpec.ofChange coreChecksSpec)) coreChecksCard

/-- THE TIED CARD OF 'cohesionlaw10.CoreProves'. -/
def coreProvesCard : Claim7 := { stood := { row := coreProvesRow, standIns := [], harness := (true, "08796da533c3781cc2ae18e71fcb21797fbbd4935ce4486f2161effa617e4752"), looks := false }, kinds := [], alts := [], laidByText := true, laidKinds := [.data], laidTests := true, laidLooks := .later }
def CoreProvesCardSaid : Prop := Claim7.holds Tryd.pinned (.plain (OpenSpec.ofChange coreProvesSpec)) coreProvesCard

/-- THE TIED CARD OF 'cohesionlaw10.CoreOrder'. -/
def coreOrderCard : Claim7 := { stood := { row := coreOrderRow, standIns := [], harness := (true, "08796da533c3781cc2ae18e71fcb21797fbbd4935ce4486f2161effa617e4752"), looks := false }, kinds := [], alts := [], laidByText := true, laidKinds := [.data], laidTests := true, laidLooks := .later }
def CoreOrderCardSaid : Prop := Claim7.holds Tryd.pinned (.plain (OpenSpec.ofChange coreOrderSpec)) coreOrderCard

/-- THE TIED CARD OF 'cohesionlaw10.CoreIndex'. -/
def coreIndexCard : Claim7 := { stood := { row := coreIndexRow, standIns := [], harness := (true, "08796da533c3781cc2ae18e71fcb21797fbbd4935ce4486f2161effa617e4752"), looks := false }, kinds := [], alts := [], laidByText := true, laidKinds := [.data], laidTests := true, laidLooks := .later }
def CoreIndexCardSaid : Prop := Claim7.holds Tryd.pinned (.plain (OpenSpec.ofChange coreIndexSpec)) coreIndexCard

/-- THE TIED CARD OF 'cohesionlaw10.CoreGreatest'. -/
def coreGreatestCard : Claim7 := { stood := { row := coreGreatestRow, standIns := [], harness := (true, "08796da533c3781cc2ae18e71fcb21797fbbd4935ce4486f2161effa617e4752"), looks := false }, kinds := [], alts := [], laidByText := true, laidKinds := [.data], laidTests := true, laidLooks := .later }
def CoreGreatestCardSaid : Prop := Claim7.holds Tryd.pinned (.plain (OpenSpec.ofChange coreGreatestSpec)) coreGreatestCard

/-- THE TIED CARD OF 'cohesionlaw10.CoreNumbers'. -/
def coreNumbersCard : Claim7 := { stood := { row := coreNumbersRow, standIns := [], harness := (true, "08796da533c3781cc2ae18e71fcb21797fbbd4935ce4486f2161effa617e4752"), looks := false }, kinds := [], alts := [], laidByText := true, laidKinds := [.data], laidTests := true, laidLooks := .later }
def CoreNumbersCardSaid : Prop := Claim7.holds Tryd.pinned (.plain (OpenSpec.ofChange coreNumbersSpec)) coreNumbersCard

/-- THE SECOND FORM's CARD OF 'cohesionlaw10.CoreChecks'. -/
def coreChecksUptoCard : Claim7 := { stood := { row := coreChecksUptoRow, standIns := [], harness := (true, "08796da533c3781cc2ae18e71fcb21797fbbd4935ce4486f2161effa617e4752"), looks := false }, kinds := [], alts := [], laidByText := true, laidKinds := [.data], laidTests := true, laidLooks := .later }
def CoreChecksUptoCardSaid : Prop := Claim7.holds Tryd.pinned (.plain (OpenSpec.upto coreChecksSpec)) coreChecksUptoCard

/-- THE SECOND FORM's CARD OF 'cohesionlaw10.CoreProves'. -/
def coreProvesUptoCard : Claim7 := { stood := { row := coreProvesUptoRow, standIns := [], harness := (true, "08796da533c3781cc2ae18e71fcb21797fbbd4935ce4486f2161effa617e4752"), looks := false }, kinds := [], alts := [], laidByText := true, laidKinds := [.data], laidTests := true, laidLooks := .later }
def CoreProvesUptoCardSaid : Prop := Claim7.holds Tryd.pinned (.plain (OpenSpec.upto coreProvesSpec)) coreProvesUptoCard

/-- THE SECOND FORM's CARD OF 'cohesionlaw10.CoreOrder'. -/
def coreOrderUptoCard : Claim7 := { stood := { row := coreOrderUptoRow, standIns := [], harness := (true, "08796da533c3781cc2ae18e71fcb21797fbbd4935ce4486f2161effa617e4752"), looks := false }, kinds := [], alts := [], laidByText := true, laidKinds := [.data], laidTests := true, laidLooks := .later }
def CoreOrderUptoCardSaid : Prop := Claim7.holds Tryd.pinned (.plain (OpenSpec.upto coreOrderSpec)) coreOrderUptoCard

/-- THE SECOND FORM's CARD OF 'cohesionlaw10.CoreIndex'. -/
def coreIndexUptoCard : Claim7 := { stood := { row := coreIndexUptoRow, standIns := [], harness := (true, "08796da533c3781cc2ae18e71fcb21797fbbd4935ce4486f2161effa617e4752"), looks := false }, kinds := [], alts := [], laidByText := true, laidKinds := [.data], laidTests := true, laidLooks := .later }
def CoreIndexUptoCardSaid : Prop := Claim7.holds Tryd.pinned (.plain (OpenSpec.upto coreIndexSpec)) coreIndexUptoCard

/-- THE SECOND FORM's CARD OF 'cohesionlaw10.CoreGreatest'. -/
def coreGreatestUptoCard : Claim7 := { stood := { row := coreGreatestUptoRow, standIns := [], harness := (true, "08796da533c3781cc2ae18e71fcb21797fbbd4935ce4486f2161effa617e4752"), looks := false }, kinds := [], alts := [], laidByText := true, laidKinds := [.data], laidTests := true, laidLooks := .later }
def CoreGreatestUptoCardSaid : Prop := Claim7.holds Tryd.pinned (.plain (OpenSpec.upto coreGreatestSpec)) coreGreatestUptoCard

/-- THE SECOND FORM's CARD OF 'cohesionlaw10.CoreNumbers'. -/
def coreNumbersUptoCard : Claim7 := { stood := { row := coreNumbersUptoRow, standIns := [], harness := (true, "08796da533c3781cc2ae18e71fcb21797fbbd4935ce4486f2161effa617e4752"), looks := false }, kinds := [], alts := [], laidByText := true, laidKinds := [.data], laidTests := true, laidLooks := .later }
def CoreNumbersUptoCardSaid : Prop := Claim7.holds Tryd.pinned (.plain (OpenSpec.upto coreNumbersSpec)) coreNumbersUptoCard
end Rows
end Go.Proofs.YtciehcageghggaaDoor
