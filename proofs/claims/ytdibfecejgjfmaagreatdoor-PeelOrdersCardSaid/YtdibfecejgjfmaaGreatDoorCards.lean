/-
  DERIVED. GIVEN WITH THE SEED: THE CARDS: each row of YtdibfecejgjfmaaGreatDoorRows.lean that lists a variable, with what it lists TIED to the program's text (the seventh form; the later family's looks); each row that meets fmt, with fmt's text TOLD by the authors' own Lean function (tested against real Go, not proved from fmt's source: count such statements apart). THE CARD IS WHAT COUNTS. Prove the row's statement (the work); the ties are given (YtdibfecejgjfmaaGreatDoorTie.lean); close each card by the builder's one call (the guide's Derived/Test/ToyasCard.lean, 'card_holds'). Laid BY PROGRAM, IN A SANDBOX (cutbox-door.mjs). By AI agents, Wed Nov 11 2026. No macro, syntax, notation, axiom, sorry.
-/
import Derived.Test.YtdibfecejgjfmaaGreatDoorRows
import GoSem.ClaimSeven
namespace Go.Proofs.YtdibfecejgjfmaaGreatDoor
namespace Rows

/-- THE TIED CARD OF 'cohesionlaw20.PeelOrders'. -/
def peelOrdersCard : Claim7 := { stood := { row := peelOrdersRow, standIns := [], harness := (true, "144963102291737212ec02af0877c194d69127a33a886850a12ec6b54d84fe56"), looks := false }, kinds := [], alts := [], laidByText := true, laidKinds := [.data], laidTests := true, laidLooks := .later }
def PeelOrdersCardSaid : Prop := Claim7.holds Tryz.pinned (.plain (OpenSpec.ofChange peelOrdersSpec)) peelOrdersCard

/-- THE SECOND FORM's CARD OF 'cohesionlaw20.PeelOrders'. -/
def peelOrdersUptoCard : Claim7 := { stood := { row := peelOrdersUptoRow, standIns := [], harness := (true, "144963102291737212ec02af0877c194d69127a33a886850a12ec6b54d84fe56"), looks := false }, kinds := [], alts := [], laidByText := true, laidKinds := [.data], laidTests := true, laidLooks := .later }
def PeelOrdersUptoCardSaid : Prop := Claim7.holds Tryz.pinned (.plain (OpenSpec.upto peelOrdersSpec)) peelOrdersUptoCard
end Rows
end Go.Proofs.YtdibfecejgjfmaaGreatDoor
