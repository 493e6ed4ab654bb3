/-
  DERIVED. GIVEN WITH THE SEED: THE CARDS: each row of YticekkjambkifaaGreatDoorRows.lean that lists a variable, with what it lists TIED to the program's text (the seventh form; the later family's looks); each row that meets fmt, with fmt's text TOLD by the authors' own Lean function (tested against real Go, not proved from fmt's source: count such statements apart). THE CARD IS WHAT COUNTS. Prove the row's statement (the work); the ties are given (YticekkjambkifaaGreatDoorTie.lean); close each card by the builder's one call (the guide's Derived/Test/ToyasCard.lean, 'card_holds'). Laid BY PROGRAM, IN A SANDBOX (cutbox-door.mjs). By AI agents, Wed Nov 11 2026. No macro, syntax, notation, axiom, sorry.
-/
import Derived.Test.YticekkjambkifaaGreatDoorRows
import GoSem.ClaimSeven
namespace Go.Proofs.YticekkjambkifaaGreatDoor
namespace Rows

/-- THE TIED CARD OF 'cohesionlaw19.DensestBest'. -/
def densestBestCard : Claim7 := { stood := { row := densestBestRow, standIns := [], harness := (true, "ca727674fbc2a1f1e700f00519f4b7f21f02ac8ac96edccb713c381790deb987"), looks := false }, kinds := [], alts := [], laidByText := true, laidKinds := [.data], laidTests := true, laidLooks := .later }
def DensestBestCardSaid : Prop := Claim7.holds Tryz.pinned (.plain (OpenSpec.ofChange densestBestSpec)) densestBestCard

/-- THE TIED CARD OF 'cohesionlaw19.DensestSplits'. -/
def densestSplitsCard : Claim7 := { stood := { row := densestSplitsRow, standIns := [], harness := (true, "ca727674fbc2a1f1e700f00519f4b7f21f02ac8ac96edccb713c381790deb987"), looks := false }, kinds := [], alts := [], laidByText := true, laidKinds := [.data], laidTests := true, laidLooks := .later }
def DensestSplitsCardSaid : Prop := Claim7.holds Tryz.pinned (.plain (OpenSpec.ofChange densestSplitsSpec)) densestSplitsCard

/-- THE SECOND FORM's CARD OF 'cohesionlaw19.DensestBest'. -/
def densestBestUptoCard : Claim7 := { stood := { row := densestBestUptoRow, standIns := [], harness := (true, "ca727674fbc2a1f1e700f00519f4b7f21f02ac8ac96edccb713c381790deb987"), looks := false }, kinds := [], alts := [], laidByText := true, laidKinds := [.data], laidTests := true, laidLooks := .later }
def DensestBestUptoCardSaid : Prop := Claim7.holds Tryz.pinned (.plain (OpenSpec.upto densestBestSpec)) densestBestUptoCard

/-- THE SECOND FORM's CARD OF 'cohesionlaw19.DensestSplits'. -/
def densestSplitsUptoCard : Claim7 := { stood := { row := densestSplitsUptoRow, standIns := [], harness := (true, "ca727674fbc2a1f1e700f00519f4b7f21f02ac8ac96edccb713c381790deb987"), looks := false }, kinds := [], alts := [], laidByText := true, laidKinds := [.data], laidTests := true, laidLooks := .later }
def DensestSplitsUptoCardSaid : Prop := Claim7.holds Tryz.pinned (.plain (OpenSpec.upto densestSplitsSpec)) densestSplitsUptoCard
end Rows
end Go.Proofs.YticekkjambkifaaGreatDoor
