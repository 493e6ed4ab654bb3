/-
  DERIVED. GIVEN WITH THE SEED: THE CARDS: each row of YtdibfecejgjfmaaDoorRows.lean that lists a variable, with what it lists TIED to the program's text (the seventh form; the later family's looks); each row that meets fmt, with fmt's text TOLD by the authors' own Lean function (tested against real Go, not proved from fmt's source: count such statements apart). THE CARD IS WHAT COUNTS. Prove the row's statement (the work); the ties are given (YtdibfecejgjfmaaDoorTie.lean); close each card by the builder's one call (the guide's Derived/Test/ToyasCard.lean, 'card_holds'). Laid BY PROGRAM, IN A SANDBOX (cutbox-door.mjs). By AI agents, Wed Nov 11 2026. No macro, syntax, notation, axiom, sorry.
-/
import Derived.Test.YtdibfecejgjfmaaDoorRows
import GoSem.ClaimSeven
namespace Go.Proofs.YtdibfecejgjfmaaDoor
namespace Rows

/-- THE TIED CARD OF 'cohesionlaw20.PeelRests'. -/
def peelRestsCard : Claim7 := { stood := { row := peelRestsRow, standIns := [], harness := (true, "5a8a33c4549ce88c906eb1d579036d203882b16233e59f4e4e9ef92337f185d0"), looks := false }, kinds := [], alts := [], laidByText := true, laidKinds := [.data], laidTests := true, laidLooks := .later }
def PeelRestsCardSaid : Prop := Claim7.holds Tryd.pinned (.plain (OpenSpec.ofChange peelRestsSpec)) peelRestsCard

/-- THE TIED CARD OF 'cohesionlaw20.PeelRounds'. -/
def peelRoundsCard : Claim7 := { stood := { row := peelRoundsRow, standIns := [], harness := (true, "5a8a33c4549ce88c906eb1d579036d203882b16233e59f4e4e9ef92337f185d0"), looks := false }, kinds := [], alts := [], laidByText := true, laidKinds := [.data], laidTests := true, laidLooks := .later }
def PeelRoundsCardSaid : Prop := Claim7.holds Tryd.pinned (.plain (OpenSpec.ofChange peelRoundsSpec)) peelRoundsCard

/-- THE TIED CARD OF 'cohesionlaw20.PeelFactor'. -/
def peelFactorCard : Claim7 := { stood := { row := peelFactorRow, standIns := [], harness := (true, "5a8a33c4549ce88c906eb1d579036d203882b16233e59f4e4e9ef92337f185d0"), looks := false }, kinds := [], alts := [], laidByText := true, laidKinds := [.data], laidTests := true, laidLooks := .later }
def PeelFactorCardSaid : Prop := Claim7.holds Tryd.pinned (.plain (OpenSpec.ofChange peelFactorSpec)) peelFactorCard

/-- THE TIED CARD OF 'cohesionlaw20.PeelTakes'. -/
def peelTakesCard : Claim7 := { stood := { row := peelTakesRow, standIns := [], harness := (true, "5a8a33c4549ce88c906eb1d579036d203882b16233e59f4e4e9ef92337f185d0"), looks := false }, kinds := [], alts := [], laidByText := true, laidKinds := [.data], laidTests := true, laidLooks := .later }
def PeelTakesCardSaid : Prop := Claim7.holds Tryd.pinned (.plain (OpenSpec.ofChange peelTakesSpec)) peelTakesCard

/-- THE SECOND FORM's CARD OF 'cohesionlaw20.PeelRests'. -/
def peelRestsUptoCard : Claim7 := { stood := { row := peelRestsUptoRow, standIns := [], harness := (true, "5a8a33c4549ce88c906eb1d579036d203882b16233e59f4e4e9ef92337f185d0"), looks := false }, kinds := [], alts := [], laidByText := true, laidKinds := [.data], laidTests := true, laidLooks := .later }
def PeelRestsUptoCardSaid : Prop := Claim7.holds Tryd.pinned (.plain (OpenSpec.upto peelRestsSpec)) peelRestsUptoCard

/-- THE SECOND FORM's CARD OF 'cohesionlaw20.PeelRounds'. -/
def peelRoundsUptoCard : Claim7 := { stood := { row := peelRoundsUptoRow, standIns := [], harness := (true, "5a8a33c4549ce88c906eb1d579036d203882b16233e59f4e4e9ef92337f185d0"), looks := false }, kinds := [], alts := [], laidByText := true, laidKinds := [.data], laidTests := true, laidLooks := .later }
def PeelRoundsUptoCardSaid : Prop := Claim7.holds Tryd.pinned (.plain (OpenSpec.upto peelRoundsSpec)) peelRoundsUptoCard

/-- THE SECOND FORM's CARD OF 'cohesionlaw20.PeelFactor'. -/
def peelFactorUptoCard : Claim7 := { stood := { row := peelFactorUptoRow, standIns := [], harness := (true, "5a8a33c4549ce88c906eb1d579036d203882b16233e59f4e4e9ef92337f185d0"), looks := false }, kinds := [], alts := [], laidByText := true, laidKinds := [.data], laidTests := true, laidLooks := .later }
def PeelFactorUptoCardSaid : Prop := Claim7.holds Tryd.pinned (.plain (OpenSpec.upto peelFactorSpec)) peelFactorUptoCard

/-- THE SECOND FORM's CARD OF 'cohesionlaw20.PeelTakes'. -/
def peelTakesUptoCard : Claim7 := { stood := { row := peelTakesUptoRow, standIns := [], harness := (true, "5a8a33c4549ce88c906eb1d579036d203882b16233e59f4e4e9ef92337f185d0"), looks := false }, kinds := [], alts := [], laidByText := true, laidKinds := [.data], laidTests := true, laidLooks := .later }
def PeelTakesUptoCardSaid : Prop := Claim7.holds Tryd.pinned (.plain (OpenSpec.upto peelTakesSpec)) peelTakesUptoCard
end Rows
end Go.Proofs.YtdibfecejgjfmaaDoor
