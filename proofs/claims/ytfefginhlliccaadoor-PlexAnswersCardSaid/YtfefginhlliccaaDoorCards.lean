/-
  DERIVED. GIVEN WITH THE SEED: THE CARDS: each row of YtfefginhlliccaaDoorRows.lean that lists a variable, with what it lists TIED to the program's text (the seventh form; the later family's looks); each row that meets fmt, with fmt's text TOLD by the authors' own Lean function (tested against real Go, not proved from fmt's source: count such statements apart). THE CARD IS WHAT COUNTS. Prove the row's statement (the work); the ties are given (YtfefginhlliccaaDoorTie.lean); close each card by the builder's one call (the guide's Derived/Test/ToyasCard.lean, 'card_holds'). Laid BY PROGRAM, IN A SANDBOX (cutbox-door.mjs). By AI agents, Wed Nov 11 2026. No macro, syntax, notation, axiom, sorry.
-/
import Derived.Test.YtfefginhlliccaaDoorRows
import GoSem.ClaimSeven
namespace Go.Proofs.YtfefginhlliccaaDoor
namespace Rows

/-- THE TIED CARD OF 'cohesionlaw28.PlexSizes'. -/
def plexSizesCard : Claim7 := { stood := { row := plexSizesRow, standIns := [], harness := (true, "728e82bbd7c9a8dc9b8ab6bd1c4494fe25a01e9cb7d22f630191c3d7e933da17"), looks := false }, kinds := [], alts := [], laidByText := true, laidKinds := [.data], laidTests := true, laidLooks := .later }
def PlexSizesCardSaid : Prop := Claim7.holds Tryd.pinned (.plain (OpenSpec.ofChange plexSizesSpec)) plexSizesCard

/-- THE TIED CARD OF 'cohesionlaw28.PlexParts'. -/
def plexPartsCard : Claim7 := { stood := { row := plexPartsRow, standIns := [], harness := (true, "728e82bbd7c9a8dc9b8ab6bd1c4494fe25a01e9cb7d22f630191c3d7e933da17"), looks := false }, kinds := [], alts := [], laidByText := true, laidKinds := [.data], laidTests := true, laidLooks := .later }
def PlexPartsCardSaid : Prop := Claim7.holds Tryd.pinned (.plain (OpenSpec.ofChange plexPartsSpec)) plexPartsCard

/-- THE TIED CARD OF 'cohesionlaw28.PlexCliques'. -/
def plexCliquesCard : Claim7 := { stood := { row := plexCliquesRow, standIns := [], harness := (true, "728e82bbd7c9a8dc9b8ab6bd1c4494fe25a01e9cb7d22f630191c3d7e933da17"), looks := false }, kinds := [], alts := [], laidByText := true, laidKinds := [.data], laidTests := true, laidLooks := .later }
def PlexCliquesCardSaid : Prop := Claim7.holds Tryd.pinned (.plain (OpenSpec.ofChange plexCliquesSpec)) plexCliquesCard

/-- THE TIED CARD OF 'cohesionlaw28.PlexAnswers'. -/
def plexAnswersCard : Claim7 := { stood := { row := plexAnswersRow, standIns := [], harness := (true, "728e82bbd7c9a8dc9b8ab6bd1c4494fe25a01e9cb7d22f630191c3d7e933da17"), looks := false }, kinds := [], alts := [], laidByText := true, laidKinds := [.data], laidTests := true, laidLooks := .later }
def PlexAnswersCardSaid : Prop := Claim7.holds Tryd.pinned (.plain (OpenSpec.ofChange plexAnswersSpec)) plexAnswersCard

/-- THE TIED CARD OF 'cohesionlaw28.PlexGoes'. -/
def plexGoesCard : Claim7 := { stood := { row := plexGoesRow, standIns := [], harness := (true, "728e82bbd7c9a8dc9b8ab6bd1c4494fe25a01e9cb7d22f630191c3d7e933da17"), looks := false }, kinds := [], alts := [], laidByText := true, laidKinds := [.data], laidTests := true, laidLooks := .later }
def PlexGoesCardSaid : Prop := Claim7.holds Tryd.pinned (.plain (OpenSpec.ofChange plexGoesSpec)) plexGoesCard

/-- THE SECOND FORM's CARD OF 'cohesionlaw28.PlexSizes'. -/
def plexSizesUptoCard : Claim7 := { stood := { row := plexSizesUptoRow, standIns := [], harness := (true, "728e82bbd7c9a8dc9b8ab6bd1c4494fe25a01e9cb7d22f630191c3d7e933da17"), looks := false }, kinds := [], alts := [], laidByText := true, laidKinds := [.data], laidTests := true, laidLooks := .later }
def PlexSizesUptoCardSaid : Prop := Claim7.holds Tryd.pinned (.plain (OpenSpec.upto plexSizesSpec)) plexSizesUptoCard

/-- THE SECOND FORM's CARD OF 'cohesionlaw28.PlexParts'. -/
def plexPartsUptoCard : Claim7 := { stood := { row := plexPartsUptoRow, standIns := [], harness := (true, "728e82bbd7c9a8dc9b8ab6bd1c4494fe25a01e9cb7d22f630191c3d7e933da17"), looks := false }, kinds := [], alts := [], laidByText := true, laidKinds := [.data], laidTests := true, laidLooks := .later }
def PlexPartsUptoCardSaid : Prop := Claim7.holds Tryd.pinned (.plain (OpenSpec.upto plexPartsSpec)) plexPartsUptoCard

/-- THE SECOND FORM's CARD OF 'cohesionlaw28.PlexCliques'. -/
def plexCliquesUptoCard : Claim7 := { stood := { row := plexCliquesUptoRow, standIns := [], harness := (true, "728e82bbd7c9a8dc9b8ab6bd1c4494fe25a01e9cb7d22f630191c3d7e933da17"), looks := false }, kinds := [], alts := [], laidByText := true, laidKinds := [.data], laidTests := true, laidLooks := .later }
def PlexCliquesUptoCardSaid : Prop := Claim7.holds Tryd.pinned (.plain (OpenSpec.upto plexCliquesSpec)) plexCliquesUptoCard

/-- THE SECOND FORM's CARD OF 'cohesionlaw28.PlexAnswers'. -/
def plexAnswersUptoCard : Claim7 := { stood := { row := plexAnswersUptoRow, standIns := [], harness := (true, "728e82bbd7c9a8dc9b8ab6bd1c4494fe25a01e9cb7d22f630191c3d7e933da17"), looks := false }, kinds := [], alts := [], laidByText := true, laidKinds := [.data], laidTests := true, laidLooks := .later }
def PlexAnswersUptoCardSaid : Prop := Claim7.holds Tryd.pinned (.plain (OpenSpec.upto plexAnswersSpec)) plexAnswersUptoCard

/-- THE SECOND FORM's CARD OF 'cohesionlaw28.PlexGoes'. -/
def plexGoesUptoCard : Claim7 := { stood := { row := plexGoesUptoRow, standIns := [], harness := (true, "728e82bbd7c9a8dc9b8ab6bd1c4494fe25a01e9cb7d22f630191c3d7e933da17"), looks := false }, kinds := [], alts := [], laidByText := true, laidKinds := [.data], laidTests := true, laidLooks := .later }
def PlexGoesUptoCardSaid : Prop := Claim7.holds Tryd.pinned (.plain (OpenSpec.upto plexGoesSpec)) plexGoesUptoCard
end Rows
end Go.Proofs.YtfefginhlliccaaDoor
