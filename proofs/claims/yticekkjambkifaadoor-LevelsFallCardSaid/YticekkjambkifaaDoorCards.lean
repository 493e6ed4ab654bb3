/-
  DERIVED. GIVEN WITH THE SEED: THE CARDS: each row of YticekkjambkifaaDoorRows.lean that lists a variable, with what it lists TIED to the program's text (the seventh form; the later family's looks); each row that meets fmt, with fmt's text TOLD by the authors' own Lean function (tested against real Go, not proved from fmt's source: count such statements apart). THE CARD IS WHAT COUNTS. Prove the row's statement (the work); the ties are given (YticekkjambkifaaDoorTie.lean); close each card by the builder's one call (the guide's Derived/Test/ToyasCard.lean, 'card_holds'). Laid BY PROGRAM, IN A SANDBOX (cutbox-door.mjs). By AI agents, Wed Nov 11 2026. No macro, syntax, notation, axiom, sorry.
-/
import Derived.Test.YticekkjambkifaaDoorRows
import GoSem.ClaimSeven
namespace Go.Proofs.YticekkjambkifaaDoor
namespace Rows

/-- THE TIED CARD OF 'cohesionlaw22.LevelsCores'. -/
def levelsCoresCard : Claim7 := { stood := { row := levelsCoresRow, standIns := [], harness := (true, "36ad8e04787394dd13024b999bb22df69cdb3099010733e65fcde075156fdef2"), looks := false }, kinds := [], alts := [], laidByText := true, laidKinds := [.data], laidTests := true, laidLooks := .later }
def LevelsCoresCardSaid : Prop := Claim7.holds Tryd.pinned (.plain (OpenSpec.ofChange levelsCoresSpec)) levelsCoresCard

/-- THE TIED CARD OF 'cohesionlaw22.LevelsFall'. -/
def levelsFallCard : Claim7 := { stood := { row := levelsFallRow, standIns := [], harness := (true, "36ad8e04787394dd13024b999bb22df69cdb3099010733e65fcde075156fdef2"), looks := false }, kinds := [], alts := [], laidByText := true, laidKinds := [.data], laidTests := true, laidLooks := .later }
def LevelsFallCardSaid : Prop := Claim7.holds Tryd.pinned (.plain (OpenSpec.ofChange levelsFallSpec)) levelsFallCard

/-- THE TIED CARD OF 'cohesionlaw22.LevelsChecks'. -/
def levelsChecksCard : Claim7 := { stood := { row := levelsChecksRow, standIns := [], harness := (true, "36ad8e04787394dd13024b999bb22df69cdb3099010733e65fcde075156fdef2"), looks := false }, kinds := [], alts := [], laidByText := true, laidKinds := [.data], laidTests := true, laidLooks := .later }
def LevelsChecksCardSaid : Prop := Claim7.holds Tryd.pinned (.plain (OpenSpec.ofChange levelsChecksSpec)) levelsChecksCard

/-- THE TIED CARD OF 'cohesionlaw22.LevelsBuild'. -/
def levelsBuildCard : Claim7 := { stood := { row := levelsBuildRow, standIns := [], harness := (true, "36ad8e04787394dd13024b999bb22df69cdb3099010733e65fcde075156fdef2"), looks := false }, kinds := [], alts := [], laidByText := true, laidKinds := [.data], laidTests := true, laidLooks := .later }
def LevelsBuildCardSaid : Prop := Claim7.holds Tryd.pinned (.plain (OpenSpec.ofChange levelsBuildSpec)) levelsBuildCard

/-- THE TIED CARD OF 'cohesionlaw22.LevelsBalance'. -/
def levelsBalanceCard : Claim7 := { stood := { row := levelsBalanceRow, standIns := [], harness := (true, "36ad8e04787394dd13024b999bb22df69cdb3099010733e65fcde075156fdef2"), looks := false }, kinds := [], alts := [], laidByText := true, laidKinds := [.data], laidTests := true, laidLooks := .later }
def LevelsBalanceCardSaid : Prop := Claim7.holds Tryd.pinned (.plain (OpenSpec.ofChange levelsBalanceSpec)) levelsBalanceCard

/-- THE TIED CARD OF 'cohesionlaw19.DensestProves'. -/
def densestProvesCard : Claim7 := { stood := { row := densestProvesRow, standIns := [], harness := (true, "36ad8e04787394dd13024b999bb22df69cdb3099010733e65fcde075156fdef2"), looks := false }, kinds := [], alts := [], laidByText := true, laidKinds := [.data], laidTests := true, laidLooks := .later }
def DensestProvesCardSaid : Prop := Claim7.holds Tryd.pinned (.plain (OpenSpec.ofChange densestProvesSpec)) densestProvesCard

/-- THE TIED CARD OF 'cohesionlaw19.DensestInside'. -/
def densestInsideCard : Claim7 := { stood := { row := densestInsideRow, standIns := [], harness := (true, "36ad8e04787394dd13024b999bb22df69cdb3099010733e65fcde075156fdef2"), looks := false }, kinds := [], alts := [], laidByText := true, laidKinds := [.data], laidTests := true, laidLooks := .later }
def DensestInsideCardSaid : Prop := Claim7.holds Tryd.pinned (.plain (OpenSpec.ofChange densestInsideSpec)) densestInsideCard

/-- THE TIED CARD OF 'cohesionlaw19.DensestDenser'. -/
def densestDenserCard : Claim7 := { stood := { row := densestDenserRow, standIns := [], harness := (true, "36ad8e04787394dd13024b999bb22df69cdb3099010733e65fcde075156fdef2"), looks := false }, kinds := [], alts := [], laidByText := true, laidKinds := [.data], laidTests := true, laidLooks := .later }
def DensestDenserCardSaid : Prop := Claim7.holds Tryd.pinned (.plain (OpenSpec.ofChange densestDenserSpec)) densestDenserCard

/-- THE TIED CARD OF 'cohesionlaw19.DensestSteps'. -/
def densestStepsCard : Claim7 := { stood := { row := densestStepsRow, standIns := [], harness := (true, "36ad8e04787394dd13024b999bb22df69cdb3099010733e65fcde075156fdef2"), looks := false }, kinds := [], alts := [], laidByText := true, laidKinds := [.data], laidTests := true, laidLooks := .later }
def DensestStepsCardSaid : Prop := Claim7.holds Tryd.pinned (.plain (OpenSpec.ofChange densestStepsSpec)) densestStepsCard

/-- THE SECOND FORM's CARD OF 'cohesionlaw22.LevelsCores'. -/
def levelsCoresUptoCard : Claim7 := { stood := { row := levelsCoresUptoRow, standIns := [], harness := (true, "36ad8e04787394dd13024b999bb22df69cdb3099010733e65fcde075156fdef2"), looks := false }, kinds := [], alts := [], laidByText := true, laidKinds := [.data], laidTests := true, laidLooks := .later }
def LevelsCoresUptoCardSaid : Prop := Claim7.holds Tryd.pinned (.plain (OpenSpec.upto levelsCoresSpec)) levelsCoresUptoCard

/-- THE SECOND FORM's CARD OF 'cohesionlaw22.LevelsFall'. -/
def levelsFallUptoCard : Claim7 := { stood := { row := levelsFallUptoRow, standIns := [], harness := (true, "36ad8e04787394dd13024b999bb22df69cdb3099010733e65fcde075156fdef2"), looks := false }, kinds := [], alts := [], laidByText := true, laidKinds := [.data], laidTests := true, laidLooks := .later }
def LevelsFallUptoCardSaid : Prop := Claim7.holds Tryd.pinned (.plain (OpenSpec.upto levelsFallSpec)) levelsFallUptoCard

/-- THE SECOND FORM's CARD OF 'cohesionlaw22.LevelsChecks'. -/
def levelsChecksUptoCard : Claim7 := { stood := { row := levelsChecksUptoRow, standIns := [], harness := (true, "36ad8e04787394dd13024b999bb22df69cdb3099010733e65fcde075156fdef2"), looks := false }, kinds := [], alts := [], laidByText := true, laidKinds := [.data], laidTests := true, laidLooks := .later }
def LevelsChecksUptoCardSaid : Prop := Claim7.holds Tryd.pinned (.plain (OpenSpec.upto levelsChecksSpec)) levelsChecksUptoCard

/-- THE SECOND FORM's CARD OF 'cohesionlaw22.LevelsBuild'. -/
def levelsBuildUptoCard : Claim7 := { stood := { row := levelsBuildUptoRow, standIns := [], harness := (true, "36ad8e04787394dd13024b999bb22df69cdb3099010733e65fcde075156fdef2"), looks := false }, kinds := [], alts := [], laidByText := true, laidKinds := [.data], laidTests := true, laidLooks := .later }
def LevelsBuildUptoCardSaid : Prop := Claim7.holds Tryd.pinned (.plain (OpenSpec.upto levelsBuildSpec)) levelsBuildUptoCard

/-- THE SECOND FORM's CARD OF 'cohesionlaw22.LevelsBalance'. -/
def levelsBalanceUptoCard : Claim7 := { stood := { row := levelsBalanceUptoRow, standIns := [], harness := (true, "36ad8e04787394dd13024b999bb22df69cdb3099010733e65fcde075156fdef2"), looks := false }, kinds := [], alts := [], laidByText := true, laidKinds := [.data], laidTests := true, laidLooks := .later }
def LevelsBalanceUptoCardSaid : Prop := Claim7.holds Tryd.pinned (.plain (OpenSpec.upto levelsBalanceSpec)) levelsBalanceUptoCard

/-- THE SECOND FORM's CARD OF 'cohesionlaw19.DensestProves'. -/
def densestProvesUptoCard : Claim7 := { stood := { row := densestProvesUptoRow, standIns := [], harness := (true, "36ad8e04787394dd13024b999bb22df69cdb3099010733e65fcde075156fdef2"), looks := false }, kinds := [], alts := [], laidByText := true, laidKinds := [.data], laidTests := true, laidLooks := .later }
def DensestProvesUptoCardSaid : Prop := Claim7.holds Tryd.pinned (.plain (OpenSpec.upto densestProvesSpec)) densestProvesUptoCard

/-- THE SECOND FORM's CARD OF 'cohesionlaw19.DensestInside'. -/
def densestInsideUptoCard : Claim7 := { stood := { row := densestInsideUptoRow, standIns := [], harness := (true, "36ad8e04787394dd13024b999bb22df69cdb3099010733e65fcde075156fdef2"), looks := false }, kinds := [], alts := [], laidByText := true, laidKinds := [.data], laidTests := true, laidLooks := .later }
def DensestInsideUptoCardSaid : Prop := Claim7.holds Tryd.pinned (.plain (OpenSpec.upto densestInsideSpec)) densestInsideUptoCard

/-- THE SECOND FORM's CARD OF 'cohesionlaw19.DensestDenser'. -/
def densestDenserUptoCard : Claim7 := { stood := { row := densestDenserUptoRow, standIns := [], harness := (true, "36ad8e04787394dd13024b999bb22df69cdb3099010733e65fcde075156fdef2"), looks := false }, kinds := [], alts := [], laidByText := true, laidKinds := [.data], laidTests := true, laidLooks := .later }
def DensestDenserUptoCardSaid : Prop := Claim7.holds Tryd.pinned (.plain (OpenSpec.upto densestDenserSpec)) densestDenserUptoCard

/-- THE SECOND FORM's CARD OF 'cohesionlaw19.DensestSteps'. -/
def densestStepsUptoCard : Claim7 := { stood := { row := densestStepsUptoRow, standIns := [], harness := (true, "36ad8e04787394dd13024b999bb22df69cdb3099010733e65fcde075156fdef2"), looks := false }, kinds := [], alts := [], laidByText := true, laidKinds := [.data], laidTests := true, laidLooks := .later }
def DensestStepsUptoCardSaid : Prop := Claim7.holds Tryd.pinned (.plain (OpenSpec.upto densestStepsSpec)) densestStepsUptoCard
end Rows
end Go.Proofs.YticekkjambkifaaDoor
