/-
  DERIVED. GIVEN WITH THE SEED: THE CARDS: each row of YtknlmgcbdcepnaaDoorRows.lean that lists a variable, with what it lists TIED to the program's text (the seventh form; the later family's looks); each row that meets fmt, with fmt's text TOLD by the authors' own Lean function (tested against real Go, not proved from fmt's source: count such statements apart). THE CARD IS WHAT COUNTS. Prove the row's statement (the work); the ties are given (YtknlmgcbdcepnaaDoorTie.lean); close each card by the builder's one call (the guide's Derived/Test/ToyasCard.lean, 'card_holds'). Laid BY PROGRAM, IN A SANDBOX (cutbox-door.mjs). By AI agents, Wed Nov 11 2026. No macro, syntax, notation, axiom, sorry.
-/
import Derived.Test.YtknlmgcbdcepnaaDoorRows
import GoSem.ClaimSeven
namespace Go.Proofs.YtknlmgcbdcepnaaDoor
namespace Rows

/-- THE TIED CARD OF 'cohesionlaw25.CliquecountWhole'. -/
def cliquecountWholeCard : Claim7 := { stood := { row := cliquecountWholeRow, standIns := [], harness := (true, "9e470096ece2fd17fbd99bd0d2976ca6688749a72cf55e0b865f813aff628386"), looks := false }, kinds := [], alts := [], laidByText := true, laidKinds := [.data], laidTests := true, laidLooks := .later }
def CliquecountWholeCardSaid : Prop := Claim7.holds Tryd.pinned (.plain (OpenSpec.ofChange cliquecountWholeSpec)) cliquecountWholeCard

/-- THE TIED CARD OF 'cohesionlaw25.CliquecountEdge'. -/
def cliquecountEdgeCard : Claim7 := { stood := { row := cliquecountEdgeRow, standIns := [], harness := (true, "9e470096ece2fd17fbd99bd0d2976ca6688749a72cf55e0b865f813aff628386"), looks := false }, kinds := [], alts := [], laidByText := true, laidKinds := [.data], laidTests := true, laidLooks := .later }
def CliquecountEdgeCardSaid : Prop := Claim7.holds Tryd.pinned (.plain (OpenSpec.ofChange cliquecountEdgeSpec)) cliquecountEdgeCard

/-- THE TIED CARD OF 'cohesionlaw25.CliquecountBeside'. -/
def cliquecountBesideCard : Claim7 := { stood := { row := cliquecountBesideRow, standIns := [], harness := (true, "9e470096ece2fd17fbd99bd0d2976ca6688749a72cf55e0b865f813aff628386"), looks := false }, kinds := [], alts := [], laidByText := true, laidKinds := [.data], laidTests := true, laidLooks := .later }
def CliquecountBesideCardSaid : Prop := Claim7.holds Tryd.pinned (.plain (OpenSpec.ofChange cliquecountBesideSpec)) cliquecountBesideCard

/-- THE TIED CARD OF 'cohesionlaw25.CliquecountAhead'. -/
def cliquecountAheadCard : Claim7 := { stood := { row := cliquecountAheadRow, standIns := [], harness := (true, "9e470096ece2fd17fbd99bd0d2976ca6688749a72cf55e0b865f813aff628386"), looks := false }, kinds := [], alts := [], laidByText := true, laidKinds := [.data], laidTests := true, laidLooks := .later }
def CliquecountAheadCardSaid : Prop := Claim7.holds Tryd.pinned (.plain (OpenSpec.ofChange cliquecountAheadSpec)) cliquecountAheadCard

/-- THE TIED CARD OF 'cohesionlaw25.CliquecountAnswers'. -/
def cliquecountAnswersCard : Claim7 := { stood := { row := cliquecountAnswersRow, standIns := [], harness := (true, "9e470096ece2fd17fbd99bd0d2976ca6688749a72cf55e0b865f813aff628386"), looks := false }, kinds := [], alts := [], laidByText := true, laidKinds := [.data], laidTests := true, laidLooks := .later }
def CliquecountAnswersCardSaid : Prop := Claim7.holds Tryd.pinned (.plain (OpenSpec.ofChange cliquecountAnswersSpec)) cliquecountAnswersCard

/-- THE TIED CARD OF 'cohesionlaw25.CliquecountSums'. -/
def cliquecountSumsCard : Claim7 := { stood := { row := cliquecountSumsRow, standIns := [], harness := (true, "9e470096ece2fd17fbd99bd0d2976ca6688749a72cf55e0b865f813aff628386"), looks := false }, kinds := [], alts := [], laidByText := true, laidKinds := [.data], laidTests := true, laidLooks := .later }
def CliquecountSumsCardSaid : Prop := Claim7.holds Tryd.pinned (.plain (OpenSpec.ofChange cliquecountSumsSpec)) cliquecountSumsCard

/-- THE SECOND FORM's CARD OF 'cohesionlaw25.CliquecountWhole'. -/
def cliquecountWholeUptoCard : Claim7 := { stood := { row := cliquecountWholeUptoRow, standIns := [], harness := (true, "9e470096ece2fd17fbd99bd0d2976ca6688749a72cf55e0b865f813aff628386"), looks := false }, kinds := [], alts := [], laidByText := true, laidKinds := [.data], laidTests := true, laidLooks := .later }
def CliquecountWholeUptoCardSaid : Prop := Claim7.holds Tryd.pinned (.plain (OpenSpec.upto cliquecountWholeSpec)) cliquecountWholeUptoCard

/-- THE SECOND FORM's CARD OF 'cohesionlaw25.CliquecountEdge'. -/
def cliquecountEdgeUptoCard : Claim7 := { stood := { row := cliquecountEdgeUptoRow, standIns := [], harness := (true, "9e470096ece2fd17fbd99bd0d2976ca6688749a72cf55e0b865f813aff628386"), looks := false }, kinds := [], alts := [], laidByText := true, laidKinds := [.data], laidTests := true, laidLooks := .later }
def CliquecountEdgeUptoCardSaid : Prop := Claim7.holds Tryd.pinned (.plain (OpenSpec.upto cliquecountEdgeSpec)) cliquecountEdgeUptoCard

/-- THE SECOND FORM's CARD OF 'cohesionlaw25.CliquecountBeside'. -/
def cliquecountBesideUptoCard : Claim7 := { stood := { row := cliquecountBesideUptoRow, standIns := [], harness := (true, "9e470096ece2fd17fbd99bd0d2976ca6688749a72cf55e0b865f813aff628386"), looks := false }, kinds := [], alts := [], laidByText := true, laidKinds := [.data], laidTests := true, laidLooks := .later }
def CliquecountBesideUptoCardSaid : Prop := Claim7.holds Tryd.pinned (.plain (OpenSpec.upto cliquecountBesideSpec)) cliquecountBesideUptoCard

/-- THE SECOND FORM's CARD OF 'cohesionlaw25.CliquecountAhead'. -/
def cliquecountAheadUptoCard : Claim7 := { stood := { row := cliquecountAheadUptoRow, standIns := [], harness := (true, "9e470096ece2fd17fbd99bd0d2976ca6688749a72cf55e0b865f813aff628386"), looks := false }, kinds := [], alts := [], laidByText := true, laidKinds := [.data], laidTests := true, laidLooks := .later }
def CliquecountAheadUptoCardSaid : Prop := Claim7.holds Tryd.pinned (.plain (OpenSpec.upto cliquecountAheadSpec)) cliquecountAheadUptoCard

/-- THE SECOND FORM's CARD OF 'cohesionlaw25.CliquecountAnswers'. -/
def cliquecountAnswersUptoCard : Claim7 := { stood := { row := cliquecountAnswersUptoRow, standIns := [], harness := (true, "9e470096ece2fd17fbd99bd0d2976ca6688749a72cf55e0b865f813aff628386"), looks := false }, kinds := [], alts := [], laidByText := true, laidKinds := [.data], laidTests := true, laidLooks := .later }
def CliquecountAnswersUptoCardSaid : Prop := Claim7.holds Tryd.pinned (.plain (OpenSpec.upto cliquecountAnswersSpec)) cliquecountAnswersUptoCard

/-- THE SECOND FORM's CARD OF 'cohesionlaw25.CliquecountSums'. -/
def cliquecountSumsUptoCard : Claim7 := { stood := { row := cliquecountSumsUptoRow, standIns := [], harness := (true, "9e470096ece2fd17fbd99bd0d2976ca6688749a72cf55e0b865f813aff628386"), looks := false }, kinds := [], alts := [], laidByText := true, laidKinds := [.data], laidTests := true, laidLooks := .later }
def CliquecountSumsUptoCardSaid : Prop := Claim7.holds Tryd.pinned (.plain (OpenSpec.upto cliquecountSumsSpec)) cliquecountSumsUptoCard
end Rows
end Go.Proofs.YtknlmgcbdcepnaaDoor
