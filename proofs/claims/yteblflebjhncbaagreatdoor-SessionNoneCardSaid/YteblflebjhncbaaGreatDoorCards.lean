/-
  DERIVED. GIVEN WITH THE SEED: THE CARDS: each row of YteblflebjhncbaaGreatDoorRows.lean that lists a variable, with what it lists TIED to the program's text (the seventh form; the later family's looks); each row that meets fmt, with fmt's text TOLD by the authors' own Lean function (tested against real Go, not proved from fmt's source: count such statements apart). THE CARD IS WHAT COUNTS. Prove the row's statement (the work); the ties are given (YteblflebjhncbaaGreatDoorTie.lean); close each card by the builder's one call (the guide's Derived/Test/ToyasCard.lean, 'card_holds'). Laid BY PROGRAM, IN A SANDBOX (cutbox-door.mjs). By AI agents, Wed Nov 11 2026. No macro, syntax, notation, axiom, sorry.
-/
import Derived.Test.YteblflebjhncbaaGreatDoorRows
import GoSem.ClaimSeven
namespace Go.Proofs.YteblflebjhncbaaGreatDoor
namespace Rows

/-- THE TIED CARD OF 'cofferlaw26.SessionApart'. -/
def sessionApartCard : Claim7 := { stood := { row := sessionApartRow, standIns := [], harness := (true, "56ce2bc70b47888b997bd320eda199b66390861f59348032c124ffa9e2b299aa"), looks := false }, kinds := [], alts := [], laidByText := true, laidKinds := [.data, .data, .data, .data, .pinned], laidTests := true, laidLooks := .later }
def SessionApartCardSaid : Prop := Claim7.holds Tryz.pinned (.plain (OpenSpec.ofChange sessionApartSpec)) sessionApartCard

/-- THE TIED CARD OF 'cofferlaw26.SessionGuards'. -/
def sessionGuardsCard : Claim7 := { stood := { row := sessionGuardsRow, standIns := [], harness := (true, "56ce2bc70b47888b997bd320eda199b66390861f59348032c124ffa9e2b299aa"), looks := false }, kinds := [], alts := [], laidByText := true, laidKinds := [.data, .data, .data, .data, .pinned], laidTests := true, laidLooks := .later }
def SessionGuardsCardSaid : Prop := Claim7.holds Tryz.pinned (.plain (OpenSpec.ofChange sessionGuardsSpec)) sessionGuardsCard

/-- THE TIED CARD OF 'cofferlaw26.SessionNone'. -/
def sessionNoneCard : Claim7 := { stood := { row := sessionNoneRow, standIns := [], harness := (true, "56ce2bc70b47888b997bd320eda199b66390861f59348032c124ffa9e2b299aa"), looks := false }, kinds := [], alts := [], laidByText := true, laidKinds := [.data, .data, .data, .data, .pinned], laidTests := true, laidLooks := .later }
def SessionNoneCardSaid : Prop := Claim7.holds Tryz.pinned (.plain (OpenSpec.ofChange sessionNoneSpec)) sessionNoneCard

/-- THE TIED CARD OF 'cofferlaw26.SessionAnswers'. -/
def sessionAnswersCard : Claim7 := { stood := { row := sessionAnswersRow, standIns := [], harness := (true, "56ce2bc70b47888b997bd320eda199b66390861f59348032c124ffa9e2b299aa"), looks := false }, kinds := [], alts := [], laidByText := true, laidKinds := [.data, .data, .data, .data, .pinned], laidTests := true, laidLooks := .later }
def SessionAnswersCardSaid : Prop := Claim7.holds Tryz.pinned (.plain (OpenSpec.ofChange sessionAnswersSpec)) sessionAnswersCard

/-- THE SECOND FORM's CARD OF 'cofferlaw26.SessionApart'. -/
def sessionApartUptoCard : Claim7 := { stood := { row := sessionApartUptoRow, standIns := [], harness := (true, "56ce2bc70b47888b997bd320eda199b66390861f59348032c124ffa9e2b299aa"), looks := false }, kinds := [], alts := [], laidByText := true, laidKinds := [.data, .data, .data, .data, .pinned], laidTests := true, laidLooks := .later }
def SessionApartUptoCardSaid : Prop := Claim7.holds Tryz.pinned (.plain (OpenSpec.upto sessionApartSpec)) sessionApartUptoCard

/-- THE SECOND FORM's CARD OF 'cofferlaw26.SessionGuards'. -/
def sessionGuardsUptoCard : Claim7 := { stood := { row := sessionGuardsUptoRow, standIns := [], harness := (true, "56ce2bc70b47888b997bd320eda199b66390861f59348032c124ffa9e2b299aa"), looks := false }, kinds := [], alts := [], laidByText := true, laidKinds := [.data, .data, .data, .data, .pinned], laidTests := true, laidLooks := .later }
def SessionGuardsUptoCardSaid : Prop := Claim7.holds Tryz.pinned (.plain (OpenSpec.upto sessionGuardsSpec)) sessionGuardsUptoCard

/-- THE SECOND FORM's CARD OF 'cofferlaw26.SessionNone'. -/
def sessionNoneUptoCard : Claim7 := { stood := { row := sessionNoneUptoRow, standIns := [], harness := (true, "56ce2bc70b47888b997bd320eda199b66390861f59348032c124ffa9e2b299aa"), looks := false }, kinds := [], alts := [], laidByText := true, laidKinds := [.data, .data, .data, .data, .pinned], laidTests := true, laidLooks := .later }
def SessionNoneUptoCardSaid : Prop := Claim7.holds Tryz.pinned (.plain (OpenSpec.upto sessionNoneSpec)) sessionNoneUptoCard

/-- THE SECOND FORM's CARD OF 'cofferlaw26.SessionAnswers'. -/
def sessionAnswersUptoCard : Claim7 := { stood := { row := sessionAnswersUptoRow, standIns := [], harness := (true, "56ce2bc70b47888b997bd320eda199b66390861f59348032c124ffa9e2b299aa"), looks := false }, kinds := [], alts := [], laidByText := true, laidKinds := [.data, .data, .data, .data, .pinned], laidTests := true, laidLooks := .later }
def SessionAnswersUptoCardSaid : Prop := Claim7.holds Tryz.pinned (.plain (OpenSpec.upto sessionAnswersSpec)) sessionAnswersUptoCard
end Rows
end Go.Proofs.YteblflebjhncbaaGreatDoor
