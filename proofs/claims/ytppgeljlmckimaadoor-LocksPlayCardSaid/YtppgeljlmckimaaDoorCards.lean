/-
  DERIVED. GIVEN WITH THE SEED: THE CARDS: each row of YtppgeljlmckimaaDoorRows.lean that lists a variable, with what it lists TIED to the program's text (the seventh form; the later family's looks); each row that meets fmt, with fmt's text TOLD by the authors' own Lean function (tested against real Go, not proved from fmt's source: count such statements apart). THE CARD IS WHAT COUNTS. Prove the row's statement (the work); the ties are given (YtppgeljlmckimaaDoorTie.lean); close each card by the builder's one call (the guide's Derived/Test/ToyasCard.lean, 'card_holds'). Laid BY PROGRAM, IN A SANDBOX (cutbox-door.mjs). By AI agents, Wed Nov 11 2026. No macro, syntax, notation, axiom, sorry.
-/
import Derived.Test.YtppgeljlmckimaaDoorRows
import GoSem.ClaimSeven
namespace Go.Proofs.YtppgeljlmckimaaDoor
namespace Rows

/-- THE TIED CARD OF 'cofferlaw20.LocksAlone'. -/
def locksAloneCard : Claim7 := { stood := { row := locksAloneRow, standIns := [], harness := (true, "5691c02fd665de4dc58e56e5add27c8a680cbdea44762e9eabd99ddae8aee411"), looks := false }, kinds := [], alts := [], laidByText := true, laidKinds := [.data, .pinned], laidTests := true, laidLooks := .later }
def LocksAloneCardSaid : Prop := Claim7.holds Tryd.pinned (.plain (OpenSpec.ofChange locksAloneSpec)) locksAloneCard

/-- THE TIED CARD OF 'cofferlaw20.LocksPlay'. -/
def locksPlayCard : Claim7 := { stood := { row := locksPlayRow, standIns := [], harness := (true, "5691c02fd665de4dc58e56e5add27c8a680cbdea44762e9eabd99ddae8aee411"), looks := false }, kinds := [], alts := [], laidByText := true, laidKinds := [.data, .pinned], laidTests := true, laidLooks := .later }
def LocksPlayCardSaid : Prop := Claim7.holds Tryd.pinned (.plain (OpenSpec.ofChange locksPlaySpec)) locksPlayCard

/-- THE TIED CARD OF 'cofferlaw20.LocksFree'. -/
def locksFreeCard : Claim7 := { stood := { row := locksFreeRow, standIns := [], harness := (true, "5691c02fd665de4dc58e56e5add27c8a680cbdea44762e9eabd99ddae8aee411"), looks := false }, kinds := [], alts := [], laidByText := true, laidKinds := [.data, .pinned], laidTests := true, laidLooks := .later }
def LocksFreeCardSaid : Prop := Claim7.holds Tryd.pinned (.plain (OpenSpec.ofChange locksFreeSpec)) locksFreeCard

/-- THE SECOND FORM's CARD OF 'cofferlaw20.LocksAlone'. -/
def locksAloneUptoCard : Claim7 := { stood := { row := locksAloneUptoRow, standIns := [], harness := (true, "5691c02fd665de4dc58e56e5add27c8a680cbdea44762e9eabd99ddae8aee411"), looks := false }, kinds := [], alts := [], laidByText := true, laidKinds := [.data, .pinned], laidTests := true, laidLooks := .later }
def LocksAloneUptoCardSaid : Prop := Claim7.holds Tryd.pinned (.plain (OpenSpec.upto locksAloneSpec)) locksAloneUptoCard

/-- THE SECOND FORM's CARD OF 'cofferlaw20.LocksPlay'. -/
def locksPlayUptoCard : Claim7 := { stood := { row := locksPlayUptoRow, standIns := [], harness := (true, "5691c02fd665de4dc58e56e5add27c8a680cbdea44762e9eabd99ddae8aee411"), looks := false }, kinds := [], alts := [], laidByText := true, laidKinds := [.data, .pinned], laidTests := true, laidLooks := .later }
def LocksPlayUptoCardSaid : Prop := Claim7.holds Tryd.pinned (.plain (OpenSpec.upto locksPlaySpec)) locksPlayUptoCard

/-- THE SECOND FORM's CARD OF 'cofferlaw20.LocksFree'. -/
def locksFreeUptoCard : Claim7 := { stood := { row := locksFreeUptoRow, standIns := [], harness := (true, "5691c02fd665de4dc58e56e5add27c8a680cbdea44762e9eabd99ddae8aee411"), looks := false }, kinds := [], alts := [], laidByText := true, laidKinds := [.data, .pinned], laidTests := true, laidLooks := .later }
def LocksFreeUptoCardSaid : Prop := Claim7.holds Tryd.pinned (.plain (OpenSpec.upto locksFreeSpec)) locksFreeUptoCard
end Rows
end Go.Proofs.YtppgeljlmckimaaDoor
