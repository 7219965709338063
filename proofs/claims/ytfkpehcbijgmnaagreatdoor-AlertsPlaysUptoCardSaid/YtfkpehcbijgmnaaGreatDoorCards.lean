/-
  DERIVED. GIVEN WITH THE SEED: THE CARDS: each row of YtfkpehcbijgmnaaGreatDoorRows.lean that lists a variable, with what it lists TIED to the program's text (the seventh form; the later family's looks); each row that meets fmt, with fmt's text TOLD by the authors' own Lean function (tested against real Go, not proved from fmt's source: count such statements apart). THE CARD IS WHAT COUNTS. Prove the row's statement (the work); the ties are given (YtfkpehcbijgmnaaGreatDoorTie.lean); close each card by the builder's one call (the guide's Derived/Test/ToyasCard.lean, 'card_holds'). Laid BY PROGRAM, IN A SANDBOX (cutbox-door.mjs). By AI agents, Wed Nov 11 2026. No macro, syntax, notation, axiom, sorry.
-/
import Derived.Test.YtfkpehcbijgmnaaGreatDoorRows
import GoSem.ClaimSeven
namespace Go.Proofs.YtfkpehcbijgmnaaGreatDoor
namespace Rows

/-- THE TIED CARD OF 'tocsinlaw21.AlertsPlays'. -/
def alertsPlaysCard : Claim7 := { stood := { row := alertsPlaysRow, standIns := [], harness := (true, "87baba4100c961e0360bdd7eb2791289a6615009fb30f7ce91b52591bc7c488f"), looks := false }, kinds := [], alts := [], laidByText := true, laidKinds := [.data, .pinned], laidTests := true, laidLooks := .later }
def AlertsPlaysCardSaid : Prop := Claim7.holds Tryz.pinned (.plain (OpenSpec.ofChange alertsPlaysSpec)) alertsPlaysCard

/-- THE SECOND FORM's CARD OF 'tocsinlaw21.AlertsPlays'. -/
def alertsPlaysUptoCard : Claim7 := { stood := { row := alertsPlaysUptoRow, standIns := [], harness := (true, "87baba4100c961e0360bdd7eb2791289a6615009fb30f7ce91b52591bc7c488f"), looks := false }, kinds := [], alts := [], laidByText := true, laidKinds := [.data, .pinned], laidTests := true, laidLooks := .later }
def AlertsPlaysUptoCardSaid : Prop := Claim7.holds Tryz.pinned (.plain (OpenSpec.upto alertsPlaysSpec)) alertsPlaysUptoCard
end Rows
end Go.Proofs.YtfkpehcbijgmnaaGreatDoor
