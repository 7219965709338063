/-
  DERIVED. GIVEN WITH THE SEED: THE CARDS: each row of YtfkpehcbijgmnaaDoorRows.lean that lists a variable, with what it lists TIED to the program's text (the seventh form; the later family's looks); each row that meets fmt, with fmt's text TOLD by the authors' own Lean function (tested against real Go, not proved from fmt's source: count such statements apart). THE CARD IS WHAT COUNTS. Prove the row's statement (the work); the ties are given (YtfkpehcbijgmnaaDoorTie.lean); close each card by the builder's one call (the guide's Derived/Test/ToyasCard.lean, 'card_holds'). Laid BY PROGRAM, IN A SANDBOX (cutbox-door.mjs). By AI agents, Wed Nov 11 2026. No macro, syntax, notation, axiom, sorry.
-/
import Derived.Test.YtfkpehcbijgmnaaDoorRows
import GoSem.ClaimSeven
namespace Go.Proofs.YtfkpehcbijgmnaaDoor
namespace Rows

/-- THE TIED CARD OF 'tocsinlaw21.AlertsLasts'. -/
def alertsLastsCard : Claim7 := { stood := { row := alertsLastsRow, standIns := [], harness := (true, "198b88ab1678dcda49a6e476b457418a4969386751f9f6492066c57ed599562e"), looks := false }, kinds := [], alts := [], laidByText := true, laidKinds := [.data, .pinned], laidTests := true, laidLooks := .later }
def AlertsLastsCardSaid : Prop := Claim7.holds Tryd.pinned (.plain (OpenSpec.ofChange alertsLastsSpec)) alertsLastsCard

/-- THE TIED CARD OF 'tocsinlaw21.AlertsStands'. -/
def alertsStandsCard : Claim7 := { stood := { row := alertsStandsRow, standIns := [], harness := (true, "198b88ab1678dcda49a6e476b457418a4969386751f9f6492066c57ed599562e"), looks := false }, kinds := [], alts := [], laidByText := true, laidKinds := [.data, .pinned], laidTests := true, laidLooks := .later }
def AlertsStandsCardSaid : Prop := Claim7.holds Tryd.pinned (.plain (OpenSpec.ofChange alertsStandsSpec)) alertsStandsCard

/-- THE TIED CARD OF 'tocsinlaw21.AlertsNil'. -/
def alertsNilCard : Claim7 := { stood := { row := alertsNilRow, standIns := [], harness := (true, "198b88ab1678dcda49a6e476b457418a4969386751f9f6492066c57ed599562e"), looks := false }, kinds := [], alts := [], laidByText := true, laidKinds := [.data, .pinned], laidTests := true, laidLooks := .later }
def AlertsNilCardSaid : Prop := Claim7.holds Tryd.pinned (.plain (OpenSpec.ofChange alertsNilSpec)) alertsNilCard

/-- THE SECOND FORM's CARD OF 'tocsinlaw21.AlertsLasts'. -/
def alertsLastsUptoCard : Claim7 := { stood := { row := alertsLastsUptoRow, standIns := [], harness := (true, "198b88ab1678dcda49a6e476b457418a4969386751f9f6492066c57ed599562e"), looks := false }, kinds := [], alts := [], laidByText := true, laidKinds := [.data, .pinned], laidTests := true, laidLooks := .later }
def AlertsLastsUptoCardSaid : Prop := Claim7.holds Tryd.pinned (.plain (OpenSpec.upto alertsLastsSpec)) alertsLastsUptoCard

/-- THE SECOND FORM's CARD OF 'tocsinlaw21.AlertsStands'. -/
def alertsStandsUptoCard : Claim7 := { stood := { row := alertsStandsUptoRow, standIns := [], harness := (true, "198b88ab1678dcda49a6e476b457418a4969386751f9f6492066c57ed599562e"), looks := false }, kinds := [], alts := [], laidByText := true, laidKinds := [.data, .pinned], laidTests := true, laidLooks := .later }
def AlertsStandsUptoCardSaid : Prop := Claim7.holds Tryd.pinned (.plain (OpenSpec.upto alertsStandsSpec)) alertsStandsUptoCard

/-- THE SECOND FORM's CARD OF 'tocsinlaw21.AlertsNil'. -/
def alertsNilUptoCard : Claim7 := { stood := { row := alertsNilUptoRow, standIns := [], harness := (true, "198b88ab1678dcda49a6e476b457418a4969386751f9f6492066c57ed599562e"), looks := false }, kinds := [], alts := [], laidByText := true, laidKinds := [.data, .pinned], laidTests := true, laidLooks := .later }
def AlertsNilUptoCardSaid : Prop := Claim7.holds Tryd.pinned (.plain (OpenSpec.upto alertsNilSpec)) alertsNilUptoCard
end Rows
end Go.Proofs.YtfkpehcbijgmnaaDoor
