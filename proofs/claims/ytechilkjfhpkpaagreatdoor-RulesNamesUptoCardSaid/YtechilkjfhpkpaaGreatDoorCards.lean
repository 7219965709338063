/-
  DERIVED. GIVEN WITH THE SEED: THE CARDS: each row of YtechilkjfhpkpaaGreatDoorRows.lean that lists a variable, with what it lists TIED to the program's text (the seventh form; the later family's looks); each row that meets fmt, with fmt's text TOLD by the authors' own Lean function (tested against real Go, not proved from fmt's source: count such statements apart). THE CARD IS WHAT COUNTS. Prove the row's statement (the work); the ties are given (YtechilkjfhpkpaaGreatDoorTie.lean); close each card by the builder's one call (the guide's Derived/Test/ToyasCard.lean, 'card_holds'). Laid BY PROGRAM, IN A SANDBOX (cutbox-door.mjs). By AI agents, Wed Nov 11 2026. No macro, syntax, notation, axiom, sorry.
-/
import Derived.Test.YtechilkjfhpkpaaGreatDoorRows
import GoSem.ClaimSeven
namespace Go.Proofs.YtechilkjfhpkpaaGreatDoor
namespace Rows

/-- THE TIED CARD OF 'tocsinlaw19.RulesFor'. -/
def rulesForCard : Claim7 := { stood := { row := rulesForRow, standIns := [], harness := (true, "cf9b06ca9adfaf992c39b7aa4b43f9fd5941eecb9ac91c50e5b4199a50376998"), looks := true }, kinds := [], alts := [], laidByText := true, laidKinds := [.data, .handle, .sentinel, .pinned], laidTests := true, laidLooks := .later }
def RulesForCardSaid : Prop := Claim7.holds Tryz.pinned (.plain (OpenSpec.ofChange rulesForSpec)) rulesForCard

/-- THE TIED CARD OF 'tocsinlaw19.RulesKept'. -/
def rulesKeptCard : Claim7 := { stood := { row := rulesKeptRow, standIns := [], harness := (true, "cf9b06ca9adfaf992c39b7aa4b43f9fd5941eecb9ac91c50e5b4199a50376998"), looks := true }, kinds := [], alts := [], laidByText := true, laidKinds := [.data, .handle, .sentinel, .pinned], laidTests := true, laidLooks := .later }
def RulesKeptCardSaid : Prop := Claim7.holds Tryz.pinned (.plain (OpenSpec.ofChange rulesKeptSpec)) rulesKeptCard

/-- THE TIED CARD OF 'tocsinlaw19.RulesSteps'. -/
def rulesStepsCard : Claim7 := { stood := { row := rulesStepsRow, standIns := [], harness := (true, "cf9b06ca9adfaf992c39b7aa4b43f9fd5941eecb9ac91c50e5b4199a50376998"), looks := true }, kinds := [], alts := [], laidByText := true, laidKinds := [.data, .handle, .sentinel, .pinned], laidTests := true, laidLooks := .later }
def RulesStepsCardSaid : Prop := Claim7.holds Tryz.pinned (.plain (OpenSpec.ofChange rulesStepsSpec)) rulesStepsCard

/-- THE TIED CARD OF 'tocsinlaw19.RulesRestored'. -/
def rulesRestoredCard : Claim7 := { stood := { row := rulesRestoredRow, standIns := [], harness := (true, "cf9b06ca9adfaf992c39b7aa4b43f9fd5941eecb9ac91c50e5b4199a50376998"), looks := true }, kinds := [], alts := [], laidByText := true, laidKinds := [.data, .handle, .sentinel, .pinned], laidTests := true, laidLooks := .later }
def RulesRestoredCardSaid : Prop := Claim7.holds Tryz.pinned (.plain (OpenSpec.ofChange rulesRestoredSpec)) rulesRestoredCard

/-- THE TIED CARD OF 'tocsinlaw19.RulesOrder'. -/
def rulesOrderCard : Claim7 := { stood := { row := rulesOrderRow, standIns := [], harness := (true, "cf9b06ca9adfaf992c39b7aa4b43f9fd5941eecb9ac91c50e5b4199a50376998"), looks := true }, kinds := [], alts := [], laidByText := true, laidKinds := [.data, .handle, .sentinel, .pinned], laidTests := true, laidLooks := .later }
def RulesOrderCardSaid : Prop := Claim7.holds Tryz.pinned (.plain (OpenSpec.ofChange rulesOrderSpec)) rulesOrderCard

/-- THE TIED CARD OF 'tocsinlaw19.RulesNames'. -/
def rulesNamesCard : Claim7 := { stood := { row := rulesNamesRow, standIns := [], harness := (true, "cf9b06ca9adfaf992c39b7aa4b43f9fd5941eecb9ac91c50e5b4199a50376998"), looks := true }, kinds := [], alts := [], laidByText := true, laidKinds := [.data, .handle, .sentinel, .pinned], laidTests := true, laidLooks := .later }
def RulesNamesCardSaid : Prop := Claim7.holds Tryz.pinned (.plain (OpenSpec.ofChange rulesNamesSpec)) rulesNamesCard

/-- THE SECOND FORM's CARD OF 'tocsinlaw19.RulesFor'. -/
def rulesForUptoCard : Claim7 := { stood := { row := rulesForUptoRow, standIns := [], harness := (true, "cf9b06ca9adfaf992c39b7aa4b43f9fd5941eecb9ac91c50e5b4199a50376998"), looks := true }, kinds := [], alts := [], laidByText := true, laidKinds := [.data, .handle, .sentinel, .pinned], laidTests := true, laidLooks := .later }
def RulesForUptoCardSaid : Prop := Claim7.holds Tryz.pinned (.plain (OpenSpec.upto rulesForSpec)) rulesForUptoCard

/-- THE SECOND FORM's CARD OF 'tocsinlaw19.RulesKept'. -/
def rulesKeptUptoCard : Claim7 := { stood := { row := rulesKeptUptoRow, standIns := [], harness := (true, "cf9b06ca9adfaf992c39b7aa4b43f9fd5941eecb9ac91c50e5b4199a50376998"), looks := true }, kinds := [], alts := [], laidByText := true, laidKinds := [.data, .handle, .sentinel, .pinned], laidTests := true, laidLooks := .later }
def RulesKeptUptoCardSaid : Prop := Claim7.holds Tryz.pinned (.plain (OpenSpec.upto rulesKeptSpec)) rulesKeptUptoCard

/-- THE SECOND FORM's CARD OF 'tocsinlaw19.RulesSteps'. -/
def rulesStepsUptoCard : Claim7 := { stood := { row := rulesStepsUptoRow, standIns := [], harness := (true, "cf9b06ca9adfaf992c39b7aa4b43f9fd5941eecb9ac91c50e5b4199a50376998"), looks := true }, kinds := [], alts := [], laidByText := true, laidKinds := [.data, .handle, .sentinel, .pinned], laidTests := true, laidLooks := .later }
def RulesStepsUptoCardSaid : Prop := Claim7.holds Tryz.pinned (.plain (OpenSpec.upto rulesStepsSpec)) rulesStepsUptoCard

/-- THE SECOND FORM's CARD OF 'tocsinlaw19.RulesRestored'. -/
def rulesRestoredUptoCard : Claim7 := { stood := { row := rulesRestoredUptoRow, standIns := [], harness := (true, "cf9b06ca9adfaf992c39b7aa4b43f9fd5941eecb9ac91c50e5b4199a50376998"), looks := true }, kinds := [], alts := [], laidByText := true, laidKinds := [.data, .handle, .sentinel, .pinned], laidTests := true, laidLooks := .later }
def RulesRestoredUptoCardSaid : Prop := Claim7.holds Tryz.pinned (.plain (OpenSpec.upto rulesRestoredSpec)) rulesRestoredUptoCard

/-- THE SECOND FORM's CARD OF 'tocsinlaw19.RulesOrder'. -/
def rulesOrderUptoCard : Claim7 := { stood := { row := rulesOrderUptoRow, standIns := [], harness := (true, "cf9b06ca9adfaf992c39b7aa4b43f9fd5941eecb9ac91c50e5b4199a50376998"), looks := true }, kinds := [], alts := [], laidByText := true, laidKinds := [.data, .handle, .sentinel, .pinned], laidTests := true, laidLooks := .later }
def RulesOrderUptoCardSaid : Prop := Claim7.holds Tryz.pinned (.plain (OpenSpec.upto rulesOrderSpec)) rulesOrderUptoCard

/-- THE SECOND FORM's CARD OF 'tocsinlaw19.RulesNames'. -/
def rulesNamesUptoCard : Claim7 := { stood := { row := rulesNamesUptoRow, standIns := [], harness := (true, "cf9b06ca9adfaf992c39b7aa4b43f9fd5941eecb9ac91c50e5b4199a50376998"), looks := true }, kinds := [], alts := [], laidByText := true, laidKinds := [.data, .handle, .sentinel, .pinned], laidTests := true, laidLooks := .later }
def RulesNamesUptoCardSaid : Prop := Claim7.holds Tryz.pinned (.plain (OpenSpec.upto rulesNamesSpec)) rulesNamesUptoCard
end Rows
end Go.Proofs.YtechilkjfhpkpaaGreatDoor
