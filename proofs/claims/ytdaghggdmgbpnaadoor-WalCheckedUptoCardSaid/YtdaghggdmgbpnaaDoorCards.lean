/-
  DERIVED. GIVEN WITH THE SEED: THE CARDS: each row of YtdaghggdmgbpnaaDoorRows.lean that lists a variable, with what it lists TIED to the program's text (the seventh form; the later family's looks); each row that meets fmt, with fmt's text TOLD by the authors' own Lean function (tested against real Go, not proved from fmt's source: count such statements apart). THE CARD IS WHAT COUNTS. Prove the row's statement (the work); the ties are given (YtdaghggdmgbpnaaDoorTie.lean); close each card by the builder's one call (the guide's Derived/Test/ToyasCard.lean, 'card_holds'). Laid BY PROGRAM, IN A SANDBOX (cutbox-door.mjs). By AI agents, Wed Nov 11 2026. No macro, syntax, notation, axiom, sorry.
-/
import Derived.Test.YtdaghggdmgbpnaaDoorRows
import GoSem.ClaimSeven
namespace Go.Proofs.YtdaghggdmgbpnaaDoor
namespace Rows

/-- THE TIED CARD OF 'tocsinlaw07.WalBack'. -/
def walBackCard : Claim7 := { stood := { row := walBackRow, standIns := [], harness := (true, "4958d1aac80259a95da0e6c944a8f41bb58d649d5a464294d782f883a4467c48"), looks := false }, kinds := [], alts := [], laidByText := true, laidKinds := [.data], laidTests := true, laidLooks := .later }
def WalBackCardSaid : Prop := Claim7.holds Tryd.pinned (.plain (OpenSpec.ofChange walBackSpec)) walBackCard

/-- THE TIED CARD OF 'tocsinlaw07.WalCrash'. -/
def walCrashCard : Claim7 := { stood := { row := walCrashRow, standIns := [], harness := (true, "4958d1aac80259a95da0e6c944a8f41bb58d649d5a464294d782f883a4467c48"), looks := false }, kinds := [], alts := [], laidByText := true, laidKinds := [.data], laidTests := true, laidLooks := .later }
def WalCrashCardSaid : Prop := Claim7.holds Tryd.pinned (.plain (OpenSpec.ofChange walCrashSpec)) walCrashCard

/-- THE TIED CARD OF 'tocsinlaw07.WalChecked'. -/
def walCheckedCard : Claim7 := { stood := { row := walCheckedRow, standIns := [], harness := (true, "4958d1aac80259a95da0e6c944a8f41bb58d649d5a464294d782f883a4467c48"), looks := false }, kinds := [], alts := [], laidByText := true, laidKinds := [.data], laidTests := true, laidLooks := .later }
def WalCheckedCardSaid : Prop := Claim7.holds Tryd.pinned (.plain (OpenSpec.ofChange walCheckedSpec)) walCheckedCard

/-- THE TIED CARD OF 'tocsinlaw07.WalNil'. -/
def walNilCard : Claim7 := { stood := { row := walNilRow, standIns := [], harness := (true, "4958d1aac80259a95da0e6c944a8f41bb58d649d5a464294d782f883a4467c48"), looks := false }, kinds := [], alts := [], laidByText := true, laidKinds := [.data], laidTests := true, laidLooks := .later }
def WalNilCardSaid : Prop := Claim7.holds Tryd.pinned (.plain (OpenSpec.ofChange walNilSpec)) walNilCard

/-- THE SECOND FORM's CARD OF 'tocsinlaw07.WalBack'. -/
def walBackUptoCard : Claim7 := { stood := { row := walBackUptoRow, standIns := [], harness := (true, "4958d1aac80259a95da0e6c944a8f41bb58d649d5a464294d782f883a4467c48"), looks := false }, kinds := [], alts := [], laidByText := true, laidKinds := [.data], laidTests := true, laidLooks := .later }
def WalBackUptoCardSaid : Prop := Claim7.holds Tryd.pinned (.plain (OpenSpec.upto walBackSpec)) walBackUptoCard

/-- THE SECOND FORM's CARD OF 'tocsinlaw07.WalCrash'. -/
def walCrashUptoCard : Claim7 := { stood := { row := walCrashUptoRow, standIns := [], harness := (true, "4958d1aac80259a95da0e6c944a8f41bb58d649d5a464294d782f883a4467c48"), looks := false }, kinds := [], alts := [], laidByText := true, laidKinds := [.data], laidTests := true, laidLooks := .later }
def WalCrashUptoCardSaid : Prop := Claim7.holds Tryd.pinned (.plain (OpenSpec.upto walCrashSpec)) walCrashUptoCard

/-- THE SECOND FORM's CARD OF 'tocsinlaw07.WalChecked'. -/
def walCheckedUptoCard : Claim7 := { stood := { row := walCheckedUptoRow, standIns := [], harness := (true, "4958d1aac80259a95da0e6c944a8f41bb58d649d5a464294d782f883a4467c48"), looks := false }, kinds := [], alts := [], laidByText := true, laidKinds := [.data], laidTests := true, laidLooks := .later }
def WalCheckedUptoCardSaid : Prop := Claim7.holds Tryd.pinned (.plain (OpenSpec.upto walCheckedSpec)) walCheckedUptoCard

/-- THE SECOND FORM's CARD OF 'tocsinlaw07.WalNil'. -/
def walNilUptoCard : Claim7 := { stood := { row := walNilUptoRow, standIns := [], harness := (true, "4958d1aac80259a95da0e6c944a8f41bb58d649d5a464294d782f883a4467c48"), looks := false }, kinds := [], alts := [], laidByText := true, laidKinds := [.data], laidTests := true, laidLooks := .later }
def WalNilUptoCardSaid : Prop := Claim7.holds Tryd.pinned (.plain (OpenSpec.upto walNilSpec)) walNilUptoCard
end Rows
end Go.Proofs.YtdaghggdmgbpnaaDoor
