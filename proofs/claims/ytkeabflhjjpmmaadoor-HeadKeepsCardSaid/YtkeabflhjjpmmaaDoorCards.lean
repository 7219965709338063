/-
  DERIVED. GIVEN WITH THE SEED: THE CARDS: each row of YtkeabflhjjpmmaaDoorRows.lean that lists a variable, with what it lists TIED to the program's text (the seventh form; the later family's looks); each row that meets fmt, with fmt's text TOLD by the authors' own Lean function (tested against real Go, not proved from fmt's source: count such statements apart). THE CARD IS WHAT COUNTS. Prove the row's statement (the work); the ties are given (YtkeabflhjjpmmaaDoorTie.lean); close each card by the builder's one call (the guide's Derived/Test/ToyasCard.lean, 'card_holds'). Laid BY PROGRAM, IN A SANDBOX (cutbox-door.mjs). By AI agents, Wed Nov 11 2026. No macro, syntax, notation, axiom, sorry.
-/
import Derived.Test.YtkeabflhjjpmmaaDoorRows
import GoSem.ClaimSeven
namespace Go.Proofs.YtkeabflhjjpmmaaDoor
namespace Rows

/-- THE TIED CARD OF 'tocsinlaw09.HeadKeeps'. -/
def headKeepsCard : Claim7 := { stood := { row := headKeepsRow, standIns := [], harness := (true, "1b238ae792591d2441dba535e6e3ca302cadad4f4ef949fcee919217b27b465c"), looks := false }, kinds := [], alts := [], laidByText := true, laidKinds := [.data, .pinned], laidTests := true, laidLooks := .later }
def HeadKeepsCardSaid : Prop := Claim7.holds Tryd.pinned (.plain (OpenSpec.ofChange headKeepsSpec)) headKeepsCard

/-- THE SECOND FORM's CARD OF 'tocsinlaw09.HeadKeeps'. -/
def headKeepsUptoCard : Claim7 := { stood := { row := headKeepsUptoRow, standIns := [], harness := (true, "1b238ae792591d2441dba535e6e3ca302cadad4f4ef949fcee919217b27b465c"), looks := false }, kinds := [], alts := [], laidByText := true, laidKinds := [.data, .pinned], laidTests := true, laidLooks := .later }
def HeadKeepsUptoCardSaid : Prop := Claim7.holds Tryd.pinned (.plain (OpenSpec.upto headKeepsSpec)) headKeepsUptoCard
end Rows
end Go.Proofs.YtkeabflhjjpmmaaDoor
