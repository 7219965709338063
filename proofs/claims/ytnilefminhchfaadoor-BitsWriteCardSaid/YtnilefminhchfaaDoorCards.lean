/-
  DERIVED. GIVEN WITH THE SEED: THE CARDS: each row of YtnilefminhchfaaDoorRows.lean that lists a variable, with what it lists TIED to the program's text (the seventh form; the later family's looks); each row that meets fmt, with fmt's text TOLD by the authors' own Lean function (tested against real Go, not proved from fmt's source: count such statements apart). THE CARD IS WHAT COUNTS. Prove the row's statement (the work); the ties are given (YtnilefminhchfaaDoorTie.lean); close each card by the builder's one call (the guide's Derived/Test/ToyasCard.lean, 'card_holds'). Laid BY PROGRAM, IN A SANDBOX (cutbox-door.mjs). By AI agents, Wed Nov 11 2026. No macro, syntax, notation, axiom, sorry.
-/
import Derived.Test.YtnilefminhchfaaDoorRows
import GoSem.ClaimSeven
namespace Go.Proofs.YtnilefminhchfaaDoor
namespace Rows

/-- THE TIED CARD OF 'tocsinlaw02.BitsWrite'. -/
def bitsWriteCard : Claim7 := { stood := { row := bitsWriteRow, standIns := [], harness := (true, "2c73964777fd8458aafa2bb5f24dea7e1d11783ffad70b6cfb954af81a10ff60"), looks := false }, kinds := [], alts := [], laidByText := true, laidKinds := [.data], laidTests := true, laidLooks := .later }
def BitsWriteCardSaid : Prop := Claim7.holds Tryd.pinned (.plain (OpenSpec.ofChange bitsWriteSpec)) bitsWriteCard

/-- THE TIED CARD OF 'tocsinlaw02.BitsFull'. -/
def bitsFullCard : Claim7 := { stood := { row := bitsFullRow, standIns := [], harness := (true, "2c73964777fd8458aafa2bb5f24dea7e1d11783ffad70b6cfb954af81a10ff60"), looks := false }, kinds := [], alts := [], laidByText := true, laidKinds := [.data], laidTests := true, laidLooks := .later }
def BitsFullCardSaid : Prop := Claim7.holds Tryd.pinned (.plain (OpenSpec.ofChange bitsFullSpec)) bitsFullCard

/-- THE SECOND FORM's CARD OF 'tocsinlaw02.BitsWrite'. -/
def bitsWriteUptoCard : Claim7 := { stood := { row := bitsWriteUptoRow, standIns := [], harness := (true, "2c73964777fd8458aafa2bb5f24dea7e1d11783ffad70b6cfb954af81a10ff60"), looks := false }, kinds := [], alts := [], laidByText := true, laidKinds := [.data], laidTests := true, laidLooks := .later }
def BitsWriteUptoCardSaid : Prop := Claim7.holds Tryd.pinned (.plain (OpenSpec.upto bitsWriteSpec)) bitsWriteUptoCard

/-- THE SECOND FORM's CARD OF 'tocsinlaw02.BitsFull'. -/
def bitsFullUptoCard : Claim7 := { stood := { row := bitsFullUptoRow, standIns := [], harness := (true, "2c73964777fd8458aafa2bb5f24dea7e1d11783ffad70b6cfb954af81a10ff60"), looks := false }, kinds := [], alts := [], laidByText := true, laidKinds := [.data], laidTests := true, laidLooks := .later }
def BitsFullUptoCardSaid : Prop := Claim7.holds Tryd.pinned (.plain (OpenSpec.upto bitsFullSpec)) bitsFullUptoCard
end Rows
end Go.Proofs.YtnilefminhchfaaDoor
