/-
  DERIVED. GIVEN WITH THE SEED: THE CARDS: each row of YtpgpdeojggcibaaDoorRows.lean that lists a variable, with what it lists TIED to the program's text (the seventh form; the later family's looks); each row that meets fmt, with fmt's text TOLD by the authors' own Lean function (tested against real Go, not proved from fmt's source: count such statements apart). THE CARD IS WHAT COUNTS. Prove the row's statement (the work); the ties are given (YtpgpdeojggcibaaDoorTie.lean); close each card by the builder's one call (the guide's Derived/Test/ToyasCard.lean, 'card_holds'). Laid BY PROGRAM, IN A SANDBOX (cutbox-door.mjs). By AI agents, Wed Nov 11 2026. No macro, syntax, notation, axiom, sorry.
-/
import Derived.Test.YtpgpdeojggcibaaDoorRows
import GoSem.ClaimSeven
namespace Go.Proofs.YtpgpdeojggcibaaDoor
namespace Rows

/-- THE TIED CARD OF 'tocsinlaw01.VintSums'. -/
def vintSumsCard : Claim7 := { stood := { row := vintSumsRow, standIns := [], harness := (true, "e4c6e1a27762c784c3b1ef61bd7b1453c23d1d41f9865060729e677055349209"), looks := false }, kinds := [], alts := [], laidByText := true, laidKinds := [.data], laidTests := true, laidLooks := .later }
def VintSumsCardSaid : Prop := Claim7.holds Tryd.pinned (.plain (OpenSpec.ofChange vintSumsSpec)) vintSumsCard

/-- THE TIED CARD OF 'tocsinlaw01.VintNumbers'. -/
def vintNumbersCard : Claim7 := { stood := { row := vintNumbersRow, standIns := [], harness := (true, "e4c6e1a27762c784c3b1ef61bd7b1453c23d1d41f9865060729e677055349209"), looks := false }, kinds := [], alts := [], laidByText := true, laidKinds := [.data], laidTests := true, laidLooks := .later }
def VintNumbersCardSaid : Prop := Claim7.holds Tryd.pinned (.plain (OpenSpec.ofChange vintNumbersSpec)) vintNumbersCard

/-- THE TIED CARD OF 'tocsinlaw01.VintFrames'. -/
def vintFramesCard : Claim7 := { stood := { row := vintFramesRow, standIns := [], harness := (true, "e4c6e1a27762c784c3b1ef61bd7b1453c23d1d41f9865060729e677055349209"), looks := false }, kinds := [], alts := [], laidByText := true, laidKinds := [.data], laidTests := true, laidLooks := .later }
def VintFramesCardSaid : Prop := Claim7.holds Tryd.pinned (.plain (OpenSpec.ofChange vintFramesSpec)) vintFramesCard

/-- THE TIED CARD OF 'tocsinlaw01.VintTorn'. -/
def vintTornCard : Claim7 := { stood := { row := vintTornRow, standIns := [], harness := (true, "e4c6e1a27762c784c3b1ef61bd7b1453c23d1d41f9865060729e677055349209"), looks := false }, kinds := [], alts := [], laidByText := true, laidKinds := [.data], laidTests := true, laidLooks := .later }
def VintTornCardSaid : Prop := Claim7.holds Tryd.pinned (.plain (OpenSpec.ofChange vintTornSpec)) vintTornCard

/-- THE TIED CARD OF 'tocsinlaw01.VintTexts'. -/
def vintTextsCard : Claim7 := { stood := { row := vintTextsRow, standIns := [], harness := (true, "e4c6e1a27762c784c3b1ef61bd7b1453c23d1d41f9865060729e677055349209"), looks := false }, kinds := [], alts := [], laidByText := true, laidKinds := [.data, .data, .pinned], laidTests := true, laidLooks := .later }
def VintTextsCardSaid : Prop := Claim7.holds Tryd.pinned (.plain (OpenSpec.ofChange vintTextsSpec)) vintTextsCard

/-- THE TIED CARD OF 'tocsinlaw01.VintBack'. -/
def vintBackCard : Claim7 := { stood := { row := vintBackRow, standIns := [], harness := (true, "e4c6e1a27762c784c3b1ef61bd7b1453c23d1d41f9865060729e677055349209"), looks := false }, kinds := [], alts := [], laidByText := true, laidKinds := [.data, .data, .pinned], laidTests := true, laidLooks := .later }
def VintBackCardSaid : Prop := Claim7.holds Tryd.pinned (.plain (OpenSpec.ofChange vintBackSpec)) vintBackCard

/-- THE SECOND FORM's CARD OF 'tocsinlaw01.VintSums'. -/
def vintSumsUptoCard : Claim7 := { stood := { row := vintSumsUptoRow, standIns := [], harness := (true, "e4c6e1a27762c784c3b1ef61bd7b1453c23d1d41f9865060729e677055349209"), looks := false }, kinds := [], alts := [], laidByText := true, laidKinds := [.data], laidTests := true, laidLooks := .later }
def VintSumsUptoCardSaid : Prop := Claim7.holds Tryd.pinned (.plain (OpenSpec.upto vintSumsSpec)) vintSumsUptoCard

/-- THE SECOND FORM's CARD OF 'tocsinlaw01.VintNumbers'. -/
def vintNumbersUptoCard : Claim7 := { stood := { row := vintNumbersUptoRow, standIns := [], harness := (true, "e4c6e1a27762c784c3b1ef61bd7b1453c23d1d41f9865060729e677055349209"), looks := false }, kinds := [], alts := [], laidByText := true, laidKinds := [.data], laidTests := true, laidLooks := .later }
def VintNumbersUptoCardSaid : Prop := Claim7.holds Tryd.pinned (.plain (OpenSpec.upto vintNumbersSpec)) vintNumbersUptoCard

/-- THE SECOND FORM's CARD OF 'tocsinlaw01.VintFrames'. -/
def vintFramesUptoCard : Claim7 := { stood := { row := vintFramesUptoRow, standIns := [], harness := (true, "e4c6e1a27762c784c3b1ef61bd7b1453c23d1d41f9865060729e677055349209"), looks := false }, kinds := [], alts := [], laidByText := true, laidKinds := [.data], laidTests := true, laidLooks := .later }
def VintFramesUptoCardSaid : Prop := Claim7.holds Tryd.pinned (.plain (OpenSpec.upto vintFramesSpec)) vintFramesUptoCard

/-- THE SECOND FORM's CARD OF 'tocsinlaw01.VintTorn'. -/
def vintTornUptoCard : Claim7 := { stood := { row := vintTornUptoRow, standIns := [], harness := (true, "e4c6e1a27762c784c3b1ef61bd7b1453c23d1d41f9865060729e677055349209"), looks := false }, kinds := [], alts := [], laidByText := true, laidKinds := [.data], laidTests := true, laidLooks := .later }
def VintTornUptoCardSaid : Prop := Claim7.holds Tryd.pinned (.plain (OpenSpec.upto vintTornSpec)) vintTornUptoCard

/-- THE SECOND FORM's CARD OF 'tocsinlaw01.VintTexts'. -/
def vintTextsUptoCard : Claim7 := { stood := { row := vintTextsUptoRow, standIns := [], harness := (true, "e4c6e1a27762c784c3b1ef61bd7b1453c23d1d41f9865060729e677055349209"), looks := false }, kinds := [], alts := [], laidByText := true, laidKinds := [.data, .data, .pinned], laidTests := true, laidLooks := .later }
def VintTextsUptoCardSaid : Prop := Claim7.holds Tryd.pinned (.plain (OpenSpec.upto vintTextsSpec)) vintTextsUptoCard

/-- THE SECOND FORM's CARD OF 'tocsinlaw01.VintBack'. -/
def vintBackUptoCard : Claim7 := { stood := { row := vintBackUptoRow, standIns := [], harness := (true, "e4c6e1a27762c784c3b1ef61bd7b1453c23d1d41f9865060729e677055349209"), looks := false }, kinds := [], alts := [], laidByText := true, laidKinds := [.data, .data, .pinned], laidTests := true, laidLooks := .later }
def VintBackUptoCardSaid : Prop := Claim7.holds Tryd.pinned (.plain (OpenSpec.upto vintBackSpec)) vintBackUptoCard
end Rows
end Go.Proofs.YtpgpdeojggcibaaDoor
