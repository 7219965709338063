/-
  DERIVED. GIVEN WITH THE SEED: THE CARDS: each row of YtmfgmcajelmgbaaGreatDoorRows.lean that lists a variable, with what it lists TIED to the program's text (the seventh form; the later family's looks); each row that meets fmt, with fmt's text TOLD by the authors' own Lean function (tested against real Go, not proved from fmt's source: count such statements apart). THE CARD IS WHAT COUNTS. Prove the row's statement (the work); the ties are given (YtmfgmcajelmgbaaGreatDoorTie.lean); close each card by the builder's one call (the guide's Derived/Test/ToyasCard.lean, 'card_holds'). Laid BY PROGRAM, IN A SANDBOX (cutbox-door.mjs). By AI agents, Wed Nov 11 2026. No macro, syntax, notation, axiom, sorry.
-/
import Derived.Test.YtmfgmcajelmgbaaGreatDoorRows
import GoSem.ClaimSeven
namespace Go.Proofs.YtmfgmcajelmgbaaGreatDoor
namespace Rows

/-- THE TIED CARD OF 'tocsinlaw10.BlockOpens'. -/
def blockOpensCard : Claim7 := { stood := { row := blockOpensRow, standIns := [], harness := (true, "fa18a3a572505f053456d8a7928328f1a80e028e76f188ef4615a6d80e8f7ae2"), looks := false }, kinds := [], alts := [], laidByText := true, laidKinds := [.data, .data, .data, .pinned], laidTests := true, laidLooks := .later }
def BlockOpensCardSaid : Prop := Claim7.holds Tryz.pinned (.plain (OpenSpec.ofChange blockOpensSpec)) blockOpensCard

/-- THE TIED CARD OF 'tocsinlaw10.BlockAsked'. -/
def blockAskedCard : Claim7 := { stood := { row := blockAskedRow, standIns := [], harness := (true, "fa18a3a572505f053456d8a7928328f1a80e028e76f188ef4615a6d80e8f7ae2"), looks := false }, kinds := [], alts := [], laidByText := true, laidKinds := [.data, .data, .data, .pinned], laidTests := true, laidLooks := .later }
def BlockAskedCardSaid : Prop := Claim7.holds Tryz.pinned (.plain (OpenSpec.ofChange blockAskedSpec)) blockAskedCard

/-- THE TIED CARD OF 'tocsinlaw10.BlockBuilds'. -/
def blockBuildsCard : Claim7 := { stood := { row := blockBuildsRow, standIns := [], harness := (true, "fa18a3a572505f053456d8a7928328f1a80e028e76f188ef4615a6d80e8f7ae2"), looks := false }, kinds := [], alts := [], laidByText := true, laidKinds := [.data, .data, .data, .pinned], laidTests := true, laidLooks := .later }
def BlockBuildsCardSaid : Prop := Claim7.holds Tryz.pinned (.plain (OpenSpec.ofChange blockBuildsSpec)) blockBuildsCard

/-- THE TIED CARD OF 'tocsinlaw10.BlockTurned'. -/
def blockTurnedCard : Claim7 := { stood := { row := blockTurnedRow, standIns := [], harness := (true, "fa18a3a572505f053456d8a7928328f1a80e028e76f188ef4615a6d80e8f7ae2"), looks := false }, kinds := [], alts := [], laidByText := true, laidKinds := [.data, .data, .data, .pinned], laidTests := true, laidLooks := .later }
def BlockTurnedCardSaid : Prop := Claim7.holds Tryz.pinned (.plain (OpenSpec.ofChange blockTurnedSpec)) blockTurnedCard

/-- THE TIED CARD OF 'tocsinlaw10.BlockBack'. -/
def blockBackCard : Claim7 := { stood := { row := blockBackRow, standIns := [], harness := (true, "fa18a3a572505f053456d8a7928328f1a80e028e76f188ef4615a6d80e8f7ae2"), looks := false }, kinds := [], alts := [], laidByText := true, laidKinds := [.data, .data, .data, .pinned], laidTests := true, laidLooks := .later }
def BlockBackCardSaid : Prop := Claim7.holds Tryz.pinned (.plain (OpenSpec.ofChange blockBackSpec)) blockBackCard

/-- THE TIED CARD OF 'tocsinlaw10.BlockTrims'. -/
def blockTrimsCard : Claim7 := { stood := { row := blockTrimsRow, standIns := [], harness := (true, "fa18a3a572505f053456d8a7928328f1a80e028e76f188ef4615a6d80e8f7ae2"), looks := false }, kinds := [], alts := [], laidByText := true, laidKinds := [.data, .data, .data, .pinned], laidTests := true, laidLooks := .later }
def BlockTrimsCardSaid : Prop := Claim7.holds Tryz.pinned (.plain (OpenSpec.ofChange blockTrimsSpec)) blockTrimsCard

/-- THE TIED CARD OF 'tocsinlaw10.BlockMerges'. -/
def blockMergesCard : Claim7 := { stood := { row := blockMergesRow, standIns := [], harness := (true, "fa18a3a572505f053456d8a7928328f1a80e028e76f188ef4615a6d80e8f7ae2"), looks := false }, kinds := [], alts := [], laidByText := true, laidKinds := [.data, .data, .data, .pinned], laidTests := true, laidLooks := .later }
def BlockMergesCardSaid : Prop := Claim7.holds Tryz.pinned (.plain (OpenSpec.ofChange blockMergesSpec)) blockMergesCard

/-- THE TIED CARD OF 'tocsinlaw10.BlockParts'. -/
def blockPartsCard : Claim7 := { stood := { row := blockPartsRow, standIns := [], harness := (true, "fa18a3a572505f053456d8a7928328f1a80e028e76f188ef4615a6d80e8f7ae2"), looks := false }, kinds := [], alts := [], laidByText := true, laidKinds := [.data, .data, .data, .pinned], laidTests := true, laidLooks := .later }
def BlockPartsCardSaid : Prop := Claim7.holds Tryz.pinned (.plain (OpenSpec.ofChange blockPartsSpec)) blockPartsCard

/-- THE SECOND FORM's CARD OF 'tocsinlaw10.BlockOpens'. -/
def blockOpensUptoCard : Claim7 := { stood := { row := blockOpensUptoRow, standIns := [], harness := (true, "fa18a3a572505f053456d8a7928328f1a80e028e76f188ef4615a6d80e8f7ae2"), looks := false }, kinds := [], alts := [], laidByText := true, laidKinds := [.data, .data, .data, .pinned], laidTests := true, laidLooks := .later }
def BlockOpensUptoCardSaid : Prop := Claim7.holds Tryz.pinned (.plain (OpenSpec.upto blockOpensSpec)) blockOpensUptoCard

/-- THE SECOND FORM's CARD OF 'tocsinlaw10.BlockAsked'. -/
def blockAskedUptoCard : Claim7 := { stood := { row := blockAskedUptoRow, standIns := [], harness := (true, "fa18a3a572505f053456d8a7928328f1a80e028e76f188ef4615a6d80e8f7ae2"), looks := false }, kinds := [], alts := [], laidByText := true, laidKinds := [.data, .data, .data, .pinned], laidTests := true, laidLooks := .later }
def BlockAskedUptoCardSaid : Prop := Claim7.holds Tryz.pinned (.plain (OpenSpec.upto blockAskedSpec)) blockAskedUptoCard

/-- THE SECOND FORM's CARD OF 'tocsinlaw10.BlockBuilds'. -/
def blockBuildsUptoCard : Claim7 := { stood := { row := blockBuildsUptoRow, standIns := [], harness := (true, "fa18a3a572505f053456d8a7928328f1a80e028e76f188ef4615a6d80e8f7ae2"), looks := false }, kinds := [], alts := [], laidByText := true, laidKinds := [.data, .data, .data, .pinned], laidTests := true, laidLooks := .later }
def BlockBuildsUptoCardSaid : Prop := Claim7.holds Tryz.pinned (.plain (OpenSpec.upto blockBuildsSpec)) blockBuildsUptoCard

/-- THE SECOND FORM's CARD OF 'tocsinlaw10.BlockTurned'. -/
def blockTurnedUptoCard : Claim7 := { stood := { row := blockTurnedUptoRow, standIns := [], harness := (true, "fa18a3a572505f053456d8a7928328f1a80e028e76f188ef4615a6d80e8f7ae2"), looks := false }, kinds := [], alts := [], laidByText := true, laidKinds := [.data, .data, .data, .pinned], laidTests := true, laidLooks := .later }
def BlockTurnedUptoCardSaid : Prop := Claim7.holds Tryz.pinned (.plain (OpenSpec.upto blockTurnedSpec)) blockTurnedUptoCard

/-- THE SECOND FORM's CARD OF 'tocsinlaw10.BlockBack'. -/
def blockBackUptoCard : Claim7 := { stood := { row := blockBackUptoRow, standIns := [], harness := (true, "fa18a3a572505f053456d8a7928328f1a80e028e76f188ef4615a6d80e8f7ae2"), looks := false }, kinds := [], alts := [], laidByText := true, laidKinds := [.data, .data, .data, .pinned], laidTests := true, laidLooks := .later }
def BlockBackUptoCardSaid : Prop := Claim7.holds Tryz.pinned (.plain (OpenSpec.upto blockBackSpec)) blockBackUptoCard

/-- THE SECOND FORM's CARD OF 'tocsinlaw10.BlockTrims'. -/
def blockTrimsUptoCard : Claim7 := { stood := { row := blockTrimsUptoRow, standIns := [], harness := (true, "fa18a3a572505f053456d8a7928328f1a80e028e76f188ef4615a6d80e8f7ae2"), looks := false }, kinds := [], alts := [], laidByText := true, laidKinds := [.data, .data, .data, .pinned], laidTests := true, laidLooks := .later }
def BlockTrimsUptoCardSaid : Prop := Claim7.holds Tryz.pinned (.plain (OpenSpec.upto blockTrimsSpec)) blockTrimsUptoCard

/-- THE SECOND FORM's CARD OF 'tocsinlaw10.BlockMerges'. -/
def blockMergesUptoCard : Claim7 := { stood := { row := blockMergesUptoRow, standIns := [], harness := (true, "fa18a3a572505f053456d8a7928328f1a80e028e76f188ef4615a6d80e8f7ae2"), looks := false }, kinds := [], alts := [], laidByText := true, laidKinds := [.data, .data, .data, .pinned], laidTests := true, laidLooks := .later }
def BlockMergesUptoCardSaid : Prop := Claim7.holds Tryz.pinned (.plain (OpenSpec.upto blockMergesSpec)) blockMergesUptoCard

/-- THE SECOND FORM's CARD OF 'tocsinlaw10.BlockParts'. -/
def blockPartsUptoCard : Claim7 := { stood := { row := blockPartsUptoRow, standIns := [], harness := (true, "fa18a3a572505f053456d8a7928328f1a80e028e76f188ef4615a6d80e8f7ae2"), looks := false }, kinds := [], alts := [], laidByText := true, laidKinds := [.data, .data, .data, .pinned], laidTests := true, laidLooks := .later }
def BlockPartsUptoCardSaid : Prop := Claim7.holds Tryz.pinned (.plain (OpenSpec.upto blockPartsSpec)) blockPartsUptoCard
end Rows
end Go.Proofs.YtmfgmcajelmgbaaGreatDoor
