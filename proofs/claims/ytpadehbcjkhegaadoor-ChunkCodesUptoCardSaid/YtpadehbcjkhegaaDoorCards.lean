/-
  DERIVED. GIVEN WITH THE SEED: THE CARDS: each row of YtpadehbcjkhegaaDoorRows.lean that lists a variable, with what it lists TIED to the program's text (the seventh form; the later family's looks); each row that meets fmt, with fmt's text TOLD by the authors' own Lean function (tested against real Go, not proved from fmt's source: count such statements apart). THE CARD IS WHAT COUNTS. Prove the row's statement (the work); the ties are given (YtpadehbcjkhegaaDoorTie.lean); close each card by the builder's one call (the guide's Derived/Test/ToyasCard.lean, 'card_holds'). Laid BY PROGRAM, IN A SANDBOX (cutbox-door.mjs). By AI agents, Wed Nov 11 2026. No macro, syntax, notation, axiom, sorry.
-/
import Derived.Test.YtpadehbcjkhegaaDoorRows
import GoSem.ClaimSeven
namespace Go.Proofs.YtpadehbcjkhegaaDoor
namespace Rows

/-- THE TIED CARD OF 'tocsinlaw08.ChunkFew'. -/
def chunkFewCard : Claim7 := { stood := { row := chunkFewRow, standIns := [], harness := (true, "387e87b8ca8ee5ced76969b89b99a72ae438628c2cfa9e172fa4735f56d52e7b"), looks := false }, kinds := [], alts := [], laidByText := true, laidKinds := [.data], laidTests := true, laidLooks := .later }
def ChunkFewCardSaid : Prop := Claim7.holds Tryd.pinned (.plain (OpenSpec.ofChange chunkFewSpec)) chunkFewCard

/-- THE TIED CARD OF 'tocsinlaw08.ChunkAppends'. -/
def chunkAppendsCard : Claim7 := { stood := { row := chunkAppendsRow, standIns := [], harness := (true, "387e87b8ca8ee5ced76969b89b99a72ae438628c2cfa9e172fa4735f56d52e7b"), looks := false }, kinds := [], alts := [], laidByText := true, laidKinds := [.data], laidTests := true, laidLooks := .later }
def ChunkAppendsCardSaid : Prop := Claim7.holds Tryd.pinned (.plain (OpenSpec.ofChange chunkAppendsSpec)) chunkAppendsCard

/-- THE TIED CARD OF 'tocsinlaw08.ChunkNil'. -/
def chunkNilCard : Claim7 := { stood := { row := chunkNilRow, standIns := [], harness := (true, "387e87b8ca8ee5ced76969b89b99a72ae438628c2cfa9e172fa4735f56d52e7b"), looks := false }, kinds := [], alts := [], laidByText := true, laidKinds := [.data], laidTests := true, laidLooks := .later }
def ChunkNilCardSaid : Prop := Claim7.holds Tryd.pinned (.plain (OpenSpec.ofChange chunkNilSpec)) chunkNilCard

/-- THE TIED CARD OF 'tocsinlaw08.ChunkCut'. -/
def chunkCutCard : Claim7 := { stood := { row := chunkCutRow, standIns := [], harness := (true, "387e87b8ca8ee5ced76969b89b99a72ae438628c2cfa9e172fa4735f56d52e7b"), looks := false }, kinds := [], alts := [], laidByText := true, laidKinds := [.data], laidTests := true, laidLooks := .later }
def ChunkCutCardSaid : Prop := Claim7.holds Tryd.pinned (.plain (OpenSpec.ofChange chunkCutSpec)) chunkCutCard

/-- THE TIED CARD OF 'tocsinlaw08.ChunkCodes'. -/
def chunkCodesCard : Claim7 := { stood := { row := chunkCodesRow, standIns := [], harness := (true, "387e87b8ca8ee5ced76969b89b99a72ae438628c2cfa9e172fa4735f56d52e7b"), looks := false }, kinds := [], alts := [], laidByText := true, laidKinds := [.data], laidTests := true, laidLooks := .later }
def ChunkCodesCardSaid : Prop := Claim7.holds Tryd.pinned (.plain (OpenSpec.ofChange chunkCodesSpec)) chunkCodesCard

/-- THE TIED CARD OF 'tocsinlaw08.ChunkPieces'. -/
def chunkPiecesCard : Claim7 := { stood := { row := chunkPiecesRow, standIns := [], harness := (true, "387e87b8ca8ee5ced76969b89b99a72ae438628c2cfa9e172fa4735f56d52e7b"), looks := false }, kinds := [], alts := [], laidByText := true, laidKinds := [.data], laidTests := true, laidLooks := .later }
def ChunkPiecesCardSaid : Prop := Claim7.holds Tryd.pinned (.plain (OpenSpec.ofChange chunkPiecesSpec)) chunkPiecesCard

/-- THE TIED CARD OF 'tocsinlaw08.ChunkBack'. -/
def chunkBackCard : Claim7 := { stood := { row := chunkBackRow, standIns := [], harness := (true, "387e87b8ca8ee5ced76969b89b99a72ae438628c2cfa9e172fa4735f56d52e7b"), looks := false }, kinds := [], alts := [], laidByText := true, laidKinds := [.data], laidTests := true, laidLooks := .later }
def ChunkBackCardSaid : Prop := Claim7.holds Tryd.pinned (.plain (OpenSpec.ofChange chunkBackSpec)) chunkBackCard

/-- THE SECOND FORM's CARD OF 'tocsinlaw08.ChunkFew'. -/
def chunkFewUptoCard : Claim7 := { stood := { row := chunkFewUptoRow, standIns := [], harness := (true, "387e87b8ca8ee5ced76969b89b99a72ae438628c2cfa9e172fa4735f56d52e7b"), looks := false }, kinds := [], alts := [], laidByText := true, laidKinds := [.data], laidTests := true, laidLooks := .later }
def ChunkFewUptoCardSaid : Prop := Claim7.holds Tryd.pinned (.plain (OpenSpec.upto chunkFewSpec)) chunkFewUptoCard

/-- THE SECOND FORM's CARD OF 'tocsinlaw08.ChunkAppends'. -/
def chunkAppendsUptoCard : Claim7 := { stood := { row := chunkAppendsUptoRow, standIns := [], harness := (true, "387e87b8ca8ee5ced76969b89b99a72ae438628c2cfa9e172fa4735f56d52e7b"), looks := false }, kinds := [], alts := [], laidByText := true, laidKinds := [.data], laidTests := true, laidLooks := .later }
def ChunkAppendsUptoCardSaid : Prop := Claim7.holds Tryd.pinned (.plain (OpenSpec.upto chunkAppendsSpec)) chunkAppendsUptoCard

/-- THE SECOND FORM's CARD OF 'tocsinlaw08.ChunkNil'. -/
def chunkNilUptoCard : Claim7 := { stood := { row := chunkNilUptoRow, standIns := [], harness := (true, "387e87b8ca8ee5ced76969b89b99a72ae438628c2cfa9e172fa4735f56d52e7b"), looks := false }, kinds := [], alts := [], laidByText := true, laidKinds := [.data], laidTests := true, laidLooks := .later }
def ChunkNilUptoCardSaid : Prop := Claim7.holds Tryd.pinned (.plain (OpenSpec.upto chunkNilSpec)) chunkNilUptoCard

/-- THE SECOND FORM's CARD OF 'tocsinlaw08.ChunkCut'. -/
def chunkCutUptoCard : Claim7 := { stood := { row := chunkCutUptoRow, standIns := [], harness := (true, "387e87b8ca8ee5ced76969b89b99a72ae438628c2cfa9e172fa4735f56d52e7b"), looks := false }, kinds := [], alts := [], laidByText := true, laidKinds := [.data], laidTests := true, laidLooks := .later }
def ChunkCutUptoCardSaid : Prop := Claim7.holds Tryd.pinned (.plain (OpenSpec.upto chunkCutSpec)) chunkCutUptoCard

/-- THE SECOND FORM's CARD OF 'tocsinlaw08.ChunkCodes'. -/
def chunkCodesUptoCard : Claim7 := { stood := { row := chunkCodesUptoRow, standIns := [], harness := (true, "387e87b8ca8ee5ced76969b89b99a72ae438628c2cfa9e172fa4735f56d52e7b"), looks := false }, kinds := [], alts := [], laidByText := true, laidKinds := [.data], laidTests := true, laidLooks := .later }
def ChunkCodesUptoCardSaid : Prop := Claim7.holds Tryd.pinned (.plain (OpenSpec.upto chunkCodesSpec)) chunkCodesUptoCard

/-- THE SECOND FORM's CARD OF 'tocsinlaw08.ChunkPieces'. -/
def chunkPiecesUptoCard : Claim7 := { stood := { row := chunkPiecesUptoRow, standIns := [], harness := (true, "387e87b8ca8ee5ced76969b89b99a72ae438628c2cfa9e172fa4735f56d52e7b"), looks := false }, kinds := [], alts := [], laidByText := true, laidKinds := [.data], laidTests := true, laidLooks := .later }
def ChunkPiecesUptoCardSaid : Prop := Claim7.holds Tryd.pinned (.plain (OpenSpec.upto chunkPiecesSpec)) chunkPiecesUptoCard

/-- THE SECOND FORM's CARD OF 'tocsinlaw08.ChunkBack'. -/
def chunkBackUptoCard : Claim7 := { stood := { row := chunkBackUptoRow, standIns := [], harness := (true, "387e87b8ca8ee5ced76969b89b99a72ae438628c2cfa9e172fa4735f56d52e7b"), looks := false }, kinds := [], alts := [], laidByText := true, laidKinds := [.data], laidTests := true, laidLooks := .later }
def ChunkBackUptoCardSaid : Prop := Claim7.holds Tryd.pinned (.plain (OpenSpec.upto chunkBackSpec)) chunkBackUptoCard
end Rows
end Go.Proofs.YtpadehbcjkhegaaDoor
