/-
  NARROWER THAN 'FOR EVERY INPUT', by the rows' own cells (each row's printed sentence says how): ChunkFew: laid · ChunkAppends: laid · ChunkNil: laid · ChunkCut: laid · ChunkCodes: laid · ChunkPieces: laid · ChunkBack: laid.
  DERIVED. THE GIVEN ROWS OF THIS SEAT. 7 by the template 'for every input the law returns true; each argument reads behind the call as it read before'; 0 by the template 'total and deterministic' (their statements: YtpadehbcjkhegaaDoorTotals.lean).
  GIVEN WITH THE SEED: the statements are not yours to turn. If you find one false, say at which input.
  Laid BY PROGRAM, IN A SANDBOX (cutbox-rows.mjs): the forced cells as the released guide's own fill.sh prints them over the translation 5aec73cfc65c2e77… (all of the seat's roots in one cut). By AI agents, Wed Nov 11 2026. No macro, syntax, notation, axiom, sorry.
-/
import Derived.Test.YtpadehbcjkhegaaDoorChecked
import GoSem.Claim
import GoSem.ClaimJoined
import GoSem.ClaimMapViews
import Derived.JoinedTies
import Derived.KernelRfl
namespace Go.Proofs.YtpadehbcjkhegaaDoor
/- THE CELL 'sum', in the pinned program and in every row, IS THE sha256 OF THE DUMP (.gsa) THAT YtpadehbcjkhegaaDoorProg.lean LOADS. Nothing in Lean hashes anything: it is a label: what it is worth is what the hold of that sum in a sandbox is worth. -/
noncomputable def Tryd.pinned : Pinned := { name := "ytpadehbcjkhegaadoor", sum := "5aec73cfc65c2e7772bee41f6ceb4efc260c50a3e80e19199cfc16454a56deca", checked := Tryd.checked }
namespace Rows
def none {H : Type} : Left H := { results := [], args := [] }

/- WHAT THE LISTED PACKAGE-LEVEL VARIABLES READ AS WHEN THE CALL BEGINS. Each datum BY PROGRAM (the guide's laid-datum.mjs) off the statement by which the dump's own 'gosem.cut.vars' lays the variable. In a bare row this is a premise. The card (YtpadehbcjkhegaaDoorCards.lean) ties it to the program's text. -/
def laid_math_bits_deBruijn64tab {H : Type} : DataW H := .agg [.lit (.int .u8 0), .lit (.int .u8 1), .lit (.int .u8 56), .lit (.int .u8 2), .lit (.int .u8 57), .lit (.int .u8 49), .lit (.int .u8 28), .lit (.int .u8 3), .lit (.int .u8 61), .lit (.int .u8 58), .lit (.int .u8 42), .lit (.int .u8 50), .lit (.int .u8 38), .lit (.int .u8 29), .lit (.int .u8 17), .lit (.int .u8 4), .lit (.int .u8 62), .lit (.int .u8 47), .lit (.int .u8 59), .lit (.int .u8 36), .lit (.int .u8 45), .lit (.int .u8 43), .lit (.int .u8 51), .lit (.int .u8 22), .lit (.int .u8 53), .lit (.int .u8 39), .lit (.int .u8 33), .lit (.int .u8 30), .lit (.int .u8 24), .lit (.int .u8 18), .lit (.int .u8 12), .lit (.int .u8 5), .lit (.int .u8 63), .lit (.int .u8 55), .lit (.int .u8 48), .lit (.int .u8 27), .lit (.int .u8 60), .lit (.int .u8 41), .lit (.int .u8 37), .lit (.int .u8 16), .lit (.int .u8 46), .lit (.int .u8 35), .lit (.int .u8 44), .lit (.int .u8 21), .lit (.int .u8 52), .lit (.int .u8 32), .lit (.int .u8 23), .lit (.int .u8 11), .lit (.int .u8 54), .lit (.int .u8 26), .lit (.int .u8 40), .lit (.int .u8 15), .lit (.int .u8 34), .lit (.int .u8 20), .lit (.int .u8 31), .lit (.int .u8 10), .lit (.int .u8 25), .lit (.int .u8 14), .lit (.int .u8 19), .lit (.int .u8 9), .lit (.int .u8 13), .lit (.int .u8 8), .lit (.int .u8 7), .lit (.int .u8 6)]

/-- 'tocsinlaw08.ChunkFew': WHATEVER THE INPUT: true; the input reads as it did. -/
def chunkFewSpec : ChangeSpec := { name := "chunkFew", fn := fun _ => fun
  | [d1, d2, d3, d4] => { results := [.lit (.bool true)], args := [d1, d2, d3, d4] }
  | _ => none }
def chunkFewRow : OpenClaim := { program := "ytpadehbcjkhegaadoor", sum := "5aec73cfc65c2e7772bee41f6ceb4efc260c50a3e80e19199cfc16454a56deca", func := "tocsin/tocsinlaw08.ChunkFew", spec := "chunkFew", inPlace := ["math.Float64bits"], named := ["math/bits.deBruijn64tab"], apart := false, laid := [("math/bits.deBruijn64tab", laid_math_bits_deBruijn64tab)] }
def ChunkFewSaid : Prop := chunkFewRow.holds Tryd.pinned (OpenSpec.ofChange chunkFewSpec)

/-- ITS FALSE NEIGHBOUR: 'it returns false'. Refute it at one input. -/
def chunkFewWrong : ChangeSpec := { name := "chunkFew", fn := fun _ => fun
  | [d1, d2, d3, d4] => { results := [.lit (.bool false)], args := [d1, d2, d3, d4] }
  | _ => none }
def ChunkFewWrongFalsely : Prop := chunkFewRow.holds Tryd.pinned (OpenSpec.ofChange chunkFewWrong)

/-- 'tocsinlaw08.ChunkAppends': WHATEVER THE INPUT: true; the input reads as it did. -/
def chunkAppendsSpec : ChangeSpec := { name := "chunkAppends", fn := fun _ => fun
  | [d] => { results := [.lit (.bool true)], args := [d] }
  | _ => none }
def chunkAppendsRow : OpenClaim := { program := "ytpadehbcjkhegaadoor", sum := "5aec73cfc65c2e7772bee41f6ceb4efc260c50a3e80e19199cfc16454a56deca", func := "tocsin/tocsinlaw08.ChunkAppends", spec := "chunkAppends", inPlace := ["math.Float64bits"], unfollowed := true, recurses := true, named := ["math/bits.deBruijn64tab"], apart := false, laid := [("math/bits.deBruijn64tab", laid_math_bits_deBruijn64tab)] }
def ChunkAppendsSaid : Prop := chunkAppendsRow.holds Tryd.pinned (OpenSpec.ofChange chunkAppendsSpec)

/-- ITS FALSE NEIGHBOUR: 'it returns false'. Refute it at one input. -/
def chunkAppendsWrong : ChangeSpec := { name := "chunkAppends", fn := fun _ => fun
  | [d] => { results := [.lit (.bool false)], args := [d] }
  | _ => none }
def ChunkAppendsWrongFalsely : Prop := chunkAppendsRow.holds Tryd.pinned (OpenSpec.ofChange chunkAppendsWrong)

/-- 'tocsinlaw08.ChunkNil': WHATEVER THE INPUT: true; the input reads as it did. -/
def chunkNilSpec : ChangeSpec := { name := "chunkNil", fn := fun _ => fun
  | [d1, d2] => { results := [.lit (.bool true)], args := [d1, d2] }
  | _ => none }
def chunkNilRow : OpenClaim := { program := "ytpadehbcjkhegaadoor", sum := "5aec73cfc65c2e7772bee41f6ceb4efc260c50a3e80e19199cfc16454a56deca", func := "tocsin/tocsinlaw08.ChunkNil", spec := "chunkNil", inPlace := ["math.Float64bits"], unfollowed := true, recurses := true, named := ["math/bits.deBruijn64tab"], apart := false, laid := [("math/bits.deBruijn64tab", laid_math_bits_deBruijn64tab)] }
def ChunkNilSaid : Prop := chunkNilRow.holds Tryd.pinned (OpenSpec.ofChange chunkNilSpec)

/-- ITS FALSE NEIGHBOUR: 'it returns false'. Refute it at one input. -/
def chunkNilWrong : ChangeSpec := { name := "chunkNil", fn := fun _ => fun
  | [d1, d2] => { results := [.lit (.bool false)], args := [d1, d2] }
  | _ => none }
def ChunkNilWrongFalsely : Prop := chunkNilRow.holds Tryd.pinned (OpenSpec.ofChange chunkNilWrong)

/-- 'tocsinlaw08.ChunkCut': WHATEVER THE INPUT: true; the input reads as it did. -/
def chunkCutSpec : ChangeSpec := { name := "chunkCut", fn := fun _ => fun
  | [d1, d2, d3] => { results := [.lit (.bool true)], args := [d1, d2, d3] }
  | _ => none }
def chunkCutRow : OpenClaim := { program := "ytpadehbcjkhegaadoor", sum := "5aec73cfc65c2e7772bee41f6ceb4efc260c50a3e80e19199cfc16454a56deca", func := "tocsin/tocsinlaw08.ChunkCut", spec := "chunkCut", inPlace := ["math.Float64bits", "math.Float64frombits"], named := ["math/bits.deBruijn64tab"], apart := false, laid := [("math/bits.deBruijn64tab", laid_math_bits_deBruijn64tab)] }
def ChunkCutSaid : Prop := chunkCutRow.holds Tryd.pinned (OpenSpec.ofChange chunkCutSpec)

/-- ITS FALSE NEIGHBOUR: 'it returns false'. Refute it at one input. -/
def chunkCutWrong : ChangeSpec := { name := "chunkCut", fn := fun _ => fun
  | [d1, d2, d3] => { results := [.lit (.bool false)], args := [d1, d2, d3] }
  | _ => none }
def ChunkCutWrongFalsely : Prop := chunkCutRow.holds Tryd.pinned (OpenSpec.ofChange chunkCutWrong)

/-- 'tocsinlaw08.ChunkCodes': WHATEVER THE INPUT: true; the input reads as it did. -/
def chunkCodesSpec : ChangeSpec := { name := "chunkCodes", fn := fun _ => fun
  | [d1, d2, d3, d4] => { results := [.lit (.bool true)], args := [d1, d2, d3, d4] }
  | _ => none }
def chunkCodesRow : OpenClaim := { program := "ytpadehbcjkhegaadoor", sum := "5aec73cfc65c2e7772bee41f6ceb4efc260c50a3e80e19199cfc16454a56deca", func := "tocsin/tocsinlaw08.ChunkCodes", spec := "chunkCodes", inPlace := ["math.Float64bits", "math.Float64frombits"], unfollowed := true, recurses := true, named := ["math/bits.deBruijn64tab"], apart := false, laid := [("math/bits.deBruijn64tab", laid_math_bits_deBruijn64tab)] }
def ChunkCodesSaid : Prop := chunkCodesRow.holds Tryd.pinned (OpenSpec.ofChange chunkCodesSpec)

/-- ITS FALSE NEIGHBOUR: 'it returns false'. Refute it at one input. -/
def chunkCodesWrong : ChangeSpec := { name := "chunkCodes", fn := fun _ => fun
  | [d1, d2, d3, d4] => { results := [.lit (.bool false)], args := [d1, d2, d3, d4] }
  | _ => none }
def ChunkCodesWrongFalsely : Prop := chunkCodesRow.holds Tryd.pinned (OpenSpec.ofChange chunkCodesWrong)

/-- 'tocsinlaw08.ChunkPieces': WHATEVER THE INPUT: true; the input reads as it did. -/
def chunkPiecesSpec : ChangeSpec := { name := "chunkPieces", fn := fun _ => fun
  | [d1, d2] => { results := [.lit (.bool true)], args := [d1, d2] }
  | _ => none }
def chunkPiecesRow : OpenClaim := { program := "ytpadehbcjkhegaadoor", sum := "5aec73cfc65c2e7772bee41f6ceb4efc260c50a3e80e19199cfc16454a56deca", func := "tocsin/tocsinlaw08.ChunkPieces", spec := "chunkPieces", inPlace := ["math.Float64bits", "math.Float64frombits"], named := ["math/bits.deBruijn64tab"], apart := false, laid := [("math/bits.deBruijn64tab", laid_math_bits_deBruijn64tab)] }
def ChunkPiecesSaid : Prop := chunkPiecesRow.holds Tryd.pinned (OpenSpec.ofChange chunkPiecesSpec)

/-- ITS FALSE NEIGHBOUR: 'it returns false'. Refute it at one input. -/
def chunkPiecesWrong : ChangeSpec := { name := "chunkPieces", fn := fun _ => fun
  | [d1, d2] => { results := [.lit (.bool false)], args := [d1, d2] }
  | _ => none }
def ChunkPiecesWrongFalsely : Prop := chunkPiecesRow.holds Tryd.pinned (OpenSpec.ofChange chunkPiecesWrong)

/-- 'tocsinlaw08.ChunkBack': WHATEVER THE INPUT: true; the input reads as it did. -/
def chunkBackSpec : ChangeSpec := { name := "chunkBack", fn := fun _ => fun
  | [d1, d2, d3] => { results := [.lit (.bool true)], args := [d1, d2, d3] }
  | _ => none }
def chunkBackRow : OpenClaim := { program := "ytpadehbcjkhegaadoor", sum := "5aec73cfc65c2e7772bee41f6ceb4efc260c50a3e80e19199cfc16454a56deca", func := "tocsin/tocsinlaw08.ChunkBack", spec := "chunkBack", inPlace := ["math.Float64bits", "math.Float64frombits"], named := ["math/bits.deBruijn64tab"], apart := false, laid := [("math/bits.deBruijn64tab", laid_math_bits_deBruijn64tab)] }
def ChunkBackSaid : Prop := chunkBackRow.holds Tryd.pinned (OpenSpec.ofChange chunkBackSpec)

/-- ITS FALSE NEIGHBOUR: 'it returns false'. Refute it at one input. -/
def chunkBackWrong : ChangeSpec := { name := "chunkBack", fn := fun _ => fun
  | [d1, d2, d3] => { results := [.lit (.bool false)], args := [d1, d2, d3] }
  | _ => none }
def ChunkBackWrongFalsely : Prop := chunkBackRow.holds Tryd.pinned (OpenSpec.ofChange chunkBackWrong)

/- THE SECOND FORM. 'bulk': how many values and letters a reading holds, each counted each time it is reached (what is shared counts as often as it is met; a slice's spare places count too). A statement '..UptoSaid' is the law's where the arguments, and the package variables that the reading takes, are together of bulk at most 1048576: NARROWER than '..Said'. Prove '..Said' where nothing that the law and all that it calls make is longer than what came in: it says more and counts as full. Else prove '..UptoSaid'. A law counts once. -/
mutual
def uptoBulk {H : Type} : DataW H → Nat
  | .lit (.string bytes) => bytes.length + 1
  | .lit _ => 1
  | .nil => 1
  | .ptr d => uptoBulk d + 1
  | .slice elems spare => uptoBulkAll elems + uptoBulkAll spare + 1
  | .agg parts => uptoBulkAll parts + 1
  | .iface _ d => uptoBulk d + 1
  | .map entries => uptoBulkEntries entries + 1
  | .held _ => 1
def uptoBulkAll {H : Type} : List (DataW H) → Nat
  | [] => 0
  | d :: r => uptoBulk d + uptoBulkAll r
def uptoBulkEntries {H : Type} : List (Lit × DataW H) → Nat
  | [] => 0
  | x :: r => uptoBulkEntry x + uptoBulkEntries r
def uptoBulkEntry {H : Type} : Lit × DataW H → Nat
  | (.string bytes, d) => bytes.length + uptoBulk d + 1
  | (_, d) => uptoBulk d + 1
 end
def uptoSmall : (H : Type) → List (DataW H) → Bool := fun _ ds => decide (uptoBulkAll ds ≤ 1048576)
def OpenSpec.upto (s : _root_.Go.ChangeSpec) : _root_.Go.OpenSpec := { _root_.Go.OpenSpec.ofChange s with cond := some uptoSmall }

/-- 'tocsinlaw08.ChunkFew', WHERE WHAT IT READS IS OF BULK AT MOST 1048576: true; the input reads as it did. -/
def chunkFewUptoRow : OpenClaim := { program := "ytpadehbcjkhegaadoor", sum := "5aec73cfc65c2e7772bee41f6ceb4efc260c50a3e80e19199cfc16454a56deca", func := "tocsin/tocsinlaw08.ChunkFew", spec := "chunkFew", inPlace := ["math.Float64bits"], named := ["math/bits.deBruijn64tab"], apart := false, laid := [("math/bits.deBruijn64tab", laid_math_bits_deBruijn64tab)], narrowed := true }
def ChunkFewUptoSaid : Prop := chunkFewUptoRow.holds Tryd.pinned (OpenSpec.upto chunkFewSpec)

/-- 'tocsinlaw08.ChunkAppends', WHERE WHAT IT READS IS OF BULK AT MOST 1048576: true; the input reads as it did. -/
def chunkAppendsUptoRow : OpenClaim := { program := "ytpadehbcjkhegaadoor", sum := "5aec73cfc65c2e7772bee41f6ceb4efc260c50a3e80e19199cfc16454a56deca", func := "tocsin/tocsinlaw08.ChunkAppends", spec := "chunkAppends", inPlace := ["math.Float64bits"], unfollowed := true, recurses := true, named := ["math/bits.deBruijn64tab"], apart := false, laid := [("math/bits.deBruijn64tab", laid_math_bits_deBruijn64tab)], narrowed := true }
def ChunkAppendsUptoSaid : Prop := chunkAppendsUptoRow.holds Tryd.pinned (OpenSpec.upto chunkAppendsSpec)

/-- 'tocsinlaw08.ChunkNil', WHERE WHAT IT READS IS OF BULK AT MOST 1048576: true; the input reads as it did. -/
def chunkNilUptoRow : OpenClaim := { program := "ytpadehbcjkhegaadoor", sum := "5aec73cfc65c2e7772bee41f6ceb4efc260c50a3e80e19199cfc16454a56deca", func := "tocsin/tocsinlaw08.ChunkNil", spec := "chunkNil", inPlace := ["math.Float64bits"], unfollowed := true, recurses := true, named := ["math/bits.deBruijn64tab"], apart := false, laid := [("math/bits.deBruijn64tab", laid_math_bits_deBruijn64tab)], narrowed := true }
def ChunkNilUptoSaid : Prop := chunkNilUptoRow.holds Tryd.pinned (OpenSpec.upto chunkNilSpec)

/-- 'tocsinlaw08.ChunkCut', WHERE WHAT IT READS IS OF BULK AT MOST 1048576: true; the input reads as it did. -/
def chunkCutUptoRow : OpenClaim := { program := "ytpadehbcjkhegaadoor", sum := "5aec73cfc65c2e7772bee41f6ceb4efc260c50a3e80e19199cfc16454a56deca", func := "tocsin/tocsinlaw08.ChunkCut", spec := "chunkCut", inPlace := ["math.Float64bits", "math.Float64frombits"], named := ["math/bits.deBruijn64tab"], apart := false, laid := [("math/bits.deBruijn64tab", laid_math_bits_deBruijn64tab)], narrowed := true }
def ChunkCutUptoSaid : Prop := chunkCutUptoRow.holds Tryd.pinned (OpenSpec.upto chunkCutSpec)

/-- 'tocsinlaw08.ChunkCodes', WHERE WHAT IT READS IS OF BULK AT MOST 1048576: true; the input reads as it did. -/
def chunkCodesUptoRow : OpenClaim := { program := "ytpadehbcjkhegaadoor", sum := "5aec73cfc65c2e7772bee41f6ceb4efc260c50a3e80e19199cfc16454a56deca", func := "tocsin/tocsinlaw08.ChunkCodes", spec := "chunkCodes", inPlace := ["math.Float64bits", "math.Float64frombits"], unfollowed := true, recurses := true, named := ["math/bits.deBruijn64tab"], apart := false, laid := [("math/bits.deBruijn64tab", laid_math_bits_deBruijn64tab)], narrowed := true }
def ChunkCodesUptoSaid : Prop := chunkCodesUptoRow.holds Tryd.pinned (OpenSpec.upto chunkCodesSpec)

/-- 'tocsinlaw08.ChunkPieces', WHERE WHAT IT READS IS OF BULK AT MOST 1048576: true; the input reads as it did. -/
def chunkPiecesUptoRow : OpenClaim := { program := "ytpadehbcjkhegaadoor", sum := "5aec73cfc65c2e7772bee41f6ceb4efc260c50a3e80e19199cfc16454a56deca", func := "tocsin/tocsinlaw08.ChunkPieces", spec := "chunkPieces", inPlace := ["math.Float64bits", "math.Float64frombits"], named := ["math/bits.deBruijn64tab"], apart := false, laid := [("math/bits.deBruijn64tab", laid_math_bits_deBruijn64tab)], narrowed := true }
def ChunkPiecesUptoSaid : Prop := chunkPiecesUptoRow.holds Tryd.pinned (OpenSpec.upto chunkPiecesSpec)

/-- 'tocsinlaw08.ChunkBack', WHERE WHAT IT READS IS OF BULK AT MOST 1048576: true; the input reads as it did. -/
def chunkBackUptoRow : OpenClaim := { program := "ytpadehbcjkhegaadoor", sum := "5aec73cfc65c2e7772bee41f6ceb4efc260c50a3e80e19199cfc16454a56deca", func := "tocsin/tocsinlaw08.ChunkBack", spec := "chunkBack", inPlace := ["math.Float64bits", "math.Float64frombits"], named := ["math/bits.deBruijn64tab"], apart := false, laid := [("math/bits.deBruijn64tab", laid_math_bits_deBruijn64tab)], narrowed := true }
def ChunkBackUptoSaid : Prop := chunkBackUptoRow.holds Tryd.pinned (OpenSpec.upto chunkBackSpec)

end Rows
end Go.Proofs.YtpadehbcjkhegaaDoor
