/-
  NARROWER THAN 'FOR EVERY INPUT', by the rows' own cells (each row's printed sentence says how): BitsWrite: laid · BitsFull: laid.
  DERIVED. THE GIVEN ROWS OF THIS SEAT. 2 by the template 'for every input the law returns true; each argument reads behind the call as it read before'; 0 by the template 'total and deterministic' (their statements: YtnilefminhchfaaDoorTotals.lean).
  GIVEN WITH THE SEED: the statements are not yours to turn. If you find one false, say at which input.
  Laid BY PROGRAM, IN A SANDBOX (cutbox-rows.mjs): the forced cells as the released guide's own fill.sh prints them over the translation 850d3a9cbdb1892b… (all of the seat's roots in one cut). By AI agents, Wed Nov 11 2026. No macro, syntax, notation, axiom, sorry.
-/
import Derived.Test.YtnilefminhchfaaDoorChecked
import GoSem.Claim
import GoSem.ClaimJoined
import GoSem.ClaimMapViews
import Derived.JoinedTies
import Derived.KernelRfl
namespace Go.Proofs.YtnilefminhchfaaDoor
/- THE CELL 'sum', in the pinned program and in every row, IS THE sha256 OF THE DUMP (.gsa) THAT YtnilefminhchfaaDoorProg.lean LOADS. Nothing in Lean hashes anything: it is a label: what it is worth is what the hold of that sum in a sandbox is worth. -/
noncomputable def Tryd.pinned : Pinned := { name := "ytnilefminhchfaadoor", sum := "850d3a9cbdb1892bdcc1333fb440e4e5ef1d04df9dc6fa47a85de01b0a4c750f", checked := Tryd.checked }
namespace Rows
def none {H : Type} : Left H := { results := [], args := [] }

/- WHAT THE LISTED PACKAGE-LEVEL VARIABLES READ AS WHEN THE CALL BEGINS. Each datum BY PROGRAM (the guide's laid-datum.mjs) off the statement by which the dump's own 'gosem.cut.vars' lays the variable. In a bare row this is a premise. The card (YtnilefminhchfaaDoorCards.lean) ties it to the program's text. -/
def laid_tocsin_bits_widths {H : Type} : DataW H := .agg [.lit (.int .i64 3), .lit (.int .i64 6), .lit (.int .i64 9), .lit (.int .i64 12), .lit (.int .i64 18), .lit (.int .i64 25), .lit (.int .i64 56)]

/-- 'tocsinlaw02.BitsWrite': WHATEVER THE INPUT: true; the input reads as it did. -/
def bitsWriteSpec : ChangeSpec := { name := "bitsWrite", fn := fun _ => fun
  | [d] => { results := [.lit (.bool true)], args := [d] }
  | _ => none }
def bitsWriteRow : OpenClaim := { program := "ytnilefminhchfaadoor", sum := "850d3a9cbdb1892bdcc1333fb440e4e5ef1d04df9dc6fa47a85de01b0a4c750f", func := "tocsin/tocsinlaw02.BitsWrite", spec := "bitsWrite", named := ["tocsin/bits.widths"], apart := false, laid := [("tocsin/bits.widths", laid_tocsin_bits_widths)] }
def BitsWriteSaid : Prop := bitsWriteRow.holds Tryd.pinned (OpenSpec.ofChange bitsWriteSpec)

/-- ITS FALSE NEIGHBOUR: 'it returns false'. Refute it at one input. -/
def bitsWriteWrong : ChangeSpec := { name := "bitsWrite", fn := fun _ => fun
  | [d] => { results := [.lit (.bool false)], args := [d] }
  | _ => none }
def BitsWriteWrongFalsely : Prop := bitsWriteRow.holds Tryd.pinned (OpenSpec.ofChange bitsWriteWrong)

/-- 'tocsinlaw02.BitsFull': WHATEVER THE INPUT: true; the input reads as it did. -/
def bitsFullSpec : ChangeSpec := { name := "bitsFull", fn := fun _ => fun
  | [d1, d2, d3, d4] => { results := [.lit (.bool true)], args := [d1, d2, d3, d4] }
  | _ => none }
def bitsFullRow : OpenClaim := { program := "ytnilefminhchfaadoor", sum := "850d3a9cbdb1892bdcc1333fb440e4e5ef1d04df9dc6fa47a85de01b0a4c750f", func := "tocsin/tocsinlaw02.BitsFull", spec := "bitsFull", named := ["tocsin/bits.widths"], apart := false, laid := [("tocsin/bits.widths", laid_tocsin_bits_widths)] }
def BitsFullSaid : Prop := bitsFullRow.holds Tryd.pinned (OpenSpec.ofChange bitsFullSpec)

/-- ITS FALSE NEIGHBOUR: 'it returns false'. Refute it at one input. -/
def bitsFullWrong : ChangeSpec := { name := "bitsFull", fn := fun _ => fun
  | [d1, d2, d3, d4] => { results := [.lit (.bool false)], args := [d1, d2, d3, d4] }
  | _ => none }
def BitsFullWrongFalsely : Prop := bitsFullRow.holds Tryd.pinned (OpenSpec.ofChange bitsFullWrong)

/- THE SECOND FORM. 'bulk': how many values and letters a reading holds, each counted each time it is reached (what is shared counts as often as it is met; a slice's spare places count too). A statement '..UptoSaid' is the law's where the arguments, and the package variables that the reading takes, are together of bulk at most 1048576: NARROWER than '..Said'. Prove '..Said' where nothing that the law and all that it calls make is longer than what came in: it says more and counts as full. Else prove '..UptoSaid'. A law counts once. -/
mutual
def uptoBulk {H : Type} : DataW H → Nat
  | .lit (.string bytes) => bytes.length + 1
  | .lit _ => 1
  | .nil => 1
  | .ptr d => uptoBulk d + 1
  | .slice elems spare => uptoBulkAll elems + uptoBulkAll spare + 1
  | .agg parts => uptoBulkAll parts + 1
  | .iface _ d => uptoBulk d + 1
  | .map entries => uptoBulkEntries entries + 1
  | .held _ => 1
def uptoBulkAll {H : Type} : List (DataW H) → Nat
  | [] => 0
  | d :: r => uptoBulk d + uptoBulkAll r
def uptoBulkEntries {H : Type} : List (Lit × DataW H) → Nat
  | [] => 0
  | x :: r => uptoBulkEntry x + uptoBulkEntries r
def uptoBulkEntry {H : Type} : Lit × DataW H → Nat
  | (.string bytes, d) => bytes.length + uptoBulk d + 1
  | (_, d) => uptoBulk d + 1
 end
def uptoSmall : (H : Type) → List (DataW H) → Bool := fun _ ds => decide (uptoBulkAll ds ≤ 1048576)
def OpenSpec.upto (s : _root_.Go.ChangeSpec) : _root_.Go.OpenSpec := { _root_.Go.OpenSpec.ofChange s with cond := some uptoSmall }

/-- 'tocsinlaw02.BitsWrite', WHERE WHAT IT READS IS OF BULK AT MOST 1048576: true; the input reads as it did. -/
def bitsWriteUptoRow : OpenClaim := { program := "ytnilefminhchfaadoor", sum := "850d3a9cbdb1892bdcc1333fb440e4e5ef1d04df9dc6fa47a85de01b0a4c750f", func := "tocsin/tocsinlaw02.BitsWrite", spec := "bitsWrite", named := ["tocsin/bits.widths"], apart := false, laid := [("tocsin/bits.widths", laid_tocsin_bits_widths)], narrowed := true }
def BitsWriteUptoSaid : Prop := bitsWriteUptoRow.holds Tryd.pinned (OpenSpec.upto bitsWriteSpec)

/-- 'tocsinlaw02.BitsFull', WHERE WHAT IT READS IS OF BULK AT MOST 1048576: true; the input reads as it did. -/
def bitsFullUptoRow : OpenClaim := { program := "ytnilefminhchfaadoor", sum := "850d3a9cbdb1892bdcc1333fb440e4e5ef1d04df9dc6fa47a85de01b0a4c750f", func := "tocsin/tocsinlaw02.BitsFull", spec := "bitsFull", named := ["tocsin/bits.widths"], apart := false, laid := [("tocsin/bits.widths", laid_tocsin_bits_widths)], narrowed := true }
def BitsFullUptoSaid : Prop := bitsFullUptoRow.holds Tryd.pinned (OpenSpec.upto bitsFullSpec)

end Rows
end Go.Proofs.YtnilefminhchfaaDoor
