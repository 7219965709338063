/-
  NARROWER THAN 'FOR EVERY INPUT', by the rows' own cells (each row's printed sentence says how): VintSums: laid · VintNumbers: laid · VintFrames: laid · VintTorn: laid · VintTexts: laid · VintBack: laid.
  DERIVED. THE GIVEN ROWS OF THIS SEAT. 6 by the template 'for every input the law returns true; each argument reads behind the call as it read before'; 0 by the template 'total and deterministic' (their statements: YtpgpdeojggcibaaDoorTotals.lean).
  GIVEN WITH THE SEED: the statements are not yours to turn. If you find one false, say at which input.
  Laid BY PROGRAM, IN A SANDBOX (cutbox-rows.mjs): the forced cells as the released guide's own fill.sh prints them over the translation 54c2138cd698098e… (all of the seat's roots in one cut). By AI agents, Wed Nov 11 2026. No macro, syntax, notation, axiom, sorry.
-/
import Derived.Test.YtpgpdeojggcibaaDoorChecked
import GoSem.PinnedTables
import GoSem.Claim
import GoSem.ClaimJoined
import GoSem.ClaimMapViews
import Derived.JoinedTies
import Derived.KernelRfl
namespace Go.Proofs.YtpgpdeojggcibaaDoor
/- THE CELL 'sum', in the pinned program and in every row, IS THE sha256 OF THE DUMP (.gsa) THAT YtpgpdeojggcibaaDoorProg.lean LOADS. Nothing in Lean hashes anything: it is a label: what it is worth is what the hold of that sum in a sandbox is worth. -/
noncomputable def Tryd.pinned : Pinned := { name := "ytpgpdeojggcibaadoor", sum := "54c2138cd698098e75314d09ac2c6d1fb3e47643e74e191bd26214dd97c0349e", checked := Tryd.checked }
namespace Rows
def none {H : Type} : Left H := { results := [], args := [] }

/- WHAT THE LISTED PACKAGE-LEVEL VARIABLES READ AS WHEN THE CALL BEGINS. Each datum BY PROGRAM (the guide's laid-datum.mjs) off the statement by which the dump's own 'gosem.cut.vars' lays the variable. In a bare row this is a premise. The card (YtpgpdeojggcibaaDoorCards.lean) ties it to the program's text. -/
def laid_tocsin_vint_halves {H : Type} : DataW H := .agg [.lit (.int .u32 0), .lit (.int .u32 274646895), .lit (.int .u32 549293790), .lit (.int .u32 820201905), .lit (.int .u32 1098587580), .lit (.int .u32 1361435347), .lit (.int .u32 1640403810), .lit (.int .u32 1905808397), .lit (.int .u32 2197175160), .lit (.int .u32 2460548119), .lit (.int .u32 2722870694), .lit (.int .u32 2987750089), .lit (.int .u32 3280807620), .lit (.int .u32 3553878443), .lit (.int .u32 3811616794), .lit (.int .u32 4084100981)]
def laid_unicode_utf8_acceptRanges {H : Type} : DataW H := .agg [.agg [.lit (.int .u8 128), .lit (.int .u8 191)], .agg [.lit (.int .u8 160), .lit (.int .u8 191)], .agg [.lit (.int .u8 128), .lit (.int .u8 159)], .agg [.lit (.int .u8 144), .lit (.int .u8 191)], .agg [.lit (.int .u8 128), .lit (.int .u8 143)], .agg [.lit (.int .u8 0), .lit (.int .u8 0)], .agg [.lit (.int .u8 0), .lit (.int .u8 0)], .agg [.lit (.int .u8 0), .lit (.int .u8 0)], .agg [.lit (.int .u8 0), .lit (.int .u8 0)], .agg [.lit (.int .u8 0), .lit (.int .u8 0)], .agg [.lit (.int .u8 0), .lit (.int .u8 0)], .agg [.lit (.int .u8 0), .lit (.int .u8 0)], .agg [.lit (.int .u8 0), .lit (.int .u8 0)], .agg [.lit (.int .u8 0), .lit (.int .u8 0)], .agg [.lit (.int .u8 0), .lit (.int .u8 0)], .agg [.lit (.int .u8 0), .lit (.int .u8 0)]]
/-- One of Go's own tables, pinned by name: the form's constant. -/
def laid_unicode_utf8_first : DataW Unit := Go.Pinned.utf8First

/-- 'tocsinlaw01.VintSums': WHATEVER THE INPUT: true; the input reads as it did. -/
def vintSumsSpec : ChangeSpec := { name := "vintSums", fn := fun _ => fun
  | [d1, d2, d3] => { results := [.lit (.bool true)], args := [d1, d2, d3] }
  | _ => none }
def vintSumsRow : OpenClaim := { program := "ytpgpdeojggcibaadoor", sum := "54c2138cd698098e75314d09ac2c6d1fb3e47643e74e191bd26214dd97c0349e", func := "tocsin/tocsinlaw01.VintSums", spec := "vintSums", named := ["tocsin/vint.halves"], apart := false, laid := [("tocsin/vint.halves", laid_tocsin_vint_halves)] }
def VintSumsSaid : Prop := vintSumsRow.holds Tryd.pinned (OpenSpec.ofChange vintSumsSpec)

/-- ITS FALSE NEIGHBOUR: 'it returns false'. Refute it at one input. -/
def vintSumsWrong : ChangeSpec := { name := "vintSums", fn := fun _ => fun
  | [d1, d2, d3] => { results := [.lit (.bool false)], args := [d1, d2, d3] }
  | _ => none }
def VintSumsWrongFalsely : Prop := vintSumsRow.holds Tryd.pinned (OpenSpec.ofChange vintSumsWrong)

/-- 'tocsinlaw01.VintNumbers': WHATEVER THE INPUT: true; the input reads as it did. -/
def vintNumbersSpec : ChangeSpec := { name := "vintNumbers", fn := fun _ => fun
  | [d1, d2, d3, d4] => { results := [.lit (.bool true)], args := [d1, d2, d3, d4] }
  | _ => none }
def vintNumbersRow : OpenClaim := { program := "ytpgpdeojggcibaadoor", sum := "54c2138cd698098e75314d09ac2c6d1fb3e47643e74e191bd26214dd97c0349e", func := "tocsin/tocsinlaw01.VintNumbers", spec := "vintNumbers", named := ["tocsin/vint.halves"], apart := false, laid := [("tocsin/vint.halves", laid_tocsin_vint_halves)] }
def VintNumbersSaid : Prop := vintNumbersRow.holds Tryd.pinned (OpenSpec.ofChange vintNumbersSpec)

/-- ITS FALSE NEIGHBOUR: 'it returns false'. Refute it at one input. -/
def vintNumbersWrong : ChangeSpec := { name := "vintNumbers", fn := fun _ => fun
  | [d1, d2, d3, d4] => { results := [.lit (.bool false)], args := [d1, d2, d3, d4] }
  | _ => none }
def VintNumbersWrongFalsely : Prop := vintNumbersRow.holds Tryd.pinned (OpenSpec.ofChange vintNumbersWrong)

/-- 'tocsinlaw01.VintFrames': WHATEVER THE INPUT: true; the input reads as it did. -/
def vintFramesSpec : ChangeSpec := { name := "vintFrames", fn := fun _ => fun
  | [d1, d2, d3] => { results := [.lit (.bool true)], args := [d1, d2, d3] }
  | _ => none }
def vintFramesRow : OpenClaim := { program := "ytpgpdeojggcibaadoor", sum := "54c2138cd698098e75314d09ac2c6d1fb3e47643e74e191bd26214dd97c0349e", func := "tocsin/tocsinlaw01.VintFrames", spec := "vintFrames", named := ["tocsin/vint.halves"], apart := false, laid := [("tocsin/vint.halves", laid_tocsin_vint_halves)] }
def VintFramesSaid : Prop := vintFramesRow.holds Tryd.pinned (OpenSpec.ofChange vintFramesSpec)

/-- ITS FALSE NEIGHBOUR: 'it returns false'. Refute it at one input. -/
def vintFramesWrong : ChangeSpec := { name := "vintFrames", fn := fun _ => fun
  | [d1, d2, d3] => { results := [.lit (.bool false)], args := [d1, d2, d3] }
  | _ => none }
def VintFramesWrongFalsely : Prop := vintFramesRow.holds Tryd.pinned (OpenSpec.ofChange vintFramesWrong)

/-- 'tocsinlaw01.VintTorn': WHATEVER THE INPUT: true; the input reads as it did. -/
def vintTornSpec : ChangeSpec := { name := "vintTorn", fn := fun _ => fun
  | [d1, d2, d3] => { results := [.lit (.bool true)], args := [d1, d2, d3] }
  | _ => none }
def vintTornRow : OpenClaim := { program := "ytpgpdeojggcibaadoor", sum := "54c2138cd698098e75314d09ac2c6d1fb3e47643e74e191bd26214dd97c0349e", func := "tocsin/tocsinlaw01.VintTorn", spec := "vintTorn", named := ["tocsin/vint.halves"], apart := false, laid := [("tocsin/vint.halves", laid_tocsin_vint_halves)] }
def VintTornSaid : Prop := vintTornRow.holds Tryd.pinned (OpenSpec.ofChange vintTornSpec)

/-- ITS FALSE NEIGHBOUR: 'it returns false'. Refute it at one input. -/
def vintTornWrong : ChangeSpec := { name := "vintTorn", fn := fun _ => fun
  | [d1, d2, d3] => { results := [.lit (.bool false)], args := [d1, d2, d3] }
  | _ => none }
def VintTornWrongFalsely : Prop := vintTornRow.holds Tryd.pinned (OpenSpec.ofChange vintTornWrong)

/-- 'tocsinlaw01.VintTexts': WHATEVER THE INPUT: true; the input reads as it did. -/
def vintTextsSpec : ChangeSpec := { name := "vintTexts", fn := fun _ => fun
  | [d1, d2, d3, d4] => { results := [.lit (.bool true)], args := [d1, d2, d3, d4] }
  | _ => none }
def vintTextsRow : OpenClaim := { program := "ytpgpdeojggcibaadoor", sum := "54c2138cd698098e75314d09ac2c6d1fb3e47643e74e191bd26214dd97c0349e", func := "tocsin/tocsinlaw01.VintTexts", spec := "vintTexts", named := ["unicode/utf8.first", "unicode/utf8.acceptRanges", "tocsin/vint.halves"], apart := false, laid := [("unicode/utf8.acceptRanges", laid_unicode_utf8_acceptRanges), ("tocsin/vint.halves", laid_tocsin_vint_halves), ("unicode/utf8.first", laid_unicode_utf8_first)] }
def VintTextsSaid : Prop := vintTextsRow.holds Tryd.pinned (OpenSpec.ofChange vintTextsSpec)

/-- ITS FALSE NEIGHBOUR: 'it returns false'. Refute it at one input. -/
def vintTextsWrong : ChangeSpec := { name := "vintTexts", fn := fun _ => fun
  | [d1, d2, d3, d4] => { results := [.lit (.bool false)], args := [d1, d2, d3, d4] }
  | _ => none }
def VintTextsWrongFalsely : Prop := vintTextsRow.holds Tryd.pinned (OpenSpec.ofChange vintTextsWrong)

/-- 'tocsinlaw01.VintBack': WHATEVER THE INPUT: true; the input reads as it did. -/
def vintBackSpec : ChangeSpec := { name := "vintBack", fn := fun _ => fun
  | [d1, d2, d3, d4, d5] => { results := [.lit (.bool true)], args := [d1, d2, d3, d4, d5] }
  | _ => none }
def vintBackRow : OpenClaim := { program := "ytpgpdeojggcibaadoor", sum := "54c2138cd698098e75314d09ac2c6d1fb3e47643e74e191bd26214dd97c0349e", func := "tocsin/tocsinlaw01.VintBack", spec := "vintBack", named := ["tocsin/vint.halves", "unicode/utf8.first", "unicode/utf8.acceptRanges"], apart := false, laid := [("unicode/utf8.acceptRanges", laid_unicode_utf8_acceptRanges), ("tocsin/vint.halves", laid_tocsin_vint_halves), ("unicode/utf8.first", laid_unicode_utf8_first)] }
def VintBackSaid : Prop := vintBackRow.holds Tryd.pinned (OpenSpec.ofChange vintBackSpec)

/-- ITS FALSE NEIGHBOUR: 'it returns false'. Refute it at one input. -/
def vintBackWrong : ChangeSpec := { name := "vintBack", fn := fun _ => fun
  | [d1, d2, d3, d4, d5] => { results := [.lit (.bool false)], args := [d1, d2, d3, d4, d5] }
  | _ => none }
def VintBackWrongFalsely : Prop := vintBackRow.holds Tryd.pinned (OpenSpec.ofChange vintBackWrong)

/- THE SECOND FORM. 'bulk': how many values and letters a reading holds, each counted each time it is reached (what is shared counts as often as it is met; a slice's spare places count too). A statement '..UptoSaid' is the law's where the arguments, and the package variables that the reading takes, are together of bulk at most 1048576: NARROWER than '..Said'. Prove '..Said' where nothing that the law and all that it calls make is longer than what came in: it says more and counts as full. Else prove '..UptoSaid'. A law counts once. -/
mutual
def uptoBulk {H : Type} : DataW H → Nat
  | .lit (.string bytes) => bytes.length + 1
  | .lit _ => 1
  | .nil => 1
  | .ptr d => uptoBulk d + 1
  | .slice elems spare => uptoBulkAll elems + uptoBulkAll spare + 1
  | .agg parts => uptoBulkAll parts + 1
  | .iface _ d => uptoBulk d + 1
  | .map entries => uptoBulkEntries entries + 1
  | .held _ => 1
def uptoBulkAll {H : Type} : List (DataW H) → Nat
  | [] => 0
  | d :: r => uptoBulk d + uptoBulkAll r
def uptoBulkEntries {H : Type} : List (Lit × DataW H) → Nat
  | [] => 0
  | x :: r => uptoBulkEntry x + uptoBulkEntries r
def uptoBulkEntry {H : Type} : Lit × DataW H → Nat
  | (.string bytes, d) => bytes.length + uptoBulk d + 1
  | (_, d) => uptoBulk d + 1
 end
def uptoSmall : (H : Type) → List (DataW H) → Bool := fun _ ds => decide (uptoBulkAll ds ≤ 1048576)
def OpenSpec.upto (s : _root_.Go.ChangeSpec) : _root_.Go.OpenSpec := { _root_.Go.OpenSpec.ofChange s with cond := some uptoSmall }

/-- 'tocsinlaw01.VintSums', WHERE WHAT IT READS IS OF BULK AT MOST 1048576: true; the input reads as it did. -/
def vintSumsUptoRow : OpenClaim := { program := "ytpgpdeojggcibaadoor", sum := "54c2138cd698098e75314d09ac2c6d1fb3e47643e74e191bd26214dd97c0349e", func := "tocsin/tocsinlaw01.VintSums", spec := "vintSums", named := ["tocsin/vint.halves"], apart := false, laid := [("tocsin/vint.halves", laid_tocsin_vint_halves)], narrowed := true }
def VintSumsUptoSaid : Prop := vintSumsUptoRow.holds Tryd.pinned (OpenSpec.upto vintSumsSpec)

/-- 'tocsinlaw01.VintNumbers', WHERE WHAT IT READS IS OF BULK AT MOST 1048576: true; the input reads as it did. -/
def vintNumbersUptoRow : OpenClaim := { program := "ytpgpdeojggcibaadoor", sum := "54c2138cd698098e75314d09ac2c6d1fb3e47643e74e191bd26214dd97c0349e", func := "tocsin/tocsinlaw01.VintNumbers", spec := "vintNumbers", named := ["tocsin/vint.halves"], apart := false, laid := [("tocsin/vint.halves", laid_tocsin_vint_halves)], narrowed := true }
def VintNumbersUptoSaid : Prop := vintNumbersUptoRow.holds Tryd.pinned (OpenSpec.upto vintNumbersSpec)

/-- 'tocsinlaw01.VintFrames', WHERE WHAT IT READS IS OF BULK AT MOST 1048576: true; the input reads as it did. -/
def vintFramesUptoRow : OpenClaim := { program := "ytpgpdeojggcibaadoor", sum := "54c2138cd698098e75314d09ac2c6d1fb3e47643e74e191bd26214dd97c0349e", func := "tocsin/tocsinlaw01.VintFrames", spec := "vintFrames", named := ["tocsin/vint.halves"], apart := false, laid := [("tocsin/vint.halves", laid_tocsin_vint_halves)], narrowed := true }
def VintFramesUptoSaid : Prop := vintFramesUptoRow.holds Tryd.pinned (OpenSpec.upto vintFramesSpec)

/-- 'tocsinlaw01.VintTorn', WHERE WHAT IT READS IS OF BULK AT MOST 1048576: true; the input reads as it did. -/
def vintTornUptoRow : OpenClaim := { program := "ytpgpdeojggcibaadoor", sum := "54c2138cd698098e75314d09ac2c6d1fb3e47643e74e191bd26214dd97c0349e", func := "tocsin/tocsinlaw01.VintTorn", spec := "vintTorn", named := ["tocsin/vint.halves"], apart := false, laid := [("tocsin/vint.halves", laid_tocsin_vint_halves)], narrowed := true }
def VintTornUptoSaid : Prop := vintTornUptoRow.holds Tryd.pinned (OpenSpec.upto vintTornSpec)

/-- 'tocsinlaw01.VintTexts', WHERE WHAT IT READS IS OF BULK AT MOST 1048576: true; the input reads as it did. -/
def vintTextsUptoRow : OpenClaim := { program := "ytpgpdeojggcibaadoor", sum := "54c2138cd698098e75314d09ac2c6d1fb3e47643e74e191bd26214dd97c0349e", func := "tocsin/tocsinlaw01.VintTexts", spec := "vintTexts", named := ["unicode/utf8.first", "unicode/utf8.acceptRanges", "tocsin/vint.halves"], apart := false, laid := [("unicode/utf8.acceptRanges", laid_unicode_utf8_acceptRanges), ("tocsin/vint.halves", laid_tocsin_vint_halves), ("unicode/utf8.first", laid_unicode_utf8_first)], narrowed := true }
def VintTextsUptoSaid : Prop := vintTextsUptoRow.holds Tryd.pinned (OpenSpec.upto vintTextsSpec)

/-- 'tocsinlaw01.VintBack', WHERE WHAT IT READS IS OF BULK AT MOST 1048576: true; the input reads as it did. -/
def vintBackUptoRow : OpenClaim := { program := "ytpgpdeojggcibaadoor", sum := "54c2138cd698098e75314d09ac2c6d1fb3e47643e74e191bd26214dd97c0349e", func := "tocsin/tocsinlaw01.VintBack", spec := "vintBack", named := ["tocsin/vint.halves", "unicode/utf8.first", "unicode/utf8.acceptRanges"], apart := false, laid := [("unicode/utf8.acceptRanges", laid_unicode_utf8_acceptRanges), ("tocsin/vint.halves", laid_tocsin_vint_halves), ("unicode/utf8.first", laid_unicode_utf8_first)], narrowed := true }
def VintBackUptoSaid : Prop := vintBackUptoRow.holds Tryd.pinned (OpenSpec.upto vintBackSpec)

end Rows
end Go.Proofs.YtpgpdeojggcibaaDoor
