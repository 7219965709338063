/-
  NARROWER THAN 'FOR EVERY INPUT', by the rows' own cells (each row's printed sentence says how): AlertsLasts: laid · AlertsStands: laid · AlertsNil: laid.
  DERIVED. THE GIVEN ROWS OF THIS SEAT. 3 by the template 'for every input the law returns true; each argument reads behind the call as it read before'; 0 by the template 'total and deterministic' (their statements: YtfkpehcbijgmnaaDoorTotals.lean).
  GIVEN WITH THE SEED: the statements are not yours to turn. If you find one false, say at which input.
  Laid BY PROGRAM, IN A SANDBOX (cutbox-rows.mjs): the forced cells as the released guide's own fill.sh prints them over the translation e5e9f58297edd17f… (all of the seat's roots in one cut). By AI agents, Wed Nov 11 2026. No macro, syntax, notation, axiom, sorry.
-/
import Derived.Test.YtfkpehcbijgmnaaDoorChecked
import GoSem.PinnedTables
import GoSem.Claim
import GoSem.ClaimJoined
import GoSem.ClaimMapViews
import Derived.JoinedTies
import Derived.KernelRfl
namespace Go.Proofs.YtfkpehcbijgmnaaDoor
/- THE CELL 'sum', in the pinned program and in every row, IS THE sha256 OF THE DUMP (.gsa) THAT YtfkpehcbijgmnaaDoorProg.lean LOADS. Nothing in Lean hashes anything: it is a label: what it is worth is what the hold of that sum in a sandbox is worth. -/
noncomputable def Tryd.pinned : Pinned := { name := "ytfkpehcbijgmnaadoor", sum := "e5e9f58297edd17f5edaccc389932a1c42dbf54345a4033a4f220f04f835a02f", checked := Tryd.checked }
namespace Rows
def none {H : Type} : Left H := { results := [], args := [] }

/- WHAT THE LISTED PACKAGE-LEVEL VARIABLES READ AS WHEN THE CALL BEGINS. Each datum BY PROGRAM (the guide's laid-datum.mjs) off the statement by which the dump's own 'gosem.cut.vars' lays the variable. In a bare row this is a premise. The card (YtfkpehcbijgmnaaDoorCards.lean) ties it to the program's text. -/
def laid_unicode_utf8_acceptRanges {H : Type} : DataW H := .agg [.agg [.lit (.int .u8 128), .lit (.int .u8 191)], .agg [.lit (.int .u8 160), .lit (.int .u8 191)], .agg [.lit (.int .u8 128), .lit (.int .u8 159)], .agg [.lit (.int .u8 144), .lit (.int .u8 191)], .agg [.lit (.int .u8 128), .lit (.int .u8 143)], .agg [.lit (.int .u8 0), .lit (.int .u8 0)], .agg [.lit (.int .u8 0), .lit (.int .u8 0)], .agg [.lit (.int .u8 0), .lit (.int .u8 0)], .agg [.lit (.int .u8 0), .lit (.int .u8 0)], .agg [.lit (.int .u8 0), .lit (.int .u8 0)], .agg [.lit (.int .u8 0), .lit (.int .u8 0)], .agg [.lit (.int .u8 0), .lit (.int .u8 0)], .agg [.lit (.int .u8 0), .lit (.int .u8 0)], .agg [.lit (.int .u8 0), .lit (.int .u8 0)], .agg [.lit (.int .u8 0), .lit (.int .u8 0)], .agg [.lit (.int .u8 0), .lit (.int .u8 0)]]
/-- One of Go's own tables, pinned by name: the form's constant. -/
def laid_unicode_utf8_first : DataW Unit := Go.Pinned.utf8First

/-- 'tocsinlaw21.AlertsLasts': WHATEVER THE INPUT: true; the input reads as it did. -/
def alertsLastsSpec : ChangeSpec := { name := "alertsLasts", fn := fun _ => fun
  | [d1, d2, d3] => { results := [.lit (.bool true)], args := [d1, d2, d3] }
  | _ => none }
def alertsLastsRow : OpenClaim := { program := "ytfkpehcbijgmnaadoor", sum := "e5e9f58297edd17f5edaccc389932a1c42dbf54345a4033a4f220f04f835a02f", func := "tocsin/tocsinlaw21.AlertsLasts", spec := "alertsLasts", inPlace := ["internal/bytealg.abigen_runtime_cmpstring"], unfollowed := true, recurses := true, named := ["unicode/utf8.first", "unicode/utf8.acceptRanges"], apart := false, laid := [("unicode/utf8.acceptRanges", laid_unicode_utf8_acceptRanges), ("unicode/utf8.first", laid_unicode_utf8_first)] }
def AlertsLastsSaid : Prop := alertsLastsRow.holds Tryd.pinned (OpenSpec.ofChange alertsLastsSpec)

/-- ITS FALSE NEIGHBOUR: 'it returns false'. Refute it at one input. -/
def alertsLastsWrong : ChangeSpec := { name := "alertsLasts", fn := fun _ => fun
  | [d1, d2, d3] => { results := [.lit (.bool false)], args := [d1, d2, d3] }
  | _ => none }
def AlertsLastsWrongFalsely : Prop := alertsLastsRow.holds Tryd.pinned (OpenSpec.ofChange alertsLastsWrong)

/-- 'tocsinlaw21.AlertsStands': WHATEVER THE INPUT: true; the input reads as it did. -/
def alertsStandsSpec : ChangeSpec := { name := "alertsStands", fn := fun _ => fun
  | [d1, d2, d3] => { results := [.lit (.bool true)], args := [d1, d2, d3] }
  | _ => none }
def alertsStandsRow : OpenClaim := { program := "ytfkpehcbijgmnaadoor", sum := "e5e9f58297edd17f5edaccc389932a1c42dbf54345a4033a4f220f04f835a02f", func := "tocsin/tocsinlaw21.AlertsStands", spec := "alertsStands", inPlace := ["internal/bytealg.abigen_runtime_cmpstring"], unfollowed := true, recurses := true, named := ["unicode/utf8.first", "unicode/utf8.acceptRanges"], apart := false, laid := [("unicode/utf8.acceptRanges", laid_unicode_utf8_acceptRanges), ("unicode/utf8.first", laid_unicode_utf8_first)] }
def AlertsStandsSaid : Prop := alertsStandsRow.holds Tryd.pinned (OpenSpec.ofChange alertsStandsSpec)

/-- ITS FALSE NEIGHBOUR: 'it returns false'. Refute it at one input. -/
def alertsStandsWrong : ChangeSpec := { name := "alertsStands", fn := fun _ => fun
  | [d1, d2, d3] => { results := [.lit (.bool false)], args := [d1, d2, d3] }
  | _ => none }
def AlertsStandsWrongFalsely : Prop := alertsStandsRow.holds Tryd.pinned (OpenSpec.ofChange alertsStandsWrong)

/-- 'tocsinlaw21.AlertsNil': WHATEVER THE INPUT: true; the input reads as it did. -/
def alertsNilSpec : ChangeSpec := { name := "alertsNil", fn := fun _ => fun
  | [d1, d2] => { results := [.lit (.bool true)], args := [d1, d2] }
  | _ => none }
def alertsNilRow : OpenClaim := { program := "ytfkpehcbijgmnaadoor", sum := "e5e9f58297edd17f5edaccc389932a1c42dbf54345a4033a4f220f04f835a02f", func := "tocsin/tocsinlaw21.AlertsNil", spec := "alertsNil", inPlace := ["internal/bytealg.abigen_runtime_cmpstring"], unfollowed := true, recurses := true, named := ["unicode/utf8.first", "unicode/utf8.acceptRanges"], apart := false, laid := [("unicode/utf8.acceptRanges", laid_unicode_utf8_acceptRanges), ("unicode/utf8.first", laid_unicode_utf8_first)] }
def AlertsNilSaid : Prop := alertsNilRow.holds Tryd.pinned (OpenSpec.ofChange alertsNilSpec)

/-- ITS FALSE NEIGHBOUR: 'it returns false'. Refute it at one input. -/
def alertsNilWrong : ChangeSpec := { name := "alertsNil", fn := fun _ => fun
  | [d1, d2] => { results := [.lit (.bool false)], args := [d1, d2] }
  | _ => none }
def AlertsNilWrongFalsely : Prop := alertsNilRow.holds Tryd.pinned (OpenSpec.ofChange alertsNilWrong)

/- THE SECOND FORM. 'bulk': how many values and letters a reading holds, each counted each time it is reached (what is shared counts as often as it is met; a slice's spare places count too). A statement '..UptoSaid' is the law's where the arguments, and the package variables that the reading takes, are together of bulk at most 1048576: NARROWER than '..Said'. Prove '..Said' where nothing that the law and all that it calls make is longer than what came in: it says more and counts as full. Else prove '..UptoSaid'. A law counts once. -/
mutual
def uptoBulk {H : Type} : DataW H → Nat
  | .lit (.string bytes) => bytes.length + 1
  | .lit _ => 1
  | .nil => 1
  | .ptr d => uptoBulk d + 1
  | .slice elems spare => uptoBulkAll elems + uptoBulkAll spare + 1
  | .agg parts => uptoBulkAll parts + 1
  | .iface _ d => uptoBulk d + 1
  | .map entries => uptoBulkEntries entries + 1
  | .held _ => 1
def uptoBulkAll {H : Type} : List (DataW H) → Nat
  | [] => 0
  | d :: r => uptoBulk d + uptoBulkAll r
def uptoBulkEntries {H : Type} : List (Lit × DataW H) → Nat
  | [] => 0
  | x :: r => uptoBulkEntry x + uptoBulkEntries r
def uptoBulkEntry {H : Type} : Lit × DataW H → Nat
  | (.string bytes, d) => bytes.length + uptoBulk d + 1
  | (_, d) => uptoBulk d + 1
 end
def uptoSmall : (H : Type) → List (DataW H) → Bool := fun _ ds => decide (uptoBulkAll ds ≤ 1048576)
def OpenSpec.upto (s : _root_.Go.ChangeSpec) : _root_.Go.OpenSpec := { _root_.Go.OpenSpec.ofChange s with cond := some uptoSmall }

/-- 'tocsinlaw21.AlertsLasts', WHERE WHAT IT READS IS OF BULK AT MOST 1048576: true; the input reads as it did. -/
def alertsLastsUptoRow : OpenClaim := { program := "ytfkpehcbijgmnaadoor", sum := "e5e9f58297edd17f5edaccc389932a1c42dbf54345a4033a4f220f04f835a02f", func := "tocsin/tocsinlaw21.AlertsLasts", spec := "alertsLasts", inPlace := ["internal/bytealg.abigen_runtime_cmpstring"], unfollowed := true, recurses := true, named := ["unicode/utf8.first", "unicode/utf8.acceptRanges"], apart := false, laid := [("unicode/utf8.acceptRanges", laid_unicode_utf8_acceptRanges), ("unicode/utf8.first", laid_unicode_utf8_first)], narrowed := true }
def AlertsLastsUptoSaid : Prop := alertsLastsUptoRow.holds Tryd.pinned (OpenSpec.upto alertsLastsSpec)

/-- 'tocsinlaw21.AlertsStands', WHERE WHAT IT READS IS OF BULK AT MOST 1048576: true; the input reads as it did. -/
def alertsStandsUptoRow : OpenClaim := { program := "ytfkpehcbijgmnaadoor", sum := "e5e9f58297edd17f5edaccc389932a1c42dbf54345a4033a4f220f04f835a02f", func := "tocsin/tocsinlaw21.AlertsStands", spec := "alertsStands", inPlace := ["internal/bytealg.abigen_runtime_cmpstring"], unfollowed := true, recurses := true, named := ["unicode/utf8.first", "unicode/utf8.acceptRanges"], apart := false, laid := [("unicode/utf8.acceptRanges", laid_unicode_utf8_acceptRanges), ("unicode/utf8.first", laid_unicode_utf8_first)], narrowed := true }
def AlertsStandsUptoSaid : Prop := alertsStandsUptoRow.holds Tryd.pinned (OpenSpec.upto alertsStandsSpec)

/-- 'tocsinlaw21.AlertsNil', WHERE WHAT IT READS IS OF BULK AT MOST 1048576: true; the input reads as it did. -/
def alertsNilUptoRow : OpenClaim := { program := "ytfkpehcbijgmnaadoor", sum := "e5e9f58297edd17f5edaccc389932a1c42dbf54345a4033a4f220f04f835a02f", func := "tocsin/tocsinlaw21.AlertsNil", spec := "alertsNil", inPlace := ["internal/bytealg.abigen_runtime_cmpstring"], unfollowed := true, recurses := true, named := ["unicode/utf8.first", "unicode/utf8.acceptRanges"], apart := false, laid := [("unicode/utf8.acceptRanges", laid_unicode_utf8_acceptRanges), ("unicode/utf8.first", laid_unicode_utf8_first)], narrowed := true }
def AlertsNilUptoSaid : Prop := alertsNilUptoRow.holds Tryd.pinned (OpenSpec.upto alertsNilSpec)

end Rows
end Go.Proofs.YtfkpehcbijgmnaaDoor
