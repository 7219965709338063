/-
  NARROWER THAN 'FOR EVERY INPUT', by the rows' own cells (each row's printed sentence says how): RulesFor: laid · RulesKept: laid · RulesSteps: laid · RulesRestored: laid · RulesOrder: laid · RulesNames: laid.
  DERIVED. THE GIVEN ROWS OF THIS SEAT. 6 by the template 'for every input the law returns true; each argument reads behind the call as it read before'; 0 by the template 'total and deterministic' (their statements: YtechilkjfhpkpaaGreatDoorTotals.lean).
  GIVEN WITH THE SEED: the statements are not yours to turn. If you find one false, say at which input.
  Laid BY PROGRAM, IN A SANDBOX (cutbox-rows.mjs): the forced cells as the released guide's own fill.sh prints them over the translation 1e3a5869074e65f1… (all of the seat's roots in one cut). By AI agents, Wed Nov 11 2026. No macro, syntax, notation, axiom, sorry.
-/
import Derived.Test.YtechilkjfhpkpaaGreatDoorChecked
import GoSem.PinnedTables
import GoSem.Claim
import GoSem.ClaimJoined
import GoSem.ClaimMapViews
import Derived.JoinedTies
import Derived.KernelRfl
namespace Go.Proofs.YtechilkjfhpkpaaGreatDoor
/- THE CELL 'sum', in the pinned program and in every row, IS THE sha256 OF THE DUMP (.gsa) THAT YtechilkjfhpkpaaGreatDoorProg.lean LOADS. Nothing in Lean hashes anything: it is a label: what it is worth is what the hold of that sum in a sandbox is worth. -/
noncomputable def Tryz.pinned : Pinned := { name := "ytechilkjfhpkpaagreatdoor", sum := "1e3a5869074e65f102463877edb464f51793394357a03f8e72e7c8ba29af40f4", checked := Tryz.checked }
namespace Rows
def none {H : Type} : Left H := { results := [], args := [] }

/- WHAT THE LISTED PACKAGE-LEVEL VARIABLES READ AS WHEN THE CALL BEGINS. Each datum BY PROGRAM (the guide's laid-datum.mjs) off the statement by which the dump's own 'gosem.cut.vars' lays the variable. In a bare row this is a premise. The card (YtechilkjfhpkpaaGreatDoorCards.lean) ties it to the program's text. -/
def laid_unicode_utf8_acceptRanges {H : Type} : DataW H := .agg [.agg [.lit (.int .u8 128), .lit (.int .u8 191)], .agg [.lit (.int .u8 160), .lit (.int .u8 191)], .agg [.lit (.int .u8 128), .lit (.int .u8 159)], .agg [.lit (.int .u8 144), .lit (.int .u8 191)], .agg [.lit (.int .u8 128), .lit (.int .u8 143)], .agg [.lit (.int .u8 0), .lit (.int .u8 0)], .agg [.lit (.int .u8 0), .lit (.int .u8 0)], .agg [.lit (.int .u8 0), .lit (.int .u8 0)], .agg [.lit (.int .u8 0), .lit (.int .u8 0)], .agg [.lit (.int .u8 0), .lit (.int .u8 0)], .agg [.lit (.int .u8 0), .lit (.int .u8 0)], .agg [.lit (.int .u8 0), .lit (.int .u8 0)], .agg [.lit (.int .u8 0), .lit (.int .u8 0)], .agg [.lit (.int .u8 0), .lit (.int .u8 0)], .agg [.lit (.int .u8 0), .lit (.int .u8 0)], .agg [.lit (.int .u8 0), .lit (.int .u8 0)]]
def laid_errors_errorType {H : Type} : DataW H := .iface "internal/reflectlite.rtype" (.agg [.ptr (.lit (.string [101, 114, 114, 111, 114]))])
def laid_tocsin_rules_errWrong {H : Type} : DataW H := .iface "*errors.errorString" (.ptr (.agg [.lit (.string [99, 97, 110, 32, 110, 111, 116, 32, 98, 101])]))
/-- One of Go's own tables, pinned by name: the form's constant. -/
def laid_unicode_utf8_first : DataW Unit := Go.Pinned.utf8First

/-- 'tocsinlaw19.RulesFor': WHATEVER THE INPUT: true; the input reads as it did. -/
def rulesForSpec : ChangeSpec := { name := "rulesFor", fn := fun _ => fun
  | [d1, d2] => { results := [.lit (.bool true)], args := [d1, d2] }
  | _ => none }
def rulesForRow : OpenClaim := { program := "ytechilkjfhpkpaagreatdoor", sum := "1e3a5869074e65f102463877edb464f51793394357a03f8e72e7c8ba29af40f4", func := "tocsin/tocsinlaw19.RulesFor", spec := "rulesFor", inPlace := ["internal/reflectlite.TypeOf", "internal/reflectlite.ValueOf", "(internal/reflectlite.Value).Type", "(internal/reflectlite.Value).IsNil", "(internal/reflectlite.Value).Elem", "(internal/reflectlite.Value).Set", "internal/bytealg.abigen_runtime_cmpstring"], unfollowed := true, recurses := true, named := ["unicode/utf8.first", "unicode/utf8.acceptRanges", "tocsin/rules.errWrong", "errors.errorType"], apart := false, laid := [("unicode/utf8.acceptRanges", laid_unicode_utf8_acceptRanges), ("errors.errorType", laid_errors_errorType), ("tocsin/rules.errWrong", laid_tocsin_rules_errWrong), ("unicode/utf8.first", laid_unicode_utf8_first)] }
def RulesForSaid : Prop := rulesForRow.holds Tryz.pinned (OpenSpec.ofChange rulesForSpec)

/-- ITS FALSE NEIGHBOUR: 'it returns false'. Refute it at one input. -/
def rulesForWrong : ChangeSpec := { name := "rulesFor", fn := fun _ => fun
  | [d1, d2] => { results := [.lit (.bool false)], args := [d1, d2] }
  | _ => none }
def RulesForWrongFalsely : Prop := rulesForRow.holds Tryz.pinned (OpenSpec.ofChange rulesForWrong)

/-- 'tocsinlaw19.RulesKept': WHATEVER THE INPUT: true; the input reads as it did. -/
def rulesKeptSpec : ChangeSpec := { name := "rulesKept", fn := fun _ => fun
  | [d1, d2] => { results := [.lit (.bool true)], args := [d1, d2] }
  | _ => none }
def rulesKeptRow : OpenClaim := { program := "ytechilkjfhpkpaagreatdoor", sum := "1e3a5869074e65f102463877edb464f51793394357a03f8e72e7c8ba29af40f4", func := "tocsin/tocsinlaw19.RulesKept", spec := "rulesKept", inPlace := ["internal/reflectlite.TypeOf", "internal/reflectlite.ValueOf", "(internal/reflectlite.Value).Type", "(internal/reflectlite.Value).IsNil", "(internal/reflectlite.Value).Elem", "(internal/reflectlite.Value).Set", "internal/bytealg.abigen_runtime_cmpstring", "math.Float64bits"], unfollowed := true, recurses := true, named := ["unicode/utf8.first", "unicode/utf8.acceptRanges", "tocsin/rules.errWrong", "errors.errorType"], apart := false, laid := [("unicode/utf8.acceptRanges", laid_unicode_utf8_acceptRanges), ("errors.errorType", laid_errors_errorType), ("tocsin/rules.errWrong", laid_tocsin_rules_errWrong), ("unicode/utf8.first", laid_unicode_utf8_first)] }
def RulesKeptSaid : Prop := rulesKeptRow.holds Tryz.pinned (OpenSpec.ofChange rulesKeptSpec)

/-- ITS FALSE NEIGHBOUR: 'it returns false'. Refute it at one input. -/
def rulesKeptWrong : ChangeSpec := { name := "rulesKept", fn := fun _ => fun
  | [d1, d2] => { results := [.lit (.bool false)], args := [d1, d2] }
  | _ => none }
def RulesKeptWrongFalsely : Prop := rulesKeptRow.holds Tryz.pinned (OpenSpec.ofChange rulesKeptWrong)

/-- 'tocsinlaw19.RulesSteps': WHATEVER THE INPUT: true; the input reads as it did. -/
def rulesStepsSpec : ChangeSpec := { name := "rulesSteps", fn := fun _ => fun
  | [d1, d2] => { results := [.lit (.bool true)], args := [d1, d2] }
  | _ => none }
def rulesStepsRow : OpenClaim := { program := "ytechilkjfhpkpaagreatdoor", sum := "1e3a5869074e65f102463877edb464f51793394357a03f8e72e7c8ba29af40f4", func := "tocsin/tocsinlaw19.RulesSteps", spec := "rulesSteps", inPlace := ["internal/reflectlite.TypeOf", "internal/reflectlite.ValueOf", "(internal/reflectlite.Value).Type", "(internal/reflectlite.Value).IsNil", "(internal/reflectlite.Value).Elem", "(internal/reflectlite.Value).Set", "internal/bytealg.abigen_runtime_cmpstring", "math.Float64bits"], unfollowed := true, recurses := true, named := ["unicode/utf8.first", "unicode/utf8.acceptRanges", "tocsin/rules.errWrong", "errors.errorType"], apart := false, laid := [("unicode/utf8.acceptRanges", laid_unicode_utf8_acceptRanges), ("errors.errorType", laid_errors_errorType), ("tocsin/rules.errWrong", laid_tocsin_rules_errWrong), ("unicode/utf8.first", laid_unicode_utf8_first)] }
def RulesStepsSaid : Prop := rulesStepsRow.holds Tryz.pinned (OpenSpec.ofChange rulesStepsSpec)

/-- ITS FALSE NEIGHBOUR: 'it returns false'. Refute it at one input. -/
def rulesStepsWrong : ChangeSpec := { name := "rulesSteps", fn := fun _ => fun
  | [d1, d2] => { results := [.lit (.bool false)], args := [d1, d2] }
  | _ => none }
def RulesStepsWrongFalsely : Prop := rulesStepsRow.holds Tryz.pinned (OpenSpec.ofChange rulesStepsWrong)

/-- 'tocsinlaw19.RulesRestored': WHATEVER THE INPUT: true; the input reads as it did. -/
def rulesRestoredSpec : ChangeSpec := { name := "rulesRestored", fn := fun _ => fun
  | [d1, d2, d3, d4] => { results := [.lit (.bool true)], args := [d1, d2, d3, d4] }
  | _ => none }
def rulesRestoredRow : OpenClaim := { program := "ytechilkjfhpkpaagreatdoor", sum := "1e3a5869074e65f102463877edb464f51793394357a03f8e72e7c8ba29af40f4", func := "tocsin/tocsinlaw19.RulesRestored", spec := "rulesRestored", inPlace := ["math.Float64bits", "internal/reflectlite.TypeOf", "internal/reflectlite.ValueOf", "(internal/reflectlite.Value).Type", "(internal/reflectlite.Value).IsNil", "(internal/reflectlite.Value).Elem", "(internal/reflectlite.Value).Set", "internal/bytealg.abigen_runtime_cmpstring"], unfollowed := true, recurses := true, named := ["unicode/utf8.first", "unicode/utf8.acceptRanges", "tocsin/rules.errWrong", "errors.errorType"], apart := false, laid := [("unicode/utf8.acceptRanges", laid_unicode_utf8_acceptRanges), ("errors.errorType", laid_errors_errorType), ("tocsin/rules.errWrong", laid_tocsin_rules_errWrong), ("unicode/utf8.first", laid_unicode_utf8_first)] }
def RulesRestoredSaid : Prop := rulesRestoredRow.holds Tryz.pinned (OpenSpec.ofChange rulesRestoredSpec)

/-- ITS FALSE NEIGHBOUR: 'it returns false'. Refute it at one input. -/
def rulesRestoredWrong : ChangeSpec := { name := "rulesRestored", fn := fun _ => fun
  | [d1, d2, d3, d4] => { results := [.lit (.bool false)], args := [d1, d2, d3, d4] }
  | _ => none }
def RulesRestoredWrongFalsely : Prop := rulesRestoredRow.holds Tryz.pinned (OpenSpec.ofChange rulesRestoredWrong)

/-- 'tocsinlaw19.RulesOrder': WHATEVER THE INPUT: true; the input reads as it did. -/
def rulesOrderSpec : ChangeSpec := { name := "rulesOrder", fn := fun _ => fun
  | [d1, d2] => { results := [.lit (.bool true)], args := [d1, d2] }
  | _ => none }
def rulesOrderRow : OpenClaim := { program := "ytechilkjfhpkpaagreatdoor", sum := "1e3a5869074e65f102463877edb464f51793394357a03f8e72e7c8ba29af40f4", func := "tocsin/tocsinlaw19.RulesOrder", spec := "rulesOrder", inPlace := ["internal/reflectlite.TypeOf", "internal/reflectlite.ValueOf", "(internal/reflectlite.Value).Type", "(internal/reflectlite.Value).IsNil", "(internal/reflectlite.Value).Elem", "(internal/reflectlite.Value).Set", "internal/bytealg.abigen_runtime_cmpstring", "math.Float64bits"], unfollowed := true, recurses := true, named := ["unicode/utf8.first", "unicode/utf8.acceptRanges", "tocsin/rules.errWrong", "errors.errorType"], apart := false, laid := [("unicode/utf8.acceptRanges", laid_unicode_utf8_acceptRanges), ("errors.errorType", laid_errors_errorType), ("tocsin/rules.errWrong", laid_tocsin_rules_errWrong), ("unicode/utf8.first", laid_unicode_utf8_first)] }
def RulesOrderSaid : Prop := rulesOrderRow.holds Tryz.pinned (OpenSpec.ofChange rulesOrderSpec)

/-- ITS FALSE NEIGHBOUR: 'it returns false'. Refute it at one input. -/
def rulesOrderWrong : ChangeSpec := { name := "rulesOrder", fn := fun _ => fun
  | [d1, d2] => { results := [.lit (.bool false)], args := [d1, d2] }
  | _ => none }
def RulesOrderWrongFalsely : Prop := rulesOrderRow.holds Tryz.pinned (OpenSpec.ofChange rulesOrderWrong)

/-- 'tocsinlaw19.RulesNames': WHATEVER THE INPUT: true; the input reads as it did. -/
def rulesNamesSpec : ChangeSpec := { name := "rulesNames", fn := fun _ => fun
  | [d1, d2, d3, d4, d5, d6] => { results := [.lit (.bool true)], args := [d1, d2, d3, d4, d5, d6] }
  | _ => none }
def rulesNamesRow : OpenClaim := { program := "ytechilkjfhpkpaagreatdoor", sum := "1e3a5869074e65f102463877edb464f51793394357a03f8e72e7c8ba29af40f4", func := "tocsin/tocsinlaw19.RulesNames", spec := "rulesNames", inPlace := ["internal/reflectlite.TypeOf", "internal/reflectlite.ValueOf", "(internal/reflectlite.Value).Type", "(internal/reflectlite.Value).IsNil", "(internal/reflectlite.Value).Elem", "(internal/reflectlite.Value).Set", "internal/bytealg.abigen_runtime_cmpstring", "math.Float64bits"], unfollowed := true, recurses := true, named := ["unicode/utf8.first", "unicode/utf8.acceptRanges", "tocsin/rules.errWrong", "errors.errorType"], apart := false, laid := [("unicode/utf8.acceptRanges", laid_unicode_utf8_acceptRanges), ("errors.errorType", laid_errors_errorType), ("tocsin/rules.errWrong", laid_tocsin_rules_errWrong), ("unicode/utf8.first", laid_unicode_utf8_first)] }
def RulesNamesSaid : Prop := rulesNamesRow.holds Tryz.pinned (OpenSpec.ofChange rulesNamesSpec)

/-- ITS FALSE NEIGHBOUR: 'it returns false'. Refute it at one input. -/
def rulesNamesWrong : ChangeSpec := { name := "rulesNames", fn := fun _ => fun
  | [d1, d2, d3, d4, d5, d6] => { results := [.lit (.bool false)], args := [d1, d2, d3, d4, d5, d6] }
  | _ => none }
def RulesNamesWrongFalsely : Prop := rulesNamesRow.holds Tryz.pinned (OpenSpec.ofChange rulesNamesWrong)

/- THE SECOND FORM. 'bulk': how many values and letters a reading holds, each counted each time it is reached (what is shared counts as often as it is met; a slice's spare places count too). A statement '..UptoSaid' is the law's where the arguments, and the package variables that the reading takes, are together of bulk at most 1048576: NARROWER than '..Said'. Prove '..Said' where nothing that the law and all that it calls make is longer than what came in: it says more and counts as full. Else prove '..UptoSaid'. A law counts once. -/
mutual
def uptoBulk {H : Type} : DataW H → Nat
  | .lit (.string bytes) => bytes.length + 1
  | .lit _ => 1
  | .nil => 1
  | .ptr d => uptoBulk d + 1
  | .slice elems spare => uptoBulkAll elems + uptoBulkAll spare + 1
  | .agg parts => uptoBulkAll parts + 1
  | .iface _ d => uptoBulk d + 1
  | .map entries => uptoBulkEntries entries + 1
  | .held _ => 1
def uptoBulkAll {H : Type} : List (DataW H) → Nat
  | [] => 0
  | d :: r => uptoBulk d + uptoBulkAll r
def uptoBulkEntries {H : Type} : List (Lit × DataW H) → Nat
  | [] => 0
  | x :: r => uptoBulkEntry x + uptoBulkEntries r
def uptoBulkEntry {H : Type} : Lit × DataW H → Nat
  | (.string bytes, d) => bytes.length + uptoBulk d + 1
  | (_, d) => uptoBulk d + 1
 end
def uptoSmall : (H : Type) → List (DataW H) → Bool := fun _ ds => decide (uptoBulkAll ds ≤ 1048576)
def OpenSpec.upto (s : _root_.Go.ChangeSpec) : _root_.Go.OpenSpec := { _root_.Go.OpenSpec.ofChange s with cond := some uptoSmall }

/-- 'tocsinlaw19.RulesFor', WHERE WHAT IT READS IS OF BULK AT MOST 1048576: true; the input reads as it did. -/
def rulesForUptoRow : OpenClaim := { program := "ytechilkjfhpkpaagreatdoor", sum := "1e3a5869074e65f102463877edb464f51793394357a03f8e72e7c8ba29af40f4", func := "tocsin/tocsinlaw19.RulesFor", spec := "rulesFor", inPlace := ["internal/reflectlite.TypeOf", "internal/reflectlite.ValueOf", "(internal/reflectlite.Value).Type", "(internal/reflectlite.Value).IsNil", "(internal/reflectlite.Value).Elem", "(internal/reflectlite.Value).Set", "internal/bytealg.abigen_runtime_cmpstring"], unfollowed := true, recurses := true, named := ["unicode/utf8.first", "unicode/utf8.acceptRanges", "tocsin/rules.errWrong", "errors.errorType"], apart := false, laid := [("unicode/utf8.acceptRanges", laid_unicode_utf8_acceptRanges), ("errors.errorType", laid_errors_errorType), ("tocsin/rules.errWrong", laid_tocsin_rules_errWrong), ("unicode/utf8.first", laid_unicode_utf8_first)], narrowed := true }
def RulesForUptoSaid : Prop := rulesForUptoRow.holds Tryz.pinned (OpenSpec.upto rulesForSpec)

/-- 'tocsinlaw19.RulesKept', WHERE WHAT IT READS IS OF BULK AT MOST 1048576: true; the input reads as it did. -/
def rulesKeptUptoRow : OpenClaim := { program := "ytechilkjfhpkpaagreatdoor", sum := "1e3a5869074e65f102463877edb464f51793394357a03f8e72e7c8ba29af40f4", func := "tocsin/tocsinlaw19.RulesKept", spec := "rulesKept", inPlace := ["internal/reflectlite.TypeOf", "internal/reflectlite.ValueOf", "(internal/reflectlite.Value).Type", "(internal/reflectlite.Value).IsNil", "(internal/reflectlite.Value).Elem", "(internal/reflectlite.Value).Set", "internal/bytealg.abigen_runtime_cmpstring", "math.Float64bits"], unfollowed := true, recurses := true, named := ["unicode/utf8.first", "unicode/utf8.acceptRanges", "tocsin/rules.errWrong", "errors.errorType"], apart := false, laid := [("unicode/utf8.acceptRanges", laid_unicode_utf8_acceptRanges), ("errors.errorType", laid_errors_errorType), ("tocsin/rules.errWrong", laid_tocsin_rules_errWrong), ("unicode/utf8.first", laid_unicode_utf8_first)], narrowed := true }
def RulesKeptUptoSaid : Prop := rulesKeptUptoRow.holds Tryz.pinned (OpenSpec.upto rulesKeptSpec)

/-- 'tocsinlaw19.RulesSteps', WHERE WHAT IT READS IS OF BULK AT MOST 1048576: true; the input reads as it did. -/
def rulesStepsUptoRow : OpenClaim := { program := "ytechilkjfhpkpaagreatdoor", sum := "1e3a5869074e65f102463877edb464f51793394357a03f8e72e7c8ba29af40f4", func := "tocsin/tocsinlaw19.RulesSteps", spec := "rulesSteps", inPlace := ["internal/reflectlite.TypeOf", "internal/reflectlite.ValueOf", "(internal/reflectlite.Value).Type", "(internal/reflectlite.Value).IsNil", "(internal/reflectlite.Value).Elem", "(internal/reflectlite.Value).Set", "internal/bytealg.abigen_runtime_cmpstring", "math.Float64bits"], unfollowed := true, recurses := true, named := ["unicode/utf8.first", "unicode/utf8.acceptRanges", "tocsin/rules.errWrong", "errors.errorType"], apart := false, laid := [("unicode/utf8.acceptRanges", laid_unicode_utf8_acceptRanges), ("errors.errorType", laid_errors_errorType), ("tocsin/rules.errWrong", laid_tocsin_rules_errWrong), ("unicode/utf8.first", laid_unicode_utf8_first)], narrowed := true }
def RulesStepsUptoSaid : Prop := rulesStepsUptoRow.holds Tryz.pinned (OpenSpec.upto rulesStepsSpec)

/-- 'tocsinlaw19.RulesRestored', WHERE WHAT IT READS IS OF BULK AT MOST 1048576: true; the input reads as it did. -/
def rulesRestoredUptoRow : OpenClaim := { program := "ytechilkjfhpkpaagreatdoor", sum := "1e3a5869074e65f102463877edb464f51793394357a03f8e72e7c8ba29af40f4", func := "tocsin/tocsinlaw19.RulesRestored", spec := "rulesRestored", inPlace := ["math.Float64bits", "internal/reflectlite.TypeOf", "internal/reflectlite.ValueOf", "(internal/reflectlite.Value).Type", "(internal/reflectlite.Value).IsNil", "(internal/reflectlite.Value).Elem", "(internal/reflectlite.Value).Set", "internal/bytealg.abigen_runtime_cmpstring"], unfollowed := true, recurses := true, named := ["unicode/utf8.first", "unicode/utf8.acceptRanges", "tocsin/rules.errWrong", "errors.errorType"], apart := false, laid := [("unicode/utf8.acceptRanges", laid_unicode_utf8_acceptRanges), ("errors.errorType", laid_errors_errorType), ("tocsin/rules.errWrong", laid_tocsin_rules_errWrong), ("unicode/utf8.first", laid_unicode_utf8_first)], narrowed := true }
def RulesRestoredUptoSaid : Prop := rulesRestoredUptoRow.holds Tryz.pinned (OpenSpec.upto rulesRestoredSpec)

/-- 'tocsinlaw19.RulesOrder', WHERE WHAT IT READS IS OF BULK AT MOST 1048576: true; the input reads as it did. -/
def rulesOrderUptoRow : OpenClaim := { program := "ytechilkjfhpkpaagreatdoor", sum := "1e3a5869074e65f102463877edb464f51793394357a03f8e72e7c8ba29af40f4", func := "tocsin/tocsinlaw19.RulesOrder", spec := "rulesOrder", inPlace := ["internal/reflectlite.TypeOf", "internal/reflectlite.ValueOf", "(internal/reflectlite.Value).Type", "(internal/reflectlite.Value).IsNil", "(internal/reflectlite.Value).Elem", "(internal/reflectlite.Value).Set", "internal/bytealg.abigen_runtime_cmpstring", "math.Float64bits"], unfollowed := true, recurses := true, named := ["unicode/utf8.first", "unicode/utf8.acceptRanges", "tocsin/rules.errWrong", "errors.errorType"], apart := false, laid := [("unicode/utf8.acceptRanges", laid_unicode_utf8_acceptRanges), ("errors.errorType", laid_errors_errorType), ("tocsin/rules.errWrong", laid_tocsin_rules_errWrong), ("unicode/utf8.first", laid_unicode_utf8_first)], narrowed := true }
def RulesOrderUptoSaid : Prop := rulesOrderUptoRow.holds Tryz.pinned (OpenSpec.upto rulesOrderSpec)

/-- 'tocsinlaw19.RulesNames', WHERE WHAT IT READS IS OF BULK AT MOST 1048576: true; the input reads as it did. -/
def rulesNamesUptoRow : OpenClaim := { program := "ytechilkjfhpkpaagreatdoor", sum := "1e3a5869074e65f102463877edb464f51793394357a03f8e72e7c8ba29af40f4", func := "tocsin/tocsinlaw19.RulesNames", spec := "rulesNames", inPlace := ["internal/reflectlite.TypeOf", "internal/reflectlite.ValueOf", "(internal/reflectlite.Value).Type", "(internal/reflectlite.Value).IsNil", "(internal/reflectlite.Value).Elem", "(internal/reflectlite.Value).Set", "internal/bytealg.abigen_runtime_cmpstring", "math.Float64bits"], unfollowed := true, recurses := true, named := ["unicode/utf8.first", "unicode/utf8.acceptRanges", "tocsin/rules.errWrong", "errors.errorType"], apart := false, laid := [("unicode/utf8.acceptRanges", laid_unicode_utf8_acceptRanges), ("errors.errorType", laid_errors_errorType), ("tocsin/rules.errWrong", laid_tocsin_rules_errWrong), ("unicode/utf8.first", laid_unicode_utf8_first)], narrowed := true }
def RulesNamesUptoSaid : Prop := rulesNamesUptoRow.holds Tryz.pinned (OpenSpec.upto rulesNamesSpec)

end Rows
end Go.Proofs.YtechilkjfhpkpaaGreatDoor
