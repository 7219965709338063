/-
  NARROWER THAN 'FOR EVERY INPUT', by the rows' own cells (each row's printed sentence says how): WalBack: laid · WalCrash: laid · WalChecked: laid · WalNil: laid.
  DERIVED. THE GIVEN ROWS OF THIS SEAT. 4 by the template 'for every input the law returns true; each argument reads behind the call as it read before'; 0 by the template 'total and deterministic' (their statements: YtdaghggdmgbpnaaDoorTotals.lean).
  GIVEN WITH THE SEED: the statements are not yours to turn. If you find one false, say at which input.
  Laid BY PROGRAM, IN A SANDBOX (cutbox-rows.mjs): the forced cells as the released guide's own fill.sh prints them over the translation 9a56648294abee95… (all of the seat's roots in one cut). By AI agents, Wed Nov 11 2026. No macro, syntax, notation, axiom, sorry.
-/
import Derived.Test.YtdaghggdmgbpnaaDoorChecked
import GoSem.Claim
import GoSem.ClaimJoined
import GoSem.ClaimMapViews
import Derived.JoinedTies
import Derived.KernelRfl
namespace Go.Proofs.YtdaghggdmgbpnaaDoor
/- THE CELL 'sum', in the pinned program and in every row, IS THE sha256 OF THE DUMP (.gsa) THAT YtdaghggdmgbpnaaDoorProg.lean LOADS. Nothing in Lean hashes anything: it is a label: what it is worth is what the hold of that sum in a sandbox is worth. -/
noncomputable def Tryd.pinned : Pinned := { name := "ytdaghggdmgbpnaadoor", sum := "9a56648294abee95d8c44a15b222e22bfb174ee5eff5274a9518b65b4d7713f1", checked := Tryd.checked }
namespace Rows
def none {H : Type} : Left H := { results := [], args := [] }

/- WHAT THE LISTED PACKAGE-LEVEL VARIABLES READ AS WHEN THE CALL BEGINS. Each datum BY PROGRAM (the guide's laid-datum.mjs) off the statement by which the dump's own 'gosem.cut.vars' lays the variable. In a bare row this is a premise. The card (YtdaghggdmgbpnaaDoorCards.lean) ties it to the program's text. -/
def laid_tocsin_vint_halves {H : Type} : DataW H := .agg [.lit (.int .u32 0), .lit (.int .u32 274646895), .lit (.int .u32 549293790), .lit (.int .u32 820201905), .lit (.int .u32 1098587580), .lit (.int .u32 1361435347), .lit (.int .u32 1640403810), .lit (.int .u32 1905808397), .lit (.int .u32 2197175160), .lit (.int .u32 2460548119), .lit (.int .u32 2722870694), .lit (.int .u32 2987750089), .lit (.int .u32 3280807620), .lit (.int .u32 3553878443), .lit (.int .u32 3811616794), .lit (.int .u32 4084100981)]

/-- 'tocsinlaw07.WalBack': WHATEVER THE INPUT: true; the input reads as it did. -/
def walBackSpec : ChangeSpec := { name := "walBack", fn := fun _ => fun
  | [d1, d2] => { results := [.lit (.bool true)], args := [d1, d2] }
  | _ => none }
def walBackRow : OpenClaim := { program := "ytdaghggdmgbpnaadoor", sum := "9a56648294abee95d8c44a15b222e22bfb174ee5eff5274a9518b65b4d7713f1", func := "tocsin/tocsinlaw07.WalBack", spec := "walBack", unfollowed := true, recurses := true, named := ["tocsin/vint.halves"], apart := false, laid := [("tocsin/vint.halves", laid_tocsin_vint_halves)] }
def WalBackSaid : Prop := walBackRow.holds Tryd.pinned (OpenSpec.ofChange walBackSpec)

/-- ITS FALSE NEIGHBOUR: 'it returns false'. Refute it at one input. -/
def walBackWrong : ChangeSpec := { name := "walBack", fn := fun _ => fun
  | [d1, d2] => { results := [.lit (.bool false)], args := [d1, d2] }
  | _ => none }
def WalBackWrongFalsely : Prop := walBackRow.holds Tryd.pinned (OpenSpec.ofChange walBackWrong)

/-- 'tocsinlaw07.WalCrash': WHATEVER THE INPUT: true; the input reads as it did. -/
def walCrashSpec : ChangeSpec := { name := "walCrash", fn := fun _ => fun
  | [d1, d2, d3, d4, d5] => { results := [.lit (.bool true)], args := [d1, d2, d3, d4, d5] }
  | _ => none }
def walCrashRow : OpenClaim := { program := "ytdaghggdmgbpnaadoor", sum := "9a56648294abee95d8c44a15b222e22bfb174ee5eff5274a9518b65b4d7713f1", func := "tocsin/tocsinlaw07.WalCrash", spec := "walCrash", recurses := true, named := ["tocsin/vint.halves"], apart := false, laid := [("tocsin/vint.halves", laid_tocsin_vint_halves)] }
def WalCrashSaid : Prop := walCrashRow.holds Tryd.pinned (OpenSpec.ofChange walCrashSpec)

/-- ITS FALSE NEIGHBOUR: 'it returns false'. Refute it at one input. -/
def walCrashWrong : ChangeSpec := { name := "walCrash", fn := fun _ => fun
  | [d1, d2, d3, d4, d5] => { results := [.lit (.bool false)], args := [d1, d2, d3, d4, d5] }
  | _ => none }
def WalCrashWrongFalsely : Prop := walCrashRow.holds Tryd.pinned (OpenSpec.ofChange walCrashWrong)

/-- 'tocsinlaw07.WalChecked': WHATEVER THE INPUT: true; the input reads as it did. -/
def walCheckedSpec : ChangeSpec := { name := "walChecked", fn := fun _ => fun
  | [d1, d2, d3] => { results := [.lit (.bool true)], args := [d1, d2, d3] }
  | _ => none }
def walCheckedRow : OpenClaim := { program := "ytdaghggdmgbpnaadoor", sum := "9a56648294abee95d8c44a15b222e22bfb174ee5eff5274a9518b65b4d7713f1", func := "tocsin/tocsinlaw07.WalChecked", spec := "walChecked", unfollowed := true, recurses := true, named := ["tocsin/vint.halves"], apart := false, laid := [("tocsin/vint.halves", laid_tocsin_vint_halves)] }
def WalCheckedSaid : Prop := walCheckedRow.holds Tryd.pinned (OpenSpec.ofChange walCheckedSpec)

/-- ITS FALSE NEIGHBOUR: 'it returns false'. Refute it at one input. -/
def walCheckedWrong : ChangeSpec := { name := "walChecked", fn := fun _ => fun
  | [d1, d2, d3] => { results := [.lit (.bool false)], args := [d1, d2, d3] }
  | _ => none }
def WalCheckedWrongFalsely : Prop := walCheckedRow.holds Tryd.pinned (OpenSpec.ofChange walCheckedWrong)

/-- 'tocsinlaw07.WalNil': WHATEVER THE INPUT: true; the input reads as it did. -/
def walNilSpec : ChangeSpec := { name := "walNil", fn := fun _ => fun
  | [d1, d2, d3] => { results := [.lit (.bool true)], args := [d1, d2, d3] }
  | _ => none }
def walNilRow : OpenClaim := { program := "ytdaghggdmgbpnaadoor", sum := "9a56648294abee95d8c44a15b222e22bfb174ee5eff5274a9518b65b4d7713f1", func := "tocsin/tocsinlaw07.WalNil", spec := "walNil", unfollowed := true, recurses := true, named := ["tocsin/vint.halves"], apart := false, laid := [("tocsin/vint.halves", laid_tocsin_vint_halves)] }
def WalNilSaid : Prop := walNilRow.holds Tryd.pinned (OpenSpec.ofChange walNilSpec)

/-- ITS FALSE NEIGHBOUR: 'it returns false'. Refute it at one input. -/
def walNilWrong : ChangeSpec := { name := "walNil", fn := fun _ => fun
  | [d1, d2, d3] => { results := [.lit (.bool false)], args := [d1, d2, d3] }
  | _ => none }
def WalNilWrongFalsely : Prop := walNilRow.holds Tryd.pinned (OpenSpec.ofChange walNilWrong)

/- THE SECOND FORM. 'bulk': how many values and letters a reading holds, each counted each time it is reached (what is shared counts as often as it is met; a slice's spare places count too). A statement '..UptoSaid' is the law's where the arguments, and the package variables that the reading takes, are together of bulk at most 1048576: NARROWER than '..Said'. Prove '..Said' where nothing that the law and all that it calls make is longer than what came in: it says more and counts as full. Else prove '..UptoSaid'. A law counts once. -/
mutual
def uptoBulk {H : Type} : DataW H → Nat
  | .lit (.string bytes) => bytes.length + 1
  | .lit _ => 1
  | .nil => 1
  | .ptr d => uptoBulk d + 1
  | .slice elems spare => uptoBulkAll elems + uptoBulkAll spare + 1
  | .agg parts => uptoBulkAll parts + 1
  | .iface _ d => uptoBulk d + 1
  | .map entries => uptoBulkEntries entries + 1
  | .held _ => 1
def uptoBulkAll {H : Type} : List (DataW H) → Nat
  | [] => 0
  | d :: r => uptoBulk d + uptoBulkAll r
def uptoBulkEntries {H : Type} : List (Lit × DataW H) → Nat
  | [] => 0
  | x :: r => uptoBulkEntry x + uptoBulkEntries r
def uptoBulkEntry {H : Type} : Lit × DataW H → Nat
  | (.string bytes, d) => bytes.length + uptoBulk d + 1
  | (_, d) => uptoBulk d + 1
 end
def uptoSmall : (H : Type) → List (DataW H) → Bool := fun _ ds => decide (uptoBulkAll ds ≤ 1048576)
def OpenSpec.upto (s : _root_.Go.ChangeSpec) : _root_.Go.OpenSpec := { _root_.Go.OpenSpec.ofChange s with cond := some uptoSmall }

/-- 'tocsinlaw07.WalBack', WHERE WHAT IT READS IS OF BULK AT MOST 1048576: true; the input reads as it did. -/
def walBackUptoRow : OpenClaim := { program := "ytdaghggdmgbpnaadoor", sum := "9a56648294abee95d8c44a15b222e22bfb174ee5eff5274a9518b65b4d7713f1", func := "tocsin/tocsinlaw07.WalBack", spec := "walBack", unfollowed := true, recurses := true, named := ["tocsin/vint.halves"], apart := false, laid := [("tocsin/vint.halves", laid_tocsin_vint_halves)], narrowed := true }
def WalBackUptoSaid : Prop := walBackUptoRow.holds Tryd.pinned (OpenSpec.upto walBackSpec)

/-- 'tocsinlaw07.WalCrash', WHERE WHAT IT READS IS OF BULK AT MOST 1048576: true; the input reads as it did. -/
def walCrashUptoRow : OpenClaim := { program := "ytdaghggdmgbpnaadoor", sum := "9a56648294abee95d8c44a15b222e22bfb174ee5eff5274a9518b65b4d7713f1", func := "tocsin/tocsinlaw07.WalCrash", spec := "walCrash", recurses := true, named := ["tocsin/vint.halves"], apart := false, laid := [("tocsin/vint.halves", laid_tocsin_vint_halves)], narrowed := true }
def WalCrashUptoSaid : Prop := walCrashUptoRow.holds Tryd.pinned (OpenSpec.upto walCrashSpec)

/-- 'tocsinlaw07.WalChecked', WHERE WHAT IT READS IS OF BULK AT MOST 1048576: true; the input reads as it did. -/
def walCheckedUptoRow : OpenClaim := { program := "ytdaghggdmgbpnaadoor", sum := "9a56648294abee95d8c44a15b222e22bfb174ee5eff5274a9518b65b4d7713f1", func := "tocsin/tocsinlaw07.WalChecked", spec := "walChecked", unfollowed := true, recurses := true, named := ["tocsin/vint.halves"], apart := false, laid := [("tocsin/vint.halves", laid_tocsin_vint_halves)], narrowed := true }
def WalCheckedUptoSaid : Prop := walCheckedUptoRow.holds Tryd.pinned (OpenSpec.upto walCheckedSpec)

/-- 'tocsinlaw07.WalNil', WHERE WHAT IT READS IS OF BULK AT MOST 1048576: true; the input reads as it did. -/
def walNilUptoRow : OpenClaim := { program := "ytdaghggdmgbpnaadoor", sum := "9a56648294abee95d8c44a15b222e22bfb174ee5eff5274a9518b65b4d7713f1", func := "tocsin/tocsinlaw07.WalNil", spec := "walNil", unfollowed := true, recurses := true, named := ["tocsin/vint.halves"], apart := false, laid := [("tocsin/vint.halves", laid_tocsin_vint_halves)], narrowed := true }
def WalNilUptoSaid : Prop := walNilUptoRow.holds Tryd.pinned (OpenSpec.upto walNilSpec)

end Rows
end Go.Proofs.YtdaghggdmgbpnaaDoor
