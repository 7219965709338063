/-
  No cell of these rows narrows 'for every input' (looked for: loops, veiled, ifaces, maps, wideKeys, modest, calm, conditions, laid).
  DERIVED. THE GIVEN ROWS OF THIS SEAT. 4 by the template 'for every input the law returns true; each argument reads behind the call as it read before'; 0 by the template 'total and deterministic' (their statements: YtaciaidehamfgaaTotals.lean).
  GIVEN WITH THE SEED: the statements are not yours to turn. If you find one false, say at which input.
  Laid BY PROGRAM, IN A SANDBOX (cutbox-rows.mjs): the forced cells as the released guide's own fill.sh prints them over the translation 782543e83b962120… (all of the seat's roots in one cut). By AI agents, Wed Nov 11 2026. No macro, syntax, notation, axiom, sorry.
-/
import Derived.Test.YtaciaidehamfgaaChecked
import GoSem.Claim
import GoSem.ClaimJoined
import GoSem.ClaimMapViews
import Derived.JoinedTies
import Derived.KernelRfl
namespace Go.Proofs.Ytaciaidehamfgaa
/- THE CELL 'sum', in the pinned program and in every row, IS THE sha256 OF THE DUMP (.gsa) THAT YtaciaidehamfgaaProg.lean LOADS. Nothing in Lean hashes anything: it is a label: what it is worth is what the hold of that sum in a sandbox is worth. -/
noncomputable def Try.pinned : Pinned := { name := "ytaciaidehamfgaa", sum := "782543e83b9621202b642a302a3804963f19f4ef74bc7736ebbda8c632a93738", checked := Try.checked }
namespace Rows
def none {H : Type} : Left H := { results := [], args := [] }

/-- 'tocsinlaw17.OverQuantiles': WHATEVER THE INPUT: true; the input reads as it did. -/
def overQuantilesSpec : ChangeSpec := { name := "overQuantiles", fn := fun _ => fun
  | [d1, d2] => { results := [.lit (.bool true)], args := [d1, d2] }
  | _ => none }
def overQuantilesRow : OpenClaim := { program := "ytaciaidehamfgaa", sum := "782543e83b9621202b642a302a3804963f19f4ef74bc7736ebbda8c632a93738", func := "tocsin/tocsinlaw17.OverQuantiles", spec := "overQuantiles", inPlace := ["math.Float64frombits", "math.Float64bits", "math.archFloor", "math.archTrunc"], unfollowed := true, recurses := true, apart := false }
def OverQuantilesSaid : Prop := overQuantilesRow.holds Try.pinned (OpenSpec.ofChange overQuantilesSpec)

/-- ITS FALSE NEIGHBOUR: 'it returns false'. Refute it at one input. -/
def overQuantilesWrong : ChangeSpec := { name := "overQuantiles", fn := fun _ => fun
  | [d1, d2] => { results := [.lit (.bool false)], args := [d1, d2] }
  | _ => none }
def OverQuantilesWrongFalsely : Prop := overQuantilesRow.holds Try.pinned (OpenSpec.ofChange overQuantilesWrong)

/-- 'tocsinlaw17.OverBounds': WHATEVER THE INPUT: true; the input reads as it did. -/
def overBoundsSpec : ChangeSpec := { name := "overBounds", fn := fun _ => fun
  | [d1, d2, d3] => { results := [.lit (.bool true)], args := [d1, d2, d3] }
  | _ => none }
def overBoundsRow : OpenClaim := { program := "ytaciaidehamfgaa", sum := "782543e83b9621202b642a302a3804963f19f4ef74bc7736ebbda8c632a93738", func := "tocsin/tocsinlaw17.OverBounds", spec := "overBounds", inPlace := ["math.Float64bits", "math.Float64frombits", "math.archFloor", "math.archTrunc"], unfollowed := true, recurses := true, apart := false }
def OverBoundsSaid : Prop := overBoundsRow.holds Try.pinned (OpenSpec.ofChange overBoundsSpec)

/-- ITS FALSE NEIGHBOUR: 'it returns false'. Refute it at one input. -/
def overBoundsWrong : ChangeSpec := { name := "overBounds", fn := fun _ => fun
  | [d1, d2, d3] => { results := [.lit (.bool false)], args := [d1, d2, d3] }
  | _ => none }
def OverBoundsWrongFalsely : Prop := overBoundsRow.holds Try.pinned (OpenSpec.ofChange overBoundsWrong)

/-- 'tocsinlaw17.OverRises': WHATEVER THE INPUT: true; the input reads as it did. -/
def overRisesSpec : ChangeSpec := { name := "overRises", fn := fun _ => fun
  | [d1, d2, d3] => { results := [.lit (.bool true)], args := [d1, d2, d3] }
  | _ => none }
def overRisesRow : OpenClaim := { program := "ytaciaidehamfgaa", sum := "782543e83b9621202b642a302a3804963f19f4ef74bc7736ebbda8c632a93738", func := "tocsin/tocsinlaw17.OverRises", spec := "overRises", inPlace := ["math.Float64bits", "math.Float64frombits", "math.archFloor", "math.archTrunc"], unfollowed := true, recurses := true, apart := false }
def OverRisesSaid : Prop := overRisesRow.holds Try.pinned (OpenSpec.ofChange overRisesSpec)

/-- ITS FALSE NEIGHBOUR: 'it returns false'. Refute it at one input. -/
def overRisesWrong : ChangeSpec := { name := "overRises", fn := fun _ => fun
  | [d1, d2, d3] => { results := [.lit (.bool false)], args := [d1, d2, d3] }
  | _ => none }
def OverRisesWrongFalsely : Prop := overRisesRow.holds Try.pinned (OpenSpec.ofChange overRisesWrong)

/-- 'tocsinlaw17.OverStale': WHATEVER THE INPUT: true; the input reads as it did. -/
def overStaleSpec : ChangeSpec := { name := "overStale", fn := fun _ => fun
  | [d1, d2, d3, d4] => { results := [.lit (.bool true)], args := [d1, d2, d3, d4] }
  | _ => none }
def overStaleRow : OpenClaim := { program := "ytaciaidehamfgaa", sum := "782543e83b9621202b642a302a3804963f19f4ef74bc7736ebbda8c632a93738", func := "tocsin/tocsinlaw17.OverStale", spec := "overStale", inPlace := ["math.Float64frombits", "math.Float64bits", "math.archFloor", "math.archTrunc"], unfollowed := true, recurses := true, apart := false }
def OverStaleSaid : Prop := overStaleRow.holds Try.pinned (OpenSpec.ofChange overStaleSpec)

/-- ITS FALSE NEIGHBOUR: 'it returns false'. Refute it at one input. -/
def overStaleWrong : ChangeSpec := { name := "overStale", fn := fun _ => fun
  | [d1, d2, d3, d4] => { results := [.lit (.bool false)], args := [d1, d2, d3, d4] }
  | _ => none }
def OverStaleWrongFalsely : Prop := overStaleRow.holds Try.pinned (OpenSpec.ofChange overStaleWrong)

/- THE SECOND FORM. 'bulk': how many values and letters a reading holds, each counted each time it is reached (what is shared counts as often as it is met; a slice's spare places count too). A statement '..UptoSaid' is the law's where the arguments, and the package variables that the reading takes, are together of bulk at most 1048576: NARROWER than '..Said'. Prove '..Said' where nothing that the law and all that it calls make is longer than what came in: it says more and counts as full. Else prove '..UptoSaid'. A law counts once. -/
mutual
def uptoBulk {H : Type} : DataW H → Nat
  | .lit (.string bytes) => bytes.length + 1
  | .lit _ => 1
  | .nil => 1
  | .ptr d => uptoBulk d + 1
  | .slice elems spare => uptoBulkAll elems + uptoBulkAll spare + 1
  | .agg parts => uptoBulkAll parts + 1
  | .iface _ d => uptoBulk d + 1
  | .map entries => uptoBulkEntries entries + 1
  | .held _ => 1
def uptoBulkAll {H : Type} : List (DataW H) → Nat
  | [] => 0
  | d :: r => uptoBulk d + uptoBulkAll r
def uptoBulkEntries {H : Type} : List (Lit × DataW H) → Nat
  | [] => 0
  | x :: r => uptoBulkEntry x + uptoBulkEntries r
def uptoBulkEntry {H : Type} : Lit × DataW H → Nat
  | (.string bytes, d) => bytes.length + uptoBulk d + 1
  | (_, d) => uptoBulk d + 1
 end
def uptoSmall : (H : Type) → List (DataW H) → Bool := fun _ ds => decide (uptoBulkAll ds ≤ 1048576)
def OpenSpec.upto (s : _root_.Go.ChangeSpec) : _root_.Go.OpenSpec := { _root_.Go.OpenSpec.ofChange s with cond := some uptoSmall }

/-- 'tocsinlaw17.OverQuantiles', WHERE WHAT IT READS IS OF BULK AT MOST 1048576: true; the input reads as it did. -/
def overQuantilesUptoRow : OpenClaim := { program := "ytaciaidehamfgaa", sum := "782543e83b9621202b642a302a3804963f19f4ef74bc7736ebbda8c632a93738", func := "tocsin/tocsinlaw17.OverQuantiles", spec := "overQuantiles", inPlace := ["math.Float64frombits", "math.Float64bits", "math.archFloor", "math.archTrunc"], unfollowed := true, recurses := true, apart := false, narrowed := true }
def OverQuantilesUptoSaid : Prop := overQuantilesUptoRow.holds Try.pinned (OpenSpec.upto overQuantilesSpec)

/-- 'tocsinlaw17.OverBounds', WHERE WHAT IT READS IS OF BULK AT MOST 1048576: true; the input reads as it did. -/
def overBoundsUptoRow : OpenClaim := { program := "ytaciaidehamfgaa", sum := "782543e83b9621202b642a302a3804963f19f4ef74bc7736ebbda8c632a93738", func := "tocsin/tocsinlaw17.OverBounds", spec := "overBounds", inPlace := ["math.Float64bits", "math.Float64frombits", "math.archFloor", "math.archTrunc"], unfollowed := true, recurses := true, apart := false, narrowed := true }
def OverBoundsUptoSaid : Prop := overBoundsUptoRow.holds Try.pinned (OpenSpec.upto overBoundsSpec)

/-- 'tocsinlaw17.OverRises', WHERE WHAT IT READS IS OF BULK AT MOST 1048576: true; the input reads as it did. -/
def overRisesUptoRow : OpenClaim := { program := "ytaciaidehamfgaa", sum := "782543e83b9621202b642a302a3804963f19f4ef74bc7736ebbda8c632a93738", func := "tocsin/tocsinlaw17.OverRises", spec := "overRises", inPlace := ["math.Float64bits", "math.Float64frombits", "math.archFloor", "math.archTrunc"], unfollowed := true, recurses := true, apart := false, narrowed := true }
def OverRisesUptoSaid : Prop := overRisesUptoRow.holds Try.pinned (OpenSpec.upto overRisesSpec)

/-- 'tocsinlaw17.OverStale', WHERE WHAT IT READS IS OF BULK AT MOST 1048576: true; the input reads as it did. -/
def overStaleUptoRow : OpenClaim := { program := "ytaciaidehamfgaa", sum := "782543e83b9621202b642a302a3804963f19f4ef74bc7736ebbda8c632a93738", func := "tocsin/tocsinlaw17.OverStale", spec := "overStale", inPlace := ["math.Float64frombits", "math.Float64bits", "math.archFloor", "math.archTrunc"], unfollowed := true, recurses := true, apart := false, narrowed := true }
def OverStaleUptoSaid : Prop := overStaleUptoRow.holds Try.pinned (OpenSpec.upto overStaleSpec)

end Rows
end Go.Proofs.Ytaciaidehamfgaa
