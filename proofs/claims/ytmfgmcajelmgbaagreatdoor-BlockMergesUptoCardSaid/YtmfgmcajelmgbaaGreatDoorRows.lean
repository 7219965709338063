/-
  NARROWER THAN 'FOR EVERY INPUT', by the rows' own cells (each row's printed sentence says how): BlockOpens: laid · BlockAsked: laid · BlockBuilds: laid · BlockTurned: laid · BlockBack: laid · BlockTrims: laid · BlockMerges: laid · BlockParts: laid.
  DERIVED. THE GIVEN ROWS OF THIS SEAT. 8 by the template 'for every input the law returns true; each argument reads behind the call as it read before'; 0 by the template 'total and deterministic' (their statements: YtmfgmcajelmgbaaGreatDoorTotals.lean).
  GIVEN WITH THE SEED: the statements are not yours to turn. If you find one false, say at which input.
  Laid BY PROGRAM, IN A SANDBOX (cutbox-rows.mjs): the forced cells as the released guide's own fill.sh prints them over the translation 03583b6db925e4f8… (all of the seat's roots in one cut). By AI agents, Wed Nov 11 2026. No macro, syntax, notation, axiom, sorry.
-/
import Derived.Test.YtmfgmcajelmgbaaGreatDoorChecked
import GoSem.PinnedTables
import GoSem.Claim
import GoSem.ClaimJoined
import GoSem.ClaimMapViews
import Derived.JoinedTies
import Derived.KernelRfl
namespace Go.Proofs.YtmfgmcajelmgbaaGreatDoor
/- THE CELL 'sum', in the pinned program and in every row, IS THE sha256 OF THE DUMP (.gsa) THAT YtmfgmcajelmgbaaGreatDoorProg.lean LOADS. Nothing in Lean hashes anything: it is a label: what it is worth is what the hold of that sum in a sandbox is worth. -/
noncomputable def Tryz.pinned : Pinned := { name := "ytmfgmcajelmgbaagreatdoor", sum := "03583b6db925e4f80c1bd9ebeb01230f4bd437ec587048f659ac0114366ce33e", checked := Tryz.checked }
namespace Rows
def none {H : Type} : Left H := { results := [], args := [] }

/- WHAT THE LISTED PACKAGE-LEVEL VARIABLES READ AS WHEN THE CALL BEGINS. Each datum BY PROGRAM (the guide's laid-datum.mjs) off the statement by which the dump's own 'gosem.cut.vars' lays the variable. In a bare row this is a premise. The card (YtmfgmcajelmgbaaGreatDoorCards.lean) ties it to the program's text. -/
def laid_math_bits_deBruijn64tab {H : Type} : DataW H := .agg [.lit (.int .u8 0), .lit (.int .u8 1), .lit (.int .u8 56), .lit (.int .u8 2), .lit (.int .u8 57), .lit (.int .u8 49), .lit (.int .u8 28), .lit (.int .u8 3), .lit (.int .u8 61), .lit (.int .u8 58), .lit (.int .u8 42), .lit (.int .u8 50), .lit (.int .u8 38), .lit (.int .u8 29), .lit (.int .u8 17), .lit (.int .u8 4), .lit (.int .u8 62), .lit (.int .u8 47), .lit (.int .u8 59), .lit (.int .u8 36), .lit (.int .u8 45), .lit (.int .u8 43), .lit (.int .u8 51), .lit (.int .u8 22), .lit (.int .u8 53), .lit (.int .u8 39), .lit (.int .u8 33), .lit (.int .u8 30), .lit (.int .u8 24), .lit (.int .u8 18), .lit (.int .u8 12), .lit (.int .u8 5), .lit (.int .u8 63), .lit (.int .u8 55), .lit (.int .u8 48), .lit (.int .u8 27), .lit (.int .u8 60), .lit (.int .u8 41), .lit (.int .u8 37), .lit (.int .u8 16), .lit (.int .u8 46), .lit (.int .u8 35), .lit (.int .u8 44), .lit (.int .u8 21), .lit (.int .u8 52), .lit (.int .u8 32), .lit (.int .u8 23), .lit (.int .u8 11), .lit (.int .u8 54), .lit (.int .u8 26), .lit (.int .u8 40), .lit (.int .u8 15), .lit (.int .u8 34), .lit (.int .u8 20), .lit (.int .u8 31), .lit (.int .u8 10), .lit (.int .u8 25), .lit (.int .u8 14), .lit (.int .u8 19), .lit (.int .u8 9), .lit (.int .u8 13), .lit (.int .u8 8), .lit (.int .u8 7), .lit (.int .u8 6)]
def laid_unicode_utf8_acceptRanges {H : Type} : DataW H := .agg [.agg [.lit (.int .u8 128), .lit (.int .u8 191)], .agg [.lit (.int .u8 160), .lit (.int .u8 191)], .agg [.lit (.int .u8 128), .lit (.int .u8 159)], .agg [.lit (.int .u8 144), .lit (.int .u8 191)], .agg [.lit (.int .u8 128), .lit (.int .u8 143)], .agg [.lit (.int .u8 0), .lit (.int .u8 0)], .agg [.lit (.int .u8 0), .lit (.int .u8 0)], .agg [.lit (.int .u8 0), .lit (.int .u8 0)], .agg [.lit (.int .u8 0), .lit (.int .u8 0)], .agg [.lit (.int .u8 0), .lit (.int .u8 0)], .agg [.lit (.int .u8 0), .lit (.int .u8 0)], .agg [.lit (.int .u8 0), .lit (.int .u8 0)], .agg [.lit (.int .u8 0), .lit (.int .u8 0)], .agg [.lit (.int .u8 0), .lit (.int .u8 0)], .agg [.lit (.int .u8 0), .lit (.int .u8 0)], .agg [.lit (.int .u8 0), .lit (.int .u8 0)]]
def laid_tocsin_vint_halves {H : Type} : DataW H := .agg [.lit (.int .u32 0), .lit (.int .u32 274646895), .lit (.int .u32 549293790), .lit (.int .u32 820201905), .lit (.int .u32 1098587580), .lit (.int .u32 1361435347), .lit (.int .u32 1640403810), .lit (.int .u32 1905808397), .lit (.int .u32 2197175160), .lit (.int .u32 2460548119), .lit (.int .u32 2722870694), .lit (.int .u32 2987750089), .lit (.int .u32 3280807620), .lit (.int .u32 3553878443), .lit (.int .u32 3811616794), .lit (.int .u32 4084100981)]
/-- One of Go's own tables, pinned by name: the form's constant. -/
def laid_unicode_utf8_first : DataW Unit := Go.Pinned.utf8First

/-- 'tocsinlaw10.BlockOpens': WHATEVER THE INPUT: true; the input reads as it did. -/
def blockOpensSpec : ChangeSpec := { name := "blockOpens", fn := fun _ => fun
  | [d] => { results := [.lit (.bool true)], args := [d] }
  | _ => none }
def blockOpensRow : OpenClaim := { program := "ytmfgmcajelmgbaagreatdoor", sum := "03583b6db925e4f80c1bd9ebeb01230f4bd437ec587048f659ac0114366ce33e", func := "tocsin/tocsinlaw10.BlockOpens", spec := "blockOpens", inPlace := ["math.Float64frombits", "math.Float64bits", "internal/bytealg.abigen_runtime_cmpstring", "sync/atomic.AddInt64"], unfollowed := true, recurses := true, named := ["tocsin/vint.halves", "unicode/utf8.first", "unicode/utf8.acceptRanges", "math/bits.deBruijn64tab"], plainKeys := false, apart := false, laid := [("math/bits.deBruijn64tab", laid_math_bits_deBruijn64tab), ("unicode/utf8.acceptRanges", laid_unicode_utf8_acceptRanges), ("tocsin/vint.halves", laid_tocsin_vint_halves), ("unicode/utf8.first", laid_unicode_utf8_first)] }
def BlockOpensSaid : Prop := blockOpensRow.holds Tryz.pinned (OpenSpec.ofChange blockOpensSpec)

/-- ITS FALSE NEIGHBOUR: 'it returns false'. Refute it at one input. -/
def blockOpensWrong : ChangeSpec := { name := "blockOpens", fn := fun _ => fun
  | [d] => { results := [.lit (.bool false)], args := [d] }
  | _ => none }
def BlockOpensWrongFalsely : Prop := blockOpensRow.holds Tryz.pinned (OpenSpec.ofChange blockOpensWrong)

/-- 'tocsinlaw10.BlockAsked': WHATEVER THE INPUT: true; the input reads as it did. -/
def blockAskedSpec : ChangeSpec := { name := "blockAsked", fn := fun _ => fun
  | [d1, d2, d3, d4, d5, d6] => { results := [.lit (.bool true)], args := [d1, d2, d3, d4, d5, d6] }
  | _ => none }
def blockAskedRow : OpenClaim := { program := "ytmfgmcajelmgbaagreatdoor", sum := "03583b6db925e4f80c1bd9ebeb01230f4bd437ec587048f659ac0114366ce33e", func := "tocsin/tocsinlaw10.BlockAsked", spec := "blockAsked", inPlace := ["math.Float64bits", "internal/bytealg.abigen_runtime_cmpstring", "math.Float64frombits", "sync/atomic.AddInt64", "sync/atomic.LoadInt64"], unfollowed := true, recurses := true, named := ["unicode/utf8.first", "unicode/utf8.acceptRanges", "math/bits.deBruijn64tab", "tocsin/vint.halves"], plainKeys := false, apart := false, laid := [("math/bits.deBruijn64tab", laid_math_bits_deBruijn64tab), ("unicode/utf8.acceptRanges", laid_unicode_utf8_acceptRanges), ("tocsin/vint.halves", laid_tocsin_vint_halves), ("unicode/utf8.first", laid_unicode_utf8_first)] }
def BlockAskedSaid : Prop := blockAskedRow.holds Tryz.pinned (OpenSpec.ofChange blockAskedSpec)

/-- ITS FALSE NEIGHBOUR: 'it returns false'. Refute it at one input. -/
def blockAskedWrong : ChangeSpec := { name := "blockAsked", fn := fun _ => fun
  | [d1, d2, d3, d4, d5, d6] => { results := [.lit (.bool false)], args := [d1, d2, d3, d4, d5, d6] }
  | _ => none }
def BlockAskedWrongFalsely : Prop := blockAskedRow.holds Tryz.pinned (OpenSpec.ofChange blockAskedWrong)

/-- 'tocsinlaw10.BlockBuilds': WHATEVER THE INPUT: true; the input reads as it did. -/
def blockBuildsSpec : ChangeSpec := { name := "blockBuilds", fn := fun _ => fun
  | [d] => { results := [.lit (.bool true)], args := [d] }
  | _ => none }
def blockBuildsRow : OpenClaim := { program := "ytmfgmcajelmgbaagreatdoor", sum := "03583b6db925e4f80c1bd9ebeb01230f4bd437ec587048f659ac0114366ce33e", func := "tocsin/tocsinlaw10.BlockBuilds", spec := "blockBuilds", inPlace := ["math.Float64bits", "internal/bytealg.abigen_runtime_cmpstring", "math.Float64frombits", "sync/atomic.AddInt64"], unfollowed := true, recurses := true, named := ["unicode/utf8.first", "unicode/utf8.acceptRanges", "math/bits.deBruijn64tab", "tocsin/vint.halves"], plainKeys := false, apart := false, laid := [("math/bits.deBruijn64tab", laid_math_bits_deBruijn64tab), ("unicode/utf8.acceptRanges", laid_unicode_utf8_acceptRanges), ("tocsin/vint.halves", laid_tocsin_vint_halves), ("unicode/utf8.first", laid_unicode_utf8_first)] }
def BlockBuildsSaid : Prop := blockBuildsRow.holds Tryz.pinned (OpenSpec.ofChange blockBuildsSpec)

/-- ITS FALSE NEIGHBOUR: 'it returns false'. Refute it at one input. -/
def blockBuildsWrong : ChangeSpec := { name := "blockBuilds", fn := fun _ => fun
  | [d] => { results := [.lit (.bool false)], args := [d] }
  | _ => none }
def BlockBuildsWrongFalsely : Prop := blockBuildsRow.holds Tryz.pinned (OpenSpec.ofChange blockBuildsWrong)

/-- 'tocsinlaw10.BlockTurned': WHATEVER THE INPUT: true; the input reads as it did. -/
def blockTurnedSpec : ChangeSpec := { name := "blockTurned", fn := fun _ => fun
  | [d1, d2, d3, d4] => { results := [.lit (.bool true)], args := [d1, d2, d3, d4] }
  | _ => none }
def blockTurnedRow : OpenClaim := { program := "ytmfgmcajelmgbaagreatdoor", sum := "03583b6db925e4f80c1bd9ebeb01230f4bd437ec587048f659ac0114366ce33e", func := "tocsin/tocsinlaw10.BlockTurned", spec := "blockTurned", inPlace := ["math.Float64bits", "internal/bytealg.abigen_runtime_cmpstring", "math.Float64frombits", "sync/atomic.AddInt64"], unfollowed := true, recurses := true, named := ["unicode/utf8.first", "unicode/utf8.acceptRanges", "math/bits.deBruijn64tab", "tocsin/vint.halves"], plainKeys := false, apart := false, laid := [("math/bits.deBruijn64tab", laid_math_bits_deBruijn64tab), ("unicode/utf8.acceptRanges", laid_unicode_utf8_acceptRanges), ("tocsin/vint.halves", laid_tocsin_vint_halves), ("unicode/utf8.first", laid_unicode_utf8_first)] }
def BlockTurnedSaid : Prop := blockTurnedRow.holds Tryz.pinned (OpenSpec.ofChange blockTurnedSpec)

/-- ITS FALSE NEIGHBOUR: 'it returns false'. Refute it at one input. -/
def blockTurnedWrong : ChangeSpec := { name := "blockTurned", fn := fun _ => fun
  | [d1, d2, d3, d4] => { results := [.lit (.bool false)], args := [d1, d2, d3, d4] }
  | _ => none }
def BlockTurnedWrongFalsely : Prop := blockTurnedRow.holds Tryz.pinned (OpenSpec.ofChange blockTurnedWrong)

/-- 'tocsinlaw10.BlockBack': WHATEVER THE INPUT: true; the input reads as it did. -/
def blockBackSpec : ChangeSpec := { name := "blockBack", fn := fun _ => fun
  | [d] => { results := [.lit (.bool true)], args := [d] }
  | _ => none }
def blockBackRow : OpenClaim := { program := "ytmfgmcajelmgbaagreatdoor", sum := "03583b6db925e4f80c1bd9ebeb01230f4bd437ec587048f659ac0114366ce33e", func := "tocsin/tocsinlaw10.BlockBack", spec := "blockBack", inPlace := ["math.Float64bits", "internal/bytealg.abigen_runtime_cmpstring", "math.Float64frombits", "sync/atomic.AddInt64"], unfollowed := true, recurses := true, named := ["unicode/utf8.first", "unicode/utf8.acceptRanges", "math/bits.deBruijn64tab", "tocsin/vint.halves"], plainKeys := false, apart := false, laid := [("math/bits.deBruijn64tab", laid_math_bits_deBruijn64tab), ("unicode/utf8.acceptRanges", laid_unicode_utf8_acceptRanges), ("tocsin/vint.halves", laid_tocsin_vint_halves), ("unicode/utf8.first", laid_unicode_utf8_first)] }
def BlockBackSaid : Prop := blockBackRow.holds Tryz.pinned (OpenSpec.ofChange blockBackSpec)

/-- ITS FALSE NEIGHBOUR: 'it returns false'. Refute it at one input. -/
def blockBackWrong : ChangeSpec := { name := "blockBack", fn := fun _ => fun
  | [d] => { results := [.lit (.bool false)], args := [d] }
  | _ => none }
def BlockBackWrongFalsely : Prop := blockBackRow.holds Tryz.pinned (OpenSpec.ofChange blockBackWrong)

/-- 'tocsinlaw10.BlockTrims': WHATEVER THE INPUT: true; the input reads as it did. -/
def blockTrimsSpec : ChangeSpec := { name := "blockTrims", fn := fun _ => fun
  | [d1, d2, d3] => { results := [.lit (.bool true)], args := [d1, d2, d3] }
  | _ => none }
def blockTrimsRow : OpenClaim := { program := "ytmfgmcajelmgbaagreatdoor", sum := "03583b6db925e4f80c1bd9ebeb01230f4bd437ec587048f659ac0114366ce33e", func := "tocsin/tocsinlaw10.BlockTrims", spec := "blockTrims", inPlace := ["math.Float64bits", "internal/bytealg.abigen_runtime_cmpstring", "math.Float64frombits", "sync/atomic.AddInt64"], unfollowed := true, recurses := true, named := ["unicode/utf8.first", "unicode/utf8.acceptRanges", "math/bits.deBruijn64tab", "tocsin/vint.halves"], plainKeys := false, apart := false, laid := [("math/bits.deBruijn64tab", laid_math_bits_deBruijn64tab), ("unicode/utf8.acceptRanges", laid_unicode_utf8_acceptRanges), ("tocsin/vint.halves", laid_tocsin_vint_halves), ("unicode/utf8.first", laid_unicode_utf8_first)] }
def BlockTrimsSaid : Prop := blockTrimsRow.holds Tryz.pinned (OpenSpec.ofChange blockTrimsSpec)

/-- ITS FALSE NEIGHBOUR: 'it returns false'. Refute it at one input. -/
def blockTrimsWrong : ChangeSpec := { name := "blockTrims", fn := fun _ => fun
  | [d1, d2, d3] => { results := [.lit (.bool false)], args := [d1, d2, d3] }
  | _ => none }
def BlockTrimsWrongFalsely : Prop := blockTrimsRow.holds Tryz.pinned (OpenSpec.ofChange blockTrimsWrong)

/-- 'tocsinlaw10.BlockMerges': WHATEVER THE INPUT: true; the input reads as it did. -/
def blockMergesSpec : ChangeSpec := { name := "blockMerges", fn := fun _ => fun
  | [d1, d2, d3, d4] => { results := [.lit (.bool true)], args := [d1, d2, d3, d4] }
  | _ => none }
def blockMergesRow : OpenClaim := { program := "ytmfgmcajelmgbaagreatdoor", sum := "03583b6db925e4f80c1bd9ebeb01230f4bd437ec587048f659ac0114366ce33e", func := "tocsin/tocsinlaw10.BlockMerges", spec := "blockMerges", inPlace := ["math.Float64bits", "internal/bytealg.abigen_runtime_cmpstring", "math.Float64frombits", "sync/atomic.AddInt64"], unfollowed := true, recurses := true, named := ["unicode/utf8.first", "unicode/utf8.acceptRanges", "math/bits.deBruijn64tab", "tocsin/vint.halves"], plainKeys := false, apart := false, laid := [("math/bits.deBruijn64tab", laid_math_bits_deBruijn64tab), ("unicode/utf8.acceptRanges", laid_unicode_utf8_acceptRanges), ("tocsin/vint.halves", laid_tocsin_vint_halves), ("unicode/utf8.first", laid_unicode_utf8_first)] }
def BlockMergesSaid : Prop := blockMergesRow.holds Tryz.pinned (OpenSpec.ofChange blockMergesSpec)

/-- ITS FALSE NEIGHBOUR: 'it returns false'. Refute it at one input. -/
def blockMergesWrong : ChangeSpec := { name := "blockMerges", fn := fun _ => fun
  | [d1, d2, d3, d4] => { results := [.lit (.bool false)], args := [d1, d2, d3, d4] }
  | _ => none }
def BlockMergesWrongFalsely : Prop := blockMergesRow.holds Tryz.pinned (OpenSpec.ofChange blockMergesWrong)

/-- 'tocsinlaw10.BlockParts': WHATEVER THE INPUT: true; the input reads as it did. -/
def blockPartsSpec : ChangeSpec := { name := "blockParts", fn := fun _ => fun
  | [d1, d2] => { results := [.lit (.bool true)], args := [d1, d2] }
  | _ => none }
def blockPartsRow : OpenClaim := { program := "ytmfgmcajelmgbaagreatdoor", sum := "03583b6db925e4f80c1bd9ebeb01230f4bd437ec587048f659ac0114366ce33e", func := "tocsin/tocsinlaw10.BlockParts", spec := "blockParts", inPlace := ["math.Float64bits", "internal/bytealg.abigen_runtime_cmpstring", "math.Float64frombits", "sync/atomic.AddInt64"], unfollowed := true, recurses := true, named := ["unicode/utf8.first", "unicode/utf8.acceptRanges", "math/bits.deBruijn64tab", "tocsin/vint.halves"], plainKeys := false, apart := false, laid := [("math/bits.deBruijn64tab", laid_math_bits_deBruijn64tab), ("unicode/utf8.acceptRanges", laid_unicode_utf8_acceptRanges), ("tocsin/vint.halves", laid_tocsin_vint_halves), ("unicode/utf8.first", laid_unicode_utf8_first)] }
def BlockPartsSaid : Prop := blockPartsRow.holds Tryz.pinned (OpenSpec.ofChange blockPartsSpec)

/-- ITS FALSE NEIGHBOUR: 'it returns false'. Refute it at one input. -/
def blockPartsWrong : ChangeSpec := { name := "blockParts", fn := fun _ => fun
  | [d1, d2] => { results := [.lit (.bool false)], args := [d1, d2] }
  | _ => none }
def BlockPartsWrongFalsely : Prop := blockPartsRow.holds Tryz.pinned (OpenSpec.ofChange blockPartsWrong)

/- THE SECOND FORM. 'bulk': how many values and letters a reading holds, each counted each time it is reached (what is shared counts as often as it is met; a slice's spare places count too). A statement '..UptoSaid' is the law's where the arguments, and the package variables that the reading takes, are together of bulk at most 1048576: NARROWER than '..Said'. Prove '..Said' where nothing that the law and all that it calls make is longer than what came in: it says more and counts as full. Else prove '..UptoSaid'. A law counts once. -/
mutual
def uptoBulk {H : Type} : DataW H → Nat
  | .lit (.string bytes) => bytes.length + 1
  | .lit _ => 1
  | .nil => 1
  | .ptr d => uptoBulk d + 1
  | .slice elems spare => uptoBulkAll elems + uptoBulkAll spare + 1
  | .agg parts => uptoBulkAll parts + 1
  | .iface _ d => uptoBulk d + 1
  | .map entries => uptoBulkEntries entries + 1
  | .held _ => 1
def uptoBulkAll {H : Type} : List (DataW H) → Nat
  | [] => 0
  | d :: r => uptoBulk d + uptoBulkAll r
def uptoBulkEntries {H : Type} : List (Lit × DataW H) → Nat
  | [] => 0
  | x :: r => uptoBulkEntry x + uptoBulkEntries r
def uptoBulkEntry {H : Type} : Lit × DataW H → Nat
  | (.string bytes, d) => bytes.length + uptoBulk d + 1
  | (_, d) => uptoBulk d + 1
 end
def uptoSmall : (H : Type) → List (DataW H) → Bool := fun _ ds => decide (uptoBulkAll ds ≤ 1048576)
def OpenSpec.upto (s : _root_.Go.ChangeSpec) : _root_.Go.OpenSpec := { _root_.Go.OpenSpec.ofChange s with cond := some uptoSmall }

/-- 'tocsinlaw10.BlockOpens', WHERE WHAT IT READS IS OF BULK AT MOST 1048576: true; the input reads as it did. -/
def blockOpensUptoRow : OpenClaim := { program := "ytmfgmcajelmgbaagreatdoor", sum := "03583b6db925e4f80c1bd9ebeb01230f4bd437ec587048f659ac0114366ce33e", func := "tocsin/tocsinlaw10.BlockOpens", spec := "blockOpens", inPlace := ["math.Float64frombits", "math.Float64bits", "internal/bytealg.abigen_runtime_cmpstring", "sync/atomic.AddInt64"], unfollowed := true, recurses := true, named := ["tocsin/vint.halves", "unicode/utf8.first", "unicode/utf8.acceptRanges", "math/bits.deBruijn64tab"], plainKeys := false, apart := false, laid := [("math/bits.deBruijn64tab", laid_math_bits_deBruijn64tab), ("unicode/utf8.acceptRanges", laid_unicode_utf8_acceptRanges), ("tocsin/vint.halves", laid_tocsin_vint_halves), ("unicode/utf8.first", laid_unicode_utf8_first)], narrowed := true }
def BlockOpensUptoSaid : Prop := blockOpensUptoRow.holds Tryz.pinned (OpenSpec.upto blockOpensSpec)

/-- 'tocsinlaw10.BlockAsked', WHERE WHAT IT READS IS OF BULK AT MOST 1048576: true; the input reads as it did. -/
def blockAskedUptoRow : OpenClaim := { program := "ytmfgmcajelmgbaagreatdoor", sum := "03583b6db925e4f80c1bd9ebeb01230f4bd437ec587048f659ac0114366ce33e", func := "tocsin/tocsinlaw10.BlockAsked", spec := "blockAsked", inPlace := ["math.Float64bits", "internal/bytealg.abigen_runtime_cmpstring", "math.Float64frombits", "sync/atomic.AddInt64", "sync/atomic.LoadInt64"], unfollowed := true, recurses := true, named := ["unicode/utf8.first", "unicode/utf8.acceptRanges", "math/bits.deBruijn64tab", "tocsin/vint.halves"], plainKeys := false, apart := false, laid := [("math/bits.deBruijn64tab", laid_math_bits_deBruijn64tab), ("unicode/utf8.acceptRanges", laid_unicode_utf8_acceptRanges), ("tocsin/vint.halves", laid_tocsin_vint_halves), ("unicode/utf8.first", laid_unicode_utf8_first)], narrowed := true }
def BlockAskedUptoSaid : Prop := blockAskedUptoRow.holds Tryz.pinned (OpenSpec.upto blockAskedSpec)

/-- 'tocsinlaw10.BlockBuilds', WHERE WHAT IT READS IS OF BULK AT MOST 1048576: true; the input reads as it did. -/
def blockBuildsUptoRow : OpenClaim := { program := "ytmfgmcajelmgbaagreatdoor", sum := "03583b6db925e4f80c1bd9ebeb01230f4bd437ec587048f659ac0114366ce33e", func := "tocsin/tocsinlaw10.BlockBuilds", spec := "blockBuilds", inPlace := ["math.Float64bits", "internal/bytealg.abigen_runtime_cmpstring", "math.Float64frombits", "sync/atomic.AddInt64"], unfollowed := true, recurses := true, named := ["unicode/utf8.first", "unicode/utf8.acceptRanges", "math/bits.deBruijn64tab", "tocsin/vint.halves"], plainKeys := false, apart := false, laid := [("math/bits.deBruijn64tab", laid_math_bits_deBruijn64tab), ("unicode/utf8.acceptRanges", laid_unicode_utf8_acceptRanges), ("tocsin/vint.halves", laid_tocsin_vint_halves), ("unicode/utf8.first", laid_unicode_utf8_first)], narrowed := true }
def BlockBuildsUptoSaid : Prop := blockBuildsUptoRow.holds Tryz.pinned (OpenSpec.upto blockBuildsSpec)

/-- 'tocsinlaw10.BlockTurned', WHERE WHAT IT READS IS OF BULK AT MOST 1048576: true; the input reads as it did. -/
def blockTurnedUptoRow : OpenClaim := { program := "ytmfgmcajelmgbaagreatdoor", sum := "03583b6db925e4f80c1bd9ebeb01230f4bd437ec587048f659ac0114366ce33e", func := "tocsin/tocsinlaw10.BlockTurned", spec := "blockTurned", inPlace := ["math.Float64bits", "internal/bytealg.abigen_runtime_cmpstring", "math.Float64frombits", "sync/atomic.AddInt64"], unfollowed := true, recurses := true, named := ["unicode/utf8.first", "unicode/utf8.acceptRanges", "math/bits.deBruijn64tab", "tocsin/vint.halves"], plainKeys := false, apart := false, laid := [("math/bits.deBruijn64tab", laid_math_bits_deBruijn64tab), ("unicode/utf8.acceptRanges", laid_unicode_utf8_acceptRanges), ("tocsin/vint.halves", laid_tocsin_vint_halves), ("unicode/utf8.first", laid_unicode_utf8_first)], narrowed := true }
def BlockTurnedUptoSaid : Prop := blockTurnedUptoRow.holds Tryz.pinned (OpenSpec.upto blockTurnedSpec)

/-- 'tocsinlaw10.BlockBack', WHERE WHAT IT READS IS OF BULK AT MOST 1048576: true; the input reads as it did. -/
def blockBackUptoRow : OpenClaim := { program := "ytmfgmcajelmgbaagreatdoor", sum := "03583b6db925e4f80c1bd9ebeb01230f4bd437ec587048f659ac0114366ce33e", func := "tocsin/tocsinlaw10.BlockBack", spec := "blockBack", inPlace := ["math.Float64bits", "internal/bytealg.abigen_runtime_cmpstring", "math.Float64frombits", "sync/atomic.AddInt64"], unfollowed := true, recurses := true, named := ["unicode/utf8.first", "unicode/utf8.acceptRanges", "math/bits.deBruijn64tab", "tocsin/vint.halves"], plainKeys := false, apart := false, laid := [("math/bits.deBruijn64tab", laid_math_bits_deBruijn64tab), ("unicode/utf8.acceptRanges", laid_unicode_utf8_acceptRanges), ("tocsin/vint.halves", laid_tocsin_vint_halves), ("unicode/utf8.first", laid_unicode_utf8_first)], narrowed := true }
def BlockBackUptoSaid : Prop := blockBackUptoRow.holds Tryz.pinned (OpenSpec.upto blockBackSpec)

/-- 'tocsinlaw10.BlockTrims', WHERE WHAT IT READS IS OF BULK AT MOST 1048576: true; the input reads as it did. -/
def blockTrimsUptoRow : OpenClaim := { program := "ytmfgmcajelmgbaagreatdoor", sum := "03583b6db925e4f80c1bd9ebeb01230f4bd437ec587048f659ac0114366ce33e", func := "tocsin/tocsinlaw10.BlockTrims", spec := "blockTrims", inPlace := ["math.Float64bits", "internal/bytealg.abigen_runtime_cmpstring", "math.Float64frombits", "sync/atomic.AddInt64"], unfollowed := true, recurses := true, named := ["unicode/utf8.first", "unicode/utf8.acceptRanges", "math/bits.deBruijn64tab", "tocsin/vint.halves"], plainKeys := false, apart := false, laid := [("math/bits.deBruijn64tab", laid_math_bits_deBruijn64tab), ("unicode/utf8.acceptRanges", laid_unicode_utf8_acceptRanges), ("tocsin/vint.halves", laid_tocsin_vint_halves), ("unicode/utf8.first", laid_unicode_utf8_first)], narrowed := true }
def BlockTrimsUptoSaid : Prop := blockTrimsUptoRow.holds Tryz.pinned (OpenSpec.upto blockTrimsSpec)

/-- 'tocsinlaw10.BlockMerges', WHERE WHAT IT READS IS OF BULK AT MOST 1048576: true; the input reads as it did. -/
def blockMergesUptoRow : OpenClaim := { program := "ytmfgmcajelmgbaagreatdoor", sum := "03583b6db925e4f80c1bd9ebeb01230f4bd437ec587048f659ac0114366ce33e", func := "tocsin/tocsinlaw10.BlockMerges", spec := "blockMerges", inPlace := ["math.Float64bits", "internal/bytealg.abigen_runtime_cmpstring", "math.Float64frombits", "sync/atomic.AddInt64"], unfollowed := true, recurses := true, named := ["unicode/utf8.first", "unicode/utf8.acceptRanges", "math/bits.deBruijn64tab", "tocsin/vint.halves"], plainKeys := false, apart := false, laid := [("math/bits.deBruijn64tab", laid_math_bits_deBruijn64tab), ("unicode/utf8.acceptRanges", laid_unicode_utf8_acceptRanges), ("tocsin/vint.halves", laid_tocsin_vint_halves), ("unicode/utf8.first", laid_unicode_utf8_first)], narrowed := true }
def BlockMergesUptoSaid : Prop := blockMergesUptoRow.holds Tryz.pinned (OpenSpec.upto blockMergesSpec)

/-- 'tocsinlaw10.BlockParts', WHERE WHAT IT READS IS OF BULK AT MOST 1048576: true; the input reads as it did. -/
def blockPartsUptoRow : OpenClaim := { program := "ytmfgmcajelmgbaagreatdoor", sum := "03583b6db925e4f80c1bd9ebeb01230f4bd437ec587048f659ac0114366ce33e", func := "tocsin/tocsinlaw10.BlockParts", spec := "blockParts", inPlace := ["math.Float64bits", "internal/bytealg.abigen_runtime_cmpstring", "math.Float64frombits", "sync/atomic.AddInt64"], unfollowed := true, recurses := true, named := ["unicode/utf8.first", "unicode/utf8.acceptRanges", "math/bits.deBruijn64tab", "tocsin/vint.halves"], plainKeys := false, apart := false, laid := [("math/bits.deBruijn64tab", laid_math_bits_deBruijn64tab), ("unicode/utf8.acceptRanges", laid_unicode_utf8_acceptRanges), ("tocsin/vint.halves", laid_tocsin_vint_halves), ("unicode/utf8.first", laid_unicode_utf8_first)], narrowed := true }
def BlockPartsUptoSaid : Prop := blockPartsUptoRow.holds Tryz.pinned (OpenSpec.upto blockPartsSpec)

end Rows
end Go.Proofs.YtmfgmcajelmgbaaGreatDoor
