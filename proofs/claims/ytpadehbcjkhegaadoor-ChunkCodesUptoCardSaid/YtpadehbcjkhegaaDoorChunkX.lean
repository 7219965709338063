/- Layer 8: the laid variable, and a world that has it. Own work. -/
import Derived.Test.YtpadehbcjkhegaaDoorRep
import Derived.Test.YtpadehbcjkhegaaDoorBitL
namespace Go.Proofs.YtpadehbcjkhegaaDoor.Chunk
open Go Vm Go.RowKit Num Mem Bits

theorem own : ownKnob Tryd.prog.godebug = none := by kernel_rfl
def tz64 : List Int := [0, 1, 56, 2, 57, 49, 28, 3, 61, 58, 42, 50, 38, 29, 17, 4, 62, 47, 59, 36, 45, 43, 51, 22, 53, 39, 33, 30, 24, 18, 12, 5, 63, 55, 48, 27, 60, 41, 37, 16, 46, 35, 44, 21, 52, 32, 23, 11, 54, 26, 40, 15, 34, 20, 31, 10, 25, 14, 19, 9, 13, 8, 7, 6]
theorem dtab_of {W : World} (h : Lib.TabIs Tryd.prog W "math/bits.deBruijn64tab" .u8 tz64) : DTab W := by
  intro i hi
  rw [h.cell (by kernel_rfl) i (by simpa [tz64, Lib.deBruijn64tab] using hi)]
  congr 2
  revert i
  decide +kernel
theorem dtab_laid {W : World} (h : laidMetH Tryd.prog [("math/bits.deBruijn64tab", Rows.laid_math_bits_deBruijn64tab)] W) : DTab W :=
  dtab_of (Lib.tabIs_of_head (rest := []) (g := 1) (t := 127) (n := 64) (e := 5) (by kernel_rfl) (by kernel_rfl) (by kernel_rfl) (by kernel_rfl) (by kernel_rfl) (by kernel_rfl) h)
noncomputable def laidWorld (os : Os) : World :=
  { World.holding Tryd.prog os ⟨#[], #[], []⟩ with heap := (World.holding Tryd.prog os ⟨#[], #[], []⟩).heap.modify 1 fun
      | .cells _ t frozen => .cells (tz64.map fun z => Value.int .u8 z).toArray t frozen
      | o => o }
end Go.Proofs.YtpadehbcjkhegaaDoor.Chunk
