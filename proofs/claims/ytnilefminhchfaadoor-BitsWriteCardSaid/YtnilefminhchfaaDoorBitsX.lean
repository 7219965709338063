/- Layer 2: the laid variable, and a world that has it. Own work. -/
import Derived.Test.YtnilefminhchfaaDoorShut
import Derived.Test.YtnilefminhchfaaDoorBitsG
namespace Go.Proofs.YtnilefminhchfaaDoor.Bits
open Go Vm Go.RowKit Num Mem

theorem own : ownKnob Tryd.prog.godebug = none := by kernel_rfl
def widths : List Int := [3, 6, 9, 12, 18, 25, 56]
theorem wtab_of {W : World} (h : Lib.TabIs Tryd.prog W "tocsin/bits.widths" .i64 widths) : WTab W := by
  intro i hi
  rw [h.cell (by kernel_rfl) i (by simpa [widths] using hi)]
  congr 2
  revert i
  decide +kernel
theorem wtab_laid {W : World} (h : laidMetH Tryd.prog [("tocsin/bits.widths", Rows.laid_tocsin_bits_widths)] W) : WTab W :=
  wtab_of (Lib.tabIs_of_head (rest := []) (g := 0) (t := 64) (n := 7) (e := 3) (by kernel_rfl) (by kernel_rfl) (by kernel_rfl) (by kernel_rfl) (by kernel_rfl) (by kernel_rfl) h)
noncomputable def laidWorld (os : Os) : World :=
  { World.holding Tryd.prog os ⟨#[], #[], []⟩ with heap := (World.holding Tryd.prog os ⟨#[], #[], []⟩).heap.modify 0 fun
      | .cells _ t frozen => .cells (widths.map fun z => Value.int .i64 z).toArray t frozen
      | o => o }
end Go.Proofs.YtnilefminhchfaaDoor.Bits
