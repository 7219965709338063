/- Layer 1: the laid variables, and a world that has them. Own work. -/
import Derived.Test.YtdaghggdmgbpnaaDoorShut
import Derived.Test.YtdaghggdmgbpnaaDoorVoR
namespace Go.Proofs.YtdaghggdmgbpnaaDoor.Vint
open Go Vm Go.RowKit Num Mem Crc

theorem own : ownKnob Tryd.prog.godebug = none := by kernel_rfl
def halves : List Int := [0, 274646895, 549293790, 820201905, 1098587580, 1361435347, 1640403810, 1905808397, 2197175160, 2460548119, 2722870694, 2987750089, 3280807620, 3553878443, 3811616794, 4084100981]
theorem tab_of {W : World} (h : Lib.TabIs Tryd.prog W "tocsin/vint.halves" .u32 halves) : Tab W := by
  intro i hi
  rw [h.cell (by kernel_rfl) i (by simpa [halves] using hi)]
  congr 2
  revert i
  decide +kernel
theorem tab_laid {W : World} (h : laidMetH Tryd.prog [("tocsin/vint.halves", Rows.laid_tocsin_vint_halves)] W) : Tab W :=
  tab_of (Lib.tabIs_of_head (rest := []) (g := 0) (t := 101) (n := 16) (e := 89) (by kernel_rfl) (by kernel_rfl) (by kernel_rfl) (by kernel_rfl) (by kernel_rfl) (by kernel_rfl) h)

noncomputable def laidWorld (os : Os) : World :=
  { World.holding Tryd.prog os ⟨#[], #[], []⟩ with heap := (World.holding Tryd.prog os ⟨#[], #[], []⟩).heap.modify 0 fun
      | .cells _ t frozen => .cells (halves.map fun z => Value.int .u32 z).toArray t frozen
      | o => o }
end Go.Proofs.YtdaghggdmgbpnaaDoor.Vint
