/- A world for the witness: no variable is listed. Own work. -/
import Derived.Test.YtaciaidehamfgaaShut
namespace Go.Proofs.Ytaciaidehamfgaa.Plain
open Go Go.RowKit
theorem own : ownKnob Try.prog.godebug = none := by kernel_rfl
noncomputable def laidWorld (os : Os) : World := World.holding Try.prog os ⟨#[], #[], []⟩
end Go.Proofs.Ytaciaidehamfgaa.Plain
