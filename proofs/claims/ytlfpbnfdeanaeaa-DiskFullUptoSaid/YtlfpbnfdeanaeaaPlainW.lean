/- A world for the witness: no variable is listed. Own work. -/
import Derived.Test.YtlfpbnfdeanaeaaShut
namespace Go.Proofs.Ytlfpbnfdeanaeaa.Plain
open Go Go.RowKit
theorem own : ownKnob Try.prog.godebug = none := by kernel_rfl
noncomputable def laidWorld (os : Os) : World := World.holding Try.prog os ⟨#[], #[], []⟩
end Go.Proofs.Ytlfpbnfdeanaeaa.Plain
