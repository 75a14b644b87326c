/- Closed facts of the tie between the listed variables and the program text, part 1. No condition. -/
import Derived.Test.YtahbgdeahpogaaaGreatDoorT0
namespace Go.Proofs.YtahbgdeahpogaaaGreatDoor
open Go
theorem t6 : ∀ os tape, varsDone Tryz.prog 400 (varsId Tryz.prog) os tape = true := fun _ _ => by kernel_rfl
end Go.Proofs.YtahbgdeahpogaaaGreatDoor
