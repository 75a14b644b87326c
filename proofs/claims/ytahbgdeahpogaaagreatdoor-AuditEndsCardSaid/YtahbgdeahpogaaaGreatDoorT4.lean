/- Closed facts of the tie between the listed variables and the program text, part 4. No condition. -/
import Derived.Test.YtahbgdeahpogaaaGreatDoorT0
namespace Go.Proofs.YtahbgdeahpogaaaGreatDoor
open Go
theorem t9 : ∀ os tape, (tieList.filter fun x => x.2.handleName?.isSome).all (handleAtB Tryz.prog (varsWorld Tryz.prog 400 (varsId Tryz.prog) os tape).memory) = true := fun _ _ => by kernel_rfl
end Go.Proofs.YtahbgdeahpogaaaGreatDoor
