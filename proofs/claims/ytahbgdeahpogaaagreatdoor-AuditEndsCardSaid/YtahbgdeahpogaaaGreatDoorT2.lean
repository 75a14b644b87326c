/- Closed facts of the tie between the listed variables and the program text, part 2. No condition. -/
import Derived.Test.YtahbgdeahpogaaaGreatDoorT0
namespace Go.Proofs.YtahbgdeahpogaaaGreatDoor
open Go
theorem t7 : ∀ os tape, (DataW.laidRun Tryz.prog (varsWorld Tryz.prog 400 (varsId Tryz.prog) os tape).memory 8 ((tieList.filter fun x => x.2.handleName?.isNone).map (·.1))).map (·.1) = some (tieList.filter fun x => x.2.handleName?.isNone) := fun _ _ => by kernel_rfl
end Go.Proofs.YtahbgdeahpogaaaGreatDoor
