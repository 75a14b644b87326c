/- Closed facts of the tie between the listed variables and the program text, part 3. No condition. -/
import Derived.Test.YtahbgdeahpogaaaGreatDoorT0
namespace Go.Proofs.YtahbgdeahpogaaaGreatDoor
open Go
theorem t8 : ∀ os tape, (DataW.laidRun Tryz.prog (varsWorld Tryz.prog 400 (varsId Tryz.prog) os tape).memory 8 ((tieList.filter fun x => x.2.handleName?.isNone).map (·.1))).map (fun x => decide x.2.Nodup && laidRowsB Tryz.prog (varsWorld Tryz.prog 400 (varsId Tryz.prog) os tape).memory x.2) = some true := fun _ _ => by kernel_rfl
end Go.Proofs.YtahbgdeahpogaaaGreatDoor
