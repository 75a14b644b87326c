/- A run's answer is a contract of a call, from the blocks that it reads. Condition: POk. -/
import Derived.Test.YtahbgdeahpogaaaGreatDoorLvD
import Derived.KernelRfl
import Derived.Test.YtahbgdeahpogaaaGreatDoorProg
import Derived.Test.YtahbgdeahpogaaaGreatDoorLv4930
import Derived.Test.YtahbgdeahpogaaaGreatDoorLv4218
open Go Go.Xec
namespace Go.Proofs.Lv
theorem f4990 (hp : POk Tryz.prog) : EntFine Tryz.prog gl e4990 :=
  ent_run hp [e4930, e4218] ⟨f4930 hp, ⟨f4218 hp, trivial⟩⟩ 100000 e4990 (by kernel_rfl)
end Go.Proofs.Lv
