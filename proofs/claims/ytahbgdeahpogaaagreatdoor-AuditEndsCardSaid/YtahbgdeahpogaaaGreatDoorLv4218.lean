/- A run's answer is a contract of a call, from the blocks that it reads. Condition: POk. -/
import Derived.Test.YtahbgdeahpogaaaGreatDoorLvD
import Derived.KernelRfl
import Derived.Test.YtahbgdeahpogaaaGreatDoorProg
import Derived.Test.YtahbgdeahpogaaaGreatDoorLv4212
open Go Go.Xec
namespace Go.Proofs.Lv
theorem f4218 (hp : POk Tryz.prog) : EntFine Tryz.prog gl e4218 :=
  ent_run hp [e4212] ⟨f4212 hp, trivial⟩ 100000 e4218 (by kernel_rfl)
end Go.Proofs.Lv
