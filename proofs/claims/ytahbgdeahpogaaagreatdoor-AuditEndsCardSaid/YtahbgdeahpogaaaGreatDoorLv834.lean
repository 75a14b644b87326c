/- A run's answer is a contract of a call, from the blocks that it reads. Condition: POk. -/
import Derived.Test.YtahbgdeahpogaaaGreatDoorLvD
import Derived.KernelRfl
import Derived.Test.YtahbgdeahpogaaaGreatDoorProg
import Derived.Test.YtahbgdeahpogaaaGreatDoorLv832
import Derived.Test.YtahbgdeahpogaaaGreatDoorLv560
open Go Go.Xec
namespace Go.Proofs.Lv
theorem f834 (hp : POk Tryz.prog) : EntFine Tryz.prog gl e834 :=
  ent_run hp [e832, e560] ⟨f832 hp, ⟨f560 hp, trivial⟩⟩ 100000 e834 (by kernel_rfl)
end Go.Proofs.Lv
