/- A run's answer is a contract of a call, from the blocks that it reads. Condition: POk. -/
import Derived.Test.YtahbgdeahpogaaaGreatDoorLvD
import Derived.KernelRfl
import Derived.Test.YtahbgdeahpogaaaGreatDoorProg
import Derived.Test.YtahbgdeahpogaaaGreatDoorLv2479
open Go Go.Xec
namespace Go.Proofs.Lv
theorem f2781 (hp : POk Tryz.prog) : EntFine Tryz.prog gl e2781 :=
  ent_run hp [e2479] ⟨f2479 hp, trivial⟩ 100000 e2781 (by kernel_rfl)
end Go.Proofs.Lv
