/- A run's answer is a contract of a call, from the blocks that it reads. Condition: POk. -/
import Derived.Test.YtahbgdeahpogaaaGreatDoorLvD
import Derived.KernelRfl
import Derived.Test.YtahbgdeahpogaaaGreatDoorProg
import Derived.Test.YtahbgdeahpogaaaGreatDoorLv2781
import Derived.Test.YtahbgdeahpogaaaGreatDoorLv3263
open Go Go.Xec
namespace Go.Proofs.Lv
theorem f3512 (hp : POk Tryz.prog) : EntFine Tryz.prog gl e3512 :=
  ent_run hp [e2781, e3263] ⟨f2781 hp, ⟨f3263 hp, trivial⟩⟩ 100000 e3512 (by kernel_rfl)
end Go.Proofs.Lv
