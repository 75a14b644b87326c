/- A run's answer is a contract of a call, from the blocks that it reads. Condition: POk. -/
import Derived.Test.YtahbgdeahpogaaaGreatDoorLvD
import Derived.KernelRfl
import Derived.Test.YtahbgdeahpogaaaGreatDoorProg
import Derived.Test.YtahbgdeahpogaaaGreatDoorLv5885
open Go Go.Xec
namespace Go.Proofs.Lv
theorem f5887 (hp : POk Tryz.prog) : EntFine Tryz.prog gl e5887 :=
  ent_run hp [e5885] ⟨f5885 hp, trivial⟩ 100000 e5887 (by kernel_rfl)
end Go.Proofs.Lv
