/- A run's answer is a contract of a call, from the blocks that it reads. Condition: POk. -/
import Derived.Test.YtahbgdeahpogaaaGreatDoorLvD
import Derived.KernelRfl
import Derived.Test.YtahbgdeahpogaaaGreatDoorProg
import Derived.Test.YtahbgdeahpogaaaGreatDoorLv6608
import Derived.Test.YtahbgdeahpogaaaGreatDoorLv4990
import Derived.Test.YtahbgdeahpogaaaGreatDoorLv834
import Derived.Test.YtahbgdeahpogaaaGreatDoorLv3512
import Derived.Test.YtahbgdeahpogaaaGreatDoorLv1380
open Go Go.Xec
namespace Go.Proofs.Lv
theorem f6726 (hp : POk Tryz.prog) : EntFine Tryz.prog gl e6726 :=
  ent_run hp [e6608, e4990, e834, e3512, e1380] ⟨f6608 hp, ⟨f4990 hp, ⟨f834 hp, ⟨f3512 hp, ⟨f1380 hp, trivial⟩⟩⟩⟩⟩ 100000 e6726 (by kernel_rfl)
end Go.Proofs.Lv
