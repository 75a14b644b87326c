/- A run's answer is a contract of a call, from the blocks that it reads. Condition: POk. -/
import Derived.Test.YtahbgdeahpogaaaGreatDoorLvD
import Derived.KernelRfl
import Derived.Test.YtahbgdeahpogaaaGreatDoorProg
import Derived.Test.YtahbgdeahpogaaaGreatDoorLv5299
import Derived.Test.YtahbgdeahpogaaaGreatDoorLv5887
import Derived.Test.YtahbgdeahpogaaaGreatDoorLv6442
open Go Go.Xec
namespace Go.Proofs.Lv
theorem f6608 (hp : POk Tryz.prog) : EntFine Tryz.prog gl e6608 :=
  ent_run hp [e5299, e5887, e6442] ⟨f5299 hp, ⟨f5887 hp, ⟨f6442 hp, trivial⟩⟩⟩ 100000 e6608 (by kernel_rfl)
end Go.Proofs.Lv
