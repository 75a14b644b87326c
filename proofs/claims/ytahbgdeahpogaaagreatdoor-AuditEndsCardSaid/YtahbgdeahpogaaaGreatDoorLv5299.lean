/- A run's answer is a contract of a call, from the blocks that it reads. Condition: POk. -/
import Derived.Test.YtahbgdeahpogaaaGreatDoorLvD
import Derived.KernelRfl
import Derived.Test.YtahbgdeahpogaaaGreatDoorProg
open Go Go.Xec
namespace Go.Proofs.Lv
theorem f5299 (hp : POk Tryz.prog) : EntFine Tryz.prog gl e5299 :=
  ent_run hp [] trivial 100000 e5299 (by kernel_rfl)
end Go.Proofs.Lv
