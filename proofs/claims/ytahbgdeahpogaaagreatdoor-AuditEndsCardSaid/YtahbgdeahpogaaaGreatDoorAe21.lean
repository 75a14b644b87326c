/- AuditEnds: one operation of the loop, when so many were asked for. No condition but POk. -/
import Derived.Test.YtahbgdeahpogaaaGreatDoorAeD
import Derived.KernelRfl
import Derived.Test.YtahbgdeahpogaaaGreatDoorProg
open Go Go.Xec
namespace Go.Proofs.Lv
theorem do1 : (List.range 50).all (fun k => okE gl (doE (50 + k)) (runQ Tryz.prog (askT gl []) 1000 (.call 7 (doE (50 + k)).args ((doE (50 + k)).pre gl)))) = true := by kernel_rfl
end Go.Proofs.Lv
