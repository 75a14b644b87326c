/- AuditEnds: the schema, the document and the audit that it begins with. No condition but POk. -/
import Derived.Test.YtahbgdeahpogaaaGreatDoorAeD
import Derived.KernelRfl
import Derived.Test.YtahbgdeahpogaaaGreatDoorProg
open Go Go.Xec
namespace Go.Proofs.Lv
theorem faNew (hp : POk Tryz.prog) : EntFine Tryz.prog gl aNew := ent_run hp [] trivial 100000 aNew (by kernel_rfl)
theorem faDoc (hp : POk Tryz.prog) : EntFine Tryz.prog gl aDoc := ent_run hp [] trivial 100000 aDoc (by kernel_rfl)
theorem faAud (hp : POk Tryz.prog) : EntFine Tryz.prog gl aAud := ent_run hp [] trivial 100000 aAud (by kernel_rfl)
theorem fFull (hp : POk Tryz.prog) : EntFine Tryz.prog gl fullE := ent_run hp [] trivial 100000 fullE (by kernel_rfl)
end Go.Proofs.Lv
