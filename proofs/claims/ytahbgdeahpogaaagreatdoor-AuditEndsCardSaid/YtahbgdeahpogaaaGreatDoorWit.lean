/- A world that meets the condition of the row: the witness. No condition. -/
import Derived.Test.YtahbgdeahpogaaaGreatDoorRows
import Derived.Lay
import Derived.LaidHandle
namespace Go.Proofs.YtahbgdeahpogaaaGreatDoor
open Go
noncomputable def plainL : List (String × DataW Unit) := Rows.auditEndsRow.laid.filter fun x => x.2.handleName?.isNone
noncomputable def rtT : Nat := ((Tryz.prog.cutTypes.find? (·.1 == "internal/reflectlite.rtype")).map (·.2)).getD 0
noncomputable def erT : Nat := ((List.range Tryz.prog.types.size).find? fun t => Tryz.prog.rowNamed t [101, 114, 114, 111, 114]).getD 0
noncomputable def w00 (os : Os) : World :=
  let w0 := World.holding Tryz.prog os ⟨#[], #[], []⟩
  { w0 with heap := w0.heap.modify 2 fun
      | .cells _ t frozen => .cells #[.iface rtT (.agg #[typeHandle Tryz.prog erT])] t frozen
      | o => o }
noncomputable def wL (os : Os) : World := (w00 os).layVars Tryz.prog plainL
theorem wL_fits (os : Os) : (w00 os).layFits Tryz.prog plainL [] = true := by kernel_rfl
theorem wL_ifs (os : Os) : (w00 os).layIfaces Tryz.prog plainL (wL os) = true := by kernel_rfl
theorem wL_os (os : Os) : (wL os).os = os := World.layVars_os _ _ _
theorem wL_handle (os : Os) (args : Array Value) : (Rows.auditEndsRow.laid.filter fun x => x.2.handleName?.isSome).all (handleAtB Tryz.prog ((wL os).forCall (fun _ _ => 0) ⟨#[], args, []⟩).memory) = true := by kernel_rfl
theorem wL_met (os : Os) (args : Array Value) : laidMetH Tryz.prog Rows.auditEndsRow.laid ((wL os).forCall (fun _ _ => 0) ⟨#[], args, []⟩).memory := by
  refine laidMetH_of_parts ?_ (wL_handle os args)
  have e1 : (plainL.filter fun x => (plainL.map (·.1)).contains x.1) = plainL := List.filter_eq_self.2 fun x hx => List.contains_iff_mem.2 (List.mem_map.2 ⟨x, hx, rfl⟩)
  have e2 : (plainL.filter fun x => !(plainL.map (·.1)).contains x.1) = [] := List.filter_eq_nil_iff.2 fun x hx => by rw [List.contains_iff_mem.2 (List.mem_map.2 ⟨x, hx, rfl⟩)]; simp
  have h : laidMet Tryz.prog plainL (wL os) := laidMet_layVars (w0 := w00 os) (plainL.map (·.1)) [] (by rw [e1]; rfl) (by rw [e1]; exact wL_fits os) (by rw [e1]; exact wL_ifs os) (by rw [e2]; exact LaidIn.none)
  exact h.of_heap (by simp [World.memory, World.forCall, Input.heap])
theorem wL_shaped (os : Os) (args : Array Value) : ((wL os).forCall (fun _ _ => 0) ⟨#[], args, []⟩).Shaped Tryz.prog := World.shaped_of_ZipB (by kernel_rfl) (by kernel_rfl)
end Go.Proofs.YtahbgdeahpogaaaGreatDoor
