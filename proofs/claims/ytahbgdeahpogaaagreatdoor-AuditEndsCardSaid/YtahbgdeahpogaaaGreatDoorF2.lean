/- Closed facts of the card, each by itself. No condition. -/
import Derived.Test.YtahbgdeahpogaaaGreatDoorCards
namespace Go.Proofs.YtahbgdeahpogaaaGreatDoor
theorem wfText : Rows.auditEndsRow.wfByText (OpenSpec.ofChange Rows.auditEndsSpec) = true := by kernel_rfl
theorem mainSum3 : Tryz.pinned.checked.prog.mainIs = some (true, "7bc5c1db6e86e2639b21d9c24c430149195963c52b28471b60447422f382c7b6".toList) := by kernel_rfl
theorem looks3 : true = Tryz.prog.looks [] := by kernel_rfl
theorem want3 : Tryz.prog.wantsStandIn 22 = false := by kernel_rfl
theorem noGo : Tryz.prog.funcs.toList.all (fun fn => !fn.goes) = true := by kernel_rfl
theorem noGo_at (g : Nat) : (Tryz.prog.funcs[g]?).any Func.goes = false := by
  cases h : Tryz.prog.funcs[g]? with
  | none => rfl
  | some fn =>
    obtain ⟨hlt, e⟩ := Array.getElem?_eq_some_iff.1 h
    have := List.all_eq_true.1 noGo fn (by rw [← e]; simp)
    simpa using this
theorem noGo_of (f : Nat) : Tryz.prog.goes f = false := by
  have h1 : ((Tryz.prog.closure f).any fun g => (Tryz.prog.funcs[g]?).any Func.goes) = false := by
    rw [List.any_eq_false]; intro g _; rw [noGo_at]; simp
  have h2 : Tryz.prog.funcs.any Func.goes = false := by
    rw [Array.any_eq_false]
    intro i hi
    have := noGo_at i
    rw [Array.getElem?_eq_getElem hi] at this
    simpa using this
  unfold Program.goes
  rw [h1, h2, Bool.and_false]; rfl
theorem goes3 : false = Rows.auditEndsRow.goesBy Tryz.prog := by
  show false = ((Tryz.prog.funcNamed "stet/stetlaw44.AuditEnds").any Tryz.prog.goes || false)
  cases Tryz.prog.funcNamed "stet/stetlaw44.AuditEnds" with
  | none => rfl
  | some f => simp [noGo_of]
end Go.Proofs.YtahbgdeahpogaaaGreatDoor
