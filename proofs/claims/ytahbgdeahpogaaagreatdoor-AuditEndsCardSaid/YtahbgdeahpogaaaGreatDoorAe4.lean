/- AuditEnds: each round of its loop, and what stands behind it. No condition. -/
import Derived.Test.YtahbgdeahpogaaaGreatDoorAe3
open Go Go.Xec
namespace Go.Proofs.Lv
noncomputable def gotB (m n c : Nat) : Nat → List (Option Res)
  | 0 => []
  | k + 1 => Rn (n + 12) (.code rest (fr7 m (c + k) (stF m (c + k)) (.bool true)) (hI (c + k))) :: gotB m n c k
noncomputable def expB (m c : Nat) : Nat → List (Option Res)
  | 0 => []
  | k + 1 => some (.code .nrm (stF m (c + k + 1)) (hI (c + k + 1))) :: expB m c k
theorem tB0 (m n : Nat) : gotB m n 0 150 = expB m 0 150 := by kernel_rfl
theorem tB1 (m n : Nat) : gotB m n 150 150 = expB m 150 150 := by kernel_rfl
theorem get_of (m n c : Nat) : ∀ k, gotB m n c k = expB m c k → ∀ i, i < k → Rn (n + 12) (.code rest (fr7 m (c + i) (stF m (c + i)) (.bool true)) (hI (c + i))) = some (.code .nrm (stF m (c + i + 1)) (hI (c + i + 1)))
  | 0, _, i, h => by omega
  | k + 1, e, i, h => by
    unfold gotB expB at e
    rw [List.cons.injEq] at e
    by_cases hi : i = k
    · subst hi; exact e.1
    · exact get_of m n c k e.2 i (by omega)
theorem round_run (m n i : Nat) (h : i < 300) : Rn (n + 12) (.code rest (fr7 m i (stF m i) (.bool true)) (hI i)) = some (.code .nrm (stF m (i + 1)) (hI (i + 1))) := by
  by_cases c : i < 150
  · have := get_of m n 0 150 (tB0 m n) i c
    simpa only [Nat.zero_add] using this
  · have := get_of m n 150 150 (tB1 m n) (i - 150) (by omega)
    rw [show 150 + (i - 150) = i by omega] at this
    exact this

noncomputable def tblk : Blk := match aNew.S with | x :: _ => x.2 | [] => .dead
noncomputable def isT (r : Option Res) : Bool := match r with
  | some (.val (.bool true) h) => (match h.blk.get 0 with | some x => beqBlk x tblk | none => false)
  | _ => false
noncomputable def fin (sf : Xec.Task → Option Res) (m n i : Nat) : Option Res := retA Tryz.prog sf Tryz.f3 (Rn (n + 12) (.code pY (fr7 m i (stF m i) (.bool false)) (hI i)))
noncomputable def allF (sf : Xec.Task → Option Res) (m n : Nat) : Nat → Bool
  | 0 => true
  | k + 1 => isT (fin sf m n k) && allF sf m n k
theorem tF (sf : Xec.Task → Option Res) (m n : Nat) : allF sf m n 300 = true := by kernel_rfl
theorem fin_of (sf : Xec.Task → Option Res) (m n : Nat) : ∀ k, allF sf m n k = true → ∀ i, i < k → isT (fin sf m n i) = true
  | 0, _, i, h => by omega
  | k + 1, e, i, h => by
    unfold allF at e
    rw [Bool.and_eq_true] at e
    by_cases hi : i = k
    · subst hi; exact e.1
    · exact fin_of sf m n k e.2 i (by omega)
theorem fin_run (sf : Xec.Task → Option Res) (m n i : Nat) (h : i < 300) : ∃ hF, fin sf m n i = some (.val (.bool true) hF) ∧ hF.blk.get 0 = some tblk := by
  have := fin_of sf m n 300 (tF sf m n) i h
  unfold isT at this
  split at this
  · rename_i hF e
    refine ⟨hF, e, ?_⟩
    split at this
    · rename_i x hx; rw [hx, beqBlk_eq this]
    · simp at this
  · simp at this

/-! the begin -/
noncomputable def stOf (r : Option Res) : Fr × H := match r with | some (.code _ fr h) => (fr, h) | _ => (⟨.nil, 0, [], 0, none⟩, ⟨.nil, 0, []⟩)
noncomputable def isN (r : Option Res) : Bool := match r with | some (.code .nrm _ _) => true | _ => false
theorem isN_eq {r : Option Res} (h : isN r = true) : r = some (.code .nrm (stOf r).1 (stOf r).2) := by
  unfold isN at h
  split at h
  · rfl
  · simp at h
noncomputable def h00 : H := ⟨layL aNew.S .nil, 9, gl⟩
noncomputable def s0 (m : Nat) : Fr × H := (⟨initTm 0 [W m] .nil, ntOf [W m] Tryz.f3.ntmps, [], 3, none⟩, h00)
noncomputable def s1 (m n : Nat) : Fr × H := stOf (Rn (n + 18) (.code (sL c3) (s0 m).1 (s0 m).2))
noncomputable def s2 (m n : Nat) : Fr × H := stOf (Rn (n + 17) (.code (sL k1) (s1 m n).1 (s1 m n).2))
noncomputable def s3 (m n : Nat) : Fr × H := stOf (Rn (n + 16) (.code (sL k2) (s2 m n).1 (s2 m n).2))
noncomputable def s4 (m n : Nat) : Fr × H := stOf (Rn (n + 15) (.code (sL k3) (s3 m n).1 (s3 m n).2))
noncomputable def s5 (m n : Nat) : Fr × H := stOf (Rn (n + 14) (.code (sL k4) (s4 m n).1 (s4 m n).2))
theorem b0 (m n : Nat) : isN (Rn (n + 18) (.code (sL c3) (s0 m).1 (s0 m).2)) = true := by kernel_rfl
theorem b1 (m n : Nat) : isN (Rn (n + 17) (.code (sL k1) (s1 m n).1 (s1 m n).2)) = true := by kernel_rfl
theorem b2 (m n : Nat) : isN (Rn (n + 16) (.code (sL k2) (s2 m n).1 (s2 m n).2)) = true := by kernel_rfl
theorem b3 (m n : Nat) : isN (Rn (n + 15) (.code (sL k3) (s3 m n).1 (s3 m n).2)) = true := by kernel_rfl
theorem b4 (m n : Nat) : isN (Rn (n + 14) (.code (sL k4) (s4 m n).1 (s4 m n).2)) = true := by kernel_rfl
theorem b5 (m n : Nat) : Rn (n + 12) (.code (sL pX) (s5 m n).1 (s5 m n).2) = some (.code .nrm (fr0 m) (hI 0)) := by kernel_rfl
theorem body_is : Tryz.f3.body = some c3 := by kernel_rfl
theorem f3_is : Tryz.prog.funcs[3]? = some Tryz.f3 := by kernel_rfl
theorem q3 (m : Nat) : q (.call 3 [W m] h00) = none := by kernel_rfl
end Go.Proofs.Lv
