/- AuditEnds: the whole run, whatever number comes in. No condition. -/
import Derived.Test.YtahbgdeahpogaaaGreatDoorAe4
open Go Go.Xec
namespace Go.Proofs.Lv

theorem seq_run {n : Nat} {a b : Code} {fr fr1 : Fr} {h h1 : H} {r : Option Res} (e : Rn n (.code a fr h) = some (.code .nrm fr1 h1)) (e2 : Rn n (.code b fr1 h1) = r) : Rn (n + 1) (.code (.seq a b) fr h) = r := by
  rw [Rn_code]; unfold codeA; simp only [e]; exact e2
theorem seq_stop {n : Nat} {a b : Code} {fr fr1 : Fr} {h h1 : H} {i : Nat} (e : Rn n (.code a fr h) = some (.code (.exit i) fr1 h1)) : Rn (n + 1) (.code (.seq a b) fr h) = some (.code (.exit i) fr1 h1) := by
  rw [Rn_code]; unfold codeA; simp only [e]

theorem X_eq {m : Nat} (h : m < 65536) : X m = .ofNat (m % 300) := by
  have e : wrapA .i64 (.ofNat m) = .ofNat m := by
    have h1 : m % pow2 .i64 = m := Nat.mod_eq_of_lt (by show m < 18446744073709551616; omega)
    have h2 : Nat.ble (half .i64) m = false := by
      rw [Bool.eq_false_iff]; intro c
      have : 9223372036854775808 ≤ m := Nat.le_of_ble_eq_true c
      omega
    unfold wrapA unres res
    simp only [h1, h2, Bool.and_false, cond_false]
  unfold X
  rw [e]; rfl

theorem lt_eq (i k : Nat) : ltI (.ofNat i) (.ofNat k) = decide (i < k) := by
  show (!Nat.ble k i) = decide (i < k)
  by_cases c : k ≤ i
  · rw [Nat.ble_eq_true_of_le c]; simp; omega
  · have : Nat.ble k i = false := by rw [Bool.eq_false_iff]; intro d; exact c (Nat.le_of_ble_eq_true d)
    rw [this]; simp; omega

theorem bB_run {m : Nat} (hm : m < 65536) (n i : Nat) (h : i < m % 300) : Rn (n + 13) (.code bB (stF m i) (hI i)) = some (.code .nrm (stF m (i + 1)) (hI (i + 1))) := by
  rw [bB_eq]
  refine seq_run (n := n + 12) (seq_run (n := n + 11) (r7_run m (n + 10) i (hI i)) ?_) (round_run m n i (by omega))
  rw [X_eq hm, lt_eq, decide_eq_true h]
  exact cnd_run m (n + 9) i true (stF m i) (hI i)
theorem bB_end {m : Nat} (hm : m < 65536) (n : Nat) : Rn (n + 13) (.code bB (stF m (m % 300)) (hI (m % 300))) = some (.code (.exit 0) (fr7 m (m % 300) (stF m (m % 300)) (.bool false)) (hI (m % 300))) := by
  rw [bB_eq]
  refine seq_stop (n := n + 12) (seq_run (n := n + 11) (r7_run m (n + 10) _ _) ?_)
  rw [X_eq hm, lt_eq, decide_eq_false (Nat.lt_irrefl _)]
  exact cnd_run m (n + 9) _ false _ _

theorem loop_run {m : Nat} (hm : m < 65536) : ∀ (d n i : Nat), i + d = m % 300 → Rn (n + 14 + d) (.code (.loop bB) (stF m i) (hI i)) = some (.code (.exit 0) (fr7 m (m % 300) (stF m (m % 300)) (.bool false)) (hI (m % 300)))
  | 0, n, i, e => by
    obtain rfl : i = m % 300 := by omega
    show Rn (n + 13 + 1) _ = _
    rw [Rn_code]; unfold codeA; simp only [bB_end hm]
  | d + 1, n, i, e => by
    show Rn (n + 14 + d + 1) _ = _
    rw [Rn_code]; unfold codeA
    have := bB_run hm (n + 1 + d) i (by omega)
    rw [show n + 1 + d + 13 = n + 14 + d by omega] at this
    simp only [this]
    exact loop_run hm d n (i + 1) (by omega)

theorem call_run {m : Nat} (hm : m < 65536) : ∃ n hF, Rn n (.call 3 [W m] h00) = some (.val (.bool true) hF) ∧ hF.blk.get 0 = some tblk := by
  have hN : m % 300 < 300 := Nat.mod_lt _ (by omega)
  obtain ⟨hF, hfin, hblk0⟩ := fin_run (Rn (3 + m % 300 + 19)) m (4 + m % 300) (m % 300) hN
  refine ⟨3 + m % 300 + 20, hF, ?_, hblk0⟩
  generalize hk : 3 + m % 300 = k at hfin ⊢
  have hloop := loop_run hm (m % 300) 0 0 (by omega)
  rw [show 0 + 14 + m % 300 = k + 11 by omega] at hloop
  have hblk : Rn (k + 12) (.code (.block 0 (.loop bB)) (fr0 m) (hI 0)) = some (.code .nrm (fr7 m (m % 300) (stF m (m % 300)) (.bool false)) (hI (m % 300))) := by
    rw [Rn_code]; unfold codeA
    have : Rn (k + 11) (.code (.loop bB) (fr0 m) (hI 0)) = _ := hloop
    simp only [this]
    rfl
  have hcode : Rn (k + 19) (.code c3 (s0 m).1 (s0 m).2) = Rn (k + 13) (.code pY (fr7 m (m % 300) (stF m (m % 300)) (.bool false)) (hI (m % 300))) := by
    rw [c3_eq]
    refine seq_run (n := k + 18) (isN_eq (b0 m k)) ?_
    refine seq_run (n := k + 17) (isN_eq (b1 m k)) ?_
    refine seq_run (n := k + 16) (isN_eq (b2 m k)) ?_
    refine seq_run (n := k + 15) (isN_eq (b3 m k)) ?_
    refine seq_run (n := k + 14) (isN_eq (b4 m k)) ?_
    refine seq_run (n := k + 13) ?_ rfl
    exact seq_run (n := k + 12) (b5 m k) hblk
  have hcall : Rn (k + 20) (.call 3 [W m] h00) = enterA Tryz.prog (Rn (k + 19)) 3 [W m] h00 := by
    show orT q (stepF Tryz.prog (Rn (k + 19))) (.call 3 [W m] h00) = _
    unfold orT
    rw [q3]; rfl
  rw [hcall]
  unfold enterA
  simp only [f3_is, body_is]
  show retA Tryz.prog (Rn (k + 19)) Tryz.f3 (Rn (k + 19) (.code c3 (s0 m).1 (s0 m).2)) = _
  rw [hcode]
  unfold fin at hfin
  rw [show 4 + m % 300 + 12 = k + 13 by omega] at hfin
  exact hfin
end Go.Proofs.Lv
