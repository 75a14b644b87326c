/- AuditEnds: what its call does, in every world. Condition: POk. -/
import Derived.Test.YtahbgdeahpogaaaGreatDoorAe5
import Derived.Test.YtahbgdeahpogaaaGreatDoorAe1
import Derived.Test.YtahbgdeahpogaaaGreatDoorAe20
import Derived.Test.YtahbgdeahpogaaaGreatDoorAe21
import Derived.Test.YtahbgdeahpogaaaGreatDoorAe22
import Derived.Test.YtahbgdeahpogaaaGreatDoorLv6726
open Go Go.Xec
namespace Go.Proofs.Lv
theorem do_fine (hp : POk Tryz.prog) (k : Nat) (h : k < 150) : EntFine Tryz.prog gl (doE k) := by
  have ic := runQ_ic hp (ask_ic (p := Tryz.prog) (gl := gl) (T := []) (fun e h => by simp at h)) 1000
  have pick : ∀ c, (List.range 50).all (fun k => okE gl (doE (c + k)) (runQ Tryz.prog (askT gl []) 1000 (.call 7 (doE (c + k)).args ((doE (c + k)).pre gl)))) = true → ∀ j, j < 50 → EntFine Tryz.prog gl (doE (c + j)) := by
    intro c e j hj
    rw [List.all_eq_true] at e
    exact ent_of ic (e j (List.mem_range.2 hj))
  by_cases c1 : k < 50
  · have := pick 0 do0 k c1
    rwa [Nat.zero_add] at this
  · by_cases c2 : k < 100
    · have := pick 50 do1 (k - 50) (by omega)
      rwa [show 50 + (k - 50) = k by omega] at this
    · have := pick 100 do2 (k - 100) (by omega)
      rwa [show 100 + (k - 100) = k by omega] at this

theorem askDo_ic (hp : POk Tryz.prog) : IC Tryz.prog askDo := by
  have key : ∀ t r, askDo t = some r → ∃ g args h, t = .call g args h ∧ ∀ v h', r = .val v h' → CallC Tryz.prog g args h v h' := by
    intro t r e
    unfold askDo at e
    split at e
    · rename_i g args h
      refine ⟨g, args, h, rfl, fun v h' hr => ?_⟩
      subst hr
      rw [bif_beq] at e
      split at e
      · split at e
        · split at e
          · rename_i k _ _
            rw [bif_blt] at e
            split at e
            · rename_i hk; exact askE_ok (do_fine hp k hk) e
            · exact askE_ok (fFull hp) e
          · simp at e
        · simp at e
      · simp at e
    · simp at e
  refine { call := ?_, round := ?_, dyn := ?_, code := ?_, again := ?_, scope := ?_ }
  · intro g args h v h' e f w args' hr ha
    obtain ⟨g', a', h2, e2, k⟩ := key _ _ e
    simp only [Xec.Task.call.injEq] at e2
    obtain ⟨rfl, rfl, rfl⟩ := e2
    exact k v h' rfl f w args' hr ha
  · intro _ _ _ _ _ e; obtain ⟨_, _, _, e2, _⟩ := key _ _ e; simp at e2
  · intro _ _ _ _ _ e; obtain ⟨_, _, _, e2, _⟩ := key _ _ e; simp at e2
  · intro _ _ _ _ _ _ e; obtain ⟨_, _, _, e2, _⟩ := key _ _ e; simp at e2
  · intro _ _ _ _ _ _ e; obtain ⟨_, _, _, e2, _⟩ := key _ _ e; simp at e2
  · intro _ _ _ _ _ _ _ e; obtain ⟨_, _, _, e2, _⟩ := key _ _ e; simp at e2

theorem q_ic (hp : POk Tryz.prog) : IC Tryz.prog q :=
  or_ic (askDo_ic hp) (ask_ic (Fines.mem (T := [aNew, aDoc, aAud, e6726]) ⟨faNew hp, faDoc hp, faAud hp, f6726 hp, trivial⟩))

theorem h00_get {b : Nat} {x : Blk} (h : h00.blk.get b = some x) : b = 0 ∧ x = tblk := by
  rcases layL_some (l := aNew.S) (t := .nil) h with h1 | h1
  · have e : aNew.S = [(0, tblk)] := rfl
    rw [e] at h1
    simpa using h1
  · rw [Tr.get_nil] at h1; simp at h1
theorem h00_there : h00.blk.get 0 = some tblk := by
  have e : h00.blk = (Tr.nil : Tr Blk).set 0 tblk := rfl
  rw [e, Tr.get_set, if_pos rfl]
theorem tblk_in : blkIn h00.blk tblk = true := by kernel_rfl

/-- THE CALL: true, and no block that was there has turned -/
theorem call3 (hp : POk Tryz.prog) {m : Nat} (hm : m < 65536) : CallC Tryz.prog 3 [W m] h00 (.bool true) h00 := by
  obtain ⟨n, hF, e, hb⟩ := call_run hm
  have c : CallC Tryz.prog 3 [W m] h00 (.bool true) hF := fun f w args' hr ha => (runQ_ic hp (q_ic hp) n).call _ _ _ _ _ e f w args' hr ha
  refine c.forget ?_ (fun _ h => h) ?_ rfl (Nat.le_refl _) ?_ rfl
  · intro b x h
    obtain ⟨rfl, rfl⟩ := h00_get h
    exact hb
  · intro b x h
    obtain ⟨rfl, rfl⟩ := h00_get h
    exact tblk_in
  · intro b h
    obtain ⟨x, hx⟩ := there_iff.1 h
    obtain ⟨rfl, _⟩ := h00_get hx
    decide
end Go.Proofs.Lv
