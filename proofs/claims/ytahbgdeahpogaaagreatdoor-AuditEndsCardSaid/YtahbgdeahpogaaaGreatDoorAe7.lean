/- AuditEnds: its call in a world in which the table of math/bits lies; nothing that was there turns. Condition: POk. -/
import Derived.Test.YtahbgdeahpogaaaGreatDoorAe6
import Derived.Test.YtahbgdeahpogaaaGreatDoorXf
import Derived.Lib.LaidTab
open Go Go.Xec
namespace Go.Proofs.Lv

noncomputable def tabZ : List Int := [0, 1, 56, 2, 57, 49, 28, 3, 61, 58, 42, 50, 38, 29, 17, 4, 62, 47, 59, 36, 45, 43, 51, 22, 53, 39, 33, 30, 24, 18, 12, 5, 63, 55, 48, 27, 60, 41, 37, 16, 46, 35, 44, 21, 52, 32, 23, 11, 54, 26, 40, 15, 34, 20, 31, 10, 25, 14, 19, 9, 13, 8, 7, 6]
theorem tblk_eq : tblk = .cells 327 (tabZ.map fun z => AV.int .u8 z) false true := by kernel_rfl
theorem glob0 : Tryz.prog.globalNamed "math/bits.deBruijn64tab" = some 0 := by kernel_rfl
theorem row0 : (((begin Tryz.prog (fun _ _ => 0) default).world.heap[0]?).bind Obj.row?).map (fun x => (x.1.size, x.2)) = some (64, 327) := by kernel_rfl
theorem gsize : 0 < Tryz.prog.globals.size := of_decide_eq_true (by kernel_rfl)

def f0 : Inj := fun b => if b = 0 then some (0, 0, 64) else none

theorem block0 {W : World} (hT : Lib.TabIs Tryz.prog W "math/bits.deBruijn64tab" .u8 tabZ) (hs : W.ShapedOpen Tryz.prog) : ∃ cs, W.heap[0]? = some (.cells cs 327 (0, 0)) ∧ cs.size = 64 ∧ ∀ i, i < 64 → cs[i]? = some (.int .u8 (tabZ.getD i 0)) := by
  have h1 := row0
  simp only [Option.map_eq_some_iff] at h1
  obtain ⟨⟨zero, t⟩, h2, h3⟩ := h1
  simp only [Prod.mk.injEq] at h3
  obtain ⟨h3, rfl⟩ := h3
  obtain ⟨cs, k1, k2, _⟩ := hs.1 0 zero 327 gsize h2
  refine ⟨cs, k1, by rw [k2, h3], fun i hi => ?_⟩
  have := hT.cell glob0 i (by simpa [tabZ] using hi)
  simpa [World.cell?, k1] using this

theorem hr0 {W : World} {cs : Array Value} (h1 : W.heap[0]? = some (.cells cs 327 (0, 0))) (h2 : cs.size = 64) (h3 : ∀ i, i < 64 → cs[i]? = some (.int .u8 (tabZ.getD i 0))) : HR f0 h00 W where
  dom := fun b L e => by
    unfold f0 at e
    split at e
    · rename_i hb; subst hb
      simp only [Option.some.injEq] at e; subst e
      refine ⟨by show 0 < 9; omega, tblk, _, h00_there, h1, ?_⟩
      rw [tblk_eq]
      refine ⟨rfl, h2, fun i x hx => ?_, fun _ => ⟨rfl, by rw [h2]; rfl⟩, fun _ => rfl⟩
      simp only [List.getElem?_map, Option.map_eq_some_iff] at hx
      obtain ⟨z, hz, rfl⟩ := hx
      have hi : i < 64 := by
        have := (List.getElem?_eq_some_iff.1 hz).1
        simpa [tabZ] using this
      refine ⟨.int .u8 z, ?_, .int _ _⟩
      show cs[0 + i]? = _
      rw [Nat.zero_add, h3 i hi, List.getD_eq_getElem?_getD, hz]; rfl
    · simp at e
  inj := fun b b' L L' e e' _ _ _ => by
    unfold f0 at e e'
    split at e <;> split at e' <;> simp_all
  glob := fun g hg => by
    have : g = 0 := by
      have : memN g [0] = true := hg
      unfold memN at this
      rw [bif_beq] at this
      split at this
      · rename_i h; exact h.symm
      · simp [memN] at this
    subst this
    exact ⟨64, rfl⟩

theorem kept_of_same {w w' : World} (h1 : w'.os = w.os) (h2 : w'.output = w.output) (h : ∀ i, i < w.heap.size → w'.heap[i]? = w.heap[i]?) (may : MemPlace → Prop) : w.keptBut w' may := by
  refine ⟨h1, h2, fun i hi => ?_⟩
  rw [h i hi]
  cases w.heap[i]? with
  | none => rfl
  | some o => cases o <;> first | exact ⟨rfl, rfl, rfl, fun _ _ => rfl⟩ | exact .inr ⟨rfl, rfl⟩ | rfl

theorem ends_any (hp : POk Tryz.prog) {n : Int} (h0 : 0 ≤ n) (h1 : n < 65536) {W : World} (hT : Lib.TabIs Tryz.prog W "math/bits.deBruijn64tab" .u8 tabZ) (hs : W.ShapedOpen Tryz.prog) :
    Calls Tryz.prog 3 #[.int .u16 n] W fun e W' => e = .returned (.bool true) ∧ ∀ may, W.keptBut W' may := by
  obtain ⟨m, rfl⟩ := Int.eq_ofNat_of_zero_le h0
  obtain ⟨cs, k1, k2, k3⟩ := block0 hT hs
  have hr := hr0 k1 k2 k3
  have c := (call3 hp (m := m) (by omega)).calls hp f3_is body_is hr (args' := [.int .u16 (.ofNat m)]) (.one (.int _ _))
  refine c.mono ?_
  rintro e W' ⟨v', f', rfl, hv, hr', hx⟩
  cases hv
  refine ⟨rfl, kept_of_same hx.still.1 hx.still.2 fun i hi => ?_⟩
  by_cases hi0 : i = 0
  · subst hi0
    obtain ⟨_, blk, o, g1, g2, g3⟩ := hr'.dom 0 (0, 0, 64) (hx.sub _ _ rfl)
    rw [h00_there] at g1
    simp only [Option.some.injEq] at g1; subst g1
    rw [tblk_eq] at g3
    cases o with
    | cells c el fz =>
      obtain ⟨q1, q2, q3, q4, q5⟩ := g3
      have q5 := q5 rfl
      subst q5; subst q1
      have : c = cs := by
        refine Array.ext (by rw [k2]; exact q2) fun i hi1 hi2 => ?_
        have hi3 : i < 64 := by rw [k2] at hi2; exact hi2
        obtain ⟨v, a, b⟩ := q3 i (.int .u8 (tabZ.getD i 0)) (by
          rw [List.getElem?_map, List.getD_eq_getElem?_getD]
          have : i < tabZ.length := hi3
          rw [List.getElem?_eq_getElem this]; rfl)
        cases b
        have e1 := k3 i hi3
        rw [Nat.zero_add] at a
        rw [Array.getElem?_eq_getElem hi1] at a
        rw [Array.getElem?_eq_getElem hi2] at e1
        simp only [Option.some.injEq] at a e1
        rw [a, e1]
      show W'.heap[0]? = _
      rw [k1, ← this]; exact g2
    | _ => simp [BR] at g3
  · refine hx.kept i hi fun b L e _ => ?_
    unfold f0 at e
    split at e
    · simp only [Option.some.injEq] at e; subst e; exact fun h => hi0 h.symm
    · simp at e
end Go.Proofs.Lv
