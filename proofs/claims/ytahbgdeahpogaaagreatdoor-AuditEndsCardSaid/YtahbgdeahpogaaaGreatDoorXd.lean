/- Operations that write memory, as the executor does them. No condition. -/
import Derived.Test.YtahbgdeahpogaaaGreatDoorXc
namespace Go.Xec

section
variable {f : Inj} {h : H} {w : World} {p : Program}

theorem rep_get {α : Type} (l : List α) (hl : l ≠ []) : ∀ (n i : Nat), i < n * l.length → (rep n l)[i]? = l[i % l.length]?
  | 0, i, h => by simp at h
  | n + 1, i, h => by
    have hp : 0 < l.length := List.length_pos_iff.2 hl
    unfold rep
    by_cases hi : i < l.length
    · rw [List.getElem?_append_left hi, Nat.mod_eq_of_lt hi]
    · rw [List.getElem?_append_right (by omega), rep_get l hl n (i - l.length) (by rw [Nat.add_mul] at h; omega)]
      congr 1
      rw [← Nat.mod_eq_sub_mod (by omega)]

theorem rep_length {α : Type} (l : List α) : ∀ n : Nat, (rep n l).length = n * l.length
  | 0 => by simp [rep]
  | n + 1 => by simp [rep, rep_length l n, Nat.add_mul]; omega

theorem VRs.rep {zs : List AV} {z : Array Value} (hz : VRs f zs z.toList) (n : Nat) : VRs f (rep n zs) ((Array.range (n * z.size)).map (z[· % z.size]!)).toList := by
  have hlen : zs.length = z.size := by rw [hz.length]; simp
  by_cases h0 : zs = []
  · subst h0
    have hz0 : z.size = 0 := by simpa using hlen.symm
    have : (Xec.rep n ([] : List AV)) = [] := by apply List.length_eq_zero_iff.1; rw [rep_length]; simp
    rw [this, hz0]
    simpa using VRs.nil
  · have hp : 0 < zs.length := List.length_pos_iff.2 h0
    apply VRs.of_get
    · rw [rep_length, hlen]; simp
    · intro i x hx
      have hi : i < n * zs.length := by
        have := (List.getElem?_eq_some_iff.1 hx).1
        rwa [rep_length] at this
      rw [rep_get zs h0 n i hi] at hx
      obtain ⟨y, hy, hr⟩ := hz.get _ _ hx
      refine ⟨y, ?_, hr⟩
      have hi' : i < n * z.size := by rw [← hlen]; exact hi
      have hm : i % z.size < z.size := Nat.mod_lt _ (by omega)
      rw [hlen] at hy
      have hz2 : z[i % z.size]! = y := by
        rw [getElem!_pos z _ hm]
        have := (List.getElem?_eq_some_iff.1 hy)
        obtain ⟨h1, h2⟩ := this
        simpa using h2
      simp [hi', hz2]

/-- a world with one block more -/
def addW (w : World) (o : Obj) (d : Nat) : World := { w with heap := w.heap.push o, drawn := d }

def ins (f : Inj) (b : Nat) (L : Nat × Nat × Nat) : Inj := fun x => if x = b then some L else f x

theorem HR.fresh (hr : HR f h w) {b : Nat} (hb : h.next ≤ b) : f b = none := by
  cases e : f b with
  | none => rfl
  | some L => have := (hr.dom b L e).1; omega

theorem sub_ins {b : Nat} {L : Nat × Nat × Nat} (hb : f b = none) : Sub f (ins f b L) := by
  intro x M hx
  unfold ins
  split
  · rename_i e; subst e; rw [hb] at hx; cases hx
  · exact hx

theorem get_add (h : H) (blk : Blk) (b : Nat) : (h.add blk).blk.get b = if h.next = b then some blk else h.blk.get b := by
  simp [H.add, Tr.get_set]

/-- a new block on both sides -/
theorem add_sound (hr : HR f h w) {blk : Blk} {o : Obj} {E d : Nat} (hb : BR f (w.heap.size, 0, E) blk o) :
    HR (ins f h.next (w.heap.size, 0, E)) (h.add blk) (addW w o d) ∧ Ext f h w (ins f h.next (w.heap.size, 0, E)) (h.add blk) (addW w o d) := by
  have hn := hr.fresh (Nat.le_refl h.next)
  have hs := sub_ins (L := (w.heap.size, 0, E)) hn
  have hlt : ∀ b L, f b = some L → L.1 < w.heap.size := by
    intro b L e
    obtain ⟨_, _, o', _, h2, _⟩ := hr.dom b L e
    exact (Array.getElem?_eq_some_iff.1 h2).1
  refine ⟨⟨?_, ?_, fun g hg => let ⟨E, e⟩ := hr.glob g hg; ⟨E, hs _ _ e⟩⟩, ⟨hs, ?_, ?_, ?_, ?_, ?_, ?_, rfl, rfl⟩⟩
  · intro b L e
    unfold ins at e
    split at e
    · rename_i hbn
      subst hbn
      simp only [Option.some.injEq] at e; subst e
      exact ⟨by simp [H.add], blk, o, by simp [get_add], by simp [addW], hb.mono hs⟩
    · rename_i hbn
      obtain ⟨h1, blk', o', h2, h3, h4⟩ := hr.dom b L e
      refine ⟨by simp [H.add]; omega, blk', o', ?_, ?_, h4.mono hs⟩
      · rw [get_add, if_neg (fun hh => hbn hh.symm)]; exact h2
      · have := hlt b L e
        simp only [addW, Array.getElem?_push]
        rw [if_neg (by omega)]; exact h3
  · intro b b' L L' e e' a a' hL
    unfold ins at e e'
    split at e
    · rename_i hbn
      simp only [Option.some.injEq] at e; subst e
      split at e'
      · rename_i hbn'; rw [hbn, hbn']
      · have := hlt b' L' e'; simp only at hL; omega
    · rename_i hbn
      split at e'
      · simp only [Option.some.injEq] at e'; subst e'
        have := hlt b L e; simp only at hL; omega
      · rename_i hbn'
        refine hr.inj b b' L L' e e' ?_ ?_ hL
        · unfold alive at a ⊢; rw [get_add, if_neg (fun hh => hbn hh.symm)] at a; exact a
        · unfold alive at a' ⊢; rw [get_add, if_neg (fun hh => hbn' hh.symm)] at a'; exact a'
  · intro b hb' e
    refine ⟨?_, ?_⟩
    · unfold ins; rw [if_neg (by omega)]; exact e
    · rw [get_add, if_neg (by omega)]
  · simp [H.add]
  · simp [addW]
  · intro b hb' e
    rw [get_add, if_neg (by omega)]; exact e
  · intro b L e a
    unfold ins at e
    split at e
    · simp only [Option.some.injEq] at e; subst e; exact .inl (Nat.le_refl _)
    · rename_i hbn
      refine .inr ⟨b, L, e, ?_, rfl⟩
      unfold alive at a ⊢; rw [get_add, if_neg (fun hh => hbn hh.symm)] at a; exact a
  · intro B hB _
    simp only [addW, Array.getElem?_push]
    rw [if_neg (by omega)]

theorem br_cells {cs : List AV} {c : Array Value} (hc : VRs f cs c.toList) (el B : Nat) : BR f (B, 0, c.size) (.cells el cs false true) (.cells c el (0, 0)) := by
  refine ⟨rfl, rfl, fun i x hx => ?_, fun _ => ⟨rfl, ?_⟩, fun _ => rfl⟩
  · obtain ⟨y, hy, hr⟩ := hc.get i x hx
    exact ⟨y, by simpa using hy, hr⟩
  · rw [hc.length]; simp

/-- what an operation that makes a block does -/
def MakesOk (f : Inj) (w : World) (p : Program) (nx : Nat) (v : AV) (blk : Blk) (s : Sem Next) : Prop :=
  ∃ v' o E, s.run p w = .ok (.value v') (addW w o w.drawn) ∧ BR f (w.heap.size, 0, E) blk o ∧ ∀ g : Inj, Sub f g → g nx = some (w.heap.size, 0, E) → VR g v v'

theorem makes_sound {ρ : Operand → Option AV} {ρ' : Operand → Value} (hρ : OR f ρ ρ') (o : Oper) {nx : Nat} {v : AV} {blk : Blk} (e : makes p nx ρ o.op = some (v, blk)) :
    MakesOk f w p nx v blk (execOp ρ' o) := by
  unfold makes at e
  split at e
  · rename_i t ho
    split at e
    · rename_i i hi
      simp only [Option.some.injEq, Prod.mk.injEq] at e
      obtain ⟨rfl, rfl⟩ := e
      obtain ⟨z, hz, hzr⟩ := (ti_spec hi).run_zero w
      refine ⟨.pointer (some ⟨w.heap.size, 0, none⟩), .cells z.cells t (0, 0), _, ?_, br_cells (hzr f).cells t _, fun g hs hg => .ptr _ _ _ _ _ hg⟩
      simp only [execOp, ho]
      apply run_v
      simp only [Instr.alloc, Sem.run_bind, hz, Result.andThen_ok, newVar, newRow, run_newObj, Sem.run_pure]
      rfl
    · simp at e
  · rename_i t x ho
    split at e
    · rename_i a ha
      simp only [Option.some.injEq, Prod.mk.injEq] at e
      obtain ⟨rfl, rfl⟩ := e
      refine ⟨.pointer (some ⟨w.heap.size, 0, none⟩), .cells (ρ' x).cells t (0, 0), _, ?_, br_cells (hρ _ _ ha).cells t _, fun g hs hg => .ptr _ _ _ _ _ hg⟩
      simp only [execOp, ho]
      apply run_v
      simp only [Instr.box, newVar, newRow, Sem.run_bind, run_newObj, Result.andThen_ok, Sem.run_pure]
      rfl
    · simp at e
  · rename_i t len parts ho
    split at e
    · rename_i ps hps
      obtain ⟨h1, h2⟩ := evps_sound hρ _ _ hps
      unfold mkSlice at e
      split at e
      · simp at e
      · rename_i q hq
        have hu := (ti_spec hq).run_und w
        split at e
        · rename_i el hund
          rw [hund] at hu
          split at e
          · simp at e
          · rename_i i hi
            have hsz := (ti_spec hi).run_size w
            obtain ⟨z, hz, hzr⟩ := (ti_spec hi).run_zero w
            split at e
            · rename_i cs hcs
              rw [cond_eq_ite] at e
              split at e
              · rename_i hc
                simp only [Bool.and_eq_true, beq_iff, Nat.ble_eq, Bool.not_eq_true'] at hc
                obtain ⟨⟨hc1, hc2⟩, hc3⟩ := hc
                simp only [Option.some.injEq, Prod.mk.injEq] at e
                obtain ⟨rfl, rfl⟩ := e
                have hzc := (hzr f).cells
                have hzs : z.cells.size = i.size := by rw [← hc1, hzc.length]; simp
                have hne : ¬ i.size = 0 := fun hh => by rw [hh] at hc3; simp at hc3
                have hrep := VRs.rep hzc len
                rw [hzs] at hrep
                obtain ⟨vs', h3, h4⟩ := fill_sound ps (parts.toList.map fun (j, x) => (j, ρ' x)) _ _ _ (by simp [h1, Function.comp_def]) (by simpa [Function.comp_def] using h2) hrep hcs
                refine ⟨.slice (some ⟨w.heap.size, 0, none⟩) len len, .cells vs'.toArray el (0, 0), _, ?_, br_cells (c := vs'.toArray) (by simpa using h4) el _, fun g hs hg => ?_⟩
                · simp only [execOp, ho]
                  apply run_v
                  have hlim : ¬ len * i.size > 2 ^ 24 := by omega
                  have hzero : ∀ w', (if len * i.size = 0 then (pure #[] : Sem (Array Value)) else do pure (← zeroValue el).cells).run p w = .ok w' w → True := fun _ _ => trivial
                  by_cases hl0 : len = 0
                  · subst hl0
                    simp only [Nat.zero_mul] at h3
                    have h3' : Instr.fill (fun j => some (j * i.size, i.size)) ((Array.range 0).map (fun x => (#[] : Array Value)[x % (#[] : Array Value).size]!)) (parts.map fun (j, x) => (j, ρ' x)).toList = some vs'.toArray := by
                      rw [← h3]
                      congr 1
                      · simp
                      · rw [Array.toList_map]
                    simp only [Instr.buildSlice, Sem.run_bind, hu, Result.andThen_ok, hsz, Nat.zero_mul, Nat.not_lt_zero, gt_iff_lt, if_false, if_true, Sem.run_pure, h3', newRow, run_newObj]
                    rfl
                  · have hnz : ¬ len * i.size = 0 := by
                      intro hh
                      rcases Nat.mul_eq_zero.1 hh with h | h <;> contradiction
                    have h3' : Instr.fill (fun j => some (j * i.size, i.size)) ((Array.range (len * i.size)).map (fun x => z.cells[x % z.cells.size]!)) (parts.map fun (j, x) => (j, ρ' x)).toList = some vs'.toArray := by
                      rw [← h3, hzs]
                      congr 1
                      simp
                    simp only [Instr.buildSlice, Sem.run_bind, hu, Result.andThen_ok, hsz, hlim, if_false, hnz, Sem.run_pure, hz, h3', newRow, run_newObj]
                    rfl
                · exact .sl _ _ _ _ _ _ _ _ _ _ hg (Nat.le_refl _) (Nat.le_refl _) (fun _ => rfl) (.inr ⟨rfl, .inl rfl⟩)
              · simp at e
            · simp at e
        · simp at e
    · simp at e
  · rename_i t ho
    simp only [Option.some.injEq, Prod.mk.injEq] at e
    obtain ⟨rfl, rfl⟩ := e
    refine ⟨.map (some w.heap.size), .map #[] 0, 0, ?_, ⟨rfl, .nil⟩, fun g hs hg => .map _ _ _ _ hg⟩
    simp only [execOp, ho]
    apply run_v
    simp [Instr.makeMap, addW]
  · rename_i t x ho
    split at e
    · rename_i q hq
      have hu := (ti_spec hq).run_und w
      split at e
      · rename_i k el hund
        rw [hund] at hu
        unfold mkMap at e
        split at e
        · rename_i k' n hx
          simp only [Option.some.injEq, Prod.mk.injEq] at e
          obtain ⟨rfl, rfl⟩ := e
          have hv := hρ _ _ hx
          generalize hcv : ρ' x = cv at hv
          cases hv
          refine ⟨.map (some w.heap.size), .map #[] 0, 0, ?_, ⟨rfl, .nil⟩, fun g hs hg => .map _ _ _ _ hg⟩
          simp only [execOp, ho, Option.map_some, hcv]
          apply run_v
          simp [Instr.makeMap, hu, asInt, asIntOf, addW]
        · simp at e
      · simp at e
    · simp at e
  · rename_i t l c ho
    split at e
    · rename_i a ha
      split at e
      · rename_i b hb
        unfold mkMake at e
        split at e
        · rename_i k1 l' k2 c'
          have hv1 := hρ _ _ ha
          have hv2 := hρ _ _ hb
          generalize hc1 : ρ' l = cv1 at hv1
          generalize hc2 : ρ' c = cv2 at hv2
          cases hv1; cases hv2
          split at e
          · simp at e
          · rename_i q hq
            have hu := (ti_spec hq).run_und w
            split at e
            · rename_i el hund
              rw [hund] at hu
              split at e
              · simp at e
              · rename_i i hi
                have hsz := (ti_spec hi).run_size w
                obtain ⟨z, hz, hzr⟩ := (ti_spec hi).run_zero w
                obtain ⟨inf, hinf, _, hby, _⟩ := (ti_spec hi).run_info w
                rw [cond_eq_ite] at e
                split at e
                · rename_i hc
                  simp only [Bool.and_eq_true, beq_iff, Nat.ble_eq, Bool.not_eq_true'] at hc
                  obtain ⟨⟨⟨⟨g1, g2⟩, g3⟩, g4⟩, g5⟩ := hc
                  simp only [Option.some.injEq, Prod.mk.injEq] at e
                  obtain ⟨rfl, rfl⟩ := e
                  have hzc := (hzr f).cells
                  have hzs : z.cells.size = i.size := by rw [← g4, hzc.length]; simp
                  have hne : ¬ i.size = 0 := fun hh => by rw [hh] at g5; simp at g5
                  have hrep := VRs.rep hzc c'
                  have w1 : IntKind.i64.wrap (Int.ofNat l') = Int.ofNat l' := by rw [← wrapA_eq]; simp only [wrapA, res, unres, pow2, half, IntKind.signed, Bool.true_and, bif_ble]; rw [Nat.mod_eq_of_lt (by omega), if_neg (by omega)]
                  have w2 : IntKind.i64.wrap (Int.ofNat c') = Int.ofNat c' := by rw [← wrapA_eq]; simp only [wrapA, res, unres, pow2, half, IntKind.signed, Bool.true_and, bif_ble]; rw [Nat.mod_eq_of_lt (by omega), if_neg (by omega)]
                  refine ⟨.slice (some ⟨w.heap.size, 0, none⟩) l' c', .cells ((Array.range (c' * z.cells.size)).map (fun x => z.cells[x % z.cells.size]!)) el (0, 0), _, ?_, br_cells hrep el _, fun g hs hg => ?_⟩
                  · simp only [execOp, ho, hc1, hc2]
                    apply run_v
                    have hmul : inf.bytes * c' ≤ 100000 * 1000000 := Nat.mul_le_mul (by omega) g2
                    have t1 : ¬ ((inf.bytes : Int) * Int.ofNat c' > 2 ^ 48) := by
                      have : ((inf.bytes : Int) * Int.ofNat c') = ((inf.bytes * c' : Nat) : Int) := by simp
                      rw [this]; omega
                    have t2 : ¬ (Int.ofNat c' < 0) := by simp
                    have t3 : ¬ (Int.ofNat l' < 0) := by simp
                    have t4 : ¬ (Int.ofNat l' > Int.ofNat c') := by simp; omega
                    have cond : ((decide (Int.ofNat c' < 0) || decide ((inf.bytes : Int) * Int.ofNat c' > 2 ^ 48)) || decide (Int.ofNat l' < 0) || decide (Int.ofNat l' > Int.ofNat c')) = false := by
                      simp only [t1, t2, t3, t4, decide_false, Bool.or_false]
                    simp only [Instr.makeSlice, asInt, asIntOf, Sem.run_bind, Sem.run_pure, Result.andThen_ok, hu, hinf, w1, w2, cond, Bool.false_eq_true, if_false, run_askRoom, hsz]
                    by_cases hc0 : c' = 0
                    · subst hc0
                      have e1 : (Array.range (0 * z.cells.size)).map (fun x => z.cells[x % z.cells.size]!) = #[] := by simp
                      have e2 : (Int.ofNat 0).toNat * i.size = 0 := by simp
                      have e3 : (Array.range 0).map (fun x => (#[] : Array Value)[x % (#[] : Array Value).size]!) = #[] := by simp
                      simp only [e2, if_true, Sem.run_pure, Result.andThen_ok, newRow, run_newObj, Sem.run_bind, e1, e3]
                      rfl
                    · have hnz : ¬ (Int.ofNat c').toNat * i.size = 0 := by
                        intro hh
                        rcases Nat.mul_eq_zero.1 hh with h | h
                        · exact hc0 h
                        · exact hne h
                      simp only [hnz, if_false, Sem.run_bind, hz, Result.andThen_ok, Sem.run_pure, newRow, run_newObj, hzs]
                      rfl
                  · exact .sl _ _ _ _ _ _ _ _ _ _ hg g1 (Nat.le_refl _) (fun _ => rfl) (.inr ⟨rfl, .inl rfl⟩)
                · simp at e
            · simp at e
        · simp at e
      · simp at e
    · simp at e
  · rename_i t x ho
    split at e
    · rename_i a ha
      unfold mkIter at e
      split at e
      · simp at e
      · rename_i q hq
        have hu := (ti_spec hq).run_und w
        have hv := hρ _ _ ha
        split at e
        · rename_i s hund
          rw [hund] at hu
          simp only [Option.some.injEq, Prod.mk.injEq] at e
          obtain ⟨rfl, rfl⟩ := e
          generalize hcv : ρ' x = cv at hv
          cases hv with | str _ s' hs' =>
          refine ⟨.pointer (some ⟨w.heap.size, 0, none⟩), .stringIter s' 0, 0, ?_, ⟨hs', rfl, rfl⟩, fun g hs hg => .ptr _ _ _ _ _ hg⟩
          simp only [execOp, ho, hcv]
          apply run_v
          simp [Instr.range, hu, addW]
        · rename_i k el hund
          rw [hund] at hu
          simp only [Option.some.injEq, Prod.mk.injEq] at e
          obtain ⟨rfl, rfl⟩ := e
          generalize hcv : ρ' x = cv at hv
          cases hv
          refine ⟨.pointer (some ⟨w.heap.size, 0, none⟩),   .mapIter none 0 #[] 0, 0, ?_, ⟨rfl, rfl⟩, fun g hs hg => .ptr _ _ _ _ _ hg⟩
          simp only [execOp, ho, hcv]
          apply run_v
          simp [Instr.range, hu, addW]
        · simp at e
    · simp at e
  · simp at e

end
end Go.Xec
namespace Go.Xec

section
variable {f : Inj} {h : H} {w : World} {p : Program}

theorem get_put (h : H) (i : Nat) (blk : Blk) (b : Nat) : (h.put i blk).blk.get b = if i = b then some blk else h.blk.get b := by
  simp [H.put, Tr.get_set]

theorem HR.lt (hr : HR f h w) {b : Nat} {L : Nat × Nat × Nat} (e : f b = some L) : L.1 < w.heap.size := by
  obtain ⟨_, _, o', _, h2, _⟩ := hr.dom b L e
  exact (Array.getElem?_eq_some_iff.1 h2).1

/-- one block turned on both sides -/
theorem put_sound (hr : HR f h w) {b : Nat} {L : Nat × Nat × Nat} (hb : f b = some L) (ha : alive h b) {blk : Blk} {o : Obj} (hbr : BR f L blk o) (hnd : blk ≠ .dead)
    {w' : World} (hs : w'.heap.size = w.heap.size) (h1 : w'.heap[L.1]? = some o) (h2 : ∀ B, B ≠ L.1 → w'.heap[B]? = w.heap[B]?) (hst : w'.os = w.os ∧ w'.output = w.output) :
    HR f (h.put b blk) w' ∧ Ext f h w f (h.put b blk) w' := by
  have hal : ∀ x, alive (h.put b blk) x ↔ alive h x := by
    intro x
    unfold alive
    rw [get_put]
    by_cases hx : b = x
    · subst hx
      rw [if_pos rfl]
      exact ⟨fun _ => ha, fun _ e => hnd (Option.some.inj e)⟩
    · rw [if_neg hx]
  refine ⟨⟨?_, ?_, hr.glob⟩, ⟨Sub.refl f, ?_, ?_, ?_, ?_, ?_, ?_, hst⟩⟩
  · intro x M e
    obtain ⟨g1, blk', o', g2, g3, g4⟩ := hr.dom x M e
    refine ⟨g1, ?_⟩
    by_cases hx : b = x
    · subst hx
      rw [hb] at e
      simp only [Option.some.injEq] at e; subst e
      exact ⟨blk, o, by simp [get_put], h1, hbr⟩
    · refine ⟨blk', ?_⟩
      rw [get_put, if_neg hx]
      by_cases hB : M.1 = L.1
      · by_cases hd : blk' = .dead
        · subst hd
          exact ⟨o, g2, hB ▸ h1, trivial⟩
        · exact (hx (hr.inj b x L M hb e ha (by unfold alive; rw [g2]; exact fun hh => hd (Option.some.inj hh)) hB.symm)).elim
      · exact ⟨o', g2, by rw [h2 _ hB]; exact g3, g4⟩
  · intro x x' M M' e e' a a'
    exact hr.inj x x' M M' e e' ((hal x).1 a) ((hal x').1 a')
  · intro x hx e
    refine ⟨e, ?_⟩
    rw [get_put, if_neg]
    intro hh; subst hh; rw [hb] at e; cases e
  · exact Nat.le_refl _
  · rw [hs]; exact Nat.le_refl _
  · intro x hx e
    rw [get_put, if_neg]
    · exact e
    · intro hh; subst hh; exact ha e
  · intro x M e a
    exact .inr ⟨x, M, e, (hal x).1 a, rfl⟩
  · intro B hB hn
    exact h2 B fun hh => hn b L hb ha hh.symm

theorem flat_spec : ∀ {l : List AV} {vs : List Value}, VRs f l vs → flat l = true → ∀ v ∈ vs, v.oneCell' = true
  | _, _, .nil, _, v, hv => by simp at hv
  | _, _, .cons a u as us ha hs, hf, v, hv => by
    have h2 : u.oneCell' = true ∧ flat as = true := by
      cases ha <;> simp_all [flat, Value.oneCell']
    rcases List.mem_cons.1 hv with e | e
    · rw [e]; exact h2.1
    · exact flat_spec hs h2.2 v e

theorem VRs.get_putAt {cs : List AV} {c : Array Value} {sh o : Nat} (hc : ∀ (i : Nat) (x : AV), cs[i]? = some x → ∃ v, c[sh + i]? = some v ∧ VR f x v) {new : List AV} {vs : List Value} (hv : VRs f new vs) (hl : o + new.length ≤ cs.length) (hsz : sh + o + vs.length ≤ c.size) :
    ∀ (i : Nat) (x : AV), (Xec.putAt cs o new)[i]? = some x → ∃ v, ((c.toList.take (sh + o) ++ vs ++ c.toList.drop (sh + o + vs.length)).toArray)[sh + i]? = some v ∧ VR f x v := by
  intro i x hx
  rw [putAt_eq cs o new hl] at hx
  have hlen := hv.length
  have hto : (c.toList.take (sh + o)).length = sh + o := by simp; omega
  simp only [List.getElem?_toArray]
  by_cases h1 : i < o
  · rw [List.append_assoc, List.getElem?_append_left (by simp; omega), List.getElem?_take_of_lt h1] at hx
    obtain ⟨v, g1, g2⟩ := hc i x hx
    refine ⟨v, ?_, g2⟩
    rw [List.append_assoc, List.getElem?_append_left (by rw [hto]; omega), List.getElem?_take_of_lt (by omega)]
    simpa using g1
  · by_cases h2 : i < o + new.length
    · rw [List.getElem?_append_left (by simp; omega), List.getElem?_append_right (by simp; omega)] at hx
      have e1 : i - (cs.take o).length = i - o := by simp; omega
      rw [e1] at hx
      obtain ⟨v, g1, g2⟩ := hv.get _ _ hx
      refine ⟨v, ?_, g2⟩
      rw [List.getElem?_append_left (by rw [List.length_append, hto]; omega), List.getElem?_append_right (by rw [hto]; omega), hto]
      rw [← g1]; congr 1; omega
    · rw [List.getElem?_append_right (by simp; omega)] at hx
      have e1 : i - (cs.take o ++ new).length = i - (o + new.length) := by simp; omega
      rw [e1, List.getElem?_drop] at hx
      have e2 : o + new.length + (i - (o + new.length)) = i := by omega
      rw [e2] at hx
      obtain ⟨v, g1, g2⟩ := hc i x hx
      refine ⟨v, ?_, g2⟩
      rw [List.getElem?_append_right (by rw [List.length_append, hto]; omega), List.length_append, hto, List.getElem?_drop]
      have e3 : sh + o + vs.length + (sh + i - (sh + o + vs.length)) = sh + i := by omega
      rw [e3]
      simpa using g1

theorem storeN_sound (hr : HR f h w) {b B sh E : Nat} (hb : f b = some (B, sh, E)) {o : Nat} {new : List AV} {vs : List Value} (hv : VRs f new vs) (hf : flat new = true) {h' : H} (e : storeN h b o new = some h') :
    ∃ w', (storeCells ⟨B, sh + o, none⟩ vs).run p w = .ok () w' ∧ HR f h' w' ∧ Ext f h w f h' w' := by
  unfold storeN at e
  split at e
  · rename_i el cs op hk
    rw [bif_ble] at e
    split at e
    · rename_i hl
      simp only [Option.some.injEq] at e; subst e
      obtain ⟨c, fz, h1, _, h2, h3, h4, h5⟩ := hr.cells hb hk
      have hfz := h5 rfl
      subst hfz
      simp only at h2 h3 h4
      have hlen := hv.length
      by_cases hn : new.length = 0
      · have hnew : new = [] := List.length_eq_zero_iff.1 hn
        subst hnew
        cases hv
        refine ⟨w, rfl, ?_⟩
        have hput : Xec.putAt cs o [] = cs := by rw [putAt_eq cs o [] (by simpa using hl)]; simp
        rw [hput]
        exact put_sound hr hb (by unfold alive; rw [hk]; simp) (blk := .cells el cs op true) (o := .cells c el (0, 0)) ⟨rfl, h2, h3, h4, h5⟩ (by simp) rfl h1 (fun _ _ => rfl) ⟨rfl, rfl⟩
      have hfit : sh + o + vs.length ≤ c.size := by
        obtain ⟨v, g, _⟩ := h3 (o + new.length - 1) (cs[o + new.length - 1]'(by omega)) (List.getElem?_eq_getElem _)
        have := (Array.getElem?_eq_some_iff.1 g).1
        omega
      have hrun := run_storeCells_at p B (sh + o) el vs 0 c w h1 (by simpa using hfit) (flat_spec hv hf)
      simp only [Nat.add_zero] at hrun
      refine ⟨_, hrun, ?_⟩
      refine put_sound hr hb (by unfold alive; rw [hk]; simp) (o := .cells ((c.toList.take (sh + o) ++ vs ++ c.toList.drop (sh + o + vs.length)).toArray) el (0, 0)) ?_ (by simp) (by simp) (setRow_heap w B c _ el (0, 0) h1) (fun B' hB' => setRow_other w B B' _ hB') ⟨rfl, rfl⟩
      refine ⟨rfl, ?_, VRs.get_putAt h3 hv hl hfit, ?_, fun _ => rfl⟩
      · simp [← h2]; omega
      · intro hop
        obtain ⟨q1, q2⟩ := h4 hop
        refine ⟨q1, ?_⟩
        rw [putAt_length cs o new hl, ← q2]
        simp; omega
    · simp at e
  · simp at e

/-- what an operation that writes does -/
def HeavyOk (f : Inj) (h : H) (w : World) (p : Program) (v : AV) (h' : H) (s : Sem Next) : Prop :=
  ∃ nx v' w' f', s.run p w = .ok nx w' ∧ (nx = .value v' ∨ (nx = .skip ∧ v' = undef)) ∧ HR f' h' w' ∧ Ext f h w f' h' w' ∧ VR f' v v'

theorem undef_rel (f : Inj) : VR f undefA undef := .tup [] [] .nil

theorem storeO_sound (hr : HR f h w) {ρ : Operand → Option AV} {ρ' : Operand → Value} (hρ : OR f ρ ρ') (o : Oper) {t : Nat} {a x : Operand} (ho : o.op = .store t a x) {v : AV} {h' : H} (e : storeO p h t (ρ a) (ρ x) = some (v, h')) :
    HeavyOk f h w p v h' (execOp ρ' o) := by
  unfold storeO at e
  split at e
  · rename_i b off ha
    split at e
    · rename_i y hy
      unfold skipV at e
      split at e
      · rename_i h2 hs
        simp only [Option.some.injEq, Prod.mk.injEq] at e
        obtain ⟨rfl, rfl⟩ := e
        unfold storeA at hs
        split at hs
        · simp at hs
        · rename_i i hi
          rw [cond_eq_ite] at hs
          split at hs
          · rename_i hc
            simp only [Bool.and_eq_true, beq_iff] at hc
            have hva := hρ _ _ ha
            generalize hcv : ρ' a = cv at hva
            cases hva with | ptr _ _ B sh E hb =>
            have hvy := (hρ _ _ hy).cells
            obtain ⟨w', h1, h2, h3⟩ := storeN_sound (p := p) hr hb hvy hc.2 hs
            refine ⟨.skip, undef, w', f, ?_, .inr ⟨rfl, rfl⟩, h2, h3, undef_rel f⟩
            have hsz : (ρ' x).cells.size = i.size := by rw [← hc.1, hvy.length]; simp
            simp only [execOp, ho, hcv, Instr.storeAt, Instr.sureAddr, storeVar, Sem.run_bind, Sem.run_pure, Result.andThen_ok, (ti_spec hi).run_size, hsz, ne_eq, not_true_eq_false, if_false, h1]
          · simp at hs
      · simp at e
    · simp at e
  · simp at e

theorem HR.drawn (hr : HR f h w) (d : Nat) : HR f h { w with drawn := d } := ⟨hr.1, hr.2, hr.3⟩
theorem Ext.drawn {f' : Inj} {h' : H} {w' : World} {d : Nat} (e : Ext f h { w with drawn := d } f' h' w') : Ext f h w f' h' w' := ⟨e.1, e.2, e.3, e.4, e.5, e.6, e.7, e.8⟩

/-- the cells that are appended or copied -/
theorem srcCells_sound (hr : HR f h w) {size : Nat} {x : AV} {x' : Value} (hx : VR f x x') {n : Nat} {new : List AV} (e : srcCells h size x = some (n, new)) :
    (Builtin.lenOf x').run p w = .ok n w ∧ ∃ vs, VRs f new vs ∧ ∀ d, (Builtin.firstCells size n x').run p { w with drawn := d } = .ok vs.toArray { w with drawn := d } := by
  unfold srcCells at e
  split at e
  · simp only [Option.some.injEq, Prod.mk.injEq] at e
    obtain ⟨rfl, rfl⟩ := e
    cases hx
    exact ⟨rfl, [], .nil, fun d => rfl⟩
  · rename_i b o n' cap op
    split at e
    · rename_i l hl
      simp only [Option.some.injEq, Prod.mk.injEq] at e
      obtain ⟨rfl, rfl⟩ := e
      obtain ⟨B, sh, E, X, c, hb, rfl, hX, _⟩ := sl_addr hx
      refine ⟨rfl, ?_⟩
      unfold loadN at hl
      split at hl
      · rename_i el cs opn cl hk
        by_cases hn : n' * size = 0
        · rw [hn] at hl
          obtain ⟨_, h2, _⟩ := cut_spec hl
          have : l = [] := List.length_eq_zero_iff.1 h2
          subst this
          exact ⟨[], .nil, fun d => by simp only [Builtin.firstCells, hn]; rfl⟩
        · have hX' := hX (fun hh => hn (by rw [hh]; simp))
          subst hX'
          obtain ⟨vs, h1, h2⟩ := run_loadCells (p := p) hr hb hk hl
          refine ⟨vs, h2, fun d => ?_⟩
          obtain ⟨vs', h1', h2'⟩ := run_loadCells (p := p) (hr.drawn d) hb hk hl
          have hd : ∀ (B o : Nat) (n i : Nat) (acc : Array Value) (r : Array Value), (loadCellsFrom ⟨B, o, none⟩ i n acc).run p w = .ok r w → (loadCellsFrom ⟨B, o, none⟩ i n acc).run p { w with drawn := d } = .ok r { w with drawn := d } := by
            intro B o n
            induction n with
            | zero => intro i acc r hh; simp [loadCellsFrom] at hh ⊢; exact hh
            | succ n ih =>
              intro i acc r hh
              simp only [loadCellsFrom, Addr.add_none, Sem.run_bind, run_load] at hh ⊢
              have hcell : ({ w with drawn := d } : World).cell? ⟨B, o + i, none⟩ = w.cell? ⟨B, o + i, none⟩ := rfl
              rw [hcell]
              cases hc : w.cell? ⟨B, o + i, none⟩ with
              | some v =>
                rw [hc] at hh
                simp only [Result.andThen_ok] at hh ⊢
                exact ih _ _ _ hh
              | none =>
                rw [hc] at hh
                have hfar : ({ w with drawn := d } : World).farLoad p ⟨B, o + i, none⟩ (Mode.plain == .atomic) = w.farLoad p ⟨B, o + i, none⟩ (Mode.plain == .atomic) := rfl
                rw [hfar]
                cases hq : w.farLoad p ⟨B, o + i, none⟩ (Mode.plain == .atomic) with
                | error q => rw [hq] at hh; simp at hh
                | ok q =>
                  rw [hq] at hh
                  simp only [Result.andThen_ok] at hh ⊢
                  exact ih _ _ _ hh
          exact hd B (sh + o) (n' * size) 0 #[] _ h1
      · simp at hl
    · simp at e
  · rename_i s
    simp only [Option.some.injEq, Prod.mk.injEq] at e
    obtain ⟨rfl, rfl⟩ := e
    cases hx with | str _ s' hs =>
    have hl : s'.size = s.length := by rw [← hs]; rfl
    refine ⟨by simp [Builtin.lenOf, hl], s.map fun b => .int .u8 (.ofNat b.toNat), ?_, fun d => ?_⟩
    · clear hs hl
      induction s with
      | nil => exact .nil
      | cons b s ih => exact .cons _ _ _ _ (.int _ _) ih
    · simp only [Builtin.firstCells, Sem.run_pure, Result.ok.injEq, and_true]
      apply Array.toList_inj.1
      have : (s'.extract 0 s.length).data.toList = s := by
        have h2 : (s'.extract 0 s.length).data = s'.data.extract 0 s.length := ByteArray.data_extract
        rw [h2, Array.toList_extract, hs]
        simp
      rw [Array.toList_map, this]
      rfl
  · simp at e

theorem growBy_le (newLen : Nat) : ∀ (r c : Nat), Builtin.growBy newLen r c ≤ max c (2 * newLen + 1000)
  | 0, c => by simp [Builtin.growBy]; omega
  | r + 1, c => by
    unfold Builtin.growBy
    split
    · omega
    · have := growBy_le newLen r (c + (c + 768) / 4)
      omega

theorem nextcap_le {need cap : Nat} (hc : cap < need) : Builtin.nextslicecap need cap ≤ 2 * need + 1000 := by
  unfold Builtin.nextslicecap
  split
  · omega
  · split
    · omega
    · have := growBy_le need 4 cap
      omega

theorem zeroCells_rel {zs : List AV} {z : Array Value} (hz : VRs f zs z.toList) (n : Nat) : VRs f (rep n zs) (Builtin.zeroCells z n).toList := VRs.rep hz n

end
end Go.Xec
namespace Go.Xec

section
variable {f : Inj} {h : H} {w : World} {p : Program}

/-- a new row, behind the draw of its capacity -/
theorem freshRow_sound (hr : HR f h w) {el : Nat} {i : TI} {need : Nat} {old new : List AV} {vo vn : List Value} (ho : VRs f old vo) (hn : VRs f new vn) {r : AV} {h' : H} (e : freshRow h el i need old new = some (r, h')) (c d : Nat) (hc : need ≤ c) {z : Array Value} (hz : VRs f i.zero.cells z.toList) :
    ∃ f', HR f' h' (addW w (.cells (vo.toArray ++ vn.toArray ++ Builtin.zeroCells z (c - need)) el (0, 0)) d) ∧ Ext f h w f' h' (addW w (.cells (vo.toArray ++ vn.toArray ++ Builtin.zeroCells z (c - need)) el (0, 0)) d) ∧
      VR f' r (.slice (some ⟨w.heap.size, 0, none⟩) need c) ∧ need ≤ 1000000 ∧ i.bytes ≤ 100000 := by
  unfold freshRow at e
  rw [cond_eq_ite] at e
  split at e
  · rename_i hcond
    simp only [Bool.and_eq_true, beq_iff, Nat.ble_eq, Bool.not_eq_true'] at hcond
    obtain ⟨⟨⟨⟨⟨⟨g1, g2⟩, g3⟩, g4⟩, g5⟩, g6⟩, g7⟩ := hcond
    simp only [Option.some.injEq, Prod.mk.injEq] at e
    obtain ⟨rfl, rfl⟩ := e
    have hzs : z.size = i.size := by rw [← g3, hz.length]; simp
    have hne : ¬ i.size = 0 := fun hh => by rw [hh] at g4; simp at g4
    have hsize : (vo.toArray ++ vn.toArray ++ Builtin.zeroCells z (c - need)).size = c * i.size := by
      simp only [Array.size_append, List.size_toArray, Builtin.zeroCells, Array.size_map, Array.size_range, hzs]
      rw [← ho.length, ← hn.length, g7, ← Nat.add_mul]
      congr 1; omega
    have hbr : BR f (w.heap.size, 0, c * i.size) (.cells el (old ++ new) true true) (.cells (vo.toArray ++ vn.toArray ++ Builtin.zeroCells z (c - need)) el (0, 0)) := by
      refine ⟨rfl, hsize, fun j x hx => ?_, fun hh => by simp at hh, fun _ => rfl⟩
      obtain ⟨y, hy, hrel⟩ := (ho.append hn).get j x hx
      refine ⟨y, ?_, hrel⟩
      have hj : j < (vo ++ vn).length := (List.getElem?_eq_some_iff.1 hy).1
      rw [Nat.zero_add, Array.getElem?_append_left (by simpa using hj)]
      simpa using hy
    obtain ⟨h1, h2⟩ := add_sound (d := d) hr hbr
    refine ⟨_, h1, h2, ?_, g1, g2⟩
    exact .sl _ _ _ _ _ w.heap.size 0 (c * i.size) 0 c (by simp [ins]) (Nat.le_refl _) hc (fun hh => (hne hh).elim) (.inr ⟨rfl, .inr (by simp)⟩)
  · simp at e

/-- a row that grows within its array, whose capacity is not known: the old block is given up -/
theorem grow_sound (hr : HR f h w) {b B sh E o len : Nat} (hb : f b = some (B, sh, E)) {el : Nat} {i : TI} {need : Nat} {old new : List AV} {vn : List Value} (hn : VRs f new vn) (hold : loadN h b o (len * i.size) = some old) (hcl : cleanEl h b el = true)
    {r : AV} {h' : H} (e : freshRow (h.put b .dead) el i need old new = some (r, h')) {c : Nat} (hE : sh + o + c * i.size = E) (hc : need ≤ c) :
    ∃ w' f', (storeCells ⟨B, sh + o + len * i.size, none⟩ vn).run p w = .ok () w' ∧ HR f' h' w' ∧ Ext f h w f' h' w' ∧ VR f' r (.slice (some ⟨B, sh + o, none⟩) need c) := by
  unfold freshRow at e
  rw [cond_eq_ite] at e
  split at e
  · rename_i hcond
    simp only [Bool.and_eq_true, beq_iff, Nat.ble_eq, Bool.not_eq_true'] at hcond
    obtain ⟨⟨⟨⟨⟨⟨g1, g2⟩, g3⟩, g4⟩, g5⟩, g6⟩, g7⟩ := hcond
    simp only [Option.some.injEq, Prod.mk.injEq] at e
    obtain ⟨rfl, rfl⟩ := e
    have hne : ¬ i.size = 0 := fun hh => by rw [hh] at g4; simp at g4
    obtain ⟨cs, opn, hk⟩ : ∃ cs opn, h.blk.get b = some (.cells el cs opn true) := by
      unfold cleanEl at hcl
      split at hcl
      · rename_i el' cs opn cl hk
        simp only [Bool.and_eq_true, beq_iff] at hcl
        obtain ⟨rfl, rfl⟩ := hcl
        exact ⟨cs, opn, hk⟩
      · simp at hcl
    obtain ⟨c0, fz, h1, _, h2, h3, h4, h5⟩ := hr.cells hb hk
    have hfz := h5 rfl
    subst hfz
    simp only at h2 h3
    have hal : alive h b := by unfold alive; rw [hk]; simp
    have hcut : cut cs o (len * i.size) = some old := by simpa [loadN, hk] using hold
    obtain ⟨_, hol, hoc⟩ := cut_spec hcut
    have hnl := hn.length
    have hfit : sh + o + len * i.size + vn.length ≤ c0.size := by
      rw [h2, ← hE, ← hnl]
      have : need * i.size ≤ c * i.size := Nat.mul_le_mul_right _ hc
      omega
    have hrun := run_storeCells_at p B (sh + o + len * i.size) el vn 0 c0 w h1 (by simpa using hfit) (flat_spec hn g6)
    simp only [Nat.add_zero] at hrun
    have hfn := hr.fresh (Nat.le_refl h.next)
    have hs := sub_ins (L := (B, sh + o, E)) hfn
    have hblt : b < h.next := (hr.dom b _ hb).1
    have hget : ∀ x, ((h.put b .dead).add (.cells el (old ++ new) true true)).blk.get x = if h.next = x then some (.cells el (old ++ new) true true) else if b = x then some .dead else h.blk.get x := by
      intro x
      rw [get_add, get_put]
      rfl
    have hbr : BR f (B, sh + o, E) (.cells el (old ++ new) true true) (.cells ((c0.toList.take (sh + o + len * i.size) ++ vn ++ c0.toList.drop (sh + o + len * i.size + vn.length)).toArray) el (0, 0)) := by
      refine ⟨rfl, ?_, fun j x hx => ?_, fun hh => by simp at hh, fun _ => rfl⟩
      · simp [← h2]; omega
      · have hto : (c0.toList.take (sh + o + len * i.size)).length = sh + o + len * i.size := by simp; omega
        simp only [List.getElem?_toArray]
        by_cases hj : j < old.length
        · rw [List.getElem?_append_left hj] at hx
          have hj' : j < len * i.size := by omega
          rw [← hoc j hj'] at hx
          obtain ⟨v, q1, q2⟩ := h3 _ _ hx
          refine ⟨v, ?_, q2⟩
          rw [List.append_assoc, List.getElem?_append_left (by rw [hto]; omega), List.getElem?_take_of_lt (by omega)]
          rw [← Nat.add_assoc] at q1
          simpa using q1
        · rw [List.getElem?_append_right (by omega)] at hx
          obtain ⟨v, q1, q2⟩ := hn.get _ _ hx
          have hjl : j - old.length < vn.length := (List.getElem?_eq_some_iff.1 q1).1
          refine ⟨v, ?_, q2⟩
          rw [List.getElem?_append_left (by rw [List.length_append, hto]; omega), List.getElem?_append_right (by rw [hto]; omega), hto, ← q1]
          congr 1; omega
    refine ⟨_, ins f h.next (B, sh + o, E), hrun, ⟨?_, ?_, fun g hg => let ⟨E, e⟩ := hr.glob g hg; ⟨E, hs _ _ e⟩⟩, ⟨hs, ?_, ?_, ?_, ?_, ?_, ?_, rfl, rfl⟩, ?_⟩
    · intro x L e
      unfold ins at e
      split at e
      · rename_i hx
        simp only [Option.some.injEq] at e; subst e
        subst hx
        refine ⟨by simp [H.add, H.put], _, _, by rw [hget, if_pos rfl], setRow_heap w B c0 _ el (0, 0) h1, hbr.mono hs⟩
      · rename_i hx
        obtain ⟨q1, blk', o', q2, q3, q4⟩ := hr.dom x L e
        refine ⟨by simp [H.add, H.put]; omega, ?_⟩
        rw [hget, if_neg (fun hh => hx hh.symm)]
        by_cases hxb : b = x
        · rw [if_pos hxb]
          subst hxb
          rw [hb] at e
          simp only [Option.some.injEq] at e; subst e
          exact ⟨.dead, _, rfl, setRow_heap w B c0 _ el (0, 0) h1, trivial⟩
        · rw [if_neg hxb]
          by_cases hB : L.1 = B
          · by_cases hd : blk' = .dead
            · subst hd
              exact ⟨.dead, _, q2, by rw [hB]; exact setRow_heap w B c0 _ el (0, 0) h1, trivial⟩
            · exact (hxb (hr.inj b x (B, sh, E) L hb e hal (by unfold alive; rw [q2]; exact fun hh => hd (Option.some.inj hh)) hB.symm)).elim
          · exact ⟨blk', o', q2, by rw [setRow_other w B L.1 _ hB]; exact q3, q4.mono hs⟩
    · have aux : ∀ x L, f x = some L → alive ((h.put b .dead).add (.cells el (old ++ new) true true)) x → x ≠ h.next → L.1 ≠ B ∧ alive h x := by
        intro x L e a hx
        unfold alive at a
        rw [hget, if_neg (fun hh => hx hh.symm)] at a
        by_cases hxb : b = x
        · rw [if_pos hxb] at a; exact (a rfl).elim
        · rw [if_neg hxb] at a
          exact ⟨fun hB => hxb (hr.inj b x (B, sh, E) L hb e hal a hB.symm), a⟩
      intro x x' L L' e e' a a' hL
      unfold ins at e e'
      split at e
      · rename_i hx
        simp only [Option.some.injEq] at e; subst e
        split at e'
        · rename_i hx'; rw [hx, hx']
        · rename_i hx'
          exact ((aux x' L' e' a' hx').1 hL.symm).elim
      · rename_i hx
        split at e'
        · simp only [Option.some.injEq] at e'; subst e'
          exact ((aux x L e a hx).1 hL).elim
        · rename_i hx'
          exact hr.inj x x' L L' e e' (aux x L e a hx).2 (aux x' L' e' a' hx').2 hL
    · intro x hx e
      refine ⟨by unfold ins; rw [if_neg (by omega)]; exact e, ?_⟩
      rw [hget, if_neg (by omega), if_neg]
      intro hh; subst hh; rw [hb] at e; cases e
    · simp [H.add, H.put]
    · simp
    · intro x hx e
      rw [hget, if_neg (by omega)]
      split
      · rfl
      · exact e
    · intro x L e a
      unfold ins at e
      split at e
      · simp only [Option.some.injEq] at e; subst e
        exact .inr ⟨b, _, hb, hal, rfl⟩
      · rename_i hx
        unfold alive at a
        rw [hget, if_neg (fun hh => hx hh.symm)] at a
        by_cases hxb : b = x
        · rw [if_pos hxb] at a; exact (a rfl).elim
        · rw [if_neg hxb] at a
          exact .inr ⟨x, L, e, a, rfl⟩
    · intro B' hB' hn'
      exact setRow_other w B B' _ fun hh => hn' b _ hb hal hh.symm
    · refine .sl _ _ _ _ _ _ (sh + o) E _ _ (by simp [ins, H.put]) (Nat.le_refl _) hc (fun hh => (hne hh).elim) (.inr ⟨rfl, .inr hE⟩)
  · simp at e

/-- a block given up -/
theorem kill_sound (hr : HR f h w) {b : Nat} {L : Nat × Nat × Nat} (hb : f b = some L) : HR f (h.put b .dead) w ∧ Ext f h w f (h.put b .dead) w := by
  have hal : ∀ x, alive (h.put b .dead) x → alive h x ∧ b ≠ x := by
    intro x a
    unfold alive at a
    rw [get_put] at a
    by_cases hx : b = x
    · rw [if_pos hx] at a; exact (a rfl).elim
    · rw [if_neg hx] at a; exact ⟨a, hx⟩
  refine ⟨⟨?_, ?_, hr.glob⟩, ⟨Sub.refl f, ?_, Nat.le_refl _, Nat.le_refl _, ?_, ?_, ?_, rfl, rfl⟩⟩
  · intro x M e
    obtain ⟨g1, blk', o', g2, g3, g4⟩ := hr.dom x M e
    refine ⟨g1, ?_⟩
    rw [get_put]
    by_cases hx : b = x
    · rw [if_pos hx]; exact ⟨.dead, o', rfl, g3, trivial⟩
    · rw [if_neg hx]; exact ⟨blk', o', g2, g3, g4⟩
  · intro x x' M M' e e' a a'
    exact hr.inj x x' M M' e e' (hal x a).1 (hal x' a').1
  · intro x hx e
    refine ⟨e, ?_⟩
    rw [get_put, if_neg]
    intro hh; subst hh; rw [hb] at e; cases e
  · intro x hx e
    rw [get_put]
    split
    · rfl
    · exact e
  · intro x M e a
    exact .inr ⟨x, M, e, (hal x a).1, rfl⟩
  · intro B hB hn; rfl

/-- how many elements are appended, and their cells: a row or a text; or so many noughts -/
inductive Src (p : Program) (w : World) (ts : Array TypeId) (el : TypeId) (i : TI) (x' : Value) (n : Nat) (vn : List Value) : Prop
  | row (xt : TypeId) (h1 : ts[1]? = some xt) (hx : (∃ e, p.underlying xt = some (.slice e)) ∨ p.underlying xt = some .string) (h2 : (Builtin.lenOf x').run p w = .ok n w)
      (h3 : ∀ d, (Builtin.firstCells i.size n x').run p { w with drawn := d } = .ok vn.toArray { w with drawn := d })
  | zeros (xt : TypeId) (h1 : ts[1]? = some xt) (k : IntKind) (hx : p.underlying xt = some (.int k)) (k' : IntKind) (h2 : x' = .int k' (Int.ofNat n)) (h3 : n ≤ 100000) (h4 : i.bytes ≤ 100000) (z : Value)
      (h5 : ∀ d, (zeroValue el).run p { w with drawn := d } = .ok z { w with drawn := d }) (h6 : vn.toArray = Builtin.zeroCells z.cells n) (h7 : z.cells.size = i.size)

theorem wrap_small {n : Nat} (h : n ≤ 1000000) : IntKind.i64.wrap (Int.ofNat n) = Int.ofNat n := by
  rw [← wrapA_eq]; simp only [wrapA, res, unres, pow2, half, IntKind.signed, Bool.true_and, bif_ble]; rw [Nat.mod_eq_of_lt (by omega), if_neg (by omega)]

theorem zeroCells_nil {z : Array Value} {n : Nat} (h : n * z.size = 0) : Builtin.zeroCells z n = #[] := by simp [Builtin.zeroCells, h]

/-- the model's append, in room -/
theorem append_room {ts : Array TypeId} {t el : TypeId} {i : TI} (h0 : ts[0]? = some t) (hu : p.underlying t = some (.slice el)) (hi : TOk p el i)
    (ty : TypeId) {base : Option Addr} {sLen sCap : Nat} {x' : Value} {n : Nat} {vn : List Value} (hz : Src p w ts el i x' n vn)
    (hroom : sLen + n ≤ sCap) {w' : World} (hst : (match base with | some a => (storeCells (a.add (sLen * i.size)) vn).run p w = .ok () w' | none => w' = w)) :
    (Builtin.append_ ts ty #[.slice base sLen sCap, x']).run p w = .ok (.slice base (sLen + n) sCap) w' := by
  have hru := run_und (p := p) (w := w) hu
  have hsz := hi.run_size w
  obtain ⟨inf, hinf, _, hby, _⟩ := hi.run_info w
  have fin : ∀ (s : Sem (Array Value)), s.run p w = .ok vn.toArray w → ((do
      let new ← s
      match base with
      | some a => do
        storeCells (a.add (sLen * i.size)) new.toList
        pure (.slice base (sLen + n) sCap)
      | _ => pure (.slice base (sLen + n) sCap) : Sem Value)).run p w = .ok (.slice base (sLen + n) sCap) w' := by
    intro s hs
    simp only [Sem.run_bind, hs, Result.andThen_ok]
    cases base with
    | none => simp only at hst ⊢; rw [hst]; rfl
    | some a => simp only at hst ⊢; simp only [Sem.run_bind, hst, Result.andThen_ok, Sem.run_pure]
  cases hz with
  | row xt h1 hx h2 h3 =>
    have hf := h3 w.drawn
    rcases hx with ⟨e, hx⟩ | hx
    all_goals
      have hrx := run_und (p := p) (w := w) hx
      simp only [Builtin.append_, h0, h1, List.getElem?_toArray, List.getElem?_cons_zero, List.getElem?_cons_succ, Sem.run_bind, hru, hrx, Result.andThen_ok, hsz, Sem.run_pure, Bool.false_eq_true, if_false, h2, hroom, if_true, Bool.not_false]
      have := fin _ hf
      simp only [Sem.run_bind] at this
      exact this
  | zeros xt h1 k hx k' h2 h3 h4 z h5 h6 h7 =>
    subst h2
    have hrx := run_und (p := p) (w := w) hx
    have hw := wrap_small (n := n) (by omega)
    have t1 : ¬ (Int.ofNat n < 0) := by simp
    have hmul : inf.bytes * n ≤ 100000 * 100000 := Nat.mul_le_mul (by omega) h3
    have t2 : ¬ (Int.ofNat n * (inf.bytes : Int) > 2 ^ 48) := by
      have : (Int.ofNat n * (inf.bytes : Int)) = ((inf.bytes * n : Nat) : Int) := by simp [Int.mul_comm]
      rw [this]; omega
    have hto : (Int.ofNat n).toNat = n := rfl
    simp only [Builtin.append_, h0, h1, List.getElem?_toArray, List.getElem?_cons_zero, List.getElem?_cons_succ, Sem.run_bind, hru, hrx, Result.andThen_ok, hsz, Sem.run_pure, if_true, asInt, asIntOf, hw, t1, t2, if_false, hinf, hto, hroom, Bool.not_true, Bool.false_eq_true]
    have happ : (if n * i.size = 0 then (pure #[] : Sem (Array Value)) else do pure (Builtin.zeroCells (← zeroValue el).cells n)).run p w = .ok vn.toArray w := by
      split
      · rename_i hh
        rw [h6, zeroCells_nil (by rw [h7]; exact hh)]; rfl
      · have := h5 w.drawn
        simp only [Sem.run_bind, this, Result.andThen_ok, Sem.run_pure, h6]
    have := fin _ happ
    simp only [Sem.run_bind] at this
    exact this

/-- the model's append, into a new row -/
theorem append_fresh {ts : Array TypeId} {t el : TypeId} {i : TI} (h0 : ts[0]? = some t) (hu : p.underlying t = some (.slice el)) (hi : TOk p el i)
    (ty : TypeId) {base : Option Addr} {sLen sCap : Nat} {x' : Value} {n : Nat} {vn : List Value} (hz : Src p w ts el i x' n vn)
    (hroom : ¬ sLen + n ≤ sCap) (hl : sLen + n ≤ 1000000) (hby : i.bytes ≤ 100000) {vo : List Value} (hold : ∀ d, (Builtin.firstCells i.size sLen (.slice base sLen sCap)).run p { w with drawn := d } = .ok vo.toArray { w with drawn := d })
    {z0 : Value} (hz0 : ∀ d, (zeroValue el).run p { w with drawn := d } = .ok z0 { w with drawn := d }) :
    ∃ c, sLen + n ≤ c ∧ (Builtin.append_ ts ty #[.slice base sLen sCap, x']).run p w = .ok (.slice (some ⟨w.heap.size, 0, none⟩) (sLen + n) c) (addW w (.cells (vo.toArray ++ vn.toArray ++ Builtin.zeroCells z0.cells (c - (sLen + n))) el (0, 0)) (w.drawn + 1)) := by
  have hru := run_und (p := p) (w := w) hu
  have hsz := hi.run_size w
  obtain ⟨inf, hinf, _, hbi, hinfo⟩ := hi.run_info w
  have hinf' : ∀ w', (typeInfo el).run p w' = .ok inf w' := fun w' => by simp [typeInfo, hinfo]
  have hi64 : IntKind.i64.max = 9223372036854775807 := by decide
  have t3 : ¬ ((((sLen + n : Nat) : Int)) > IntKind.i64.max) := by rw [hi64]; omega
  have hcap : Builtin.nextslicecap (sLen + n) sCap * inf.bytes ≤ 2 ^ 48 := by
    have h1 := nextcap_le (need := sLen + n) (cap := sCap) (by omega)
    have h2 : Builtin.nextslicecap (sLen + n) sCap * inf.bytes ≤ 2001000 * 100000 := Nat.mul_le_mul (by omega) (by omega)
    omega
  have t4 : ¬ (Builtin.nextslicecap (sLen + n) sCap * inf.bytes > 2 ^ 48) := by omega
  refine ⟨(Question.appendCap (sLen + n) sCap el).cut (w.tape w.drawn (.appendCap (sLen + n) sCap el)), by simp [Question.cut], ?_⟩
  have hch : (choose (.appendCap (sLen + n) sCap el)).run p w = .ok ((Question.appendCap (sLen + n) sCap el).cut (w.tape w.drawn (.appendCap (sLen + n) sCap el))) { w with drawn := w.drawn + 1 } := by
    simp [Question.forced]
  generalize (Question.appendCap (sLen + n) sCap el).cut (w.tape w.drawn (.appendCap (sLen + n) sCap el)) = c at hch ⊢
  have hold' := hold (w.drawn + 1)
  have hz0' := hz0 (w.drawn + 1)
  cases hz with
  | row xt h1 hx h2 h3 =>
    have hf := h3 (w.drawn + 1)
    rcases hx with ⟨e, hx⟩ | hx
    all_goals
      have hrx := run_und (p := p) (w := w) hx
      simp only [Builtin.append_, h0, h1, List.getElem?_toArray, List.getElem?_cons_zero, List.getElem?_cons_succ, Sem.run_bind, hru, hrx, Result.andThen_ok, hsz, Sem.run_pure, Bool.false_eq_true, if_false, h2, hroom, Bool.not_false, if_true, hinf', t3, false_and, t4, hch, run_askRoom, hold', hf, hz0', newRow, run_newObj]
      rfl
  | zeros xt h1 k hx k' h2 h3 h4 z h5 h6 h7 =>
    subst h2
    have hrx := run_und (p := p) (w := w) hx
    have hw := wrap_small (n := n) (by omega)
    have t1 : ¬ (Int.ofNat n < 0) := by simp
    have hmul : inf.bytes * n ≤ 100000 * 100000 := Nat.mul_le_mul (by omega) h3
    have t2 : ¬ (Int.ofNat n * (inf.bytes : Int) > 2 ^ 48) := by
      have : (Int.ofNat n * (inf.bytes : Int)) = ((inf.bytes * n : Nat) : Int) := by simp [Int.mul_comm]
      rw [this]; omega
    have hto : (Int.ofNat n).toNat = n := rfl
    have happ : (if n * i.size = 0 then (pure #[] : Sem (Array Value)) else do pure (Builtin.zeroCells (← zeroValue el).cells n)).run p { w with drawn := w.drawn + 1 } = .ok vn.toArray { w with drawn := w.drawn + 1 } := by
      split
      · rename_i hh
        rw [h6, zeroCells_nil (by rw [h7]; exact hh)]; rfl
      · have := h5 (w.drawn + 1)
        simp only [Sem.run_bind, this, Result.andThen_ok, Sem.run_pure, h6]
    simp only [Builtin.append_, h0, h1, List.getElem?_toArray, List.getElem?_cons_zero, List.getElem?_cons_succ, Sem.run_bind, hru, hrx, Result.andThen_ok, hsz, Sem.run_pure, if_true, asInt, asIntOf, hw, t1, t2, if_false, hinf', hto, hroom, Bool.not_true, Bool.false_eq_true, t3, false_and, t4, hch, run_askRoom, hold']
    rw [happ]
    simp only [Result.andThen_ok, hz0', newRow, Sem.run_bind, run_newObj, Sem.run_pure]
    rfl

theorem srcRow_sound (hr : HR f h w) {ts : Array TypeId} {el : TypeId} {i : TI} {x : AV} {x' : Value} (hx : VR f x x') (ht : isRowT p ts[1]? = true) {n : Nat} {new : List AV} (e : srcCells h i.size x = some (n, new)) :
    ∃ vn, VRs f new vn ∧ Src p w ts el i x' n vn := by
  obtain ⟨h1, vs, h2, h3⟩ := srcCells_sound (p := p) hr hx e
  refine ⟨vs, h2, ?_⟩
  unfold isRowT at ht
  split at ht
  · simp at ht
  · rename_i xt hxt
    split at ht
    · rename_i q hq
      have hu := (ti_spec hq).und
      split at ht
      · rename_i e' hund; exact .row xt hxt (.inl ⟨e', by rw [hu, hund]⟩) h1 h3
      · rename_i hund; exact .row xt hxt (.inr (by rw [hu, hund])) h1 h3
      · simp at ht
    · simp at ht

theorem srcZeros_sound {ts : Array TypeId} {el : TypeId} {i : TI} (hi : TOk p el i) {x : AV} {x' : Value} (hx : VR f x x') (ht : isIntT p ts[1]? = true) {n : Nat} {new : List AV} (e : zerosOf i x = some (n, new)) :
    ∃ vn, VRs f new vn ∧ Src p w ts el i x' n vn := by
  unfold zerosOf at e
  split at e
  · rename_i k n'
    cases hx
    rw [cond_eq_ite] at e
    split at e
    · rename_i hc
      simp only [Bool.and_eq_true, Nat.ble_eq, beq_iff] at hc
      obtain ⟨hc, hz⟩ := hc
      simp only [Option.some.injEq, Prod.mk.injEq] at e
      obtain ⟨rfl, rfl⟩ := e
      obtain ⟨q, hq, _, _, _, z, hz1, hz2⟩ := hi.info
      have hrz : ∀ w', (zeroValue el).run p w' = .ok z w' := fun w' => by simp [zeroValue, typeInfo, hq, hz1]
      have hzc := (hz2 f).cells
      have hzs : z.cells.size = i.size := by rw [← hz, hzc.length]; simp
      refine ⟨(Builtin.zeroCells z.cells n').toList, zeroCells_rel hzc n', ?_⟩
      unfold isIntT at ht
      split at ht
      · simp at ht
      · rename_i xt hxt
        split at ht
        · rename_i q2 hq2
          have hu := (ti_spec hq2).und
          split at ht
          · rename_i k2 hund
            exact .zeros xt hxt k2 (by rw [hu, hund]) k rfl hc.1 hc.2 z (fun d => hrz _) (by simp) hzs
          · simp at ht
        · simp at ht
    · simp at e
  · simp at e

theorem firstCells_sl (hr : HR f h w) {b B sh E o X len c size : Nat} (hb : f b = some (B, sh, E)) (hX : len ≠ 0 → X = sh + o) {old : List AV} (e : loadN h b o (len * size) = some old) :
    ∃ vo, VRs f old vo ∧ ∀ d, (Builtin.firstCells size len (.slice (some ⟨B, X, none⟩) len c)).run p { w with drawn := d } = .ok vo.toArray { w with drawn := d } := by
  have hx : VR f (.sl b o len len 0) (.slice (some ⟨B, sh + o, none⟩) len len) := .sl _ _ _ _ _ _ _ _ _ _ hb (Nat.le_refl _) (Nat.le_refl _) (fun _ => rfl) (.inr ⟨rfl, .inl rfl⟩)
  have he : srcCells h size (.sl b o len len 0) = some (len, old) := by simp [srcCells, e]
  obtain ⟨_, vs, h2, h3⟩ := srcCells_sound (p := p) hr hx he
  refine ⟨vs, h2, fun d => ?_⟩
  by_cases hl : len = 0
  · subst hl
    have := h3 d
    simp only [Builtin.firstCells, Nat.zero_mul] at this ⊢
    exact this
  · rw [hX hl]; exact h3 d

theorem appendA_sound (hr : HR f h w) {ts : Array TypeId} {s x : AV} {s' x' : Value} (hs : VR f s s') (hx : VR f x x') {r : AV} {h' : H} (e : appendA p h ts s x = some (r, h')) (ty : TypeId) :
    ∃ v' w' f', (Builtin.append_ ts ty #[s', x']).run p w = .ok v' w' ∧ HR f' h' w' ∧ Ext f h w f' h' w' ∧ VR f' r v' := by
  unfold appendA at e
  split at e
  · simp at e
  · rename_i t h0
    split at e
    · simp at e
    · rename_i q hq
      have hu := (ti_spec hq).und
      split at e
      · rename_i el hund
        rw [hund] at hu
        split at e
        · simp at e
        · rename_i i hi
          have hti := ti_spec hi
          obtain ⟨zq, hzq, _, _, _, z, hz1, hz2⟩ := hti.info
          have hrz : ∀ w', (zeroValue el).run p w' = .ok z w' := fun w' => by simp [zeroValue, typeInfo, hzq, hz1]
          have hzc := (hz2 f).cells
          have main : ∀ n new vn, VRs f new vn → Src p w ts el i x' n vn → appendTo h el i s n new = some (r, h') → ∃ v' w' f', (Builtin.append_ ts ty #[s', x']).run p w = .ok v' w' ∧ HR f' h' w' ∧ Ext f h w f' h' w' ∧ VR f' r v' := by
            intro n new vn hn hsrc e2
            unfold appendTo at e2
            split at e2
            · cases hs
              rw [bif_beq] at e2
              split at e2
              · rename_i hn0
                subst hn0
                simp only [Option.some.injEq, Prod.mk.injEq] at e2
                obtain ⟨rfl, rfl⟩ := e2
                exact ⟨.slice none 0 0, w, f, append_room h0 hu hti ty hsrc (Nat.le_refl _) rfl, hr, Ext.refl _ _ _, .nils⟩
              · rename_i hn0
                have e' := e2
                unfold freshRow at e'
                rw [cond_eq_ite] at e'
                split at e'
                · rename_i hc
                  simp only [Bool.and_eq_true, beq_iff, Nat.ble_eq, Bool.not_eq_true'] at hc
                  obtain ⟨c, hc1, hc2⟩ := append_fresh (base := none) (sLen := 0) (sCap := 0) h0 hu hti ty hsrc (by omega) (by simpa using hc.1.1.1.1.1.1) hc.1.1.1.1.1.2 (vo := []) (fun d => rfl) (fun d => hrz _)
                  rw [Nat.zero_add] at hc1 hc2
                  obtain ⟨f', g1, g2, g3, _⟩ := freshRow_sound (vo := []) hr .nil hn e2 c (w.drawn + 1) hc1 hzc
                  exact ⟨_, _, f', hc2, g1, g2, g3⟩
                · simp at e'
            · rename_i b o len cap op
              obtain ⟨B, sh, E, X, c0, hb, rfl, hX, hl, hcc, hop0, hx2⟩ := sl_addr hs
              rw [bif_ble] at e2
              split at e2
              · rename_i hroom
                split at e2
                · rename_i h2 hf hst
                  simp only [Option.some.injEq, Prod.mk.injEq] at e2
                  obtain ⟨rfl, rfl⟩ := e2
                  have hres : VR f (.sl b o (len + n) cap op) (.slice (some ⟨B, X, none⟩) (len + n) c0) := .sl _ _ _ _ _ _ _ _ _ _ hb hroom hcc hop0 hx2
                  simp only [Bool.and_eq_true, beq_iff] at hf
                  obtain ⟨w', g1, g2, g3⟩ := storeN_sound (p := p) hr hb hn hf.1 hst
                  by_cases hc0 : c0 = 0
                  · have hn0 : n = 0 := by omega
                    have hnew : vn = [] := by
                      apply List.length_eq_zero_iff.1
                      rw [← hn.length, hf.2, hn0]; simp
                    subst hnew
                    have hw' : w = w' := by simp only [storeCells, Sem.run_pure, Result.ok.injEq, true_and] at g1; exact g1
                    subst hw'
                    exact ⟨_, w, f, append_room h0 hu hti ty hsrc (by omega) (w' := w) rfl, g2, g3, hres⟩
                  · obtain ⟨rfl, _⟩ := hx2.resolve_left hc0
                    refine ⟨_, w', f, append_room h0 hu hti ty hsrc (by omega) (w' := w') ?_, g2, g3, hres⟩
                    simp only [Addr.add_none, Nat.add_assoc]
                    exact g1
                · simp at e2
              · rename_i hroom
                split at e2
                · simp at e2
                · rename_i old hold
                  obtain ⟨vo, g1, g2⟩ := firstCells_sl (p := p) (c := c0) hr hb hX hold
                  split at e2
                  · have hce := hop0 rfl
                    subst hce
                    have e' := e2
                    unfold freshRow at e'
                    rw [cond_eq_ite] at e'
                    split at e'
                    · rename_i hc
                      simp only [Bool.and_eq_true, beq_iff, Nat.ble_eq, Bool.not_eq_true'] at hc
                      obtain ⟨c, hc1, hc2⟩ := append_fresh (sCap := c0) h0 hu hti ty hsrc hroom hc.1.1.1.1.1.1 hc.1.1.1.1.1.2 g2 (fun d => hrz _)
                      obtain ⟨f', k1, k2, k3, _⟩ := freshRow_sound hr g1 hn e2 c (w.drawn + 1) hc1 hzc
                      exact ⟨_, _, f', hc2, k1, k2, k3⟩
                    · simp at e'
                  · rename_i hop
                    rw [cond_eq_ite] at e2
                    split at e2
                    · rename_i hcond
                      simp only [Bool.and_eq_true, beq_iff] at hcond
                      obtain ⟨hos, hcl⟩ := hcond
                      by_cases hin : len + n ≤ c0
                      · obtain ⟨rfl, hE⟩ := hx2.resolve_left (by omega)
                        have hE' : sh + o + c0 * i.size = E := by rw [← hos]; exact hE.resolve_left hop
                        obtain ⟨w', f', k1, k2, k3, k4⟩ := grow_sound (p := p) hr hb hn hold hcl e2 hE' hin
                        refine ⟨_, w', f', append_room h0 hu hti ty hsrc hin (w' := w') ?_, k2, k3, k4⟩
                        simp only [Addr.add_none]
                        exact k1
                      · obtain ⟨hr2, hx2'⟩ := kill_sound hr hb
                        have e' := e2
                        unfold freshRow at e'
                        rw [cond_eq_ite] at e'
                        split at e'
                        · rename_i hc
                          simp only [Bool.and_eq_true, beq_iff, Nat.ble_eq, Bool.not_eq_true'] at hc
                          obtain ⟨c, hc1, hc2⟩ := append_fresh (sCap := c0) h0 hu hti ty hsrc hin hc.1.1.1.1.1.1 hc.1.1.1.1.1.2 g2 (fun d => hrz _)
                          obtain ⟨f', k1, k2, k3, _⟩ := freshRow_sound hr2 g1 hn e2 c (w.drawn + 1) hc1 hzc
                          exact ⟨_, _, f', hc2, k1, hx2'.trans k2, k3⟩
                        · simp at e'
                    · simp at e2
            · simp at e2
          split at e
          · rename_i hint
            split at e
            · rename_i n new hz
              obtain ⟨vn, k1, k2⟩ := srcZeros_sound (w := w) hti hx hint hz
              exact main n new vn k1 k2 e
            · simp at e
          · split at e
            · rename_i n new hrow hsrc
              obtain ⟨vn, k1, k2⟩ := srcRow_sound (p := p) (el := el) hr hx hrow hsrc
              exact main n new vn k1 k2 e
            · simp at e
      · simp at e

end
end Go.Xec
namespace Go.Xec

section
variable {f : Inj} {h : H} {w : World} {p : Program}

/-! maps -/
theorem plainKey_eq {k : AV} {u v : Value} (hk : plainKey k = true) (h1 : VR f k u) (h2 : VR f k v) : u = v := by
  cases k <;> simp [plainKey] at hk <;> cases h1 <;> cases h2
  · rfl
  · rfl
  · rename_i s h1 s' h2
    congr 1
    cases s; cases s'
    congr 1
    apply Array.toList_inj.1
    exact h1.trans h2.symm

theorem eq_plain {d kt : Nat} {x y : AV} {x' y' : Value} (hx : plainKey x = true) (e : eqA p h d kt x y = some true) (h1 : VR f x x') (h2 : VR f y y') : x' = y' := by
  cases d with
  | zero => simp [eqA] at e
  | succ d =>
    unfold eqA at e
    split at e
    · simp at e
    · split at e <;> simp [plainKey] at hx
      · cases h1; cases h2
        simp only [Option.some.injEq, beqB_eq, beq_iff_eq] at e
        rw [e]
      · rw [cond_eq_ite] at e
        split at e
        · rename_i hk
          cases h1; cases h2
          simp only [Option.some.injEq, beqI_eq, beq_iff_eq] at e
          rw [e, beqK_eq.1 hk]
        · simp at e
      · cases h1 with | str _ s hs =>
        cases h2 with | str _ s' hs' =>
        simp only [Option.some.injEq, beqS_eq, beq_iff_eq] at e
        subst e
        congr 1
        cases s; cases s'
        congr 1
        apply Array.toList_inj.1
        exact hs.trans hs'.symm
      · simp at e

theorem MR.setNth {k v : AV} {k' v' : Value} (hk : VR f k k') (hv : VR f v v') : ∀ {es : List (AV × AV × Nat)} {es' : List MapEntry}, MR f es es' → ∀ i : Nat, MR f (Xec.setNth es i fun e => (k, v, e.2.2)) (es'.modify i fun e => { e with key := k', val := v' })
  | _, _, .nil, i => by cases i <;> exact .nil
  | _, _, .cons a b n x es es' h1 h2 h3 h4, 0 => by
    simp only [Xec.setNth, List.modify_zero_cons]
    exact .cons _ _ _ _ _ _ hk hv h3 h4
  | _, _, .cons a b n x es es' h1 h2 h3 h4, i + 1 => by
    simp only [Xec.setNth, List.modify_succ_cons]
    exact .cons _ _ _ _ _ _ h1 h2 h3 (MR.setNth hk hv h4 i)

theorem MR.push {k v : AV} {k' v' : Value} {n : Nat} (hk : VR f k k') (hv : VR f v v') : ∀ {es : List (AV × AV × Nat)} {es' : List MapEntry}, MR f es es' → MR f (es ++ [(k, v, n)]) (es' ++ [{ key := k', val := v', born := n }])
  | _, _, .nil => .cons _ _ _ _ _ _ hk hv rfl .nil
  | _, _, .cons a b m x es es' h1 h2 h3 h4 => .cons _ _ _ _ _ _ h1 h2 h3 (MR.push hk hv h4)

theorem sameBits_plain {k : AV} {v : Value} (hk : plainKey k = true) (h1 : VR f k v) (n : Nat) : Instr.sameBits (n + 1) v v = true := by
  cases k <;> simp [plainKey] at hk <;> cases h1 <;> simp [Instr.sameBits, beqBA]

theorem setObj_sound (hr : HR f h w) {b : Nat} {L : Nat × Nat × Nat} (hb : f b = some L) {old : Obj} (ho : w.heap[L.1]? = some old) (hc : ∀ c t z, old ≠ .cells c t z) (ha : alive h b) {blk : Blk} {o : Obj} (hbr : BR f L blk o) (hnd : blk ≠ .dead) :
    ∃ w', (setObj L.1 o).run p w = .ok () w' ∧ HR f (h.put b blk) w' ∧ Ext f h w f (h.put b blk) w' := by
  refine ⟨{ w with heap := w.heap.setIfInBounds L.1 o }, ?_, ?_⟩
  · cases old <;> first
      | (exact (hc _ _ _ rfl).elim)
      | simp [setObj, Sem.run, ho]
  · have hlt := hr.lt hb
    refine put_sound hr hb ha hbr hnd (by simp) ?_ ?_ ⟨rfl, rfl⟩
    · simp [hlt]
    · intro B hB
      simp only [Array.getElem?_setIfInBounds]
      rw [if_neg (fun hh => hB hh.symm)]

theorem mapPutA_sound (hr : HR f h w) {t : Nat} {m k v : AV} {m' k' v' : Value} (hm : VR f m m') (hk : VR f k k') (hv : VR f v v') {h' : H} (e : mapPutA p h t m k v = some h') :
    ∃ w', (Instr.mapUpdate t m' k' v').run p w = .ok () w' ∧ HR f h' w' ∧ Ext f h w f h' w' := by
  unfold mapPutA at e
  split at e
  · rename_i r
    cases hm with | map _ B sh E hb =>
    split at e
    · simp at e
    · rename_i q hq
      have hu := (ti_spec hq).run_und w
      split at e
      · rename_i kt et hund
        rw [hund] at hu
        split at e
        · rename_i es clock hkk
          obtain ⟨_, blk, o, g1, g2, g3⟩ := hr.dom _ _ hb
          rw [hkk] at g1
          simp only [Option.some.injEq] at g1; subst g1
          cases o <;> simp only [BR] at g3
          rename_i es' clock'
          obtain ⟨rfl, hMR⟩ := g3
          have hal : alive h r := by unfold alive; rw [hkk]; simp
          split at e
          · rename_i i2 vv hko hf
            rw [cond_eq_ite] at e
            split at e
            · rename_i hpl
              simp only [Option.some.injEq] at e; subst e
              have hkey := keyOk_sound (p := p) (f := f) (w := w) false 10 10000 kt k (by omega) hko k' hk
              have hkt : ∃ d, p.underlying kt = some d := by
                unfold keyOk at hko
                split at hko
                · simp at hko
                · rename_i j hj; exact ⟨_, (ti_spec hj).und⟩
              obtain ⟨d, hd⟩ := hkt
              obtain ⟨r', h1, h2⟩ := findKey_sound (p := p) hr hd hk hMR hf
              cases r' with
              | none => exact h2.elim
              | some y =>
                obtain ⟨y1, y2⟩ := y
                obtain ⟨rfl, _, q1, q2, _, h5, h6, h7⟩ := h2
                have hkeq : k' = q2.key := eq_plain hpl h6 hk h7
                have hbr : BR f (B, sh, E) (.map (setNth es y1 fun e => (k, v, e.2.2)) clock') (.map (es'.modify y1 fun e => { e with key := k', val := v' }) clock') := by
                  refine ⟨rfl, ?_⟩
                  rw [Array.toList_modify]
                  exact MR.setNth hk hv hMR y1
                obtain ⟨w', g4, g5, g6⟩ := setObj_sound (p := p) hr hb g2 (fun _ _ _ hh => by cases hh) hal hbr (by simp)
                refine ⟨w', ?_, g5, g6⟩
                have hes : es'[y1]? = some q2 := by simpa using h5
                have hsb := sameBits_plain (n := 9999) hpl hk
                have hkts : (Instr.keyThatStays q2.key k').run p w = .ok k' w := by
                  rw [← hkeq]
                  simp only [Instr.keyThatStays, hsb, if_true, Sem.run_pure]
                simp only [Instr.mapUpdate, Sem.run_bind, hu, Result.andThen_ok, run_getObj_map g2, hkey, h1, hes, Option.map_some, Option.getD_some, hkts, g4]
            · simp at e
          · rename_i hko hf
            simp only [Option.some.injEq] at e; subst e
            have hkey := keyOk_sound (p := p) (f := f) (w := w) false 10 10000 kt k (by omega) hko k' hk
            have hkt : ∃ d, p.underlying kt = some d := by
              unfold keyOk at hko
              split at hko
              · simp at hko
              · rename_i j hj; exact ⟨_, (ti_spec hj).und⟩
            obtain ⟨d, hd⟩ := hkt
            obtain ⟨r', h1, h2⟩ := findKey_sound (p := p) hr hd hk hMR hf
            cases r' with
            | some y => exact h2.elim
            | none =>
              have hbr : BR f (B, sh, E) (.map (es ++ [(k, v, clock')]) (clock' + 1)) (.map (es'.push { key := k', val := v', born := clock' }) (clock' + 1)) := by
                refine ⟨rfl, ?_⟩
                rw [Array.toList_push]
                exact MR.push hk hv hMR
              obtain ⟨w', g4, g5, g6⟩ := setObj_sound (p := p) hr hb g2 (fun _ _ _ hh => by cases hh) hal hbr (by simp)
              refine ⟨w', ?_, g5, g6⟩
              simp only [Instr.mapUpdate, Sem.run_bind, hu, Result.andThen_ok, run_getObj_map g2, hkey, h1, g4]
          · simp at e
        · simp at e
      · simp at e
  · simp at e

theorem mapPutO_sound (hr : HR f h w) {ρ : Operand → Option AV} {ρ' : Operand → Value} (hρ : OR f ρ ρ') (o : Oper) {t : Nat} {m k x : Operand} (ho : o.op = .mapUpdate t m k x ∨ o.op = .insert t m k x) {v : AV} {h' : H} (e : mapPutO p h t (ρ m) (ρ k) (ρ x) = some (v, h')) :
    HeavyOk f h w p v h' (execOp ρ' o) := by
  unfold mapPutO at e
  split at e
  · rename_i m0 hm0
    split at e
    · rename_i k0 hk0
      split at e
      · rename_i x0 hx0
        unfold skipV at e
        split at e
        · rename_i h2 hs
          simp only [Option.some.injEq, Prod.mk.injEq] at e
          obtain ⟨rfl, rfl⟩ := e
          obtain ⟨w', g1, g2, g3⟩ := mapPutA_sound (p := p) hr (hρ _ _ hm0) (hρ _ _ hk0) (hρ _ _ hx0) hs
          refine ⟨.skip, undef, w', f, ?_, .inr ⟨rfl, rfl⟩, g2, g3, undef_rel f⟩
          rcases ho with ho | ho <;> simp only [execOp, ho, Sem.run_bind, g1, Result.andThen_ok, Sem.run_pure]
        · simp at e
      · simp at e
    · simp at e
  · simp at e

/-! iterators -/
theorem nextA_sound (hr : HR f h w) {it : AV} {it' : Value} (hi : VR f it it') {isS : Bool} {v : AV} {h' : H} (e : nextA h it isS = some (v, h')) (ty : TypeId) :
    ∃ v' w', (Instr.next it' isS ty).run p w = .ok v' w' ∧ HR f h' w' ∧ Ext f h w f h' w' ∧ VR f v v' := by
  unfold nextA at e
  split at e
  · rename_i r
    cases hi with | ptr _ _ B sh E hb =>
    obtain ⟨_, blk, o, g1, g2, g3⟩ := hr.dom _ _ hb
    split at e
    · rename_i s pos hk
      rw [hk] at g1
      simp only [Option.some.injEq] at g1; subst g1
      cases o <;> simp only [BR] at g3
      rename_i s' pos'
      obtain ⟨hs, rfl, rfl⟩ := g3
      have hs2 : s' = ⟨s.toArray⟩ := by
        cases s'; congr 1
        apply Array.toList_inj.1
        exact hs
      have hl : s'.size = s.length := by rw [← hs]; rfl
      have hget : (getObj B).run p w = .ok (.stringIter s' pos') w := by simp [getObj, Sem.run, g2]
      have hal : alive h r := by unfold alive; rw [hk]; simp
      split at e
      · rw [bif_blt] at e
        split at e
        · rename_i hlt
          simp only [Option.some.injEq, Prod.mk.injEq] at e
          obtain ⟨rfl, rfl⟩ := e
          have hbr : BR f (B, 0, E) (.siter s (pos' + (Utf8.decode ⟨s.toArray⟩ pos').2)) (.stringIter s' (pos' + (Utf8.decode ⟨s.toArray⟩ pos').2)) := ⟨hs, rfl, rfl⟩
          obtain ⟨w', q1, q2, q3⟩ := setObj_sound (p := p) hr hb g2 (fun _ _ _ hh => by cases hh) hal hbr (by simp)
          refine ⟨.tuple #[.bool true, goInt pos', .int .i32 (Utf8.decode ⟨s.toArray⟩ pos').1], w', ?_, q2, q3, .tup _ [.bool true, goInt pos', .int .i32 (Utf8.decode ⟨s.toArray⟩ pos').1] (.cons _ _ _ _ (.bool _) (.cons _ _ _ _ (.int _ _) (.one (.int _ _))))⟩
          have hlt' : pos' < s'.size := by rw [hl]; exact hlt
          simp only [Instr.next, Nat.add_zero, Sem.run_bind, hget, Result.andThen_ok, hlt', if_true]
          rw [hs2]
          rw [hs2] at q1
          simp only [q1, Result.andThen_ok, Sem.run_pure]
        · rename_i hge
          simp only [Option.some.injEq, Prod.mk.injEq] at e
          obtain ⟨rfl, rfl⟩ := e
          refine ⟨.tuple #[.bool false], w, ?_, hr, Ext.refl _ _ _, .tup _ [.bool false] (.one (.bool _))⟩
          have hge' : ¬ pos' < s'.size := by rw [hl]; exact hge
          simp only [Instr.next, Nat.add_zero, Sem.run_bind, hget, Result.andThen_ok, hge', if_false, Sem.run_pure]
      · simp at e
    · rename_i hk
      rw [hk] at g1
      simp only [Option.some.injEq] at g1; subst g1
      cases o <;> simp only [BR] at g3
      rename_i m since seen stepped
      obtain ⟨rfl, rfl⟩ := g3
      have hget : (getObj B).run p w = .ok (.mapIter none since seen stepped) w := by simp [getObj, Sem.run, g2]
      split at e
      · simp only [Option.some.injEq, Prod.mk.injEq] at e
        obtain ⟨rfl, rfl⟩ := e
        refine ⟨.tuple #[.bool false], w, ?_, hr, Ext.refl _ _ _, .tup _ [.bool false] (.one (.bool _))⟩
        simp only [Instr.next, Nat.add_zero, Sem.run_bind, hget, Result.andThen_ok, Sem.run_pure]
      · simp at e
    · simp at e
  · simp at e

/-! texts out of bytes -/
theorem bytes_load (B o : Nat) : ∀ (n : Nat) (l : List AV) (acc : ByteArray) (r : List UInt8), l.length = n →
    (∀ (j : Nat) (x : AV), l[j]? = some x → ∃ v, w.cell? ⟨B, o + j, none⟩ = some v ∧ VR f x v) → bytesOf l = some r →
    ∃ s : ByteArray, (loadBytes ⟨B, o, none⟩ acc n).run p w = .ok s w ∧ s.data.toList = acc.data.toList ++ r := by
  intro n
  induction n generalizing o with
  | zero =>
    intro l acc r hl _ e
    have : l = [] := List.length_eq_zero_iff.1 hl
    subst this
    simp [bytesOf] at e; subst e
    exact ⟨acc, rfl, by simp⟩
  | succ n ih =>
    intro l acc r hl hc e
    cases l with
    | nil => simp at hl
    | cons x l =>
      obtain ⟨v, h1, h2⟩ := hc 0 x rfl
      simp only [Nat.add_zero] at h1
      unfold bytesOf at e
      split at e
      · rename_i heq; simp at heq
      · rename_i m rest heq
        simp only [List.cons.injEq] at heq
        obtain ⟨rfl, rfl⟩ := heq
        cases h2
        split at e
        · rename_i l' hl'
          simp only [Option.some.injEq] at e; subst e
          obtain ⟨s, h3, h4⟩ := ih (o + 1) l (acc.push (Int.ofNat m).toNat.toUInt8) l' (by simpa using hl) (fun j y hy => by
            obtain ⟨u, a, b⟩ := hc (j + 1) y (by simpa using hy)
            exact ⟨u, by rw [show o + 1 + j = o + (j + 1) by omega]; exact a, b⟩) hl'
          refine ⟨s, ?_, ?_⟩
          · simp only [loadBytes, Sem.run_bind, run_load, h1, Result.andThen_ok, Addr.add_none]
            exact h3
          · rw [h4]
            simp [ByteArray.data_push]
        · simp at e
      · simp at e

theorem depth_pos (p : Program) : ∃ d, p.depth = d + 1 := ⟨2 * (p.types.size + Made.depth) + 1, rfl⟩

theorem liesAt_bytes {e count off n : Nat} (hc : p.cellsOf e = 1) (hl : off + n ≤ count) : liesAt p p.depth e count off e n = true := by
  obtain ⟨d, hd⟩ := depth_pos p
  have hs : sameLayout p p.depth e e = true := by rw [hd]; simp [sameLayout]
  have hr : rowAt p (sameLayout p p.depth · e) p.depth e count off n = true := by
    rw [hd]
    simp only [rowAt, hc, Nat.one_ne_zero, if_false, Nat.div_one, Nat.mod_one, ← hd, hs, beq_self_eq_true, Bool.and_true, hl, decide_true, Bool.true_or]
  have : liesAt p (d + 1) e count off e n = true := by
    unfold liesAt
    rw [hr]
    rfl
  rw [hd]; exact this

/-- the way through unsafe.String that does not fail -/
theorem unsafeString_way (ts : Array TypeId) (ty pt : TypeId) (hpt : ts[0]? = some pt) (q : Option Addr) (k : IntKind) (m : Nat) (hm : m ≤ 1000000) :
    (Builtin.unsafeString_ ts ty #[.pointer q, .int k (Int.ofNat m)]).run p w = (match q with
      | none => if Int.ofNat m = 0 then (pure (.string .empty) : Sem Value) else runtimePanic (.error "unsafe.String: ptr is nil and len is not zero")
      | some a => if Int.ofNat m = 0 then pure (.string .empty) else do
        if ← variablesAt a (← elemOf pt) m then do
          let s ← loadBytes a .empty m
          freeze a m
          pure (.string s)
        else unsupported (.unsafePointer "String: not so many bytes at ptr")).run p w := by
  have hm0 : ¬ (Int.ofNat m < 0) := by simp
  have hgt : ¬ (Int.ofNat m > IntKind.i64.max) := by
    have hi64 : IntKind.i64.max = 9223372036854775807 := by decide
    rw [hi64]; simp; omega
  unfold Builtin.unsafeString_
  show (Sem.run p (Bind.bind (asInt (.int k (Int.ofNat m))) _) w) = _
  rw [Sem.run_bind]
  simp only [asInt, asIntOf, Sem.run_bind, Sem.run_pure, Result.andThen_ok, hpt, hm0, if_false, hgt]
  rfl

theorem unsafeStrA_sound (hr : HR f h w) {ts : Array TypeId} {q n : AV} {q' n' : Value} (hq : VR f q q') (hn : VR f n n') {v : AV} {h' : H} (e : unsafeStrA p h ts q n = some (v, h')) (ty : TypeId) :
    ∃ v' w', (Builtin.unsafeString_ ts ty #[q', n']).run p w = .ok v' w' ∧ HR f h' w' ∧ Ext f h w f h' w' ∧ VR f v v' := by
  unfold unsafeStrA at e
  split at e
  · rename_i k m
    cases hn
    split at e
    · cases hq
      split at e
      · rename_i pt hpt
        rw [bif_beq] at e
        split at e
        · rename_i hm
          subst hm
          simp only [Option.some.injEq, Prod.mk.injEq] at e
          obtain ⟨rfl, rfl⟩ := e
          refine ⟨.string .empty, w, ?_, hr, Ext.refl _ _ _, .str _ _ rfl⟩
          rw [unsafeString_way ts ty pt hpt _ _ 0 (by omega)]
          rfl
        · simp at e
      · simp at e
    · rename_i b o
      cases hq with | ptr _ _ B sh E hb =>
      split at e
      · simp at e
      · rename_i pt hpt
        rw [bif_beq] at e
        split at e
        · rename_i hm
          subst hm
          simp only [Option.some.injEq, Prod.mk.injEq] at e
          obtain ⟨rfl, rfl⟩ := e
          refine ⟨.string .empty, w, ?_, hr, Ext.refl _ _ _, .str _ _ rfl⟩
          rw [unsafeString_way ts ty pt hpt _ _ 0 (by omega)]
          rfl
        · rename_i hm
          split at e
          · simp at e
          · rename_i x hx
            have hux := (ti_spec hx).run_und w
            split at e
            · rename_i el hund
              rw [hund] at hux
              split at e
              · rename_i el' cs op cl hk
                split at e
                · rename_i l hl
                  split at e
                  · rename_i s hs
                    rw [cond_eq_ite] at e
                    split at e
                    · rename_i hc
                      simp only [Bool.and_eq_true, beq_iff, Nat.ble_eq] at hc
                      obtain ⟨⟨rfl, hc2⟩, hc3⟩ := hc
                      simp only [Option.some.injEq, Prod.mk.injEq] at e
                      obtain ⟨rfl, rfl⟩ := e
                      obtain ⟨c, fz, h1, _, h2, h3, h4, h5⟩ := hr.cells hb hk
                      obtain ⟨_, hll, hlc⟩ := cut_spec hl
                      have hcells : ∀ (j : Nat) (y : AV), l[j]? = some y → ∃ u, w.cell? ⟨B, sh + o + j, none⟩ = some u ∧ VR f y u := by
                        intro j y hy
                        have hj : j < m := by rw [← hll]; exact (List.getElem?_eq_some_iff.1 hy).1
                        rw [← hlc j hj] at hy
                        have := hr.cell hb hk hy
                        simpa [Nat.add_assoc] using this
                      obtain ⟨s', h6, h7⟩ := bytes_load (p := p) B (sh + o) m l .empty s hll hcells hs
                      have hfit : sh + o + m ≤ c.size := by
                        obtain ⟨u, g, _⟩ := hcells (m - 1) (l[m - 1]'(by omega)) (List.getElem?_eq_getElem _)
                        simp only [World.cell?, h1] at g
                        have := (Array.getElem?_eq_some_iff.1 g).1
                        omega
                      have hlies := liesAt_bytes (p := p) (e := el') (count := c.size / p.cellsOf el') (off := sh + o) (n := m) hc2 (by rw [hc2, Nat.div_one]; exact hfit)
                      have hsh : w.shape? B = some (el', c.size) := by simp [World.shape?, h1]
                      have hmi : ¬ (Int.ofNat m = 0) := by simp; exact hm
                      refine ⟨.string s', w.freeze ⟨B, sh + o, none⟩ m, ?_, ?_⟩
                      · rw [unsafeString_way ts ty pt hpt _ _ m hc3]
                        simp only [Sem.run_bind, Sem.run_pure, Result.andThen_ok, if_false, hmi, elemOf, hux, variablesAt, run_program, run_shape, hsh, hlies, if_true, h6, run_freeze]
                      · have hfr : (w.freeze ⟨B, sh + o, none⟩ m).heap.size = w.heap.size := by unfold World.freeze; rw [if_neg hm]; simp
                        have hoth : ∀ B', B' ≠ B → (w.freeze ⟨B, sh + o, none⟩ m).heap[B']? = w.heap[B']? := by
                          intro B' hB'
                          unfold World.freeze; rw [if_neg hm]
                          simp only [Array.getElem?_modify]
                          rw [if_neg (fun hh => hB' hh.symm)]
                        have hthis : ∃ fz', (w.freeze ⟨B, sh + o, none⟩ m).heap[B]? = some (.cells c el' fz') := by
                          unfold World.freeze; rw [if_neg hm]
                          obtain ⟨lo, hi⟩ := fz
                          simp only [Array.getElem?_modify, if_true, h1, Option.map_some]
                          exact ⟨_, rfl⟩
                        obtain ⟨fz', hthis⟩ := hthis
                        obtain ⟨g1, g2⟩ := put_sound hr hb (by unfold alive; rw [hk]; simp) (blk := .cells el' cs op false) (o := .cells c el' fz') ⟨rfl, h2, h3, h4, fun hh => by simp at hh⟩ (by simp) hfr hthis hoth ⟨by unfold World.freeze; split <;> rfl, by unfold World.freeze; split <;> rfl⟩
                        exact ⟨g1, g2, .str _ _ (by simpa using h7)⟩
                    · simp at e
                  · simp at e
                · simp at e
              · simp at e
            · simp at e
    · simp at e
  · simp at e

theorem nv_value {v : Value} : (Next.value v = .value v ∨ (Next.value v = .skip ∧ v = undef)) := .inl rfl

theorem heavyB_sound (hr : HR f h w) {b : Builtin} {ts : Array TypeId} {args : List AV} {args' : List Value} (ha : VRs f args args') {v : AV} {h' : H} (e : heavyB p h b ts args = some (v, h')) (ty : TypeId) (cs : Array Bool) :
    ∃ v' w' f', (builtin b ts ty cs args'.toArray).run p w = .ok (.value v') w' ∧ HR f' h' w' ∧ Ext f h w f' h' w' ∧ VR f' v v' := by
  unfold heavyB at e
  split at e
  · cases ha with | cons _ s' _ vs hs ha =>
    cases ha with | cons _ x' _ vs hx ha =>
    cases ha
    obtain ⟨v', w', f', g1, g2, g3, g4⟩ := appendA_sound (p := p) hr hs hx e ty
    exact ⟨v', w', f', run_v g1, g2, g3, g4⟩
  · cases ha with | cons _ s' _ vs hs ha =>
    cases ha with | cons _ x' _ vs hx ha =>
    cases ha
    obtain ⟨v', w', g1, g2, g3, g4⟩ := unsafeStrA_sound (p := p) hr hs hx e ty
    exact ⟨v', w', f, run_v g1, g2, g3, g4⟩
  · simp at e

end
end Go.Xec
