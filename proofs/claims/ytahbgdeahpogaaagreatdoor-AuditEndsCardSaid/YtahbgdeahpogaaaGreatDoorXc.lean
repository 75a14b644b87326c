/- Operations that only read, as the executor does them. No condition. -/
import Derived.Test.YtahbgdeahpogaaaGreatDoorXa
import Derived.Laws.StructEq
import Derived.Laws.CopyRow
namespace Go.Xec

section
variable {f : Inj} {h : H} {w : World} {p : Program}

theorem HR.cells (hr : HR f h w) {b B sh E : Nat} (hb : f b = some (B, sh, E)) {el : Nat} {cs : List AV} {opn cl : Bool} (hk : h.blk.get b = some (.cells el cs opn cl)) :
    ∃ c fz, w.heap[B]? = some (.cells c el fz) ∧ CR f (B, sh, E) el cs opn cl c el fz := by
  obtain ⟨_, blk, o, h1, h2, h3⟩ := hr.dom b _ hb
  rw [hk] at h1
  simp only [Option.some.injEq] at h1
  subst h1
  cases o <;> simp only [BR] at h3
  rename_i c el' fz
  obtain ⟨rfl, h4⟩ := h3
  exact ⟨c, fz, h2, rfl, h4⟩

theorem cell?_cells {c : Array Value} {el : Nat} {fz : Nat × Nat} {B : Nat} (hB : w.heap[B]? = some (.cells c el fz)) (o : Nat) : w.cell? ⟨B, o, none⟩ = c[o]? := by
  simp [World.cell?, hB]

theorem HR.cell (hr : HR f h w) {b B sh E : Nat} (hb : f b = some (B, sh, E)) {el : Nat} {cs : List AV} {opn cl : Bool} (hk : h.blk.get b = some (.cells el cs opn cl)) {o : Nat} {x : AV} (hx : cs[o]? = some x) :
    ∃ v, w.cell? ⟨B, sh + o, none⟩ = some v ∧ VR f x v := by
  obtain ⟨c, fz, h1, _, _, h2, _⟩ := hr.cells hb hk
  obtain ⟨v, h3, h4⟩ := h2 o x hx
  exact ⟨v, by rw [cell?_cells h1]; exact h3, h4⟩

theorem cut_spec {α : Type} {cs l : List α} {off n : Nat} (e : cut cs off n = some l) : l = (cs.drop off).take n ∧ l.length = n ∧ ∀ i, i < n → cs[off + i]? = l[i]? := by
  unfold cut at e
  rw [bif_beq] at e
  split at e
  · rename_i hl
    simp only [Option.some.injEq] at e
    subst e
    refine ⟨rfl, hl, fun i hi => ?_⟩
    rw [List.getElem?_take_of_lt hi, List.getElem?_drop]
  · simp at e

theorem Addr.add_none (B o n : Nat) : (⟨B, o, none⟩ : Addr).add n = ⟨B, o + n, none⟩ := by
  unfold Addr.add
  split
  · rename_i h; subst h; rfl
  · rfl

theorem run_loadCellsFrom (B o : Nat) : ∀ (n : Nat) (l : List AV) (i : Nat) (acc : Array Value), l.length = n →
    (∀ (j : Nat) (x : AV), l[j]? = some x → ∃ v, w.cell? ⟨B, o + (i + j), none⟩ = some v ∧ VR f x v) →
    ∃ vs, (loadCellsFrom ⟨B, o, none⟩ i n acc).run p w = .ok (acc ++ vs.toArray) w ∧ VRs f l vs := by
  intro n
  induction n with
  | zero =>
    intro l i acc hl hc
    have : l = [] := List.length_eq_zero_iff.1 hl
    subst this
    exact ⟨[], by simp [loadCellsFrom], .nil⟩
  | succ n ih =>
    intro l i acc hl hc
    cases l with
    | nil => simp at hl
    | cons x l =>
      obtain ⟨v, h1, h2⟩ := hc 0 x rfl
      simp only [Nat.add_zero] at h1
      obtain ⟨vs, h3, h4⟩ := ih l (i + 1) (acc.push v) (by simpa using hl) (fun j y hy => by
        obtain ⟨u, a, b⟩ := hc (j + 1) y (by simpa using hy)
        exact ⟨u, by rw [show i + 1 + j = i + (j + 1) by omega]; exact a, b⟩)
      refine ⟨v :: vs, ?_, .cons _ _ _ _ h2 h4⟩
      simp only [loadCellsFrom, Addr.add_none, Sem.run_bind, run_load, h1, Result.andThen_ok, h3]
      simp

theorem run_loadCells (hr : HR f h w) {b B sh E : Nat} (hb : f b = some (B, sh, E)) {el : Nat} {cs : List AV} {opn cl : Bool} (hk : h.blk.get b = some (.cells el cs opn cl)) {o n : Nat} {l : List AV} (e : cut cs o n = some l) :
    ∃ vs, (loadCells ⟨B, sh + o, none⟩ n).run p w = .ok vs.toArray w ∧ VRs f l vs := by
  obtain ⟨_, hl, hc⟩ := cut_spec e
  obtain ⟨vs, h1, h2⟩ := run_loadCellsFrom (f := f) (w := w) (p := p) B (sh + o) n l 0 #[] hl (fun j x hx => by
    have hj : j < n := by rw [← hl]; exact (List.getElem?_eq_some_iff.1 hx).1
    rw [← hc j hj] at hx
    have := hr.cell hb hk hx
    simpa [Nat.add_assoc] using this)
  exact ⟨vs, by simpa [loadCells] using h1, h2⟩

theorem loadA_sound (hr : HR f h w) {b B sh E : Nat} (hb : f b = some (B, sh, E)) {t o : Nat} {x : AV} (e : loadA p h t b o = some x) :
    ∃ v, (loadVar t ⟨B, sh + o, none⟩).run p w = .ok v w ∧ VR f x v := by
  unfold loadA at e
  split at e
  · simp at e
  · rename_i i hi
    have ht := ti_spec hi
    split at e
    · rename_i el cs opn cl hk
      unfold part at e
      simp only [loadVar, Sem.run_bind, ht.run_isAgg, Result.andThen_ok, Sem.run_ite]
      split at e
      · rename_i ha
        split at e
        · rename_i l hl
          simp only [Option.some.injEq] at e; subst e
          obtain ⟨vs, h1, h2⟩ := run_loadCells (p := p) hr hb hk hl
          refine ⟨.agg vs.toArray, ?_, .agg _ _ h2⟩
          simp [ha, ht.run_size, h1]
        · simp at e
      · rename_i ha
        obtain ⟨v, h1, h2⟩ := hr.cell hb hk e
        exact ⟨v, by simp [ha, h1], h2⟩
    · simp at e

theorem part_sound {t : Nat} {i : TI} (ht : TOk p t i) {cs : List AV} {vs : List Value} (hv : VRs f cs vs) {off : Nat} {x : AV} (e : part i cs off = some x) :
    ∃ v, (Go.part t vs.toArray off).run p w = .ok v w ∧ VR f x v := by
  unfold part at e
  simp only [Go.part, Sem.run_bind, ht.run_isAgg, Result.andThen_ok, Sem.run_ite]
  split at e
  · rename_i ha
    split at e
    · rename_i l hl
      simp only [Option.some.injEq] at e; subst e
      obtain ⟨h1, h2, h3⟩ := cut_spec hl
      refine ⟨.agg ((vs.drop off).take i.size).toArray, ?_, .agg _ _ (h1 ▸ (hv.drop off).take _)⟩
      simp [ha, ht.run_size]
    · simp at e
  · rename_i ha
    obtain ⟨v, h1, h2⟩ := hv.get _ _ e
    exact ⟨v, by simp [ha, h1], h2⟩

/-! equality -/
theorem beqK_eq {a b : IntKind} : beqK a b = true ↔ a = b := by
  cases a <;> cases b <;> decide
theorem beqB_eq (a b : Bool) : beqB a b = (a == b) := by cases a <;> cases b <;> rfl
theorem beqN_eq (a b : Nat) : Nat.beq a b = (a == b) := by
  by_cases h : a = b
  · subst h; simp
  · rw [Bool.eq_false_iff.2 (fun e => h ((beq_iff a b).1 e))]; simp [h]
theorem beqI_eq (a b : Int) : beqI a b = (a == b) := by
  rw [Bool.eq_iff_iff, beq_iff_eq]
  cases a with
  | ofNat a => cases b with
    | ofNat b => simp only [beqI, beq_iff]; exact ⟨fun h => by rw [h], fun h => Int.ofNat.inj h⟩
    | negSucc b => simp only [beqI]; exact ⟨fun h => by simp at h, fun h => by cases h⟩
  | negSucc a => cases b with
    | ofNat b => simp only [beqI]; exact ⟨fun h => by simp at h, fun h => by cases h⟩
    | negSucc b => simp only [beqI, beq_iff]; exact ⟨fun h => by rw [h], fun h => Int.negSucc.inj h⟩
theorem beqU_eq (a b : UInt8) : beqU a b = (a == b) := by
  unfold beqU
  rw [beqN_eq, Bool.eq_iff_iff]
  simp [UInt8.toNat_inj]
theorem beqS_eq : ∀ (a b : List UInt8), beqS a b = (a == b)
  | [], [] => rfl
  | [], _ :: _ => rfl
  | _ :: _, [] => rfl
  | a :: x, b :: y => by
    simp only [beqS, beqU_eq, beqS_eq x y]
    by_cases h : a = b
    · subst h; simp
    · have h' : (a == b) = false := by simpa using h
      rw [h']
      simp [h]

theorem beqBA (a b : ByteArray) : (a == b) = (a.data.toList == b.data.toList) := by
  rw [beq_toListBytes, ByteArray.toList_eq, ByteArray.toList_eq]

theorem cleanAt_spec (hr : HR f h w) {b B sh E : Nat} (hb : f b = some (B, sh, E)) (hc : cleanAt h b = true) : ∃ c el, w.heap[B]? = some (.cells c el (0, 0)) ∧ alive h b := by
  unfold cleanAt at hc
  split at hc
  · rename_i el cs opn cl hk
    subst hc
    obtain ⟨c, fz, h1, _, _, _, _, h5⟩ := hr.cells hb hk
    rw [h5 rfl] at h1
    exact ⟨c, el, h1, by unfold alive; rw [hk]; simp⟩
  · simp at hc

theorem run_sameAddr_diff {B B' x x' : Nat} {c c' : Array Value} {el el' : Nat} (h1 : w.heap[B]? = some (.cells c el (0, 0))) (h2 : w.heap[B']? = some (.cells c' el' (0, 0))) (hne : B ≠ B') :
    (sameAddr ⟨B, x, none⟩ ⟨B', x', none⟩).run p w = .ok false w := by
  have hb : (B == B') = false := by simpa using hne
  have f1 : ∀ y s, w.frozen? ⟨B, y, s⟩ = false := fun y s => by simp [World.frozen?, h1]
  have f2 : ∀ y s, w.frozen? ⟨B', y, s⟩ = false := fun y s => by simp [World.frozen?, h2]
  have s1 : w.shape? B = some (el, c.size) := by simp [World.shape?, h1]
  have s2 : w.shape? B' = some (el', c'.size) := by simp [World.shape?, h2]
  simp [sameAddr, hb, f1, f2, noView, viewAt, s1, s2, mayBeOne, stringish]

theorem eqPtr_sound (hr : HR f h w) {el a o b o' : Nat} {x y : Value} (hx : VR f (.ptr a o) x) (hy : VR f (.ptr b o') y) {r : Bool} (e : eqPtr p h el a o b o' = some r) {t D : Nat} (ht : p.underlying t = some (.pointer el)) :
    (Op.equalIn (D + 1) t x y).run p w = .ok r w := by
  unfold eqPtr at e
  split at e
  · simp at e
  · rename_i i hi
    have hs := ti_spec hi
    rw [bif_beq] at e
    split at e
    · simp at e
    · rename_i hz
      cases hx with | ptr _ _ B sh E hb =>
      cases hy with | ptr _ _ B' sh' E' hb' =>
      have hu : (underlying t).run p w = .ok (.pointer el) w := by simp [underlying, ht]
      simp only [Op.equalIn, Sem.run_bind, hu, Result.andThen_ok, hs.run_size, Sem.run_ite, hz, if_true, ne_eq, not_false_eq_true]
      rw [bif_beq] at e
      split at e
      · rename_i hab
        subst hab
        rw [hb] at hb'
        simp only [Option.some.injEq, Prod.mk.injEq] at hb'
        obtain ⟨rfl, rfl, rfl⟩ := hb'
        simp only [Option.some.injEq] at e
        subst e
        simp only [sameAddr, beq_self_eq_true, if_true, Sem.run_pure]
        congr 1
        rw [beqN_eq, Bool.eq_iff_iff]
        simp
      · rename_i hab
        rw [cond_eq_ite] at e
        split at e
        · rename_i hcl
          simp only [Bool.and_eq_true] at hcl
          simp only [Option.some.injEq] at e
          subst e
          obtain ⟨c, q, h1, a1⟩ := cleanAt_spec hr hb hcl.1
          obtain ⟨c', q', h2, a2⟩ := cleanAt_spec hr hb' hcl.2
          exact run_sameAddr_diff h1 h2 fun hBB => hab (hr.inj _ _ _ _ hb hb' a1 a2 hBB)
        · simp at e

theorem eqFields_sound {eq : Nat → AV → AV → Option Bool} {D : Nat} (ih : ∀ t x y r, eq t x y = some r → ∀ x' y', VR f x x' → VR f y y' → (Op.equalIn D t x' y').run p w = .ok r w)
    {xs ys : List AV} {xs' ys' : List Value} (hx : VRs f xs xs') (hy : VRs f ys ys') : ∀ (fs : List Field) (r : Bool), eqFields p eq xs ys fs = some r → (Op.eqFields D xs'.toArray ys'.toArray fs).run p w = .ok r w
  | [], r, e => by simp [eqFields] at e; subst e; rfl
  | q :: fs, r, e => by
    unfold eqFields at e
    rw [cond_eq_ite] at e
    simp only [Op.eqFields]
    by_cases hn : q.name = "_"
    · simp only [hn, decide_true, if_true] at e
      simp only [hn, ne_eq, not_true_eq_false, if_false]
      exact eqFields_sound ih hx hy fs r e
    · simp only [hn, decide_false, Bool.false_eq_true, if_false] at e
      simp only [hn, ne_eq, not_false_eq_true, if_true]
      split at e
      · simp at e
      · rename_i i hi
        split at e
        · simp at e
        · rename_i a ha
          split at e
          · simp at e
          · rename_i b hb
            obtain ⟨va, h1, h2⟩ := part_sound (p := p) (w := w) (ti_spec hi) hx ha
            obtain ⟨vb, h3, h4⟩ := part_sound (p := p) (w := w) (ti_spec hi) hy hb
            simp only [Sem.run_bind, h1, h3, Result.andThen_ok]
            split at e
            · rename_i hq
              rw [ih _ _ _ _ hq _ _ h2 h4]
              simp only [Result.andThen_ok, Bool.not_true, Bool.false_eq_true, if_false]
              exact eqFields_sound ih hx hy fs r e
            · rename_i hq
              simp only [Option.some.injEq] at e; subst e
              rw [ih _ _ _ _ hq _ _ h2 h4]
              simp
            · simp at e

theorem run_eqElems {D el : Nat} {i : TI} (ht : TOk p el i) {eq : Nat → AV → AV → Option Bool} (ih : ∀ t x y r, eq t x y = some r → ∀ x' y', VR f x x' → VR f y y' → (Op.equalIn D t x' y').run p w = .ok r w)
    {xs ys : List AV} {xs' ys' : List Value} (hx : VRs f xs xs') (hy : VRs f ys ys') : ∀ (n k : Nat) (r : Bool), eqElems eq el i xs ys n k = some r →
    (forIn (m := Sem) (List.range' k n 1) ((none, ()) : Option Bool × PUnit) fun j _ => do
        let a ← Go.part el xs'.toArray (j * i.size)
        let b ← Go.part el ys'.toArray (j * i.size)
        let e ← Op.equalIn D el a b
        if (!e) = true then pure (.done (some false, ())) else pure (.yield (none, ()))).run p w = .ok ((if r then none else some false, ()) : Option Bool × PUnit) w
  | 0, k, r, e => by simp [eqElems] at e; subst e; rfl
  | n + 1, k, r, e => by
    unfold eqElems at e
    rw [List.range'_succ, List.forIn_cons]
    split at e
    · simp at e
    · rename_i a ha
      split at e
      · simp at e
      · rename_i b hb
        obtain ⟨va, h1, h2⟩ := part_sound (p := p) (w := w) ht hx ha
        obtain ⟨vb, h3, h4⟩ := part_sound (p := p) (w := w) ht hy hb
        simp only [Sem.run_bind, h1, h3, Result.andThen_ok]
        split at e
        · rename_i hq
          rw [ih _ _ _ _ hq _ _ h2 h4]
          simp only [Result.andThen_ok, Bool.not_true, Bool.false_eq_true, if_false, Sem.run_pure]
          exact run_eqElems ht ih hx hy n (k + 1) r e
        · rename_i hq
          simp only [Option.some.injEq] at e; subst e
          rw [ih _ _ _ _ hq _ _ h2 h4]
          simp
        · simp at e

theorem eqA_sound (hr : HR f h w) : ∀ (d D t : Nat) (x y : AV) (r : Bool), d ≤ D → eqA p h d t x y = some r → ∀ x' y', VR f x x' → VR f y y' → (Op.equalIn D t x' y').run p w = .ok r w := by
  intro d
  induction d with
  | zero => intro D t x y r _ e; simp [eqA] at e
  | succ d ih =>
    intro D t x y r hD e x' y' hx hy
    obtain ⟨D, rfl⟩ : ∃ E, D = E + 1 := ⟨D - 1, by omega⟩
    have ih' : ∀ t x y r, eqA p h d t x y = some r → ∀ x' y', VR f x x' → VR f y y' → (Op.equalIn D t x' y').run p w = .ok r w :=
      fun t x y r e x' y' => ih D t x y r (by omega) e x' y'
    unfold eqA at e
    split at e
    · simp at e
    · rename_i i hi
      have ht := ti_spec hi
      have hu := ht.run_und w
      split at e
      · rename_i hund
        rw [hund] at hu
        simp only [Option.some.injEq] at e; subst e
        cases hx; cases hy
        simp [Op.equalIn, hu, beqB_eq]
      · rename_i hund
        rw [hund] at hu
        rw [cond_eq_ite] at e
        split at e
        · rename_i hk
          simp only [Option.some.injEq] at e; subst e
          cases hx; cases hy
          rw [beqK_eq] at hk; subst hk
          simp [Op.equalIn, hu, beqI_eq]
        · simp at e
      · rename_i hund
        rw [hund] at hu
        simp only [Option.some.injEq] at e; subst e
        cases hx with | str _ s h1 =>
        cases hy with | str _ s' h2 =>
        subst h1; subst h2
        simp only [Op.equalIn, Sem.run_bind, hu, Result.andThen_ok, Sem.run_pure, beqS_eq, beqBA]
      · rename_i hund
        rw [hund] at hu
        simp only [Option.some.injEq] at e; subst e
        cases hx; cases hy
        simp only [Op.equalIn, Sem.run_bind, hu, Result.andThen_ok]; rfl
      · rename_i hund
        rw [hund] at hu
        simp only [Option.some.injEq] at e; subst e
        cases hx; cases hy
        simp only [Op.equalIn, Sem.run_bind, hu, Result.andThen_ok]; rfl
      · rename_i hund
        rw [hund] at hu
        simp only [Option.some.injEq] at e; subst e
        cases hx; cases hy
        simp only [Op.equalIn, Sem.run_bind, hu, Result.andThen_ok]; rfl
      · rename_i hund
        exact eqPtr_sound hr hx hy e (by rw [ht.und, hund])
      · rename_i hund
        rw [hund] at hu
        simp only [Option.some.injEq] at e; subst e
        cases hx; cases hy
        simp only [Op.equalIn, Sem.run_bind, hu, Result.andThen_ok]; rfl
      · rename_i hund
        rw [hund] at hu
        simp only [Option.some.injEq] at e; subst e
        cases hx; cases hy
        simp only [Op.equalIn, Sem.run_bind, hu, Result.andThen_ok]; rfl
      · rename_i hund
        rw [hund] at hu
        simp only [Option.some.injEq] at e; subst e
        cases hx; cases hy
        simp only [Op.equalIn, Sem.run_bind, hu, Result.andThen_ok]; rfl
      · rename_i tx vx ty vy hund
        rw [hund] at hu
        cases hx with | iface _ _ vx' hvx =>
        cases hy with | iface _ _ vy' hvy =>
        unfold eqIface at e
        rw [cond_eq_ite] at e
        simp only [Op.equalIn, Sem.run_bind, hu, Result.andThen_ok]
        split at e
        · rename_i hne
          simp only [Option.some.injEq] at e; subst e
          have : tx ≠ ty := fun hh => by subst hh; simp at hne
          simp [this]
        · rename_i hne
          have htt : tx = ty := by
            have : Nat.beq tx ty = true := by simpa using hne
            exact (beq_iff _ _).1 this
          subst htt
          simp only [ne_eq, not_true_eq_false, if_false]
          split at e
          · simp at e
          · rename_i j hj
            rw [cond_eq_ite] at e
            split at e
            · rename_i hcomp
              obtain ⟨q, h1, _, _, h2, _⟩ := (ti_spec hj).run_info w
              simp only [Sem.run_bind, h1, Result.andThen_ok, h2, hcomp]
              simpa using ih' _ _ _ _ e _ _ hvx hvy
            · simp at e
      · rename_i fields xs ys hund
        rw [cond_eq_ite] at e
        split at e
        · simp at e
        · rename_i hst
          cases hx with | agg _ xs' hxs =>
          cases hy with | agg _ ys' hys =>
          have hf : p.fieldsOf t = fields := by simp [Program.fieldsOf, ht.und, hund]
          rw [run_equalIn_struct w D t _ _ (by rw [hf, ht.und, hund]) (by simpa using hst), hf]
          exact eqFields_sound ih' hxs hys _ _ e
      · rename_i len el xs ys hund
        rw [hund] at hu
        split at e
        · simp at e
        · rename_i j hj
          have hj' := ti_spec hj
          cases hx with | agg _ xs' hxs =>
          cases hy with | agg _ ys' hys =>
          have hrun := run_eqElems (p := p) (w := w) hj' ih' hxs hys len 0 r e
          simp only [Op.equalIn, Sem.run_bind, hu, Result.andThen_ok, hj'.run_size, Std.Legacy.Range.forIn_eq_forIn_range', Std.Legacy.Range.size, Nat.sub_zero, Nat.add_sub_cancel, Nat.div_one]
          rw [hrun]
          cases r <;> simp
      all_goals
        first
          | (simp at e; done)
          | (rename_i hund; rw [hund] at hu; simp only [Option.some.injEq] at e; subst e; cases hx <;> cases hy <;> (simp only [Op.equalIn, Sem.run_bind, hu, Result.andThen_ok]; rfl))

end
end Go.Xec
namespace Go.Xec

theorem res_eq (k : IntKind) (n : Int) : ((res k n : Nat) : Int) = n % (2 ^ k.bits : Int) := by
  cases n with
  | ofNat n => cases k <;> simp only [res, pow2, IntKind.bits, Int.ofNat_eq_natCast] <;> omega
  | negSucc n => cases k <;> simp only [res, pow2, IntKind.bits, Int.negSucc_eq] <;> omega

theorem res_lt (k : IntKind) (n : Int) : res k n < pow2 k := by
  cases n with
  | ofNat n => cases k <;> simp only [res, pow2] <;> omega
  | negSucc n => cases k <;> simp only [res, pow2] <;> omega

theorem wrap_def (k : IntKind) (n : Int) : k.wrap n = if k.signed = true ∧ (2 ^ (k.bits - 1) : Int) ≤ n % (2 ^ k.bits : Int) then n % (2 ^ k.bits : Int) - (2 ^ k.bits : Int) else n % (2 ^ k.bits : Int) := by
  show (if (k.signed && decide (n % (2 ^ k.bits : Int) ≥ (2 ^ (k.bits - 1) : Int))) = true then _ else _) = _
  by_cases hs : k.signed = true <;> by_cases hc : (2 ^ (k.bits - 1) : Int) ≤ n % (2 ^ k.bits : Int) <;> simp [hs, hc]

theorem unres_eq (k : IntKind) (m : Nat) (h : m < pow2 k) : unres k m = k.wrap m := by
  rw [wrap_def]
  unfold unres
  cases k <;> simp only [pow2, half, IntKind.signed, IntKind.bits, Bool.true_and, Bool.false_and, Bool.false_eq_true, true_and, false_and, if_false, bif_ble, cond_false, Nat.reduceSub, Int.reducePow, Int.ofNat_eq_natCast, Int.negSucc_eq] at * <;> (try split) <;> (try split) <;> omega

theorem wrapA_eq (k : IntKind) (n : Int) : wrapA k n = k.wrap n := by
  unfold wrapA
  rw [unres_eq k _ (res_lt k n), wrap_def, wrap_def, res_eq, Int.emod_emod_of_dvd _ (Int.dvd_refl _)]

theorem bits_toNat (k : IntKind) (n : Int) : (BitVec.ofInt k.bits n).toNat = res k n := by
  rw [BitVec.toNat_ofInt]
  have := res_eq k n
  have h2 : ((2 ^ k.bits : Nat) : Int) = (2 ^ k.bits : Int) := by simp
  rw [h2, ← this]
  simp

theorem pow2_bits (k : IntKind) : pow2 k = 2 ^ k.bits := by cases k <;> rfl

theorem and_lt (k : IntKind) {a b : Nat} (h : a < pow2 k) : Nat.land a b < pow2 k := Nat.lt_of_le_of_lt Nat.and_le_left h
theorem or_lt (k : IntKind) {a b : Nat} (h : a < pow2 k) (h' : b < pow2 k) : Nat.lor a b < pow2 k := by rw [pow2_bits] at *; exact Nat.or_lt_two_pow h h'
theorem xor_lt (k : IntKind) {a b : Nat} (h : a < pow2 k) (h' : b < pow2 k) : Nat.xor a b < pow2 k := by rw [pow2_bits] at *; exact Nat.xor_lt_two_pow h h'

section
variable {f : Inj} {h : H} {w : World} {p : Program}

theorem leI_eq (a b : Int) : leI a b = decide (a ≤ b) := by
  rw [Bool.eq_iff_iff, decide_eq_true_eq]
  cases a with
  | ofNat a => cases b with
    | ofNat b => simp only [leI, Nat.ble_eq, Int.ofNat_eq_natCast]; omega
    | negSucc b => simp only [leI, Int.ofNat_eq_natCast, Int.negSucc_eq, Bool.false_eq_true, false_iff]; omega
  | negSucc a => cases b with
    | ofNat b => simp only [leI, Int.ofNat_eq_natCast, Int.negSucc_eq, true_iff]; omega
    | negSucc b => simp only [leI, Nat.ble_eq, Int.negSucc_eq]; omega

theorem ltI_eq (a b : Int) : ltI a b = decide (a < b) := by
  unfold ltI
  rw [leI_eq, Bool.eq_iff_iff]
  simp

theorem cmpI_sound {op : BinOp} {a b : Int} {r : AV} (e : cmpI op a b = some r) : ∃ v, (Op.intCmp op a b).run p w = .ok v w ∧ VR f r v := by
  unfold cmpI at e
  split at e <;> simp only [Option.some.injEq, reduceCtorEq] at e <;> subst e
  · exact ⟨.bool (a == b), rfl, by rw [beqI_eq]; exact .bool _⟩
  · exact ⟨.bool (a != b), rfl, by rw [beqI_eq]; exact .bool _⟩
  · exact ⟨.bool (decide (a < b)), rfl, by rw [ltI_eq]; exact .bool _⟩
  · exact ⟨.bool (decide (a ≤ b)), rfl, by rw [leI_eq]; exact .bool _⟩
  · exact ⟨.bool (decide (a > b)), rfl, by rw [ltI_eq]; exact .bool _⟩
  · exact ⟨.bool (decide (a ≥ b)), rfl, by rw [leI_eq]; exact .bool _⟩

theorem not_shift {op : BinOp} (h : isShift op = false) : op ≠ .shl ∧ op ≠ .shr := by cases op <;> simp_all [isShift]

theorem binOp_ints (op : BinOp) (hs : isShift op = false) (xt : TypeId) (k : IntKind) (a b : Int) :
    binOp op xt (.int k a) (.int k b) = (match op with
    | .add | .sub | .mul => Op.intArith op k a b
    | .quo | .rem => Op.intDiv op k a b
    | .and | .or | .xor | .andNot => Op.intBits op k a b
    | _ => Op.intCmp op a b) := by
  cases op <;> first | (exact absurd hs (by decide)) | simp [binOp]

theorem arith_sound {op : BinOp} {k : IntKind} {a b : Int} {r : AV} (e : arith op k a b = some r) (hs : isShift op = false) (xt : TypeId) :
    ∃ v, (binOp op xt (.int k a) (.int k b)).run p w = .ok v w ∧ VR f r v := by
  rw [binOp_ints op hs]
  have nz : ∀ {c : Int}, beqI c 0 = false → c ≠ 0 := fun hc hh => by subst hh; simp [beqI_eq] at hc
  unfold arith at e
  split at e
  · simp only [Option.some.injEq] at e; subst e; exact ⟨_, rfl, by rw [wrapA_eq]; exact .int _ _⟩
  · simp only [Option.some.injEq] at e; subst e; exact ⟨_, rfl, by rw [wrapA_eq]; exact .int _ _⟩
  · simp only [Option.some.injEq] at e; subst e; exact ⟨_, rfl, by rw [wrapA_eq]; exact .int _ _⟩
  · rw [cond_eq_ite] at e
    split at e
    · simp at e
    · rename_i hb
      simp only [Option.some.injEq] at e; subst e
      exact ⟨_, by simp only [Op.intDiv, nz (by simpa using hb), if_false]; rfl, by rw [wrapA_eq]; exact .int _ _⟩
  · rw [cond_eq_ite] at e
    split at e
    · simp at e
    · rename_i hb
      simp only [Option.some.injEq] at e; subst e
      exact ⟨_, by simp only [Op.intDiv, nz (by simpa using hb), if_false]; rfl, .int _ _⟩
  · simp only [Option.some.injEq] at e; subst e
    refine ⟨.int k (unres k _), ?_, .int _ _⟩
    rw [unres_eq k _ (and_lt k (res_lt k a))]
    simp only [Op.intBits, Sem.run_pure, BitVec.toNat_and, bits_toNat]
    rfl
  · simp only [Option.some.injEq] at e; subst e
    refine ⟨.int k (unres k _), ?_, .int _ _⟩
    rw [unres_eq k _ (or_lt k (res_lt k a) (res_lt k b))]
    simp only [Op.intBits, Sem.run_pure, BitVec.toNat_or, bits_toNat]
    rfl
  · simp only [Option.some.injEq] at e; subst e
    refine ⟨.int k (unres k _), ?_, .int _ _⟩
    rw [unres_eq k _ (xor_lt k (res_lt k a) (res_lt k b))]
    simp only [Op.intBits, Sem.run_pure, BitVec.toNat_xor, bits_toNat]
    rfl
  · simp only [Option.some.injEq] at e; subst e
    refine ⟨.int k (unres k _), ?_, .int _ _⟩
    rw [unres_eq k _ (and_lt k (res_lt k a))]
    simp only [Op.intBits, Sem.run_pure, BitVec.toNat_and, BitVec.toNat_not, bits_toNat, pow2_bits]
    rfl
  · rename_i h1 h2 h3 h4 h5 h6 h7 h8 h9
    obtain ⟨v, hv, hr⟩ := cmpI_sound (f := f) (p := p) (w := w) e
    refine ⟨v, ?_, hr⟩
    cases op <;> first | exact hv | (exfalso; first | exact h1 rfl | exact h2 rfl | exact h3 rfl | exact h4 rfl | exact h5 rfl | exact h6 rfl | exact h7 rfl | exact h8 rfl | exact h9 rfl) | (simp [isShift] at hs)

theorem shiftA_sound {op : BinOp} {k k' : IntKind} {a b : Int} {r : AV} (e : shiftA op k a b = some r) (xt : TypeId) :
    ∃ v, (binOp op xt (.int k a) (.int k' b)).run p w = .ok v w ∧ VR f r v := by
  unfold shiftA at e
  split at e
  · simp at e
  · rename_i y
    have hm : (bif Nat.ble y k.bits then y else k.bits) = min y k.bits := by rw [bif_ble]; rw [Nat.min_def]
    have hneg : ¬ (Int.ofNat y < 0) := by simp
    have hto : (Int.ofNat y).toNat = y := rfl
    split at e <;> simp only [Option.some.injEq, reduceCtorEq] at e <;> subst e
    · refine ⟨.int k (k.wrap (a * 2 ^ (min y k.bits))), ?_, ?_⟩
      · simp only [binOp, Op.shift, hneg, if_false, hto, Sem.run_pure]
      · rw [wrapA_eq, hm]
        have : Int.ofNat (2 ^ min y k.bits) = (2 : Int) ^ min y k.bits := by rw [Int.ofNat_eq_natCast, Int.natCast_pow]; rfl
        rw [this]; exact .int _ _
    · refine ⟨.int k (a.fdiv (2 ^ (min y k.bits))), ?_, ?_⟩
      · simp only [binOp, Op.shift, hneg, if_false, hto, Sem.run_pure]
      · rw [hm]
        have : Int.ofNat (2 ^ min y k.bits) = (2 : Int) ^ min y k.bits := by rw [Int.ofNat_eq_natCast, Int.natCast_pow]; rfl
        rw [this]; exact .int _ _

theorem ltS_eq : ∀ (a b : List UInt8), ltS a b = Op.bytesLess a b
  | [], [] => rfl
  | [], _ :: _ => rfl
  | _ :: _, [] => rfl
  | a :: x, b :: y => by
    simp only [ltS, Op.bytesLess, beqU_eq, ltS_eq x y]
    rw [bif_blt]
    have hl : (a < b) ↔ (a.toNat < b.toNat) := UInt8.lt_iff_toNat_lt
    by_cases h : a.toNat < b.toNat
    · simp [h, hl]
    · simp only [h, hl, if_false, decide_false, Bool.false_or]
      cases (a == b) <;> simp

theorem strOp_sound {op : BinOp} {a b : List UInt8} {a' b' : ByteArray} (ha : a'.data.toList = a) (hb : b'.data.toList = b) {r : AV} (e : strOp op a b = some r) (xt : TypeId) :
    ∃ v, (binOp op xt (.string a') (.string b')).run p w = .ok v w ∧ VR f r v := by
  have la : a'.toList = a := by rw [ByteArray.toList_eq]; exact ha
  have lb : b'.toList = b := by rw [ByteArray.toList_eq]; exact hb
  have hbin : binOp op xt (.string a') (.string b') = Op.stringOp op a' b' := by cases op <;> rfl
  rw [hbin]
  unfold strOp at e
  split at e
  · rw [bif_ble] at e
    split at e
    · rename_i hl
      simp only [Option.some.injEq] at e; subst e
      have sa : a'.size = a.length := by rw [← ha]; rfl
      have sb : b'.size = b.length := by rw [← hb]; rfl
      refine ⟨.string (a' ++ b'), ?_, .str _ _ ?_⟩
      · simp only [Op.stringOp]
        rw [if_neg]
        · rfl
        · rw [sa, sb]
          have : IntKind.i64.max = 9223372036854775807 := by decide
          rw [this]; omega
      · simp [ByteArray.data_append, ha, hb]
    · simp at e
  all_goals first
    | (simp at e; done)
    | (simp only [Option.some.injEq] at e; subst e; exact ⟨_, rfl, by rw [la, lb]; simp only [beqS_eq, ltS_eq]; exact .bool _⟩)

theorem unA_sound {op : UnOp} {x : AV} {x' : Value} (hx : VR f x x') {r : AV} (e : unA op x = some r) :
    ∃ v, (Op.unary op x').run p w = .ok v w ∧ VR f r v := by
  unfold unA at e
  split at e
  · cases hx
    rename_i k n
    split at e <;> simp only [Option.some.injEq, reduceCtorEq] at e <;> subst e
    · exact ⟨_, rfl, by rw [wrapA_eq]; exact .int _ _⟩
    · refine ⟨.int k (unres k _), ?_, .int _ _⟩
      have hlt : pow2 k - 1 - res k n < pow2 k := by have := res_lt k n; omega
      rw [unres_eq k _ hlt]
      simp only [Op.unary, Op.intBits, Sem.run_pure, BitVec.toNat_xor, bits_toNat]
      have hm : res k (if k.signed then -1 else k.max) = pow2 k - 1 := by cases k <;> decide
      rw [hm]
      have hx : (pow2 k - 1) ^^^ res k n = pow2 k - 1 - res k n := by
        have hr := res_lt k n
        rw [pow2_bits] at *
        have h1 : (BitVec.ofNat k.bits (res k n)).toNat = res k n := by simp [Nat.mod_eq_of_lt hr]
        have h2 := BitVec.toNat_not (x := BitVec.ofNat k.bits (res k n))
        rw [h1] at h2
        rw [← h2, BitVec.not_def, BitVec.toNat_xor, h1]
        simp
      rw [hx]
  · cases hx
    split at e <;> simp only [Option.some.injEq, reduceCtorEq] at e <;> subst e
    exact ⟨_, rfl, .bool _⟩
  · simp at e

theorem guard_sound {op : BinOp} {xt : TypeId} {x y : Operand} {a b : AV} {a' b' : Value} (ha : VR f a a') (hb : VR f b b') (e : guardOk p op xt x y a b = true) :
    (eqGuard op xt x y a' b').run p w = .ok () w := by
  unfold guardOk at e
  split at e
  · cases ha; cases hb
    cases x <;> cases y <;> first
      | (exact absurd e Bool.false_ne_true)
      | (cases op <;> rfl)
  · cases ha; cases hb
    cases op <;> first | rfl | (simp only [Bool.not_eq_true'] at e; exact run_eqGuard_agg _ _ _ _ _ _ _ e)
  · rename_i h1 h2
    cases ha <;> cases hb <;> first
      | exact absurd rfl (h1 rfl)
      | exact (h1 rfl rfl).elim
      | exact (h2 _ _ rfl rfl).elim
      | (cases op <;> rfl)

theorem binA_sound (hr : HR f h w) {op : BinOp} {xt : TypeId} {x y : AV} {x' y' : Value} (hx : VR f x x') (hy : VR f y y') {r : AV} (e : binA p h op xt x y = some r) :
    ∃ v, (binOp op xt x' y').run p w = .ok v w ∧ VR f r v := by
  unfold binA at e
  split at e
  · cases hx; cases hy
    split at e
    · exact shiftA_sound e xt
    · rename_i hs
      rw [cond_eq_ite] at e
      split at e
      · rename_i hk
        rw [beqK_eq] at hk; subst hk
        exact arith_sound e hs xt
      · simp at e
  · cases hx with | str _ s hs =>
    cases hy with | str _ s' hs' =>
    exact strOp_sound hs hs' e xt
  · rename_i h1 h2
    split at e
    · split at e
      · rename_i b hb
        simp only [Option.some.injEq] at e; subst e
        refine ⟨.bool b, ?_, .bool _⟩
        have hq := eqA_sound hr 20 10000 xt _ _ _ (by omega) hb x' y' hx hy
        cases hx <;> cases hy <;> first
          | (exact (h1 _ _ _ _ rfl rfl).elim)
          | (exact (h2 _ _ rfl rfl).elim)
          | (simp only [binOp, Op.equal, Op.maxDepth, Sem.run_bind, hq, Result.andThen_ok, Sem.run_pure])
      · simp at e
    · split at e
      · rename_i b hb
        simp only [Option.some.injEq] at e; subst e
        refine ⟨.bool (!b), ?_, .bool _⟩
        have hq := eqA_sound hr 20 10000 xt _ _ _ (by omega) hb x' y' hx hy
        cases hx <;> cases hy <;> first
          | (exact (h1 _ _ _ _ rfl rfl).elim)
          | (exact (h2 _ _ rfl rfl).elim)
          | (simp only [binOp, Op.equal, Op.maxDepth, Sem.run_bind, hq, Result.andThen_ok, Sem.run_pure])
      · simp at e
    · simp at e

end
end Go.Xec
namespace Go.Xec

section
variable {f : Inj} {h : H} {w : World} {p : Program}

theorem fieldOf_spec {s i : Nat} {q : Field} (e : fieldOf p s i = some q) : ∃ fs, p.underlying s = some (.struct fs) ∧ fs[i]? = some q := by
  unfold fieldOf at e
  split at e
  · rename_i t ht
    split at e
    · rename_i fs hf
      exact ⟨fs, by rw [(ti_spec ht).und, hf], e⟩
    · simp at e
  · simp at e

theorem sizeA_spec {t sz : Nat} (e : sizeA p t = some sz) : ∃ i, TOk p t i ∧ i.size = sz := by
  unfold sizeA at e
  split at e
  · rename_i i hi
    simp only [Option.some.injEq] at e
    exact ⟨i, ti_spec hi, e⟩
  · simp at e

theorem run_und {t : Nat} {d : TypeDesc} (h : p.underlying t = some d) : (underlying t).run p w = .ok d w := by simp [underlying, h]

theorem fieldAddrA_sound {s i : Nat} {x : AV} {x' : Value} (hx : VR f x x') {r : AV} (e : fieldAddrA p s x i = some r) :
    ∃ v, (Instr.fieldAt s x' i).run p w = .ok v w ∧ VR f r v := by
  unfold fieldAddrA at e
  split at e
  · rename_i b o
    cases hx with | ptr _ _ B sh E hb =>
    split at e
    · simp at e
    · rename_i q hq
      obtain ⟨fs, h1, h2⟩ := fieldOf_spec hq
      split at e
      · simp at e
      · rename_i sz hsz
        obtain ⟨t, ht, hts⟩ := sizeA_spec hsz
        rw [bif_beq] at e
        split at e
        · simp at e
        · rename_i hz
          simp only [Option.some.injEq] at e; subst e
          refine ⟨.pointer (some ⟨B, sh + (o + q.offset), none⟩), ?_, .ptr _ _ _ _ _ hb⟩
          simp [Instr.fieldAt, run_und h1, h2, Instr.sureAddr, fieldPlace, ht.run_size, hts, hz, Addr.add_none, Nat.add_assoc]
  · simp at e

theorem fieldA_sound {s i : Nat} {x : AV} {x' : Value} (hx : VR f x x') {r : AV} (e : fieldA p s x i = some r) :
    ∃ v, (Instr.field s x' i).run p w = .ok v w ∧ VR f r v := by
  unfold fieldA at e
  split at e
  · cases hx with | agg _ vs hv =>
    split at e
    · simp at e
    · rename_i q hq
      obtain ⟨fs, h1, h2⟩ := fieldOf_spec hq
      split at e
      · simp at e
      · rename_i t ht
        obtain ⟨v, h3, h4⟩ := part_sound (p := p) (w := w) (ti_spec ht) hv e
        refine ⟨v, ?_, h4⟩
        simp [Instr.field, run_und h1, h2, asAgg, h3]
  · simp at e

theorem elemAddr_sound {el b o len B sh E : Nat} (hb : f b = some (B, sh, E)) {i : AV} {i' : Value} (hi : VR f i i') {r : AV} (e : elemAddr p el b o len i = some r) :
    ∃ k n, i' = .int k (Int.ofNat n) ∧ n < len ∧ ∃ q, TOk p el q ∧ VR f r (.pointer (some ⟨B, sh + o + n * q.size, none⟩)) := by
  unfold elemAddr at e
  split at e
  · rename_i k n
    cases hi
    split at e
    · rename_i sz hsz
      obtain ⟨q, hq, hqs⟩ := sizeA_spec hsz
      rw [bif_blt] at e
      split at e
      · rename_i hlt
        simp only [Option.some.injEq] at e; subst e
        refine ⟨k, n, rfl, hlt, q, hq, ?_⟩
        rw [hqs, Nat.add_assoc]
        exact .ptr _ _ _ _ _ hb
      · simp at e
    · simp at e
  · simp at e

theorem sl_addr {b o len cap op : Nat} {v : Value} (h : VR f (.sl b o len cap op) v) :
    ∃ B sh E X c, f b = some (B, sh, E) ∧ v = .slice (some ⟨B, X, none⟩) len c ∧ (len ≠ 0 → X = sh + o) ∧ len ≤ cap ∧ cap ≤ c ∧ (op = 0 → c = cap) ∧ (c = 0 ∨ X = sh + o ∧ (op = 0 ∨ X + c * op = E)) := by
  cases h with
  | sl _ _ _ _ _ B sh E X c hb hl hc h0 hx =>
    refine ⟨B, sh, E, X, c, hb, rfl, fun hn => ?_, hl, hc, h0, hx⟩
    rcases hx with h1 | ⟨h1, _⟩
    · omega
    · exact h1

theorem indexAddrA_sound {t : Nat} {x i : AV} {x' i' : Value} (hx : VR f x x') (hi : VR f i i') {r : AV} (e : indexAddrA p t x i = some r) :
    ∃ v, (Instr.indexAt t x' i').run p w = .ok v w ∧ VR f r v := by
  unfold indexAddrA at e
  split at e
  · simp at e
  · rename_i q hq
    have hu := (ti_spec hq).run_und w
    split at e
    · rename_i len el b o hund
      rw [hund] at hu
      cases hx with | ptr _ _ B sh E hb =>
      obtain ⟨k, n, rfl, hn, z, hz, hr⟩ := elemAddr_sound (p := p) hb hi e
      refine ⟨_, ?_, hr⟩
      have h1 : (0 : Int) ≤ Int.ofNat n ∧ Int.ofNat n < (len : Int) := ⟨by simp, by simpa using hn⟩
      simp only [Instr.indexAt, asIntOf, Sem.run_bind, Sem.run_pure, Result.andThen_ok, hu, Instr.sureAddr, h1, if_true, and_self, hz.run_size, Addr.add_none]
      rfl
    · rename_i el b o len c op hund
      rw [hund] at hu
      obtain ⟨B, sh, E, X, cc, hb, rfl, hX, _⟩ := sl_addr hx
      obtain ⟨k, n, rfl, hn, z, hz, hr⟩ := elemAddr_sound (p := p) hb hi e
      have hX' := hX (by omega)
      subst hX'
      refine ⟨_, ?_, hr⟩
      have h1 : (0 : Int) ≤ Int.ofNat n ∧ Int.ofNat n < (len : Int) := ⟨by simp, by simpa using hn⟩
      simp only [Instr.indexAt, asIntOf, Sem.run_bind, Sem.run_pure, Result.andThen_ok, hu, h1, if_true, and_self, hz.run_size, Addr.add_none]
      rfl
    · simp at e

theorem indexA_sound {t : Nat} {x i : AV} {x' i' : Value} (hx : VR f x x') (hi : VR f i i') {r : AV} (e : indexA p t x i = some r) :
    ∃ v, (Instr.index t x' i').run p w = .ok v w ∧ VR f r v := by
  unfold indexA at e
  split at e
  · rename_i k n
    cases hi
    split at e
    · simp at e
    · rename_i q hq
      have hu := (ti_spec hq).run_und w
      split at e
      · rename_i len el cs hund
        rw [hund] at hu
        cases hx with | agg _ vs hv =>
        split at e
        · rename_i z hz
          rw [bif_blt] at e
          split at e
          · rename_i hn
            obtain ⟨v, h3, h4⟩ := part_sound (p := p) (w := w) (ti_spec hz) hv e
            refine ⟨v, ?_, h4⟩
            have h1 : (0 : Int) ≤ Int.ofNat n ∧ Int.ofNat n < (len : Int) := ⟨by simp, by simpa using hn⟩
            have h2 : (Int.ofNat n).toNat = n := rfl
            simp only [Instr.index, asIntOf, Sem.run_bind, Sem.run_pure, Result.andThen_ok, hu, h1, if_true, and_self, (ti_spec hz).run_size, h2, h3]
          · simp at e
        · simp at e
      · rename_i s hund
        rw [hund] at hu
        cases hx with | str _ s' hs =>
        split at e
        · rename_i c hc
          simp only [Option.some.injEq] at e; subst e
          refine ⟨.int .u8 c.toNat, ?_, .int _ _⟩
          have h1 : (0 : Int) ≤ Int.ofNat n := by simp
          have h2 : (Int.ofNat n).toNat = n := rfl
          have h3 : s'[n]? = some c := by
            rw [← hs] at hc
            obtain ⟨hlt, hv⟩ := List.getElem?_eq_some_iff.1 hc
            have hlt' : n < s'.size := by simpa using hlt
            rw [getElem?_pos s' n hlt']
            congr 1
          simp only [Instr.index, asIntOf, Sem.run_bind, Sem.run_pure, Result.andThen_ok, hu, h1, if_true, h2, h3]
        · simp at e
      · simp at e
  · simp at e

/-! slices -/
inductive OVR (f : Inj) : Option AV → Option Value → Prop
  | none : OVR f none none
  | some (a : AV) (v : Value) (h : VR f a v) : OVR f (some a) (some v)

theorem bound_sound {x : Option AV} {x' : Option Value} (hx : OVR f x x') {d lim r : Nat} (e : bound x d lim = some r) (code : BoundsCode) {lim' : Nat} (hl : lim ≤ lim') :
    match x' with
    | none => r = d
    | some v => (Instr.sliceBound v lim' code).run p w = .ok r w ∧ r ≤ lim := by
  unfold bound at e
  split at e
  · cases hx; simpa using e.symm
  · rename_i k n
    cases hx with | some _ v hv =>
    cases hv
    rw [bif_ble] at e
    split at e
    · rename_i hn
      simp only [Option.some.injEq] at e; subst e
      have h1 : (0 : Int) ≤ Int.ofNat n ∧ Int.ofNat n ≤ (lim' : Int) := ⟨by simp, by simp; omega⟩
      refine ⟨?_, hn⟩
      simp only [Instr.sliceBound, asIntOf, Sem.run_bind, Sem.run_pure, Result.andThen_ok, h1, if_true, and_self]
      rfl
    · simp at e
  · simp at e

theorem bounds_sound {len cap c : Nat} {lo hi mx : Option AV} {lo' hi' mx' : Option Value} (hlo : OVR f lo lo') (hhi : OVR f hi hi') (hmx : OVR f mx mx') {l h' m : Nat}
    (e : bounds len cap lo hi mx = some (l, h', m)) (isS : Bool) (hc : cap ≤ c) :
    (Instr.sliceBounds isS len c lo' hi' mx').run p w = .ok (l, h', if mx'.isSome then m else c) w ∧ (mx' = none → m = cap) ∧ (hi' = none → h' = len) ∧ m ≤ cap ∧ (hi'.isSome → h' ≤ m) ∧ (lo'.isSome → l ≤ h') ∧ (lo' = none → l = 0) := by
  unfold bounds at e
  split at e
  · simp at e
  · rename_i hne
    split at e
    · simp at e
    · rename_i m' hm
      split at e
      · simp at e
      · rename_i h2 hh
        split at e
        · simp at e
        · rename_i l2 hl
          simp only [Option.some.injEq, Prod.mk.injEq] at e
          obtain ⟨rfl, rfl, rfl⟩ := e
          cases hmx with
          | none =>
            have e1 := bound_sound (p := p) (w := w) (OVR.none : OVR f none none) hm .slice3Acap (lim' := c) hc
            simp only at e1; subst e1
            cases hhi with
            | none =>
              have e2 := bound_sound (p := p) (w := w) (OVR.none : OVR f none none) hh .slice3Acap (lim' := c) hc
              simp only at e2; subst e2
              cases hlo with
              | none =>
                have e3 := bound_sound (p := p) (w := w) (OVR.none : OVR f none none) hl .slice3Acap (lim' := h2) (Nat.le_refl _)
                simp only at e3; subst e3
                simp [Instr.sliceBounds]
              | some a v hv =>
                have e3 := bound_sound (p := p) (w := w) (OVR.some a v hv) hl .sliceB (lim' := h2) (Nat.le_refl _)
                simp only at e3
                simp [Instr.sliceBounds, e3.1, e3.2]
            | some a v hv =>
              have e2 := bound_sound (p := p) (w := w) (OVR.some a v hv) hh (if isS then .sliceAcap else .sliceAlen) (lim' := c) hc
              simp only at e2
              cases hlo with
              | none =>
                have e3 := bound_sound (p := p) (w := w) (OVR.none : OVR f none none) hl .slice3Acap (lim' := h2) (Nat.le_refl _)
                simp only at e3; subst e3
                simp [Instr.sliceBounds, e2.1, e2.2]
              | some a v hv =>
                have e3 := bound_sound (p := p) (w := w) (OVR.some a v hv) hl .sliceB (lim' := h2) (Nat.le_refl _)
                simp only at e3
                simp [Instr.sliceBounds, e2.1, e3.1, e3.2, e2.2]
          | some a v hv =>
            have e1 := bound_sound (p := p) (w := w) (OVR.some a v hv) hm (if isS then .slice3Acap else .slice3Alen) (lim' := c) hc
            simp only at e1
            cases hhi with
            | none => exact (hne _ rfl rfl).elim
            | some a2 v2 hv2 =>
              have e2 := bound_sound (p := p) (w := w) (OVR.some a2 v2 hv2) hh .slice3B (lim' := m') (Nat.le_refl _)
              simp only at e2
              cases hlo with
              | none =>
                have e3 := bound_sound (p := p) (w := w) (OVR.none : OVR f none none) hl .slice3Acap (lim' := h2) (Nat.le_refl _)
                simp only at e3; subst e3
                simp [Instr.sliceBounds, e1.1, e2.1, e1.2, e2.2]
              | some a3 v3 hv3 =>
                have e3 := bound_sound (p := p) (w := w) (OVR.some a3 v3 hv3) hl .slice3C (lim' := h2) (Nat.le_refl _)
                simp only at e3
                simp [Instr.sliceBounds, e1.1, e2.1, e3.1, e1.2, e2.2, e3.2]

end
end Go.Xec
namespace Go.Xec

section
variable {f : Inj} {h : H} {w : World} {p : Program}

theorem add_opt (B X n : Nat) : (some (⟨B, X, none⟩ : Addr)).map (·.add n) = some ⟨B, X + n, none⟩ := by simp [Addr.add_none]

theorem bounds_le {len cap c : Nat} {lo hi mx : Option AV} {lo' hi' mx' : Option Value} (hlo : OVR f lo lo') (hhi : OVR f hi hi') (hmx : OVR f mx mx') {l h' m : Nat}
    (e : bounds len cap lo hi mx = some (l, h', m)) (isS : Bool) (hlc : len ≤ cap) (hc : cap ≤ c) :
    (Instr.sliceBounds isS len c lo' hi' mx').run p w = .ok (l, h', if mx'.isSome then m else c) w ∧ (mx' = none → m = cap) ∧ m ≤ cap ∧ l ≤ h' ∧ h' ≤ m := by
  obtain ⟨h1, h2, h3, h4, h5, h6, h7⟩ := bounds_sound (p := p) (w := w) hlo hhi hmx e isS hc
  have hl : l ≤ h' := by
    cases hlo with
    | none => rw [h7 rfl]; exact Nat.zero_le _
    | some a v hv => exact h6 rfl
  have hm : h' ≤ m := by
    cases hhi with
    | none =>
      cases hmx with
      | none => rw [h3 rfl, h2 rfl]; exact hlc
      | some a v hv => exact absurd e (by simp [bounds])
    | some a v hv => exact h5 rfl
  exact ⟨h1, h2, h4, hl, hm⟩

theorem sliceSl_sound {el b o len cap op B sh E X c : Nat} (hb : f b = some (B, sh, E)) (hl : len ≤ cap) (hc : cap ≤ c) (h0 : op = 0 → c = cap) (hx : c = 0 ∨ X = sh + o ∧ (op = 0 ∨ X + c * op = E))
    {lo hi mx : Option AV} {lo' hi' mx' : Option Value} (hlo : OVR f lo lo') (hhi : OVR f hi hi') (hmx : OVR f mx mx') {r : AV} (e : sliceSl p el b o len cap op lo hi mx = some r) (isS : Bool) :
    ∃ q l h' m, TOk p el q ∧ (Instr.sliceBounds isS len c lo' hi' mx').run p w = .ok (l, h', m) w ∧ VR f r (.slice (some (if m = l then ⟨B, X, none⟩ else ⟨B, X + l * q.size, none⟩)) (h' - l) (m - l)) := by
  unfold sliceSl at e
  split at e
  · simp at e
  · rename_i sz hsz
    obtain ⟨q, hq, rfl⟩ := sizeA_spec hsz
    split at e
    · simp at e
    · rename_i l h' m hbo
      obtain ⟨h1, h2, h3, h4, h5⟩ := bounds_le (p := p) (w := w) hlo hhi hmx hbo isS hl hc
      refine ⟨q, l, h', _, hq, h1, ?_⟩
      have closed : ∀ m', m' = m → VR f (.sl b (bif Nat.beq m l then o else o + l * q.size) (h' - l) (m - l) 0) (.slice (some (if m' = l then ⟨B, X, none⟩ else ⟨B, X + l * q.size, none⟩)) (h' - l) (m' - l)) := by
        intro m' hm'
        subst hm'
        rw [bif_beq]
        by_cases hml : m' = l
        · subst hml
          simp only [if_true]
          exact .sl _ _ _ _ _ _ _ _ _ _ hb (by omega) (Nat.le_refl _) (fun _ => rfl) (.inl (by omega))
        · simp only [hml, if_false]
          have hX : X = sh + o := by
            rcases hx with a1 | ⟨a1, _⟩
            · omega
            · exact a1
          exact .sl _ _ _ _ _ _ _ _ _ _ hb (by omega) (Nat.le_refl _) (fun _ => rfl) (.inr ⟨by omega, .inl rfl⟩)
      split at e
      · simp only [Option.some.injEq] at e; subst e
        apply closed
        cases hmx with
        | none => simpa using (h0 rfl).trans (h2 rfl).symm
        | some a v hv => rfl
      · simp only [Option.some.injEq] at e; subst e
        cases hmx with | some _ v hv =>
        exact closed _ rfl
      · rename_i hop
        cases hmx
        rw [bif_beq] at e
        split at e
        · rename_i hsz2
          simp only [Option.some.injEq] at e; subst e
          have hm := h2 rfl
          subst hm
          simp only [Option.isSome_none, Bool.false_eq_true, if_false]
          by_cases hcl : c = l
          · subst hcl
            simp only [if_true]
            exact .sl _ _ _ _ _ _ _ _ _ _ hb (by omega) (by omega) (fun h => by omega) (.inl (by omega))
          · simp only [hcl, if_false]
            obtain ⟨hX, hE⟩ : X = sh + o ∧ X + c * op = E := by
              rcases hx with a1 | ⟨a1, a2 | a2⟩
              · omega
              · exact (hop a2).elim
              · exact ⟨a1, a2⟩
            refine .sl _ _ _ _ _ _ _ _ _ _ hb (by omega) (by omega) (fun h => (hop h).elim) (.inr ⟨by omega, .inr ?_⟩)
            rw [← hsz2, ← hE]
            have : c * op = l * op + (c - l) * op := by rw [← Nat.add_mul]; congr 1; omega
            omega
        · simp at e

theorem sliceA_sound {t : Nat} {x : AV} {x' : Value} (hx : VR f x x') {lo hi mx : Option AV} {lo' hi' mx' : Option Value} (hlo : OVR f lo lo') (hhi : OVR f hi hi') (hmx : OVR f mx mx') {r : AV}
    (e : sliceA p t x lo hi mx = some r) : ∃ v, (Instr.sliceAt t x' lo' hi' mx').run p w = .ok v w ∧ VR f r v := by
  unfold sliceA at e
  split at e
  · simp at e
  · rename_i q hq
    have hu := (ti_spec hq).run_und w
    split at e
    · rename_i s hund
      rw [hund] at hu
      cases hx with | str _ s' hs =>
      split at e
      · simp at e
      · cases hmx
        split at e
        · simp at e
        · rename_i l h' m hbo
          simp only [Option.some.injEq] at e; subst e
          have hl : s.length = s'.size := by rw [← hs]; rfl
          obtain ⟨h1, h2, h3, h4, h5⟩ := bounds_le (p := p) (w := w) hlo hhi OVR.none hbo false (Nat.le_refl _) (Nat.le_refl _)
          rw [hl] at h1
          refine ⟨.string (s'.extract l h'), ?_, .str _ _ ?_⟩
          · simp [Instr.sliceAt, Instr.slice, hu, h1]
          · have : (s'.extract l h').data = s'.data.extract l h' := ByteArray.data_extract
            rw [this, Array.toList_extract, hs]
    · rename_i el b o len cap op hund
      rw [hund] at hu
      obtain ⟨B, sh, E, X, c, hb, rfl, _, hl, hcc, h0, hx2⟩ := sl_addr hx
      obtain ⟨q2, l, h', m, hq2, h1, hr⟩ := sliceSl_sound (p := p) (w := w) hb hl hcc h0 hx2 hlo hhi hmx e true
      refine ⟨_, ?_, hr⟩
      simp only [Instr.sliceAt, Instr.slice, Sem.run_bind, hu, Result.andThen_ok, h1, hq2.run_size, Sem.run_pure, add_opt]
      split <;> rfl
    · rename_i el hund
      rw [hund] at hu
      cases hx
      split at e
      · simp at e
      · rename_i sz hsz
        obtain ⟨q2, hq2, _⟩ := sizeA_spec hsz
        split at e
        · simp at e
        · rename_i y hbo
          obtain ⟨l, h', m⟩ := y
          simp only [Option.some.injEq] at e; subst e
          obtain ⟨h1, h2, h3, h4, h5⟩ := bounds_le (p := p) (w := w) hlo hhi hmx hbo true (Nat.le_refl _) (Nat.le_refl _)
          have hm : m = 0 := by omega
          have hl : l = 0 := by omega
          have hh : h' = 0 := by omega
          subst hm hl hh
          refine ⟨.slice none 0 0, ?_, .nils⟩
          have h1' : (Instr.sliceBounds true 0 0 lo' hi' mx').run p w = .ok (0, 0, 0) w := by rw [h1]; simp
          simp only [Instr.sliceAt, Instr.slice, Sem.run_bind, hu, Result.andThen_ok, h1', hq2.run_size, Sem.run_pure, if_true]
    · rename_i n el b o hund
      rw [hund] at hu
      cases hx with | ptr _ _ B sh E hb =>
      obtain ⟨q2, l, h', m, hq2, h1, hr⟩ := sliceSl_sound (p := p) (w := w) (X := sh + o) (c := n) hb (Nat.le_refl _) (Nat.le_refl _) (fun _ => rfl) (.inr ⟨rfl, .inl rfl⟩) hlo hhi hmx e false
      refine ⟨_, ?_, hr⟩
      simp only [Instr.sliceAt, Sem.run_bind, hu, Result.andThen_ok, h1, hq2.run_size, Sem.run_pure, Instr.sureAddr, Addr.add_none]
    · simp at e

/-! struct literals -/
theorem placesA_sound : ∀ (fs : List Field) (pl : List (Nat × Nat)), placesA p fs = some pl → (fs.mapM fun q => do pure (q.offset, ← sizeOf q.type) : Sem (List (Nat × Nat))).run p w = .ok pl w
  | [], pl, e => by simp [placesA] at e; subst e; rfl
  | q :: fs, pl, e => by
    unfold placesA at e
    split at e
    · simp at e
    · rename_i s hs
      obtain ⟨i, hi, rfl⟩ := sizeA_spec hs
      split at e
      · simp at e
      · rename_i r hr
        simp only [Option.some.injEq] at e; subst e
        have ih := placesA_sound fs r hr
        rw [List.mapM_cons]
        simp only [Sem.run_bind, hi.run_size, Result.andThen_ok, Sem.run_pure, ih]

theorem putAt_length {α : Type} : ∀ (cs : List α) (o : Nat) (ys : List α), o + ys.length ≤ cs.length → (putAt cs o ys).length = cs.length
  | cs, 0, [], _ => by simp [putAt]
  | _ :: cs, 0, y :: ys, h => by simp [putAt]; exact putAt_length cs 0 ys (by simp at h ⊢; omega)
  | c :: cs, n + 1, ys, h => by simp [putAt]; exact putAt_length cs n ys (by simp at h ⊢; omega)
  | [], 0, y :: ys, h => by simp at h
  | [], n + 1, ys, h => by simp at h

theorem putAt_eq {α : Type} : ∀ (cs : List α) (o : Nat) (ys : List α), o + ys.length ≤ cs.length → putAt cs o ys = cs.take o ++ ys ++ cs.drop (o + ys.length)
  | cs, 0, [], _ => by simp [putAt]
  | _ :: cs, 0, y :: ys, h => by
    have := putAt_eq cs 0 ys (by simp at h ⊢; omega)
    simp only [List.take_zero, List.nil_append, Nat.zero_add] at this
    simp [putAt, this]
  | c :: cs, n + 1, ys, h => by
    have := putAt_eq cs n ys (by simp at h ⊢; omega)
    simp [putAt, this, Nat.add_right_comm n 1 ys.length]
  | [], 0, y :: ys, h => by simp at h
  | [], n + 1, ys, h => by simp at h

theorem VRs.putAt : ∀ {cs : List AV} {vs : List Value} (o : Nat) {ys : List AV} {us : List Value}, VRs f cs vs → VRs f ys us → o + ys.length ≤ cs.length → VRs f (putAt cs o ys) (vs.take o ++ us ++ vs.drop (o + us.length)) := by
  intro cs vs o ys us h h' hl
  rw [putAt_eq cs o ys hl, ← h'.length]
  exact ((h.take o).append h').append (h.drop _)

theorem foldl_set (us : List Value) : ∀ (k off : Nat) (c : Array Value), off + k + us.length ≤ c.size →
    ((us.zipIdx k).foldl (fun cs (q : Value × Nat) => cs.setIfInBounds (off + q.2) q.1) c).toList = c.toList.take (off + k) ++ us ++ c.toList.drop (off + k + us.length) := by
  induction us with
  | nil => intro k off c _; simp
  | cons u us ih =>
    intro k off c hl
    simp only [List.length_cons] at hl
    rw [List.zipIdx_cons, List.foldl_cons, ih (k + 1) off _ (by simp; omega)]
    simp only [Array.toList_setIfInBounds, List.length_cons]
    rw [← Nat.add_assoc off k 1]
    have e := list_seg_step c.toList (off + k) u us (by simp; omega)
    simpa [Nat.add_assoc, Nat.add_comm, Nat.add_left_comm] using e

theorem fill_sound {pl : Nat → Option (Nat × Nat)} : ∀ (parts : List (Nat × AV)) (parts' : List (Nat × Value)) (cs : List AV) (vs : List Value) (r : List AV),
    (List.map (·.1) parts = List.map (·.1) parts') → VRs f (parts.map (·.2)) (parts'.map (·.2)) → VRs f cs vs → fillA pl cs parts = some r →
    ∃ vs', Instr.fill pl vs.toArray parts' = some vs'.toArray ∧ VRs f r vs' := by
  intro parts
  induction parts with
  | nil =>
    intro parts' cs vs r hk hv hc e
    cases parts' with
    | nil => simp [fillA] at e; subst e; exact ⟨vs, rfl, hc⟩
    | cons _ _ => simp at hk
  | cons q parts ih =>
    intro parts' cs vs r hk hv hc e
    obtain ⟨i, a⟩ := q
    cases parts' with
    | nil => simp at hk
    | cons q' parts' =>
      obtain ⟨i', v⟩ := q'
      simp only [List.map_cons, List.cons.injEq] at hk
      obtain ⟨rfl, hk⟩ := hk
      simp only [List.map_cons] at hv
      cases hv with | cons _ _ _ _ ha hv =>
      unfold fillA at e
      split at e
      · simp at e
      · rename_i off size hp
        rw [cond_eq_ite] at e
        split at e
        · rename_i hcond
          simp only [Bool.and_eq_true, beq_iff, Nat.ble_eq] at hcond
          obtain ⟨h1, h2⟩ := hcond
          have hcl := ha.cells
          have hlen : v.cells.size = size := by rw [← h1, hcl.length]; simp
          have hvs : vs.length = cs.length := hc.length.symm
          have hput := VRs.putAt off hc hcl (by rw [h1]; exact h2)
          obtain ⟨vs', h3, h4⟩ := ih parts' _ _ r hk hv hput e
          refine ⟨vs', ?_, h4⟩
          simp only [Instr.fill, hp]
          rw [if_neg]
          · rw [← h3]
            congr 1
            apply Array.toList_inj.1
            have hfs := foldl_set v.cells.toList 0 off vs.toArray (by simp; rw [hlen]; omega)
            rw [← Array.foldl_toList, Array.toList_zipIdx]
            simpa using hfs
          · simp [hlen]; omega
        · simp at e

end
end Go.Xec
namespace Go.Xec

section
variable {f : Inj} {h : H} {w : World} {p : Program}

theorem buildA_sound {t : Nat} {parts : List (Nat × AV)} {parts' : Array (Nat × Value)} (hk : parts.map (·.1) = parts'.toList.map (·.1)) (hv : VRs f (parts.map (·.2)) (parts'.toList.map (·.2))) {r : AV}
    (e : buildA p t parts = some r) : ∃ v, (Instr.build t parts').run p w = .ok v w ∧ VR f r v := by
  unfold buildA at e
  split at e
  · simp at e
  · rename_i i hi
    have ht := ti_spec hi
    have hu := ht.run_und w
    obtain ⟨z, hz, hzr⟩ := ht.run_zero w
    have hzc := (hzr f).cells
    split at e
    · rename_i fields hund
      rw [hund] at hu
      split at e
      · simp at e
      · rename_i pl hpl
        split at e
        · rename_i l hl
          simp only [Option.some.injEq] at e; subst e
          obtain ⟨vs', h1, h2⟩ := fill_sound parts parts'.toList _ _ _ hk hv hzc hl
          refine ⟨.agg vs'.toArray, ?_, .agg _ _ h2⟩
          have hp := placesA_sound (p := p) (w := w) _ _ hpl
          simp only [Instr.build, Sem.run_bind, hz, Result.andThen_ok, hu, Array.mapM_eq_mapM_toList, Sem.run_map, hp]
          have h1' : Instr.fill (fun x => pl.toArray[x]?) z.cells parts'.toList = some vs'.toArray := by simpa using h1
          rw [h1']
          rfl
        · simp at e
    · rename_i n el hund
      rw [hund] at hu
      split at e
      · simp at e
      · rename_i s hs
        obtain ⟨q, hq, rfl⟩ := sizeA_spec hs
        split at e
        · rename_i l hl
          simp only [Option.some.injEq] at e; subst e
          obtain ⟨vs', h1, h2⟩ := fill_sound parts parts'.toList _ _ _ hk hv hzc hl
          refine ⟨.agg vs'.toArray, ?_, .agg _ _ h2⟩
          simp only [Instr.build, Sem.run_bind, hz, Result.andThen_ok, hu, hq.run_size]
          have h1' : Instr.fill (fun i => some (i * q.size, q.size)) z.cells parts'.toList = some vs'.toArray := by simpa using h1
          rw [h1']
          rfl
        · simp at e
    · simp at e

/-! maps -/
theorem MR.length {a : List (AV × AV × Nat)} {b : List MapEntry} (h : MR f a b) : a.length = b.length := by
  induction h with
  | nil => rfl
  | cons _ _ _ _ _ _ _ _ _ _ ih => simp [ih]

theorem findNow_spec {d : TypeDesc} {k : Value} : ∀ (es : List MapEntry) (i : Nat) (r : Option (Nat × Value)), Instr.findNow d k es i = some r →
    ∀ (kt : TypeId), p.underlying kt = some d → (Instr.findAsking kt k es i).run p w = .ok r w
  | [], i, r, e, kt, _ => by simp [Instr.findNow] at e; subst e; rfl
  | x :: es, i, r, e, kt, hu => by
    have hru := run_und (p := p) (w := w) hu
    unfold Instr.findNow at e
    have heq : ∀ b, Instr.sameNow d k x.key = some b → (Op.equal kt k x.key).run p w = .ok b w := by
      intro b hb
      unfold Instr.sameNow at hb
      split at hb
      · split at hb
        · rename_i hk
          simp only [Option.some.injEq] at hb; subst hb
          rename_i hx
          rw [hx, hk]
          exact run_equalIn_int w 9999 kt _ _ _ _ hu
        · simp at hb
      · rename_i hx
        simp only [Option.some.injEq] at hb; subst hb
        rw [hx, beq_toListBytes]
        exact run_equalIn_string w 9999 kt _ _ hu
      · rename_i hx
        simp only [Option.some.injEq] at hb; subst hb
        rw [hx]
        exact run_equalIn_bool' w 9999 kt _ _ hu
      · simp at hb
    unfold Instr.findAsking
    split at e
    · rename_i hs
      simp only [Option.some.injEq] at e; subst e
      simp only [Sem.run_bind, heq _ hs, Result.andThen_ok, if_true, Sem.run_pure]
    · rename_i hs
      simp only [Sem.run_bind, heq _ hs, Result.andThen_ok, Bool.false_eq_true, if_false]
      exact findNow_spec es (i + 1) r e kt hu
    · simp at e

theorem findAsking_sound (hr : HR f h w) {kt : TypeId} {k : AV} {k' : Value} (hk : VR f k k') : ∀ {es : List (AV × AV × Nat)} {es' : List MapEntry}, MR f es es' → ∀ (i : Nat) (r : Option (Nat × AV)), findA p h kt k es i = some r →
    ∃ r', (Instr.findAsking kt k' es' i).run p w = .ok r' w ∧ (match r, r' with | none, none => True | some (a, v), some (a', v') => a' = a ∧ VR f v v' ∧ i ≤ a ∧ ∃ e e', es[a - i]? = some e ∧ es'[a - i]? = some e' ∧ eqA p h 20 kt k e.1 = some true ∧ VR f e.1 e'.key | _, _ => False)
  | _, _, .nil, i, r, e => by simp [findA] at e; subst e; exact ⟨none, rfl, trivial⟩
  | _, _, .cons a v n x es es' ha hv hn hs, i, r, e => by
    unfold findA at e
    unfold Instr.findAsking
    simp only at e
    split at e
    · rename_i hq
      simp only [Option.some.injEq] at e; subst e
      have := eqA_sound hr 20 10000 kt _ _ _ (by omega) hq k' x.key hk ha
      refine ⟨some (i, x.val), by simp only [Sem.run_bind, Op.equal, Op.maxDepth, this, Result.andThen_ok, if_true, Sem.run_pure], rfl, hv, Nat.le_refl _, (a, v, n), x, by simp, by simp, hq, ha⟩
    · rename_i hq
      have h1 := eqA_sound hr 20 10000 kt _ _ _ (by omega) hq k' x.key hk ha
      obtain ⟨r', h2, h3⟩ := findAsking_sound hr hk hs (i + 1) r e
      refine ⟨r', by simp only [Sem.run_bind, Op.equal, Op.maxDepth, h1, Result.andThen_ok, Bool.false_eq_true, if_false, h2], ?_⟩
      cases r with
      | none => cases r' with
        | none => trivial
        | some _ => exact h3
      | some y => cases r' with
        | none => exact h3
        | some y' =>
          obtain ⟨a1, a2, a3, q, q', a4, a5, a6, a7⟩ := h3
          refine ⟨a1, a2, by omega, q, q', ?_, ?_, a6, a7⟩
          · rw [show y.1 - i = (y.1 - (i + 1)) + 1 by omega]; simpa using a4
          · rw [show y.1 - i = (y.1 - (i + 1)) + 1 by omega]; simpa using a5
    · simp at e

theorem findKey_sound (hr : HR f h w) {kt : TypeId} {d : TypeDesc} (hu : p.underlying kt = some d) {k : AV} {k' : Value} (hk : VR f k k') {es : List (AV × AV × Nat)} {es' : List MapEntry} (hm : MR f es es') {r : Option (Nat × AV)} (e : findA p h kt k es 0 = some r) :
    ∃ r', (Instr.findKey kt k' es').run p w = .ok r' w ∧ (match r, r' with | none, none => True | some (a, v), some (a', v') => a' = a ∧ VR f v v' ∧ ∃ q q', es[a]? = some q ∧ es'[a]? = some q' ∧ eqA p h 20 kt k q.1 = some true ∧ VR f q.1 q'.key | _, _ => False) := by
  obtain ⟨r', h1, h2⟩ := findAsking_sound hr hk hm 0 r e
  refine ⟨r', ?_, ?_⟩
  · simp only [Instr.findKey, Sem.run_bind, run_und hu, Result.andThen_ok]
    split
    · rename_i y hy
      have h3 := findNow_spec (p := p) (w := w) es' 0 y hy kt hu
      rw [h1] at h3
      simp only [Result.ok.injEq] at h3
      rw [h3.1]
      rfl
    · exact h1
  · cases r with
    | none => cases r' with
      | none => trivial
      | some _ => exact h2
    | some y => cases r' with
      | none => exact h2
      | some y' =>
        obtain ⟨a1, a2, _, q, q', a4, a5, a6, a7⟩ := h2
        exact ⟨a1, a2, q, q', by simpa using a4, by simpa using a5, a6, a7⟩

end
end Go.Xec
namespace Go.Xec

section
variable {f : Inj} {h : H} {w : World} {p : Program}

theorem keyFields_sound {chk : Nat → AV → Bool} {D : Nat} {b : Bool} (ih : ∀ t x, chk t x = true → ∀ x', VR f x x' → (Instr.checkKey b D t x').run p w = .ok () w)
    {cs : List AV} {cs' : List Value} (hc : VRs f cs cs') : ∀ fs : List Field, keyFields p chk cs fs = true →
    (forIn (m := Sem) fs PUnit.unit fun q _ => do
      if q.name ≠ "_" then do
        let x ← Go.part q.type cs'.toArray q.offset
        Instr.checkKey b D q.type x
        pure (.yield PUnit.unit)
      else pure (.yield PUnit.unit)).run p w = .ok PUnit.unit w
  | [], _ => rfl
  | q :: fs, e => by
    unfold keyFields at e
    rw [List.forIn_cons]
    by_cases hn : q.name = "_"
    · simp only [hn, decide_true, cond_true] at e
      simp only [hn, ne_eq, not_true_eq_false, if_false, Sem.run_bind, Sem.run_pure, Result.andThen_ok]
      exact keyFields_sound ih hc fs e
    · simp only [hn, decide_false, cond_false] at e
      split at e
      · simp at e
      · rename_i i hi
        split at e
        · simp at e
        · rename_i x hx
          obtain ⟨v, h1, h2⟩ := part_sound (p := p) (w := w) (ti_spec hi) hc hx
          rw [cond_eq_ite] at e
          split at e
          · rename_i hck
            simp only [hn, ne_eq, not_false_eq_true, if_true, Sem.run_bind, h1, Result.andThen_ok, ih _ _ hck _ h2, Sem.run_pure]
            exact keyFields_sound ih hc fs e
          · simp at e

theorem keyElems_sound {chk : Nat → AV → Bool} {D el : Nat} {b : Bool} {i : TI} (ht : TOk p el i) (ih : ∀ t x, chk t x = true → ∀ x', VR f x x' → (Instr.checkKey b D t x').run p w = .ok () w)
    {cs : List AV} {cs' : List Value} (hc : VRs f cs cs') : ∀ n k : Nat, keyElems chk el i cs n k = true →
    (forIn (m := Sem) (List.range' k n 1) PUnit.unit fun j _ => do
        let s ← sizeOf el
        let x ← Go.part el cs'.toArray (j * s)
        Instr.checkKey b D el x
        pure (.yield PUnit.unit)).run p w = .ok PUnit.unit w
  | 0, k, _ => rfl
  | n + 1, k, e => by
    unfold keyElems at e
    rw [List.range'_succ, List.forIn_cons]
    split at e
    · simp at e
    · rename_i x hx
      obtain ⟨v, h1, h2⟩ := part_sound (p := p) (w := w) ht hc hx
      rw [cond_eq_ite] at e
      split at e
      · rename_i hck
        simp only [Sem.run_bind, ht.run_size, h1, Result.andThen_ok, ih _ _ hck _ h2, Sem.run_pure]
        exact keyElems_sound ht ih hc n (k + 1) e
      · simp at e

theorem keyOk_sound (b : Bool) : ∀ (d D t : Nat) (k : AV), d ≤ D → keyOk p d t k = true → ∀ k', VR f k k' → (Instr.checkKey b D t k').run p w = .ok () w := by
  intro d
  induction d with
  | zero => intro D t k _ e; simp [keyOk] at e
  | succ d ih =>
    intro D t k hD e k' hk
    obtain ⟨D, rfl⟩ : ∃ E, D = E + 1 := ⟨D - 1, by omega⟩
    have ih' : ∀ t x, keyOk p d t x = true → ∀ x', VR f x x' → (Instr.checkKey b D t x').run p w = .ok () w := fun t x e x' => ih D t x (by omega) e x'
    unfold keyOk at e
    split at e
    · simp at e
    · rename_i i hi
      have hu := (ti_spec hi).run_und w
      split at e
      · rename_i hund; rw [hund] at hu; simp only [Instr.checkKey, Sem.run_bind, hu, Result.andThen_ok]; rfl
      · rename_i hund; rw [hund] at hu; simp only [Instr.checkKey, Sem.run_bind, hu, Result.andThen_ok]; rfl
      · rename_i hund; rw [hund] at hu; simp only [Instr.checkKey, Sem.run_bind, hu, Result.andThen_ok]; rfl
      · rename_i hund; rw [hund] at hu; simp only [Instr.checkKey, Sem.run_bind, hu, Result.andThen_ok]; rfl
      · rename_i n el cs hund
        rw [hund] at hu
        split at e
        · rename_i q hq
          cases hk with | agg _ cs' hcs =>
          have := keyElems_sound (p := p) (w := w) (ti_spec hq) ih' hcs n 0 e
          simp only [Instr.checkKey, Sem.run_bind, hu, Result.andThen_ok, Std.Legacy.Range.forIn_eq_forIn_range', Std.Legacy.Range.size, Nat.sub_zero, Nat.add_sub_cancel, Nat.div_one]
          rw [this]
          rfl
        · simp at e
      · rename_i fs cs hund
        rw [hund] at hu
        cases hk with | agg _ cs' hcs =>
        have := keyFields_sound (p := p) (w := w) ih' hcs fs.toList e
        simp only [Instr.checkKey, Sem.run_bind, hu, Result.andThen_ok]
        rw [← Array.forIn_toList]
        rw [this]
        rfl
      · simp at e

theorem entries_sound (hr : HR f h w) {m : AV} {m' : Value} (hm : VR f m m') {es : List (AV × AV × Nat)} (e : entriesOf h m = some es) :
    (m' = .map none ∧ es = []) ∨ ∃ r es' clock, m' = .map (some r) ∧ w.heap[r]? = some (.map es' clock) ∧ MR f es es'.toList := by
  unfold entriesOf at e
  split at e
  · cases hm
    simp only [Option.some.injEq] at e
    exact .inl ⟨rfl, e.symm⟩
  · cases hm with | map b B sh E hb =>
    split at e
    · rename_i es2 clock hk
      simp only [Option.some.injEq] at e; subst e
      obtain ⟨_, blk, o, h1, h2, h3⟩ := hr.dom _ _ hb
      rw [hk] at h1
      simp only [Option.some.injEq] at h1; subst h1
      cases o <;> simp only [BR] at h3
      obtain ⟨rfl, h4⟩ := h3
      exact .inr ⟨B, _, _, rfl, h2, h4⟩
    · simp at e
  · simp at e

theorem run_getObj_map {r : Nat} {es : Array MapEntry} {c : Nat} (hk : w.heap[r]? = some (.map es c)) : (getObj r).run p w = .ok (.map es c) w := by
  simp [getObj, Sem.run, hk]

theorem lookupA_sound (hr : HR f h w) {t : Nat} {m k : AV} {m' k' : Value} (hm : VR f m m') (hk : VR f k k') {ok : Bool} {r : AV} (e : lookupA p h t m k ok = some r) :
    ∃ v, (Instr.lookup t m' k' ok).run p w = .ok v w ∧ VR f r v := by
  unfold lookupA at e
  split at e
  · simp at e
  · rename_i q hq
    have hu := (ti_spec hq).run_und w
    split at e
    · rename_i kt et hund
      rw [hund] at hu
      split at e
      · rename_i i es hko hte hes
        have hkey := fun b => keyOk_sound (p := p) (f := f) (w := w) b 10 10000 kt k (by omega) hko k' hk
        have hkt : ∃ d, p.underlying kt = some d := by
          unfold keyOk at hko
          split at hko
          · simp at hko
          · rename_i j hj; exact ⟨_, (ti_spec hj).und⟩
        obtain ⟨d, hd⟩ := hkt
        obtain ⟨z, hz, hzr⟩ := (ti_spec hte).run_zero w
        have fin : ∀ (es' : Array MapEntry), MR f es es'.toList → ∃ v, ((do
            Instr.checkKey es'.isEmpty 10000 kt k'
            let (v, okk) ← match ← Instr.findKey kt k' es'.toList with
              | some (_, v) => pure (v, true)
              | none => pure (← zeroValue et, false)
            pure (if ok then .tuple #[v, .bool okk] else v) : Sem Value)).run p w = .ok v w ∧ VR f r v := by
          intro es' hMR
          split at e
          · simp at e
          · rename_i i2 v hf
            simp only [Option.some.injEq] at e; subst e
            obtain ⟨r', h1, h2⟩ := findKey_sound (p := p) hr hd hk hMR hf
            cases r' with
            | none => exact h2.elim
            | some y =>
              obtain ⟨y1, y2⟩ := y
              obtain ⟨_, hv, _⟩ := h2
              simp only [Sem.run_bind, hkey, Result.andThen_ok, h1, Sem.run_pure]
              cases ok
              · exact ⟨y2, rfl, hv⟩
              · exact ⟨.tuple #[y2, .bool true], rfl, .tup _ [y2, .bool true] (.cons _ _ _ _ hv (.one (.bool _)))⟩
          · rename_i hf
            simp only [Option.some.injEq] at e; subst e
            obtain ⟨r', h1, h2⟩ := findKey_sound (p := p) hr hd hk hMR hf
            cases r' with
            | some y => exact h2.elim
            | none =>
              simp only [Sem.run_bind, hkey, Result.andThen_ok, h1, hz, Sem.run_pure]
              cases ok
              · exact ⟨z, rfl, hzr f⟩
              · exact ⟨.tuple #[z, .bool false], rfl, .tup _ [z, .bool false] (.cons _ _ _ _ (hzr f) (.one (.bool _)))⟩
        rcases entries_sound hr hm hes with ⟨rfl, rfl⟩ | ⟨r2, es', clock, rfl, hh, hMR⟩
        · obtain ⟨v, h1, h2⟩ := fin #[] .nil
          refine ⟨v, ?_, h2⟩
          simp only [Instr.lookup, Sem.run_bind, hu, Result.andThen_ok, Sem.run_pure] at h1 ⊢
          exact h1
        · obtain ⟨v, h1, h2⟩ := fin es' hMR
          refine ⟨v, ?_, h2⟩
          simp only [Instr.lookup, Sem.run_bind, hu, Result.andThen_ok, Sem.run_pure, run_getObj_map hh] at h1 ⊢
          exact h1
      · simp at e
    · simp at e

/-! conversions -/
theorem bytes_loop : ∀ (l : List AV) (vs : List Value) (s : ByteArray) (r : List UInt8), VRs f l vs → bytesOf l = some r →
    ∃ s' : ByteArray, (forIn (m := Sem) vs s fun c s => match c with
      | .int .u8 n => pure (.yield (s.push (UInt8.ofNat n.toNat)))
      | _ => do
        stuck "bytesToString: byte expected"
        pure (.yield s)).run p w = .ok s' w ∧ s'.data.toList = s.data.toList ++ r
  | [], _, s, r, .nil, e => by simp [bytesOf] at e; subst e; exact ⟨s, rfl, by simp⟩
  | a :: as, _, s, r, .cons _ v _ vs ha hs, e => by
    unfold bytesOf at e
    split at e
    · simp at *
    · rename_i n rest heq
      simp only [List.cons.injEq] at heq
      obtain ⟨rfl, rfl⟩ := heq
      cases ha
      split at e
      · rename_i l' hl'
        simp only [Option.some.injEq] at e; subst e
        obtain ⟨s', h1, h2⟩ := bytes_loop as vs (s.push (UInt8.ofNat n)) l' hs hl'
        refine ⟨s', ?_, ?_⟩
        · rw [List.forIn_cons]
          simp only [Sem.run_bind, Sem.run_pure, Result.andThen_ok]
          exact h1
        · rw [h2]; simp [ByteArray.data_push]
      · simp at e
    · simp at e

theorem convSl_sound (hr : HR f h w) {e' : Nat} {x : AV} {x' : Value} (hx : VR f x x') {r : AV} (e : convSl p h e' x = some r) :
    p.underlying e' = some (.int .u8) ∧ (∃ a n c, x' = .slice a n c) ∧ ∃ v, (Conv.bytesToString x').run p w = .ok v w ∧ VR f r v := by
  unfold convSl at e
  split at e
  · simp at e
  · rename_i q hq
    have hu := (ti_spec hq).und
    split at e
    · rename_i hund
      simp only [Option.some.injEq] at e; subst e
      cases hx
      exact ⟨by rw [hu, hund], ⟨_, _, _, rfl⟩, .string .empty, rfl, .str _ _ rfl⟩
    · rename_i b o n cap op hund
      split at e
      · rename_i l hl
        split at e
        · rename_i s hs
          simp only [Option.some.injEq] at e; subst e
          refine ⟨by rw [hu, hund], ?_⟩
          obtain ⟨B, sh, E, X, c, hb, rfl, hX, _⟩ := sl_addr hx
          refine ⟨⟨_, _, _, rfl⟩, ?_⟩
          unfold loadN at hl
          split at hl
          · rename_i el cs opn cl hk
            have hrun : ∃ vs, (loadCells ⟨B, X, none⟩ n).run p w = .ok vs.toArray w ∧ VRs f l vs := by
              by_cases hn : n = 0
              · subst hn
                obtain ⟨h1, h2, _⟩ := cut_spec hl
                have : l = [] := List.length_eq_zero_iff.1 h2
                subst this
                exact ⟨[], rfl, .nil⟩
              · rw [hX hn]
                exact run_loadCells (p := p) hr hb hk hl
            obtain ⟨vs, h1, h2⟩ := hrun
            obtain ⟨s', h3, h4⟩ := bytes_loop (p := p) (w := w) l vs .empty s h2 hs
            refine ⟨.string s', ?_, .str _ _ (by simpa using h4)⟩
            simp only [Conv.bytesToString, Sem.run_bind, h1, Result.andThen_ok]
            rw [← Array.forIn_toList, show vs.toArray.toList = vs from rfl]
            exact (congrArg (fun r => r.andThen fun a w' => Sem.run p (pure (Value.string a)) w') h3).trans rfl
          · simp at hl
        · simp at e
      · simp at e
    · simp at e

end
end Go.Xec
namespace Go.Xec

section
variable {f : Inj} {h : H} {w : World} {p : Program}

theorem run_seenAt {B x : Nat} {c : Array Value} {el : Nat} {fz : Nat × Nat} (hB : w.heap[B]? = some (.cells c el fz)) : (Conv.seenAt ⟨B, x, none⟩).run p w = .ok ⟨B, x, none⟩ w := by
  have s1 : w.shape? B = some (el, c.size) := by simp [World.shape?, hB]
  simp [Conv.seenAt, viewAt, s1]

theorem convA_sound (hr : HR f h w) {src dst : Nat} {x : AV} {x' : Value} (hx : VR f x x') {r : AV} (e : convA p h src dst x = some r) :
    ∃ v, (convert src dst x').run p w = .ok v w ∧ VR f r v := by
  unfold convA at e
  split at e
  · simp at e
  · rename_i s hs
    split at e
    · simp at e
    · rename_i d hd
      have hus := (ti_spec hs).run_und w
      have hud := (ti_spec hd).run_und w
      split at e
      · rename_i k k' n hund
        rw [hund] at hud
        simp only [Option.some.injEq] at e; subst e
        cases hx
        refine ⟨.int k (k.wrap n), ?_, by rw [wrapA_eq]; exact .int _ _⟩
        simp only [convert, Sem.run_bind, hus, hud, Result.andThen_ok]
        rfl
      · rename_i b hund
        rw [hund] at hud
        simp only [Option.some.injEq] at e; subst e
        cases hx with | str _ s' hs' =>
        refine ⟨.string s', ?_, .str _ _ hs'⟩
        simp only [convert, Sem.run_bind, hus, hud, Result.andThen_ok]
        cases s.und <;> rfl
      · rename_i hnot hund
        split at e
        · rename_i el hsund
          have hud' : (underlying dst).run p w = .ok .string w := by rw [hud]; congr 1
          rw [hsund] at hus
          obtain ⟨h1, ⟨a, n, c, rfl⟩, v, h2, h3⟩ := convSl_sound (p := p) hr hx e
          refine ⟨v, ?_, h3⟩
          have hu8 := run_und (p := p) (w := w) h1
          simp only [convert, Sem.run_bind, hus, hud', Result.andThen_ok, hu8]
          exact h2
        · simp at e
      · rename_i hund
        rw [hund] at hud
        split at e
        · rename_i t hsund
          rw [hsund] at hus
          simp only [Option.some.injEq] at e; subst e
          cases hx
          refine ⟨.pointer none, ?_, .nilp⟩
          simp only [convert, Sem.run_bind, hus, hud, Result.andThen_ok, Conv.unsafePointer]
          rfl
        · simp at e
      · rename_i b o hund
        rw [hund] at hud
        split at e
        · rename_i t hsund
          rw [hsund] at hus
          cases hx with | ptr _ _ B sh E hb =>
          unfold toUnsafe at e
          split at e
          · simp at e
          · rename_i sz hsz
            obtain ⟨q, hq, rfl⟩ := sizeA_spec hsz
            split at e
            · rename_i el cs opn cl hk
              rw [cond_eq_ite] at e
              split at e
              · rename_i hc
                simp only [Bool.and_eq_true, Bool.not_eq_true', Nat.blt_eq] at hc
                simp only [Option.some.injEq] at e; subst e
                obtain ⟨c, fz, h1, _, _, h2, _⟩ := hr.cells hb hk
                refine ⟨.pointer (some ⟨B, sh + o, none⟩), ?_, .ptr _ _ _ _ _ hb⟩
                have s1 : w.shape? B = some (el, c.size) := by simp [World.shape?, h1]
                have hz : ¬ q.size = 0 := fun hh => by have := hc.1; rw [hh] at this; simp at this
                have hlt : sh + o < c.size := by
                  obtain ⟨v, hv, _⟩ := h2 o (cs[o]'hc.2) (List.getElem?_eq_getElem hc.2)
                  exact (Array.getElem?_eq_some_iff.1 hv).1
                have hge : ¬ c.size ≤ sh + o := by omega
                simp [convert, hus, hud, Conv.unsafePointer, run_seenAt h1, cellsIn, s1, hq.run_size, hz, hge]
              · simp at e
            · simp at e
        · simp at e
      · rename_i u hund
        rw [hund] at hud
        split at e
        · rename_i hsund
          rw [hsund] at hus
          simp only [Option.some.injEq] at e; subst e
          cases hx
          refine ⟨.pointer none, ?_, .nilp⟩
          simp only [convert, Sem.run_bind, hus, hud, Result.andThen_ok, Conv.unsafePointer]
          rfl
        · simp at e
      · rename_i u b o hund
        rw [hund] at hud
        split at e
        · rename_i hsund
          rw [hsund] at hus
          cases hx with | ptr _ _ B sh E hb =>
          unfold fromUnsafe at e
          split at e
          · simp at e
          · rename_i sz hsz
            obtain ⟨q, hq, rfl⟩ := sizeA_spec hsz
            split at e
            · rename_i el cs cl hk
              rw [cond_eq_ite] at e
              split at e
              · rename_i hc
                simp only [Bool.and_eq_true] at hc
                simp only [Option.some.injEq] at e; subst e
                obtain ⟨c, fz, h1, _, h4, h2, h3, _⟩ := hr.cells hb hk
                obtain ⟨h5, h6⟩ := h3 rfl
                simp only at h5
                subst h5
                refine ⟨.pointer (some ⟨B, 0 + o, none⟩), ?_, .ptr _ _ _ _ _ hb⟩
                have s1 : w.shape? B = some (el, c.size) := by simp [World.shape?, h1]
                have hl : liesAt p p.depth el (c.size / p.cellsOf el) (0 + o) u 1 = true := by rw [h6, Nat.zero_add]; exact hc.2
                simp [convert, hus, hud, Conv.unsafePointer, run_seenAt h1, variablesAt, s1, hq.run_size]
                simp only [Nat.zero_add] at hl
                simp [hl]
              · simp at e
            · simp at e
        · simp at e
      · simp at e

/-! methods -/
theorem methodOf_spec {t : Nat} {name : String} {g : Nat × Bool} (e : methodOf p t name = some g) :
    ∃ i m, p.info? t = some i ∧ i.methods.find? (·.name == name) = some m ∧ m.path = #[] ∧ m.func = some g := by
  unfold methodOf at e
  split at e
  · simp at e
  · rename_i i hi
    split at e
    · simp at e
    · rename_i m hm
      split at e
      · rename_i f0 h1 h2
        simp only [Option.some.injEq] at e; subst e
        exact ⟨i, m, hi, hm, by simpa using h1, h2⟩
      · simp at e

theorem nilAhead_sound {t : Nat} {name : String} {g : Nat × Bool} (e : methodOf p t name = some g) (v : Value) (hv : g.2 = true ∨ v ≠ .pointer none) (hu : ∃ d, p.underlying t = some d) (n : Nat) :
    (nilAhead (n + 1) t v name).run p w = .ok (some false) w := by
  obtain ⟨i, m, h1, h2, h3, h4⟩ := methodOf_spec e
  obtain ⟨d, hd⟩ := hu
  have hti : (typeInfo t).run p w = .ok i w := by simp [typeInfo, h1]
  have hu2 := run_und (p := p) (w := w) hd
  obtain ⟨g1, g2⟩ := g
  simp only [nilAhead, Sem.run_bind, hti, Result.andThen_ok, h2, h3, Array.toList_empty, followBlind, Sem.run_pure, h4]
  cases g2 with
  | true => rfl
  | false =>
    simp only [Sem.run_bind, hu2, Result.andThen_ok]
    have hv' : v ≠ .pointer none := by simpa using hv
    cases d <;> first | rfl | skip
    cases v <;> first | rfl | skip
    rename_i a
    cases a with
    | none => exact (hv' rfl).elim
    | some a => rfl

theorem nilChk_sound {x : AV} {x' : Value} (hx : VR f x x') {r : AV} (e : nilChk p x = some r) (y : Operand) (ρ' : Operand → Value) (hy : ρ' y = x') (o : Oper) (ho : o.op = .nilCheck y) :
    ∃ v, (execOp ρ' o).run p w = .ok (.value v) w ∧ VR f r v := by
  unfold nilChk at e
  split at e
  · rename_i m t v c
    cases hx with | func _ _ _ a' c' ha hc =>
    cases ha with | cons _ v' _ vs hv hvs =>
    cases hvs
    cases hv with | iface _ _ v'' hv'' =>
    unfold nilChkM at e
    split at e
    · simp at e
    · rename_i i hi
      have hu : ∃ d, p.underlying t = some d := ⟨_, (ti_spec hi).und⟩
      have key : ∀ g, methodOf p t m = some g → (g.2 = true ∨ v'' ≠ .pointer none) →
          (execOp ρ' o).run p w = .ok (.value (.func (.method m) [Value.iface t v''].toArray c'.toArray)) w := by
        intro g hg hv2
        have hn := nilAhead_sound (p := p) (w := w) hg v'' hv2 hu (p.types.size + (Made.depth - 1))
        have hd : p.types.size + (Made.depth - 1) + 1 = p.types.size + Made.depth := by unfold Made.depth; omega
        rw [hd] at hn
        simp [execOp, ho, hy, hn]
      have hres : VR f (.func (.method m) [.iface t v] c) (.func (.method m) [Value.iface t v''].toArray c'.toArray) := .func _ _ _ _ _ (.one (.iface _ _ _ hv'')) hc
      split at e
      · rename_i g hg
        simp only [Option.some.injEq] at e; subst e
        exact ⟨_, key _ hg (.inl rfl), hres⟩
      · simp at e
      · rename_i g hg hne
        simp only [Option.some.injEq] at e; subst e
        refine ⟨_, key _ hg (.inr fun hh => ?_), hres⟩
        subst hh
        cases hv''
        exact hne rfl
      · simp at e
  · simp only [Option.some.injEq] at e; subst e
    cases hx with | ptr _ _ B sh E hb => exact ⟨_, by simp [execOp, ho, hy], .ptr _ _ _ _ _ hb⟩
  · simp only [Option.some.injEq] at e; subst e
    cases hx with | func _ _ _ a' c' ha hc => exact ⟨_, by simp [execOp, ho, hy], .func _ _ _ _ _ ha hc⟩
  · simp only [Option.some.injEq] at e; subst e
    cases hx with | yield _ L sh E hb => exact ⟨_, by simp [execOp, ho, hy], .yield _ _ _ _ hb⟩
  · simp only [Option.some.injEq] at e; subst e
    cases hx with | iface _ _ v hv => exact ⟨_, by simp [execOp, ho, hy], .iface _ _ _ hv⟩
  · simp at e

/-! operands -/
theorem evs_sound {ρ : Operand → Option AV} {ρ' : Operand → Value} (hρ : OR f ρ ρ') : ∀ (l : List Operand) (vs : List AV), evs ρ l = some vs → VRs f vs (l.map ρ')
  | [], vs, e => by simp [evs] at e; subst e; exact .nil
  | x :: xs, vs, e => by
    unfold evs at e
    split at e
    · simp at e
    · rename_i v hv
      split at e
      · simp at e
      · rename_i r hr
        simp only [Option.some.injEq] at e; subst e
        exact .cons _ _ _ _ (hρ _ _ hv) (evs_sound hρ xs r hr)

theorem evps_sound {ρ : Operand → Option AV} {ρ' : Operand → Value} (hρ : OR f ρ ρ') : ∀ (l : List (Nat × Operand)) (vs : List (Nat × AV)), evps ρ l = some vs →
    vs.map (·.1) = l.map (·.1) ∧ VRs f (vs.map (·.2)) (l.map fun q => ρ' q.2)
  | [], vs, e => by simp [evps] at e; subst e; exact ⟨rfl, .nil⟩
  | (i, x) :: xs, vs, e => by
    unfold evps at e
    split at e
    · simp at e
    · rename_i v hv
      split at e
      · simp at e
      · rename_i r hr
        simp only [Option.some.injEq] at e; subst e
        obtain ⟨h1, h2⟩ := evps_sound hρ xs r hr
        exact ⟨by simp [h1], .cons _ _ _ _ (hρ _ _ hv) h2⟩

theorem evo_sound {ρ : Operand → Option AV} {ρ' : Operand → Value} (hρ : OR f ρ ρ') {x : Option Operand} {r : Option AV} (e : evo ρ x = some r) : OVR f r (x.map ρ') := by
  unfold evo at e
  split at e
  · simp only [Option.some.injEq] at e; subst e; exact .none
  · split at e
    · simp at e
    · rename_i v hv
      simp only [Option.some.injEq] at e; subst e
      exact .some _ _ (hρ _ _ hv)

theorem mkIface_sound {t : Nat} {x : AV} {x' : Value} (hx : VR f x x') {r : AV} (e : mkIface p t x = some r) : ∃ v, (Instr.makeInterface t x').run p w = .ok v w ∧ VR f r v := by
  unfold mkIface at e
  split at e
  · simp at e
  · rename_i q hq
    have hu := (ti_spec hq).run_und w
    split at e
    · simp at e
    · rename_i hne
      simp only [Option.some.injEq] at e; subst e
      refine ⟨.iface t x', ?_, .iface _ _ _ hx⟩
      simp only [Instr.makeInterface, Sem.run_bind, hu, Result.andThen_ok]
      cases hd : q.und <;> first | rfl | (exact (hne _ hd).elim)

theorem assertA_sound {t xt : Nat} {x : AV} {x' : Value} (hx : VR f x x') {ok : Bool} {r : AV} (e : assertA p x t ok = some r) : ∃ v, (Instr.typeAssert x' xt t ok).run p w = .ok v w ∧ VR f r v := by
  unfold assertA at e
  split at e
  · simp at e
  · rename_i q hq
    have hu := (ti_spec hq).run_und w
    obtain ⟨z, hz, hzr⟩ := (ti_spec hq).run_zero w
    have hfail : VR f (.tup [q.zero, .bool false]) (.tuple #[z, .bool false]) := .tup _ [z, .bool false] (.cons _ _ _ _ (hzr f) (.one (.bool _)))
    split at e
    · simp at e
    · rename_i u v hne
      cases hx with | iface _ _ v' hv =>
      rw [bif_beq] at e
      have hform : (Instr.typeAssert (.iface u v') xt t ok).run p w = (if u = t then (pure (if ok then .tuple #[v', .bool true] else v') : Sem Value) else
          (if ok then do pure (.tuple #[← zeroValue t, .bool false]) else runtimePanic (.typeAssertion (some xt) (some u) t ""))).run p w := by
        simp only [Instr.typeAssert, Sem.run_bind, hu, Result.andThen_ok]
      rw [hform]
      split at e
      · rename_i htt
        simp only [Option.some.injEq] at e; subst e
        rw [if_pos htt]
        cases ok
        · exact ⟨v', rfl, hv⟩
        · exact ⟨.tuple #[v', .bool true], rfl, .tup _ [v', .bool true] (.cons _ _ _ _ hv (.one (.bool _)))⟩
      · rename_i htt
        rw [if_neg htt]
        cases ok
        · simp at e
        · simp only [cond_true, Option.some.injEq] at e; subst e
          exact ⟨_, by simp only [if_true, Sem.run_bind, hz, Result.andThen_ok, Sem.run_pure], hfail⟩
    · rename_i hne
      cases hx
      cases ok
      · simp at e
      · simp only [cond_true, Option.some.injEq] at e; subst e
        refine ⟨_, ?_, hfail⟩
        simp only [Instr.typeAssert, Sem.run_bind, hu, Result.andThen_ok]
        cases hd : q.und <;> first | (exact (hne _ hd).elim) | (simp only [if_true, Sem.run_bind, hz, Result.andThen_ok, Sem.run_pure])
    · simp at e

theorem maxs_sound (k : IntKind) : ∀ (l : List AV) (vs : List Value) (a : Int) (r : AV), VRs f l vs → maxs k a l = some r → ∃ v, (vs.foldlM Builtin.max2 (.int k a)).run p w = .ok v w ∧ VR f r v
  | [], _, a, r, .nil, e => by simp [maxs] at e; subst e; exact ⟨_, rfl, .int _ _⟩
  | x :: l, _, a, r, .cons _ v _ vs hx hs, e => by
    unfold maxs at e
    split at e
    · simp at *
    · rename_i k' b rest heq
      simp only [List.cons.injEq] at heq
      obtain ⟨rfl, rfl⟩ := heq
      cases hx
      obtain ⟨v, h1, h2⟩ := maxs_sound k _ vs _ r hs e
      refine ⟨v, ?_, h2⟩
      rw [List.foldlM_cons]
      simp only [Sem.run_bind, Builtin.max2, Sem.run_pure, Result.andThen_ok]
      rw [← h1, ltI_eq, cond_eq_ite]
      congr 3 <;> simp
    · simp at e

theorem mins_sound (k : IntKind) : ∀ (l : List AV) (vs : List Value) (a : Int) (r : AV), VRs f l vs → mins k a l = some r → ∃ v, (vs.foldlM Builtin.min2 (.int k a)).run p w = .ok v w ∧ VR f r v
  | [], _, a, r, .nil, e => by simp [mins] at e; subst e; exact ⟨_, rfl, .int _ _⟩
  | x :: l, _, a, r, .cons _ v _ vs hx hs, e => by
    unfold mins at e
    split at e
    · simp at *
    · rename_i k' b rest heq
      simp only [List.cons.injEq] at heq
      obtain ⟨rfl, rfl⟩ := heq
      cases hx
      obtain ⟨v, h1, h2⟩ := mins_sound k _ vs _ r hs e
      refine ⟨v, ?_, h2⟩
      rw [List.foldlM_cons]
      simp only [Sem.run_bind, Builtin.min2, Sem.run_pure, Result.andThen_ok]
      rw [← h1, ltI_eq, cond_eq_ite]
      congr 3 <;> simp
    · simp at e

theorem lenA_sound (hr : HR f h w) {t : Nat} {x : AV} {x' : Value} (hx : VR f x x') {n : Nat} (e : lenA p h t x = some n) (ts : Array TypeId) (ht : ts[0]? = some t) (ty : TypeId) :
    (Builtin.len_ ts ty #[x']).run p w = .ok (.int .i64 (Int.ofNat n)) w := by
  unfold lenA at e
  split at e
  · simp at e
  · rename_i q hq
    have hu := (ti_spec hq).run_und w
    split at e
    · rename_i s hund
      rw [hund] at hu
      simp only [Option.some.injEq] at e; subst e
      cases hx with | str _ s' hs =>
      have hl : s'.size = s.length := by rw [← hs]; rfl
      simp [Builtin.len_, ht, hu, goInt, hl]
    · rename_i n' el hund
      rw [hund] at hu
      simp only [Option.some.injEq] at e; subst e
      simp [Builtin.len_, ht, hu, goInt]
    · rename_i a hund
      rw [hund] at hu
      split at e
      · rename_i q2 hq2
        have hu2 := (ti_spec hq2).run_und w
        split at e
        · rename_i n2 el hund2
          rw [hund2] at hu2
          simp only [Option.some.injEq] at e; subst e
          simp [Builtin.len_, ht, hu, hu2, goInt]
        · simp at e
      · simp at e
    · rename_i el b o n' cap op hund
      rw [hund] at hu
      simp only [Option.some.injEq] at e; subst e
      obtain ⟨B, sh, E, X, c, hb, rfl, _⟩ := sl_addr hx
      simp [Builtin.len_, ht, hu, goInt]
    · rename_i el hund
      rw [hund] at hu
      simp only [Option.some.injEq] at e; subst e
      cases hx
      simp [Builtin.len_, ht, hu, goInt]
    · rename_i k v hund
      rw [hund] at hu
      simp only [Option.some.injEq] at e; subst e
      cases hx
      simp [Builtin.len_, ht, hu, goInt]
    · rename_i k v r hund
      rw [hund] at hu
      split at e
      · rename_i es cl hk
        simp only [Option.some.injEq] at e; subst e
        have hes : entriesOf h (.map r) = some es := by simp [entriesOf, hk]
        rcases entries_sound hr hx hes with ⟨rfl, _⟩ | ⟨r2, es', clock, rfl, hh, hMR⟩
        · cases hx
        · have hl : es'.size = es.length := by have := hMR.length; simpa using this.symm
          simp [Builtin.len_, ht, hu, goInt, run_getObj_map hh, hl]
      · simp at e
    · simp at e

theorem capA_sound {t : Nat} {x : AV} {x' : Value} (hx : VR f x x') {n : Nat} (e : capA p t x = some n) (ts : Array TypeId) (ht : ts[0]? = some t) (ty : TypeId) :
    (Builtin.cap_ ts ty #[x']).run p w = .ok (.int .i64 (Int.ofNat n)) w := by
  unfold capA at e
  split at e
  · simp at e
  · rename_i q hq
    have hu := (ti_spec hq).run_und w
    split at e
    · rename_i el b o n' c hund
      rw [hund] at hu
      simp only [Option.some.injEq] at e; subst e
      obtain ⟨B, sh, E, X, c', hb, rfl, _, _, _, h0, _⟩ := sl_addr hx
      rw [h0 rfl]
      simp [Builtin.cap_, ht, hu, goInt]
    · rename_i el hund
      rw [hund] at hu
      simp only [Option.some.injEq] at e; subst e
      cases hx
      simp [Builtin.cap_, ht, hu, goInt]
    · simp at e

theorem map_toArray {α β : Type} (a : Array α) (g : α → β) : a.map g = (a.toList.map g).toArray := by rcases a with ⟨l⟩; simp

theorem run_v {s : Sem Value} {v : Value} {w' : World} (e : s.run p w = .ok v w') : (do pure (.value (← s)) : Sem Next).run p w = .ok (.value v) w' := by
  simp [e]

theorem lightCall_sound (hr : HR f h w) {b : Builtin} {ts : Array TypeId} {args : List AV} {args' : List Value} (ha : VRs f args args') {r : AV} (e : lightCall p h b ts args = some r) (ty : TypeId) (cs : Array Bool) :
    ∃ v, (builtin b ts ty cs args'.toArray).run p w = .ok (.value v) w ∧ VR f r v := by
  unfold lightCall at e
  split at e
  · rename_i x t ht
    cases ha with | cons _ v _ vs hx hs =>
    cases hs
    split at e
    · rename_i n hn
      simp only [Option.some.injEq] at e; subst e
      refine ⟨_, ?_, .int _ _⟩
      have := lenA_sound (p := p) hr hx hn ts ht ty
      simp [builtin, this]
    · simp at e
  · rename_i x t ht
    cases ha with | cons _ v _ vs hx hs =>
    cases hs
    split at e
    · rename_i n hn
      simp only [Option.some.injEq] at e; subst e
      refine ⟨_, ?_, .int _ _⟩
      have := capA_sound (p := p) (w := w) hx hn ts ht ty
      simp [builtin, this]
    · simp at e
  · simp only [Option.some.injEq] at e; subst e
    cases ha with | cons _ v _ vs hx hs =>
    cases hs
    cases hx
    exact ⟨_, rfl, .nilp⟩
  · rename_i b' o len c op _
    cases ha with | cons _ v _ vs hx hs =>
    cases hs
    rw [bif_beq] at e
    split at e
    · simp at e
    · rename_i hc
      simp only [Option.some.injEq] at e; subst e
      obtain ⟨B, sh, E, X, c', hb, rfl, _, _, hcc, h0, hX⟩ := sl_addr hx
      obtain ⟨rfl, _⟩ := hX.resolve_left (by omega)
      refine ⟨_, ?_, .ptr _ _ _ _ _ hb⟩
      have hne : c' ≠ 0 := by omega
      show (do pure (.value (← Builtin.unsafeSliceData_ _ _ _)) : Sem Next).run p w = _
      apply run_v
      show (ite (c' ≠ 0) (pure (Value.pointer (some _))) _ : Sem Value).run p w = _
      rw [if_pos hne]
      rfl
  · cases ha with | cons _ v _ vs hx hs =>
    cases hx
    obtain ⟨v, h1, h2⟩ := maxs_sound (p := p) (w := w) _ _ _ _ _ hs e
    refine ⟨v, ?_, h2⟩
    simp [builtin, Builtin.max_, h1]
  · cases ha with | cons _ v _ vs hx hs =>
    cases hx
    obtain ⟨v, h1, h2⟩ := mins_sound (p := p) (w := w) _ _ _ _ _ hs e
    refine ⟨v, ?_, h2⟩
    simp [builtin, Builtin.min_, h1]
  · simp at e

theorem light_sound (hr : HR f h w) {ρ : Operand → Option AV} {ρ' : Operand → Value} (hρ : OR f ρ ρ') (o : Oper) {r : AV} (e : light p h ρ o.op = some r) :
    ∃ v, (execOp ρ' o).run p w = .ok (.value v) w ∧ VR f r v := by
  unfold light at e
  split at e
  · rename_i x ho
    exact ⟨_, by simp only [execOp, ho]; rfl, hρ _ _ e⟩
  · rename_i x ho
    exact ⟨_, by simp only [execOp, ho]; rfl, hρ _ _ e⟩
  · rename_i c a b ho
    unfold pickA at e
    split at e
    · rename_i hc
      have := hρ _ _ hc
      generalize hcv : ρ' c = cv at this
      cases this
      exact ⟨_, by simp [execOp, ho, hcv, asBool], hρ _ _ e⟩
    · rename_i hc
      have := hρ _ _ hc
      generalize hcv : ρ' c = cv at this
      cases this
      exact ⟨_, by simp [execOp, ho, hcv, asBool], hρ _ _ e⟩
    · simp at e
  · rename_i t a ho
    unfold map1 at e
    split at e
    · rename_i x hx
      unfold loadO at e
      split at e
      · rename_i b o'
        have hv := hρ _ _ hx
        generalize hcv : ρ' a = cv at hv
        cases hv with | ptr _ _ B sh E hb =>
        obtain ⟨v, h1, h2⟩ := loadA_sound (p := p) hr hb e
        refine ⟨v, ?_, h2⟩
        simp only [execOp, ho]
        apply run_v
        simp [Instr.loadAt, hcv, Instr.sureAddr, h1]
      · simp at e
    · simp at e
  · rename_i x ho
    unfold map1 at e
    split at e
    · rename_i y hy
      exact nilChk_sound (hρ _ _ hy) e x ρ' rfl o ho
    · simp at e
  · rename_i op xt x y yt ho
    unfold bin2 at e
    split at e
    · simp at e
    · rename_i a ha
      split at e
      · simp at e
      · rename_i b hb
        rw [cond_eq_ite] at e
        split at e
        · rename_i hg
          obtain ⟨v, h1, h2⟩ := binA_sound (p := p) hr (hρ _ _ ha) (hρ _ _ hb) e
          refine ⟨v, ?_, h2⟩
          have hg' := guard_sound (p := p) (w := w) (hρ _ _ ha) (hρ _ _ hb) hg
          simp only [execOp, ho]
          apply run_v
          simp only [Sem.run_bind, hg', Result.andThen_ok, h1]
        · simp at e
  · rename_i op xt x ho
    unfold map1 at e
    split at e
    · rename_i a ha
      obtain ⟨v, h1, h2⟩ := unA_sound (p := p) (w := w) (hρ _ _ ha) e
      exact ⟨v, by simp only [execOp, ho]; exact run_v h1, h2⟩
    · simp at e
  · rename_i s d x ho
    unfold map1 at e
    split at e
    · rename_i a ha
      obtain ⟨v, h1, h2⟩ := convA_sound (p := p) hr (hρ _ _ ha) e
      exact ⟨v, by simp only [execOp, ho]; exact run_v h1, h2⟩
    · simp at e
  · rename_i t x ho
    unfold map1 at e
    split at e
    · rename_i a ha
      obtain ⟨v, h1, h2⟩ := mkIface_sound (p := p) (w := w) (hρ _ _ ha) e
      exact ⟨v, by simp only [execOp, ho]; exact run_v h1, h2⟩
    · simp at e
  · rename_i fn first cap ho
    unfold mkFunc at e
    split at e
    · simp at e
    · rename_i a ha
      split at e
      · simp at e
      · rename_i b hb
        simp only [Option.some.injEq] at e; subst e
        have h1 := evs_sound hρ _ _ ha
        have h2 := evs_sound hρ _ _ hb
        refine ⟨.func fn (first.map ρ') (cap.map ρ'), by simp only [execOp, ho]; exact run_v rfl, ?_⟩
        have e1 : first.map ρ' = (first.toList.map ρ').toArray := map_toArray _ _
        have e2 : cap.map ρ' = (cap.toList.map ρ').toArray := map_toArray _ _
        rw [e1, e2]
        exact .func _ _ _ _ _ h1 h2
  · rename_i t x lo hi mx ho
    unfold slice4 at e
    split at e
    · rename_i a l1 l2 l3 ha h1 h2 h3
      obtain ⟨v, h4, h5⟩ := sliceA_sound (p := p) (w := w) (hρ _ _ ha) (evo_sound hρ h1) (evo_sound hρ h2) (evo_sound hρ h3) e
      exact ⟨v, by simp only [execOp, ho]; exact run_v h4, h5⟩
    · simp at e
  · rename_i s x i ho
    unfold map1 at e
    split at e
    · rename_i a ha
      obtain ⟨v, h1, h2⟩ := fieldAddrA_sound (p := p) (w := w) (hρ _ _ ha) e
      exact ⟨v, by simp only [execOp, ho]; exact run_v h1, h2⟩
    · simp at e
  · rename_i s x i ho
    unfold map1 at e
    split at e
    · rename_i a ha
      obtain ⟨v, h1, h2⟩ := fieldA_sound (p := p) (w := w) (hρ _ _ ha) e
      exact ⟨v, by simp only [execOp, ho]; exact run_v h1, h2⟩
    · simp at e
  · rename_i t x i ho
    unfold map2 at e
    split at e
    · rename_i a ha
      split at e
      · rename_i b hb
        obtain ⟨v, h1, h2⟩ := indexAddrA_sound (p := p) (w := w) (hρ _ _ ha) (hρ _ _ hb) e
        exact ⟨v, by simp only [execOp, ho]; exact run_v h1, h2⟩
      · simp at e
    · simp at e
  · rename_i t x i ho
    unfold map2 at e
    split at e
    · rename_i a ha
      split at e
      · rename_i b hb
        obtain ⟨v, h1, h2⟩ := indexA_sound (p := p) (w := w) (hρ _ _ ha) (hρ _ _ hb) e
        exact ⟨v, by simp only [execOp, ho]; exact run_v h1, h2⟩
      · simp at e
    · simp at e
  · rename_i t m k ok ho
    unfold map2 at e
    split at e
    · rename_i a ha
      split at e
      · rename_i b hb
        obtain ⟨v, h1, h2⟩ := lookupA_sound (p := p) hr (hρ _ _ ha) (hρ _ _ hb) e
        exact ⟨v, by simp only [execOp, ho]; exact run_v h1, h2⟩
      · simp at e
    · simp at e
  · rename_i x xt t ok ho
    unfold map1 at e
    split at e
    · rename_i a ha
      obtain ⟨v, h1, h2⟩ := assertA_sound (p := p) (w := w) (xt := xt) (hρ _ _ ha) e
      exact ⟨v, by simp only [execOp, ho]; exact run_v h1, h2⟩
    · simp at e
  · rename_i t i ho
    unfold map1 at e
    split at e
    · rename_i a ha
      unfold extractA at e
      dsimp only at e
      split at e
      · have hv := hρ _ _ ha
        generalize hcv : ρ' t = cv at hv
        cases hv with | tup _ vs hvs =>
        obtain ⟨v, h1, h2⟩ := hvs.get _ _ e
        refine ⟨v, ?_, h2⟩
        simp only [execOp, ho]
        apply run_v
        simp [Instr.extract, hcv, h1]
      · simp at e
    · simp at e
  · rename_i t parts ho
    unfold build1 at e
    split at e
    · rename_i ps hps
      obtain ⟨h1, h2⟩ := evps_sound hρ _ _ hps
      obtain ⟨v, h3, h4⟩ := buildA_sound (p := p) (w := w) (t := t) (parts' := parts.map fun (i, x) => (i, ρ' x)) (by simp [h1, Function.comp_def]) (by simpa [Function.comp_def] using h2) e
      exact ⟨v, by simp only [execOp, ho]; exact run_v h3, h4⟩
    · simp at e
  · rename_i c ho
    unfold call1 at e
    split at e
    · rename_i b hb
      split at e
      · rename_i vs hvs
        have h1 := evs_sound hρ _ _ hvs
        obtain ⟨v, h2, h3⟩ := lightCall_sound (p := p) hr h1 e o.type (c.args.map fun | .const _ => true | _ => false)
        refine ⟨v, ?_, h3⟩
        have e1 : c.args.map ρ' = (c.args.toList.map ρ').toArray := map_toArray _ _
        simp only [execOp, ho, resolve, hb, Sem.run_bind, Sem.run_pure, Result.andThen_ok, invoke, e1]
        exact h2
      · simp at e
    · simp at e
  · simp at e

end
end Go.Xec
