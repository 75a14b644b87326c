/- Contracts of calls from small heaps, tables of them, and the library word for a call. Condition: POk. -/
import Derived.Test.YtahbgdeahpogaaaGreatDoorXe
import Derived.Calls
namespace Go.Xec

theorem step_ic {p : Program} (hp : POk p) {sf : Task → Option Res} (ic : IC p sf) : IC p (stepF p sf) := by
  refine { call := ?_, round := ?_, dyn := ?_, code := ?_, again := ?_, scope := ?_ }
  · intro g args h v h' e f w args' hr ha
    exact call_sound hp ic hr (by simpa [stepF] using e) ha
  · intro l args h v h' e f w L sh E args' hr hl ha
    exact round_sound ic hr (by simpa [stepF] using e) hl ha
  · intro x args h v h' e f w x' args' hr hx ha
    exact dyn_sound ic hr (by simpa [stepF] using e) hx ha
  · intro c fr h e fr' h' e1 f w hr
    have e2 : codeA p sf c fr h = some (.code e fr' h') := by simpa [stepF] using e1
    by_cases hc : ∃ g ps asg body, c = .rangeFunc g ps asg body
    · obtain ⟨g, ps, asg, body, rfl⟩ := hc
      exact range_sound ic hr e2
    · exact code_sound hp ic hr (fun g ps asg body q => hc ⟨g, ps, asg, body, q⟩) e2
  · intro c fr h e fr' h' e1 f w hr
    have e2 : codeA p sf (.loop c) fr h = some (.code e fr' h') := by simpa [stepF] using e1
    exact WalkOk.head (loop_sound ic hr e2) (fun b a k cs _ => .one stepR_inLoop)
  · intro body cur fr h e fr' h' e1 f w hr
    exact scope_sound ic hr (by simpa [stepF] using e1)

theorem none_ic (p : Program) : IC p (fun _ => none) :=
  { call := fun _ _ _ _ _ e => by simp at e, round := fun _ _ _ _ _ e => by simp at e, dyn := fun _ _ _ _ _ e => by simp at e,
    code := fun _ _ _ _ _ _ e => by simp at e, again := fun _ _ _ _ _ _ e => by simp at e, scope := fun _ _ _ _ _ _ _ e => by simp at e }

/-- the one, and if that tells nothing the other one -/
noncomputable def orT (a b : Task → Option Res) (t : Task) : Option Res := match a t with | some r => some r | none => b t

theorem or_ic {p : Program} {a b : Task → Option Res} (ha : IC p a) (hb : IC p b) : IC p (orT a b) := by
  have key : ∀ t r, orT a b t = some r → a t = some r ∨ b t = some r := by
    intro t r e
    unfold orT at e
    split at e
    · rename_i x hx; simp only [Option.some.injEq] at e; subst e; exact .inl hx
    · exact .inr e
  refine { call := ?_, round := ?_, dyn := ?_, code := ?_, again := ?_, scope := ?_ }
  · intro g args h v h' e; exact (key _ _ e).elim (ha.call _ _ _ _ _) (hb.call _ _ _ _ _)
  · intro g args h v h' e; exact (key _ _ e).elim (ha.round _ _ _ _ _) (hb.round _ _ _ _ _)
  · intro g args h v h' e; exact (key _ _ e).elim (ha.dyn _ _ _ _ _) (hb.dyn _ _ _ _ _)
  · intro c fr h e fr' h' e1; exact (key _ _ e1).elim (ha.code _ _ _ _ _ _) (hb.code _ _ _ _ _ _)
  · intro c fr h e fr' h' e1; exact (key _ _ e1).elim (ha.again _ _ _ _ _ _) (hb.again _ _ _ _ _ _)
  · intro body c fr h e fr' h' e1; exact (key _ _ e1).elim (ha.scope _ _ _ _ _ _ _) (hb.scope _ _ _ _ _ _ _)

noncomputable def runQ (p : Program) (q : Task → Option Res) (n : Nat) : Task → Option Res :=
  Nat.rec (motive := fun _ => Task → Option Res) (fun _ => none) (fun _ ih => orT q (stepF p ih)) n

theorem runQ_ic {p : Program} (hp : POk p) {q : Task → Option Res} (hq : IC p q) : ∀ n, IC p (runQ p q n)
  | 0 => none_ic p
  | n + 1 => or_ic hq (step_ic hp (runQ_ic hp hq n))

/-- what a call does, in every world -/
def CallC (p : Program) (g : Nat) (args : List AV) (h : H) (v : AV) (h' : H) : Prop :=
  ∀ f w args', HR f h w → VRs f args args' → CallsOk p f h w v h' (callFunc g args'.toArray)

theorem CallsOk.map {p : Program} {f F : Inj} {h k : H} {w : World} {v : AV} {h' k' : H} {s : Sem Next}
    (m : ∀ f' w', Post f h w f' h' w' → ∃ F', Post F k w F' k' w' ∧ ∀ v', VR f' v v' → VR F' v v') (c : CallsOk p f h w v h' s) : CallsOk p F k w v k' s := by
  rcases c with ⟨nx, v', w', f', c1, c2, c3, c4, c5⟩ | ⟨g, args', c1, c2⟩ | ⟨L, g, tmps, asg, body, c1, c2⟩
  · obtain ⟨F', k1, k2⟩ := m f' w' ⟨c3, c4⟩
    exact .inl ⟨nx, v', w', F', c1, c2, k1.1, k1.2, k2 _ c5⟩
  · refine .inr (.inl ⟨g, args', c1, fun kd cs hc => ?_⟩)
    obtain ⟨f2, w2, fr2, v', g1, g2, g3, g4, g5, g6, g8, g9⟩ := c2 kd cs hc
    obtain ⟨F', k1, k2⟩ := m f2 w2 g8
    exact ⟨F', w2, fr2, v', g1, g2, g3, g4, g5, g6, k1, k2 _ g9⟩
  · refine .inr (.inr ⟨L, g, tmps, asg, body, c1, fun c cs => ?_⟩)
    obtain ⟨f2, w2, v', g1, g2, g3⟩ := c2 c cs
    obtain ⟨F', k1, k2⟩ := m f2 w2 g2
    exact ⟨F', w2, v', g1, k1, k2 _ g3⟩

/-! values that lie within a heap -/
noncomputable def there (t : Tr Blk) (b : Nat) : Bool := match t.get b with | some _ => true | none => false

noncomputable def allL (q : AV → Bool) : List AV → Bool
  | [] => true
  | a :: r => bif q a then allL q r else false

noncomputable def avIn (t : Tr Blk) : Nat → AV → Bool
  | 0, _ => false
  | d + 1, v => match v with
    | .ptr b _ => there t b
    | .sl b _ _ _ _ => there t b
    | .map b => there t b
    | .yield b => there t b
    | .func _ a c => allL (avIn t d) a && allL (avIn t d) c
    | .iface _ v => avIn t d v
    | .agg a => allL (avIn t d) a
    | .tup a => allL (avIn t d) a
    | _ => true

/-- an injection, cut to a heap's blocks -/
noncomputable def cutI (t : Tr Blk) (f : Inj) : Inj := fun b => if there t b = true then f b else none

theorem VRs_cut {t : Tr Blk} {f : Inj} {d : Nat} (ih : ∀ (a : AV) (v : Value), VR f a v → avIn t d a = true → VR (cutI t f) a v) : ∀ {a : List AV} {v : List Value}, VRs f a v → allL (avIn t d) a = true → VRs (cutI t f) a v
  | _, _, .nil, _ => .nil
  | _, _, .cons a v as vs h hs, e => by
    unfold allL at e
    cases ha : avIn t d a with
    | false => rw [ha] at e; simp at e
    | true => rw [ha] at e; exact .cons _ _ _ _ (ih _ _ h ha) (VRs_cut ih hs e)

theorem VR_cut {t : Tr Blk} {f : Inj} : ∀ (d : Nat) (a : AV) (v : Value), VR f a v → avIn t d a = true → VR (cutI t f) a v
  | 0, _, _, _, e => by simp [avIn] at e
  | d + 1, a, v, h, e => by
    have hc : ∀ {b : Nat} {L : Nat × Nat × Nat}, f b = some L → there t b = true → cutI t f b = some L := fun h1 h2 => by unfold cutI; rw [if_pos h2]; exact h1
    cases h with
    | bool b => exact .bool b
    | int k n => exact .int k n
    | str l s h => exact .str l s h
    | nilp => exact .nilp
    | ptr b o B sh E h => exact .ptr b o B sh E (hc h e)
    | nils => exact .nils
    | sl b o len cap op B sh E X c h hl hc' h0 hx => exact .sl b o len cap op B sh E X c (hc h e) hl hc' h0 hx
    | nilm => exact .nilm
    | map b B sh E h => exact .map b B sh E (hc h e)
    | func fn a c a' c' h h' =>
      simp only [avIn, Bool.and_eq_true] at e
      exact .func fn a c a' c' (VRs_cut (VR_cut d) h e.1) (VRs_cut (VR_cut d) h' e.2)
    | yield l L sh E h => exact .yield l L sh E (hc h e)
    | nilf => exact .nilf
    | iface t' a v h => exact .iface t' a v (VR_cut d _ _ h e)
    | nili => exact .nili
    | agg a v h => exact .agg a v (VRs_cut (VR_cut d) h e)
    | tup a v h => exact .tup a v (VRs_cut (VR_cut d) h e)

noncomputable def entIn (t : Tr Blk) : List (AV × AV × Nat) → Bool
  | [] => true
  | e :: r => bif avIn t 10 e.1 && avIn t 10 e.2.1 then entIn t r else false

noncomputable def blkIn (t : Tr Blk) : Blk → Bool
  | .cells _ cs _ _ => allL (avIn t 10) cs
  | .map es _ => entIn t es
  | .dead => true
  | _ => false

theorem MR_cut {t : Tr Blk} {f : Inj} : ∀ {a : List (AV × AV × Nat)} {b : List MapEntry}, MR f a b → entIn t a = true → MR (cutI t f) a b
  | _, _, .nil, _ => .nil
  | _, _, .cons k v n e es es' hk hv hn hs, h => by
    unfold entIn at h
    cases hq : (avIn t 10 k && avIn t 10 v) with
    | false => simp only [hq] at h; simp at h
    | true =>
      simp only [hq] at h
      rw [Bool.and_eq_true] at hq
      exact .cons k v n e es es' (VR_cut 10 _ _ hk hq.1) (VR_cut 10 _ _ hv hq.2) hn (MR_cut hs h)

theorem allL_get {q : AV → Bool} : ∀ {l : List AV}, allL q l = true → ∀ (i : Nat) (x : AV), l[i]? = some x → q x = true
  | [], _, i, x, h => by simp at h
  | a :: r, e, i, x, h => by
    unfold allL at e
    cases ha : q a with
    | false => rw [ha] at e; simp at e
    | true =>
      rw [ha] at e
      cases i with
      | zero => simp at h; subst h; exact ha
      | succ i => exact allL_get e i x (by simpa using h)

theorem BR_cut {t : Tr Blk} {f : Inj} {L : Nat × Nat × Nat} {b : Blk} {o : Obj} (h : BR f L b o) (e : blkIn t b = true) : BR (cutI t f) L b o := by
  cases b <;> cases o <;> simp only [BR] at h ⊢ <;> simp only [blkIn, Bool.false_eq_true] at e
  · obtain ⟨h1, h2, h3, h4, h5⟩ := h
    exact ⟨h1, h2, fun i x ei => let ⟨v, a, b⟩ := h3 i x ei; ⟨v, a, VR_cut 10 _ _ b (allL_get e i x ei)⟩, h4, h5⟩
  · exact ⟨h.1, MR_cut h.2 e⟩

/-! a small heap's contract in a greater one -/
/-- k bears s -/
structure Bears (s k : H) : Prop where
  next : s.next ≤ k.next
  sub : ∀ b x, s.blk.get b = some x → k.blk.get b = some x
  gl : s.gl = k.gl
  glob : ∀ g, memN g s.gl = true → there s.blk g = true

theorem cutI_sub (t : Tr Blk) (f : Inj) : Sub (cutI t f) f := fun b L e => by
  unfold cutI at e; split at e
  · exact e
  · simp at e
theorem cutI_some {t : Tr Blk} {f : Inj} {b : Nat} {L : Nat × Nat × Nat} (e : cutI t f b = some L) : there t b = true ∧ f b = some L := by
  unfold cutI at e; split at e
  · exact ⟨by assumption, e⟩
  · simp at e
theorem there_iff {t : Tr Blk} {b : Nat} : there t b = true ↔ ∃ x, t.get b = some x := by
  unfold there; cases t.get b <;> simp
theorem there_false {t : Tr Blk} {b : Nat} : ¬ there t b = true ↔ t.get b = none := by
  unfold there; cases t.get b <;> simp

/-- the blocks of s are closed: what lies in them lies within s -/
def Shut (t : Tr Blk) : Prop := ∀ b x, t.get b = some x → blkIn t x = true

theorem HR.small {f : Inj} {s k : H} {w : World} (hr : HR f k w) (hb : Bears s k) (hs : Shut s.blk) (hl : ∀ b, there s.blk b = true → b < s.next) : HR (cutI s.blk f) s w where
  dom := fun b L e => by
    obtain ⟨e1, e2⟩ := cutI_some e
    obtain ⟨h1, blk, o, h2, h3, h4⟩ := hr.dom b L e2
    obtain ⟨x, hx⟩ := there_iff.1 e1
    have := hb.sub b x hx
    rw [h2] at this; simp only [Option.some.injEq] at this; subst this
    exact ⟨hl b e1, blk, o, hx, h3, BR_cut h4 (hs b blk hx)⟩
  inj := fun b b' L L' e e' a a' h => by
    obtain ⟨t1, e1⟩ := cutI_some e
    obtain ⟨t2, e2⟩ := cutI_some e'
    obtain ⟨x, hx⟩ := there_iff.1 t1
    obtain ⟨y, hy⟩ := there_iff.1 t2
    refine hr.inj b b' L L' e1 e2 ?_ ?_ h
    · unfold alive at a ⊢; rw [hb.sub b x hx, ← hx]; exact a
    · unfold alive at a' ⊢; rw [hb.sub b' y hy, ← hy]; exact a'
  glob := fun g hg => by
    obtain ⟨E, hE⟩ := hr.glob g (by rw [← hb.gl]; exact hg)
    exact ⟨E, by unfold cutI; rw [if_pos (hb.glob g hg)]; exact hE⟩

/-- k with the blocks of t laid over -/
structure Over (t k k' : H) : Prop where
  next : k.next ≤ k'.next
  lt : ∀ b, there t.blk b = true → b < k'.next
  get : ∀ b, k'.blk.get b = if there t.blk b = true then t.blk.get b else k.blk.get b
  gl : k'.gl = k.gl

theorem CallC.frame {p : Program} {g : Nat} {args : List AV} {s t k k' : H} {v : AV} (c : CallC p g args s v t) (hb : Bears s k) (hs : Shut s.blk) (hl : ∀ b, there s.blk b = true → b < s.next) (hfr : s.next = k.next ∨ ∀ b, there t.blk b = true → there s.blk b = true) (ha : allL (avIn s.blk 10) args = true) (ho : Over t k k') : CallC p g args k v k' := by
  intro f w args' hr hargs
  have hr1 := hr.small hb hs hl
  refine CallsOk.map ?_ (c _ w args' hr1 (VRs_cut (VR_cut 10) hargs ha))
  rintro f' w' ⟨q1, q2⟩
  -- blocks of t below k.next lie in s
  have old : ∀ b, there t.blk b = true → b < k.next → there s.blk b = true := by
    intro b hb1 hlt
    rcases hfr with hfr | hfr
    · by_cases hn : there s.blk b = true
      · exact hn
      · obtain ⟨_, h2⟩ := q2.old b (by omega) (by unfold cutI; rw [if_neg hn])
        obtain ⟨x, hx⟩ := there_iff.1 hb1
        rw [h2] at hx
        exact there_iff.2 ⟨x, hx⟩
    · exact hfr b hb1
  have dom' : ∀ b L, f' b = some L → there t.blk b = true := fun b L e => by
    obtain ⟨_, blk, o, h2, _⟩ := q1.dom b L e
    exact there_iff.2 ⟨blk, h2⟩
  let F : Inj := fun b => if there t.blk b = true then f' b else f b
  have s1 : Sub f' F := fun b L e => by
    show (if _ then _ else _) = _
    rw [if_pos (dom' b L e)]; exact e
  have s2 : Sub f F := fun b L e => by
    show (if _ then _ else _) = _
    split
    · rename_i ht
      have := old b ht (hr.dom b L e).1
      exact q2.sub b L (by unfold cutI; rw [if_pos this]; exact e)
    · exact e
  have Fin : ∀ {b L}, F b = some L → there t.blk b = true → f' b = some L := by
    intro b L e ht
    have : (if there t.blk b = true then f' b else f b) = some L := e
    rw [if_pos ht] at this; exact this
  have Fout : ∀ {b L}, F b = some L → ¬ there t.blk b = true → f b = some L := by
    intro b L e ht
    have : (if there t.blk b = true then f' b else f b) = some L := e
    rw [if_neg ht] at this; exact this
  have gin : ∀ {b}, there t.blk b = true → k'.blk.get b = t.blk.get b := fun h => by rw [ho.get, if_pos h]
  have gout : ∀ {b}, ¬ there t.blk b = true → k'.blk.get b = k.blk.get b := fun h => by rw [ho.get, if_neg h]
  -- what lies outside is kept
  have kept : ∀ b L, f b = some L → ¬ there t.blk b = true → alive k b → w'.heap[L.1]? = w.heap[L.1]? := by
    intro b L e hn hal
    obtain ⟨_, blk, o, h2, h3, _⟩ := hr.dom b L e
    have hlt : L.1 < w.heap.size := (Array.getElem?_eq_some_iff.1 h3).1
    refine q2.kept L.1 hlt fun b' L' e' a' heq => ?_
    obtain ⟨t1, e1⟩ := cutI_some e'
    obtain ⟨x, hx⟩ := there_iff.1 t1
    have : b' = b := hr.inj b' b L' L e1 e (by unfold alive at a' ⊢; rw [hb.sub b' x hx, ← hx]; exact a') hal heq
    subst this
    exact hn (dom' b' L' (q2.sub b' L' e'))
  refine ⟨F, ⟨?_, ?_⟩, fun v' hv => hv.mono s1⟩
  · refine ⟨?_, ?_, ?_⟩
    · intro b L e
      by_cases ht : there t.blk b = true
      · obtain ⟨h1, blk, o, h2, h3, h4⟩ := q1.dom b L (Fin e ht)
        exact ⟨ho.lt b ht, blk, o, by rw [gin ht]; exact h2, h3, h4.mono s1⟩
      · have e0 := Fout e ht
        obtain ⟨h1, blk, o, h2, h3, h4⟩ := hr.dom b L e0
        have hnx : b < k'.next := Nat.lt_of_lt_of_le h1 ho.next
        by_cases hal : alive k b
        · exact ⟨hnx, blk, o, by rw [gout ht]; exact h2, by rw [kept b L e0 ht hal]; exact h3, h4.mono s2⟩
        · have hd : blk = .dead := by
            unfold alive at hal; rw [h2] at hal
            simpa using hal
          subst hd
          have hlt : L.1 < w.heap.size := (Array.getElem?_eq_some_iff.1 h3).1
          have hlt' : L.1 < w'.heap.size := Nat.lt_of_lt_of_le hlt q2.size
          exact ⟨hnx, .dead, w'.heap[L.1], by rw [gout ht]; exact h2, by simp [hlt'], by simp [BR]⟩
    · intro b b' L L' e e' a a' heq
      by_cases ht : there t.blk b = true <;> by_cases ht' : there t.blk b' = true
      · exact q1.inj b b' L L' (Fin e ht) (Fin e' ht') (by unfold alive at a ⊢; rw [← gin ht]; exact a) (by unfold alive at a' ⊢; rw [← gin ht']; exact a') heq
      · exfalso
        have e0 := Fout e' ht'
        obtain ⟨_, blk, o, h2, h3, _⟩ := hr.dom b' L' e0
        have hlt : L'.1 < w.heap.size := (Array.getElem?_eq_some_iff.1 h3).1
        have a0 : alive k b' := by unfold alive at a' ⊢; rw [← gout ht']; exact a'
        rcases q2.rng b L (Fin e ht) (by unfold alive at a ⊢; rw [← gin ht]; exact a) with h5 | ⟨c, M, c1, c2, c3⟩
        · omega
        · obtain ⟨t1, e1⟩ := cutI_some c1
          obtain ⟨x, hx⟩ := there_iff.1 t1
          have : c = b' := hr.inj c b' M L' e1 e0 (by unfold alive at c2 ⊢; rw [hb.sub c x hx, ← hx]; exact c2) a0 (c3.trans heq)
          subst this
          exact ht' (dom' c M (q2.sub c M c1))
      · exfalso
        have e0 := Fout e ht
        obtain ⟨_, blk, o, h2, h3, _⟩ := hr.dom b L e0
        have hlt : L.1 < w.heap.size := (Array.getElem?_eq_some_iff.1 h3).1
        have a0 : alive k b := by unfold alive at a ⊢; rw [← gout ht]; exact a
        rcases q2.rng b' L' (Fin e' ht') (by unfold alive at a' ⊢; rw [← gin ht']; exact a') with h5 | ⟨c, M, c1, c2, c3⟩
        · omega
        · obtain ⟨t1, e1⟩ := cutI_some c1
          obtain ⟨x, hx⟩ := there_iff.1 t1
          have : c = b := hr.inj c b M L e1 e0 (by unfold alive at c2 ⊢; rw [hb.sub c x hx, ← hx]; exact c2) a0 (c3.trans heq.symm)
          subst this
          exact ht (dom' c M (q2.sub c M c1))
      · exact hr.inj b b' L L' (Fout e ht) (Fout e' ht') (by unfold alive at a ⊢; rw [← gout ht]; exact a) (by unfold alive at a' ⊢; rw [← gout ht']; exact a') heq
    · intro g hg
      obtain ⟨E, hE⟩ := hr.glob g (by rw [← ho.gl]; exact hg)
      exact ⟨E, s2 _ _ hE⟩
  · refine ⟨s2, ?_, ?_, q2.size, ?_, ?_, ?_, q2.still⟩
    · intro b hlt e
      by_cases ht : there t.blk b = true
      · have hs1 := old b ht hlt
        obtain ⟨h1, h2⟩ := q2.old b (hl b hs1) (by unfold cutI; rw [if_pos hs1]; exact e)
        obtain ⟨x, hx⟩ := there_iff.1 hs1
        refine ⟨?_, ?_⟩
        · show (if _ then _ else _) = _
          rw [if_pos ht]; exact h1
        · rw [gin ht, h2, hx, hb.sub b x hx]
      · refine ⟨?_, gout ht⟩
        show (if _ then _ else _) = _
        rw [if_neg ht]; exact e
    · exact ho.next
    · intro b hlt hd
      by_cases ht : there t.blk b = true
      · have hs1 := old b ht hlt
        obtain ⟨x, hx⟩ := there_iff.1 hs1
        have := hb.sub b x hx
        rw [hd] at this; simp only [Option.some.injEq] at this; subst this
        rw [gin ht]
        exact q2.dead b (hl b hs1) hx
      · rw [gout ht]; exact hd
    · intro b L e a
      by_cases ht : there t.blk b = true
      · rcases q2.rng b L (Fin e ht) (by unfold alive at a ⊢; rw [← gin ht]; exact a) with h5 | ⟨c, M, c1, c2, c3⟩
        · exact .inl h5
        · obtain ⟨t1, e1⟩ := cutI_some c1
          obtain ⟨x, hx⟩ := there_iff.1 t1
          exact .inr ⟨c, M, e1, by unfold alive at c2 ⊢; rw [hb.sub c x hx, ← hx]; exact c2, c3⟩
      · exact .inr ⟨b, L, Fout e ht, by unfold alive at a ⊢; rw [← gout ht]; exact a, rfl⟩
    · intro B hB hn
      refine q2.kept B hB fun b L e a => ?_
      obtain ⟨t1, e1⟩ := cutI_some e
      obtain ⟨x, hx⟩ := there_iff.1 t1
      exact hn b L e1 (by unfold alive at a ⊢; rw [hb.sub b x hx, ← hx]; exact a)

/-- new blocks may be forgotten -/
theorem CallC.forget {p : Program} {g : Nat} {args : List AV} {s t u : H} {v : AV} (c : CallC p g args s v t) (hsub : ∀ b x, u.blk.get b = some x → t.blk.get b = some x) (hs : ∀ b, there s.blk b = true → there u.blk b = true)
    (hsh : Shut u.blk) (hv : avIn u.blk 10 v = true) (hn : s.next ≤ u.next) (hlt : ∀ b, there u.blk b = true → b < u.next) (hgl : u.gl = s.gl) : CallC p g args s v u := by
  intro f w args' hr hargs
  refine CallsOk.map ?_ (c _ w args' hr hargs)
  rintro f' w' ⟨q1, q2⟩
  refine ⟨cutI u.blk f', ⟨?_, ?_⟩, fun v' h => VR_cut 10 _ _ h hv⟩
  · refine ⟨?_, ?_, ?_⟩
    · intro b L e
      obtain ⟨e1, e2⟩ := cutI_some e
      obtain ⟨_, blk, o, h2, h3, h4⟩ := q1.dom b L e2
      obtain ⟨x, hx⟩ := there_iff.1 e1
      have := hsub b x hx
      rw [h2] at this; simp only [Option.some.injEq] at this; subst this
      exact ⟨hlt b e1, blk, o, hx, h3, BR_cut h4 (hsh b blk hx)⟩
    · intro b b' L L' e e' a a' h
      obtain ⟨t1, e1⟩ := cutI_some e
      obtain ⟨t2, e2⟩ := cutI_some e'
      obtain ⟨x, hx⟩ := there_iff.1 t1
      obtain ⟨y, hy⟩ := there_iff.1 t2
      exact q1.inj b b' L L' e1 e2 (by unfold alive at a ⊢; rw [hsub b x hx, ← hx]; exact a) (by unfold alive at a' ⊢; rw [hsub b' y hy, ← hy]; exact a') h
    · intro g hg
      rw [hgl] at hg
      obtain ⟨E, hE⟩ := hr.glob g hg
      obtain ⟨_, blk, o, h2, _⟩ := hr.dom _ _ hE
      exact ⟨E, by unfold cutI; rw [if_pos (hs g (there_iff.2 ⟨blk, h2⟩))]; exact q2.sub _ _ hE⟩
  · refine ⟨?_, ?_, hn, q2.size, ?_, ?_, q2.kept, q2.still⟩
    · intro b L e
      obtain ⟨_, blk, o, h2, _⟩ := hr.dom b L e
      unfold cutI; rw [if_pos (hs b (there_iff.2 ⟨blk, h2⟩))]; exact q2.sub _ _ e
    · intro b hb e
      obtain ⟨h1, h2⟩ := q2.old b hb e
      refine ⟨by unfold cutI; split <;> simp [h1], ?_⟩
      cases hu : u.blk.get b with
      | some x => rw [← h2, hsub b x hu]
      | none =>
        cases hsb : s.blk.get b with
        | none => rfl
        | some x =>
          have := hs b (there_iff.2 ⟨x, hsb⟩)
          obtain ⟨y, hy⟩ := there_iff.1 this
          rw [hu] at hy; simp at hy
    · intro b hb hd
      have ht := hs b (there_iff.2 ⟨_, hd⟩)
      obtain ⟨y, hy⟩ := there_iff.1 ht
      have := hsub b y hy
      rw [q2.dead b hb hd] at this
      rw [hy, this]
    · intro b L e a
      obtain ⟨e1, e2⟩ := cutI_some e
      obtain ⟨x, hx⟩ := there_iff.1 e1
      exact q2.rng b L e2 (by unfold alive at a ⊢; rw [hsub b x hx, ← hx]; exact a)
end Go.Xec
namespace Go.Xec

structure Ent where
  g : Nat
  args : List AV
  nx : Nat
  S : List (Nat × Blk)
  v : AV
  nx' : Nat
  T : List (Nat × Blk)

noncomputable def layL : List (Nat × Blk) → Tr Blk → Tr Blk
  | [], t => t
  | x :: r, t => layL r (t.set x.1 x.2)
noncomputable def Ent.pre (e : Ent) (gl : List Nat) : H := ⟨layL e.S .nil, e.nx, gl⟩
noncomputable def Ent.post (e : Ent) (gl : List Nat) : H := ⟨layL e.T (layL e.S .nil), e.nx', gl⟩

noncomputable def beqEnts : List (AV × AV × Nat) → List (AV × AV × Nat) → Bool
  | [], [] => true
  | a :: x, b :: y => bif beqAV 10 a.1 b.1 && beqAV 10 a.2.1 b.2.1 && Nat.beq a.2.2 b.2.2 then beqEnts x y else false
  | _, _ => false
noncomputable def beqBlk : Blk → Blk → Bool
  | .cells e c o q, .cells e' c' o' q' => Nat.beq e e' && beqB o o' && beqB q q' && beqAVs (beqAV 10) c c'
  | .map es c, .map es' c' => Nat.beq c c' && beqEnts es es'
  | .dead, .dead => true
  | _, _ => false
noncomputable def beqNs : List Nat → List Nat → Bool
  | [], [] => true
  | a :: x, b :: y => bif Nat.beq a b then beqNs x y else false
  | _, _ => false
noncomputable def agree (t : Tr Blk) : List (Nat × Blk) → Bool
  | [] => true
  | x :: r => match t.get x.1 with
    | some y => bif beqBlk y x.2 then agree t r else false
    | none => false

theorem beqEnts_eq : ∀ {a b : List (AV × AV × Nat)}, beqEnts a b = true → a = b
  | [], [], _ => rfl
  | (k, v, n) :: x, (k', v', n') :: y, h => by
    unfold beqEnts at h
    rw [cond_eq_ite] at h
    split at h
    · rename_i h1
      simp only [Bool.and_eq_true] at h1
      obtain ⟨⟨h1, h2⟩, h3⟩ := h1
      rw [beqAV_eq _ _ _ h1, beqAV_eq _ _ _ h2, (beq_iff _ _).1 h3, beqEnts_eq h]
    · simp at h
  | [], _ :: _, h => by simp [beqEnts] at h
  | _ :: _, [], h => by simp [beqEnts] at h
theorem beqNs_eq : ∀ {a b : List Nat}, beqNs a b = true → a = b
  | [], [], _ => rfl
  | a :: x, b :: y, h => by
    unfold beqNs at h
    rw [cond_eq_ite] at h
    split at h
    · rename_i h1; rw [(beq_iff _ _).1 h1, beqNs_eq h]
    · simp at h
  | [], _ :: _, h => by simp [beqNs] at h
  | _ :: _, [], h => by simp [beqNs] at h
theorem beqBlk_eq {a b : Blk} (h : beqBlk a b = true) : a = b := by
  cases a <;> cases b <;> simp only [beqBlk, Bool.and_eq_true, Bool.false_eq_true] at h
  · obtain ⟨⟨⟨h1, h2⟩, h3⟩, h4⟩ := h
    rw [beqB_eq, _root_.beq_iff_eq] at h2 h3
    rw [(beq_iff _ _).1 h1, h2, h3, beqAVs_eq (fun a b => beqAV_eq 10 a b) _ _ h4]
  · rw [(beq_iff _ _).1 h.1, beqEnts_eq h.2]
  · rfl

theorem agree_mem {t : Tr Blk} : ∀ {l : List (Nat × Blk)}, agree t l = true → ∀ x, x ∈ l → t.get x.1 = some x.2
  | [], _, x, h => by simp at h
  | y :: r, e, x, h => by
    unfold agree at e
    split at e
    · rename_i z hz
      rw [cond_eq_ite] at e
      split at e
      · rename_i h1
        rcases List.mem_cons.1 h with rfl | h2
        · rw [hz, beqBlk_eq h1]
        · exact agree_mem e x h2
      · simp at e
    · simp at e

theorem layL_some : ∀ {l : List (Nat × Blk)} {t : Tr Blk} {b : Nat} {x : Blk}, (layL l t).get b = some x → (b, x) ∈ l ∨ t.get b = some x
  | [], _, _, _, h => .inr h
  | y :: r, t, b, x, h => by
    rcases layL_some (l := r) h with h1 | h1
    · exact .inl (List.mem_cons_of_mem _ h1)
    · rw [Tr.get_set] at h1
      split at h1
      · rename_i e
        simp only [Option.some.injEq] at h1
        refine .inl (List.mem_cons.2 (.inl ?_))
        cases y; simp_all
      · exact .inr h1

theorem layL_there : ∀ {l : List (Nat × Blk)} {t : Tr Blk} {b : Nat}, there t b = true → there (layL l t) b = true
  | [], _, _, h => h
  | y :: r, t, b, h => by
    refine layL_there (l := r) ?_
    rw [there_iff] at h ⊢
    rw [Tr.get_set]
    split
    · exact ⟨_, rfl⟩
    · exact h

theorem layL_over : ∀ {l : List (Nat × Blk)} {a c k : Tr Blk}, (∀ b, c.get b = if there a b = true then a.get b else k.get b) → ∀ b, (layL l c).get b = if there (layL l a) b = true then (layL l a).get b else k.get b
  | [], _, _, _, h => h
  | y :: r, a, c, k, h => by
    refine layL_over (l := r) (a := a.set y.1 y.2) (c := c.set y.1 y.2) fun b => ?_
    have ht : there (a.set y.1 y.2) b = true ↔ y.1 = b ∨ there a b = true := by
      rw [there_iff, there_iff]
      simp only [Tr.get_set]
      split
      · rename_i e; simp [e]
      · rename_i e; simp [e]
    simp only [Tr.get_set, ht]
    by_cases e : y.1 = b
    · simp [e]
    · simp only [e, if_false, false_or]
      exact h b

/-- the blocks at these places lie within -/
noncomputable def shutAt (t : Tr Blk) : List (Nat × Blk) → Bool
  | [] => true
  | x :: r => match t.get x.1 with
    | some y => bif blkIn t y then shutAt t r else false
    | none => false
theorem shutAt_mem {t : Tr Blk} : ∀ {l : List (Nat × Blk)}, shutAt t l = true → ∀ x, x ∈ l → ∀ y, t.get x.1 = some y → blkIn t y = true
  | [], _, x, h => by simp at h
  | y :: r, e, x, h => by
    unfold shutAt at e
    split at e
    · rename_i z hz
      rw [cond_eq_ite] at e
      split at e
      · rename_i h1
        rcases List.mem_cons.1 h with rfl | h2
        · intro u hu; rw [hz] at hu; simp only [Option.some.injEq] at hu; subst hu; exact h1
        · exact shutAt_mem e x h2
      · simp at e
    · simp at e
/-- what stands at these places in the one stands there in the other one -/
noncomputable def agreeAt (t u : Tr Blk) : List (Nat × Blk) → Bool
  | [] => true
  | x :: r => match t.get x.1 with
    | some y => (match u.get x.1 with
      | some z => bif beqBlk y z then agreeAt t u r else false
      | none => false)
    | none => false
theorem agreeAt_mem {t u : Tr Blk} : ∀ {l : List (Nat × Blk)}, agreeAt t u l = true → ∀ x, x ∈ l → ∀ y, t.get x.1 = some y → u.get x.1 = some y
  | [], _, x, h => by simp at h
  | y :: r, e, x, h => by
    unfold agreeAt at e
    split at e
    · rename_i z hz
      split at e
      · rename_i z' hz'
        rw [cond_eq_ite] at e
        split at e
        · rename_i h1
          rcases List.mem_cons.1 h with rfl | h2
          · intro u hu; rw [hz] at hu; simp only [Option.some.injEq] at hu; subst hu; rw [hz', beqBlk_eq h1]
          · exact agreeAt_mem e x h2
        · simp at e
      · simp at e
    · simp at e
noncomputable def allLt (n : Nat) : List (Nat × Blk) → Bool
  | [] => true
  | x :: r => bif Nat.blt x.1 n then allLt n r else false
theorem allLt_mem {n : Nat} : ∀ {l : List (Nat × Blk)}, allLt n l = true → ∀ x, x ∈ l → x.1 < n
  | [], _, x, h => by simp at h
  | y :: r, e, x, h => by
    unfold allLt at e
    rw [bif_blt] at e
    split at e
    · rename_i h1
      rcases List.mem_cons.1 h with rfl | h2
      · exact h1
      · exact allLt_mem e x h2
    · simp at e
noncomputable def glThere (t : Tr Blk) : List Nat → Bool
  | [] => true
  | g :: r => bif there t g then glThere t r else false
theorem glThere_mem {t : Tr Blk} : ∀ {l : List Nat}, glThere t l = true → ∀ g, memN g l = true → there t g = true
  | [], _, g, h => by simp [memN] at h
  | m :: r, e, g, h => by
    unfold glThere at e
    rw [cond_eq_ite] at e
    split at e
    · rename_i h1
      unfold memN at h
      rw [bif_beq] at h
      split at h
      · rename_i e2; subst e2; exact h1
      · exact glThere_mem e g h
    · simp at e

/-- is the run's answer the contract's, and is the contract closed? -/
noncomputable def okE (gl : List Nat) (e : Ent) (r : Option Res) : Bool :=
  match r with
  | some (.val v h1) => beqAV 10 v e.v && agreeAt (e.post gl).blk h1.blk e.S && agreeAt (e.post gl).blk h1.blk e.T && shutAt (e.post gl).blk e.S && shutAt (e.post gl).blk e.T && avIn (e.post gl).blk 10 e.v &&
      Nat.ble e.nx e.nx' && allLt e.nx' e.S && allLt e.nx' e.T && shutAt (e.pre gl).blk e.S && allLt e.nx e.S && allL (avIn (e.pre gl).blk 10) e.args && glThere (e.pre gl).blk gl
  | _ => false

structure EntFine (p : Program) (gl : List Nat) (e : Ent) : Prop where
  ok : CallC p e.g e.args (e.pre gl) e.v (e.post gl)
  shut : Shut (e.pre gl).blk
  lt : ∀ b, there (e.pre gl).blk b = true → b < e.nx
  lt' : ∀ b, there (e.post gl).blk b = true → b < e.nx'
  next : e.nx ≤ e.nx'
  args : allL (avIn (e.pre gl).blk 10) e.args = true
  glob : ∀ g, memN g gl = true → there (e.pre gl).blk g = true

theorem ent_of {p : Program} {sf : Task → Option Res} (ic : IC p sf) {gl : List Nat} {e : Ent} (h : okE gl e (sf (.call e.g e.args (e.pre gl))) = true) : EntFine p gl e := by
  unfold okE at h
  split at h
  · rename_i v h1 hr
    simp only [Bool.and_eq_true] at h
    obtain ⟨⟨⟨⟨⟨⟨⟨⟨⟨⟨⟨⟨k1, k2⟩, k3⟩, k4⟩, k5⟩, k6⟩, k7⟩, k8⟩, k9⟩, k10⟩, k13⟩, k11⟩, k12⟩ := h
    have hv := beqAV_eq _ _ _ k1
    subst hv
    have c0 : CallC p e.g e.args (e.pre gl) e.v h1 := fun f w args' hr' ha => ic.call _ _ _ _ _ hr f w args' hr' ha
    have keys : ∀ b x, (e.post gl).blk.get b = some x → (∃ y, (b, y) ∈ e.T) ∨ ∃ y, (b, y) ∈ e.S := by
      intro b x hx
      rcases layL_some hx with h1 | h1
      · exact .inl ⟨x, h1⟩
      · rcases layL_some h1 with h2 | h2
        · exact .inr ⟨x, h2⟩
        · rw [Tr.get_nil] at h2; simp at h2
    have hlt' : ∀ b, there (e.post gl).blk b = true → b < e.nx' := by
      intro b hb
      obtain ⟨x, hx⟩ := there_iff.1 hb
      rcases keys b x hx with ⟨y, hy⟩ | ⟨y, hy⟩
      · exact allLt_mem k9 _ hy
      · exact allLt_mem k8 _ hy
    have hlt : ∀ b, there (e.pre gl).blk b = true → b < e.nx := by
      intro b hb
      obtain ⟨x, hx⟩ := there_iff.1 hb
      rcases layL_some hx with h2 | h2
      · exact allLt_mem k13 _ h2
      · rw [Tr.get_nil] at h2; simp at h2
    refine ⟨c0.forget ?_ ?_ ?_ k6 (Nat.le_of_ble_eq_true k7) hlt' rfl, ?_, hlt, hlt', Nat.le_of_ble_eq_true k7, k11, glThere_mem k12⟩
    · intro b x hx
      rcases keys b x hx with ⟨y, hy⟩ | ⟨y, hy⟩
      · exact agreeAt_mem k3 _ hy x hx
      · exact agreeAt_mem k2 _ hy x hx
    · intro b hb; exact layL_there hb
    · intro b x hx
      rcases keys b x hx with ⟨y, hy⟩ | ⟨y, hy⟩
      · exact shutAt_mem k5 _ hy x hx
      · exact shutAt_mem k4 _ hy x hx
    · intro b x hx
      rcases layL_some hx with h2 | h2
      · exact shutAt_mem k10 _ h2 x hx
      · rw [Tr.get_nil] at h2; simp at h2
  · simp at h

/-- do these blocks stand in the other row, too? -/
noncomputable def inKeys (b : Nat) : List (Nat × Blk) → Bool
  | [] => false
  | x :: r => bif Nat.beq x.1 b then true else inKeys b r
noncomputable def noNew (S : List (Nat × Blk)) : List (Nat × Blk) → Bool
  | [] => true
  | x :: r => bif inKeys x.1 S then noNew S r else false

/-- a contract is asked -/
noncomputable def askE (gl : List Nat) (e : Ent) (g : Nat) (args : List AV) (h : H) : Option Res :=
  bif Nat.beq e.g g then
    (bif beqAVs (beqAV 10) e.args args && beqNs gl h.gl && agree h.blk e.S then
      (bif Nat.beq e.nx h.next then some (.val e.v ⟨layL e.T h.blk, e.nx', h.gl⟩)
       else bif Nat.ble e.nx h.next && noNew e.S e.T then some (.val e.v ⟨layL e.T h.blk, h.next, h.gl⟩) else none)
     else none)
  else none
noncomputable def askL (gl : List Nat) (g : Nat) (args : List AV) (h : H) : List Ent → Option Res
  | [] => none
  | e :: r => match askE gl e g args h with
    | some x => some x
    | none => askL gl g args h r
noncomputable def askT (gl : List Nat) (T : List Ent) (t : Task) : Option Res :=
  match t with
  | .call g args h => askL gl g args h T
  | _ => none

theorem inKeys_there {b : Nat} : ∀ {l : List (Nat × Blk)} {t : Tr Blk}, inKeys b l = true → there (layL l t) b = true
  | [], _, h => by simp [inKeys] at h
  | x :: r, t, h => by
    unfold inKeys at h
    rw [bif_beq] at h
    split at h
    · rename_i e
      refine layL_there (l := r) ?_
      rw [there_iff, Tr.get_set, if_pos e]; exact ⟨_, rfl⟩
    · exact inKeys_there (l := r) h
theorem noNew_mem {S : List (Nat × Blk)} : ∀ {l : List (Nat × Blk)}, noNew S l = true → ∀ x, x ∈ l → inKeys x.1 S = true
  | [], _, x, h => by simp at h
  | y :: r, e, x, h => by
    unfold noNew at e
    rw [cond_eq_ite] at e
    split at e
    · rename_i h1
      rcases List.mem_cons.1 h with rfl | h2
      · exact h1
      · exact noNew_mem e x h2
    · simp at e

theorem askE_ok {p : Program} {gl : List Nat} {e : Ent} (he : EntFine p gl e) {g : Nat} {args : List AV} {h : H} {v : AV} {h' : H} (k : askE gl e g args h = some (.val v h')) : CallC p g args h v h' := by
  unfold askE at k
  rw [bif_beq] at k
  split at k
  · rename_i hg
    rw [cond_eq_ite] at k
    split at k
    · rename_i c
      subst hg
      simp only [Bool.and_eq_true] at c
      obtain ⟨⟨c2, c3⟩, c4⟩ := c
      have e2 := beqAVs_eq (fun a b => beqAV_eq 10 a b) _ _ c2
      have e3 := beqNs_eq c3
      subst e2
      have hb : e.nx ≤ h.next → Bears (e.pre gl) h := fun e1 => ⟨e1, fun b x hx => by
        rcases layL_some hx with h2 | h2
        · exact agree_mem c4 _ h2
        · rw [Tr.get_nil] at h2; simp at h2, e3, he.glob⟩
      have over : ∀ (hb : Bears (e.pre gl) h), ∀ b, (layL e.T h.blk).get b = if there (e.post gl).blk b = true then (e.post gl).blk.get b else h.blk.get b := fun hb => by
        refine layL_over (l := e.T) (a := layL e.S .nil) (c := h.blk) (k := h.blk) fun b => ?_
        split
        · rename_i ht
          obtain ⟨x, hx⟩ := there_iff.1 ht
          rw [hx]; exact hb.sub b x hx
        · rfl
      rw [bif_beq] at k
      split at k
      · rename_i e1
        simp only [Option.some.injEq, Res.val.injEq] at k
        obtain ⟨rfl, rfl⟩ := k
        have hb := hb (by omega)
        exact he.ok.frame hb he.shut he.lt (.inl e1) he.args ⟨by show h.next ≤ e.nx'; rw [← e1]; exact he.next, he.lt', over hb, rfl⟩
      · rw [cond_eq_ite] at k
        split at k
        · rename_i c5
          simp only [Bool.and_eq_true] at c5
          simp only [Option.some.injEq, Res.val.injEq] at k
          obtain ⟨rfl, rfl⟩ := k
          have hle := Nat.le_of_ble_eq_true c5.1
          have hb := hb hle
          have hin : ∀ b, there (e.post gl).blk b = true → there (e.pre gl).blk b = true := by
            intro b hx
            obtain ⟨x, hx⟩ := there_iff.1 hx
            rcases layL_some hx with h2 | h2
            · exact inKeys_there (noNew_mem c5.2 _ h2)
            · exact there_iff.2 ⟨x, h2⟩
          exact he.ok.frame hb he.shut he.lt (.inr hin) he.args ⟨Nat.le_refl _, fun b hx => Nat.lt_of_lt_of_le (he.lt b (hin b hx)) hle, over hb, rfl⟩
        · simp at k
    · simp at k
  · simp at k

theorem ask_ic {p : Program} {gl : List Nat} {T : List Ent} (hT : ∀ e, e ∈ T → EntFine p gl e) : IC p (askT gl T) := by
  have key : ∀ (T : List Ent), (∀ e, e ∈ T → EntFine p gl e) → ∀ g args h v h', askL gl g args h T = some (.val v h') → CallC p g args h v h' := by
    intro T
    induction T with
    | nil => intro _ g args h v h' e; simp [askL] at e
    | cons x r ih =>
      intro hT g args h v h' e
      unfold askL at e
      split at e
      · rename_i y hy
        simp only [Option.some.injEq] at e; subst e
        exact askE_ok (hT x (List.mem_cons_self ..)) hy
      · exact ih (fun e he => hT e (List.mem_cons_of_mem _ he)) g args h v h' e
  refine { call := ?_, round := ?_, dyn := ?_, code := ?_, again := ?_, scope := ?_ }
  · intro g args h v h' e f w args' hr ha
    exact key T hT g args h v h' e f w args' hr ha
  · intro _ _ _ _ _ e; simp [askT] at e
  · intro _ _ _ _ _ e; simp [askT] at e
  · intro _ _ _ _ _ _ e; simp [askT] at e
  · intro _ _ _ _ _ _ e; simp [askT] at e
  · intro _ _ _ _ _ _ _ e; simp [askT] at e

/-- a contract by a run that looks into a table -/
theorem ent_by {p : Program} (hp : POk p) {gl : List Nat} (T : List Ent) (hT : ∀ e, e ∈ T → EntFine p gl e) (n : Nat) (e : Ent) (h : okE gl e (runQ p (askT gl T) n (.call e.g e.args (e.pre gl))) = true) : EntFine p gl e :=
  ent_of (runQ_ic hp (ask_ic hT) n) h
end Go.Xec
namespace Go.Xec
noncomputable def pokB (p : Program) : Bool :=
  p.follows .mixedOrders && p.funcs.toList.all fun fn => match fn.body with
    | some _ => !decide (fn.name = "runtime.NumGoroutine")
    | none => Nat.beq (extCode fn) 0 || decide (fn.origin = "")
theorem pok_of {p : Program} (h : pokB p = true) : POk p := by
  unfold pokB at h
  simp only [Bool.and_eq_true, List.all_eq_true] at h
  obtain ⟨h1, h2⟩ := h
  have mem : ∀ (g : Nat) (fn : Func), p.funcs[g]? = some fn → fn ∈ p.funcs.toList := fun g fn e => by
    obtain ⟨hlt, e⟩ := Array.getElem?_eq_some_iff.1 e
    rw [← e]; simp
  refine ⟨fun g fn e hb => ?_, h1, fun g fn e hb hx => ?_⟩
  · have := h2 fn (mem g fn e)
    split at this
    · simpa using this
    · rename_i hn; rw [hn] at hb; simp at hb
  · have := h2 fn (mem g fn e)
    rw [hb] at this
    simp only [Bool.or_eq_true, decide_eq_true_eq] at this
    rcases this with h3 | h3
    · exact absurd ((beq_iff _ _).1 h3) hx
    · exact h3

def Fines (p : Program) (gl : List Nat) : List Ent → Prop
  | [] => True
  | e :: r => EntFine p gl e ∧ Fines p gl r
theorem Fines.mem {p : Program} {gl : List Nat} : ∀ {T : List Ent}, Fines p gl T → ∀ e, e ∈ T → EntFine p gl e
  | [], _, e, h => by simp at h
  | _ :: _, ⟨h1, h2⟩, e, h => by
    rcases List.mem_cons.1 h with rfl | h3
    · exact h1
    · exact Fines.mem h2 e h3
theorem ent_run {p : Program} (hp : POk p) {gl : List Nat} (T : List Ent) (hT : Fines p gl T) (n : Nat) (e : Ent) (h : okE gl e (runQ p (askT gl T) n (.call e.g e.args (e.pre gl))) = true) : EntFine p gl e :=
  ent_by hp T hT.mem n e h
end Go.Xec
namespace Go.Xec
theorem CallC.calls {p : Program} (hp : POk p) {g : Nat} {args : List AV} {h h' : H} {v : AV} (c : CallC p g args h v h') {fn : Func} {cd : Code} (hf : p.funcs[g]? = some fn) (hb : fn.body = some cd)
    {f : Inj} {w : World} {args' : List Value} (hr : HR f h w) (ha : VRs f args args') : Calls p g args'.toArray w fun e w' => ∃ v' f', e = .returned v' ∧ VR f' v v' ∧ HR f' h' w' ∧ Ext f h w f' h' w' := by
  intro cs
  have hrun := callFunc_enter hp hf hb args'.toArray w
  rcases c f w args' hr ha with ⟨nx, v', w', f', c1, c2, _⟩ | ⟨g2, a2, c1, c2⟩ | ⟨L, g2, tmps, asg, body, c1, _⟩
  · rw [hrun] at c1
    simp only [Result.ok.injEq] at c1
    rcases c2 with rfl | ⟨rfl, _⟩ <;> simp at c1
  · rw [hrun] at c1
    simp only [Result.ok.injEq, Next.enter.injEq] at c1
    obtain ⟨⟨rfl, rfl⟩, _⟩ := c1
    obtain ⟨f2, w2, fr2, v', g1, g2, g3, g4, g5, ⟨fn', g6, g7⟩, g8, g9⟩ := c2 .normal cs (.inl rfl)
    exact ⟨.returned v', w2, fr2, ⟨v', f2, rfl, g9, g8.1, g8.2⟩, g1, g2, g3, g4, g5, fn', by rw [g2]; exact g6, g7⟩
  · rw [hrun] at c1
    simp at c1
end Go.Xec
