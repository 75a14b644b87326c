/- The law of the executor: what it answers, the program does in every world. Condition: POk. -/
import Derived.Test.YtahbgdeahpogaaaGreatDoorXd
import Derived.Orders
import Derived.Lib.Bytealg
import Derived.RangeFuncLeaves
namespace Go.Xec

/-- what is asked of a program: no Go function bears the runtime's own name; regions that draw are listed in any order -/
structure POk (p : Program) : Prop where
  num : ∀ (g : Nat) (fn : Func), p.funcs[g]? = some fn → fn.body.isSome = true → fn.name ≠ "runtime.NumGoroutine"
  mixed : p.follows .mixedOrders = true
  ext : ∀ (g : Nat) (fn : Func), p.funcs[g]? = some fn → fn.body = none → extCode fn ≠ 0 → fn.origin = ""

def RND (f : Inj) : Option Nat → Option Nat → Prop
  | none, none => True
  | some l, some L => ∃ sh E, f l = some (L, sh, E)
  | _, _ => False

inductive DR (f : Inj) : List AD → List Deferred → Prop
  | nil : DR f [] []
  | coll (r R sh E : Nat) (ds : List AD) (ds' : List Deferred) (h : f r = some (R, sh, E)) (hs : DR f ds ds') : DR f (.coll r :: ds) ({ target := .collected R, args := #[] } :: ds')
  | fn (g : Nat) (args : List AV) (cap args' : Array Value) (ds : List AD) (ds' : List Deferred) (h : VRs f args (args'.toList ++ cap.toList)) (hs : DR f ds ds') :
      DR f (.fn g args :: ds) ({ target := .fn (.func g) cap, args := args' } :: ds')

theorem RND.mono {f g : Inj} (s : Sub f g) {a b : Option Nat} (h : RND f a b) : RND g a b := by
  cases a <;> cases b <;> simp only [RND] at h ⊢
  obtain ⟨sh, E, e⟩ := h
  exact ⟨sh, E, s _ _ e⟩

theorem DR.mono {f g : Inj} (s : Sub f g) : ∀ {a : List AD} {b : List Deferred}, DR f a b → DR g a b
  | _, _, .nil => .nil
  | _, _, .coll r R sh E ds ds' h hs => .coll r R sh E ds ds' (s _ _ h) (DR.mono s hs)
  | _, _, .fn g args cap args' ds ds' h hs => .fn g args cap args' ds ds' (h.mono s) (DR.mono s hs)

structure FrR (f : Inj) (fr : Fr) (b : Frame) (a : Act) : Prop where
  fn : b.fn = fr.fn
  rnd : RND f fr.rnd b.roundOf
  tm : FR f fr.tm fr.nt a.tmps
  ds : DR f fr.ds a.defers

theorem FrR.mono {f g : Inj} (s : Sub f g) {fr : Fr} {b : Frame} {a : Act} (h : FrR f fr b a) : FrR g fr b a := ⟨h.1, h.2.mono s, h.3.mono s, h.4.mono s⟩

/-- nothing is panicking around -/
def Calm (kd : CallKind) (cs : List Frame) : Prop := kd = .normal ∨ (kd = .deferred ∧ ∃ c rest, cs = c :: rest ∧ c.mode = .returning)

def Post (f : Inj) (h : H) (w : World) (f' : Inj) (h' : H) (w' : World) : Prop := HR f' h' w' ∧ Ext f h w f' h' w'

/-- a function that is entered comes to its end -/
def EnterOk (p : Program) (f : Inj) (h : H) (w : World) (v : AV) (h' : H) (g : Nat) (args' : Array Value) : Prop :=
  ∀ (kd : CallKind) (cs : List Frame), Calm kd cs → ∃ f' w' fr v', Steps p (lone (Frame.enter p g args' kd) cs w) (lone fr cs w') ∧ fr.fn = g ∧ fr.mode = .returning ∧ fr.defers = [] ∧ fr.kind = kd ∧
    (∃ fn, p.funcs[g]? = some fn ∧ (results fn fr.tmps).run p w' = .ok v' w') ∧ Post f h w f' h' w' ∧ VR f' v v'

def RoundOk (p : Program) (f : Inj) (h : H) (w : World) (v : AV) (h' : H) (L g : Nat) (tmps : Array Value) (asg body : Code) : Prop :=
  ∀ (c : Frame) (cs : List Frame), ∃ f' w' v', Steps p (lone (Frame.round L g tmps asg body .normal) (c :: cs) w) (lone (c.finish v') cs w') ∧ Post f h w f' h' w' ∧ VR f' v v'

/-- what a call does -/
def CallsOk (p : Program) (f : Inj) (h : H) (w : World) (v : AV) (h' : H) (s : Sem Next) : Prop :=
  (∃ nx v' w' f', s.run p w = .ok nx w' ∧ (nx = .value v' ∨ (nx = .skip ∧ v' = undef)) ∧ HR f' h' w' ∧ Ext f h w f' h' w' ∧ VR f' v v') ∨
  (∃ g args', s.run p w = .ok (.enter g args') w ∧ EnterOk p f h w v h' g args') ∨
  (∃ L g tmps asg body, s.run p w = .ok (.round L g tmps asg body) w ∧ RoundOk p f h w v h' L g tmps asg body)

/-- what is known of the runs with less fuel -/
structure IH (p : Program) (sf : Task → Option Res) : Prop where
  call : ∀ g args h v h', sf (.call g args h) = some (.val v h') → ∀ f w args', HR f h w → VRs f args args' → CallsOk p f h w v h' (callFunc g args'.toArray)
  round : ∀ l args h v h', sf (.round l args h) = some (.val v h') → ∀ f w L sh E args', HR f h w → f l = some (L, sh, E) → VRs f args args' → CallsOk p f h w v h' (Instr.yield L args'.toArray)
  dyn : ∀ x args h v h', sf (.dyn x args h) = some (.val v h') → ∀ f w x' args', HR f h w → VR f x x' → VRs f args args' → CallsOk p f h w v h' (do let d ← Deferred.ofValue x' args'.toArray; invoke d.target d.args)

theorem CallsOk.of_run {p : Program} {f : Inj} {h : H} {w : World} {v : AV} {h' : H} {s t : Sem Next} (c : CallsOk p f h w v h' t) (e : s.run p w = t.run p w) : CallsOk p f h w v h' s := by
  unfold CallsOk at c ⊢
  rw [e]; exact c

section
variable {f : Inj} {h : H} {w : World} {p : Program} {self : Task → Option Res}

theorem run_method {t : Nat} {v' : Value} {name : String} {v : AV} (hr : HR f h w) (hv : VR f v v') {g : Nat} {r : AV} (e : methodA p h t v name = some (g, r)) (n : Nat) :
    ∃ r', (method (n + 1) t v' name).run p w = .ok (g, r') w ∧ VR f r r' := by
  unfold methodA at e
  split at e
  · simp at e
  · rename_i g0 pr hm
    obtain ⟨i, m, h1, h2, h3, h4⟩ := methodOf_spec hm
    have hti : (typeInfo t).run p w = .ok i w := by simp [typeInfo, h1]
    split at e
    · simp at e
    · rename_i q hq
      have hu := (ti_spec hq).run_und w
      have hpre : (method (n + 1) t v' name).run p w = ((receiverAt t (.val v') pr (some ((name.splitOn ".").getLastD name))).run p w).andThen fun a w' => .ok (g0, a) w' := by
        simp only [method, Sem.run_bind, hti, Result.andThen_ok, h2, h3, Array.toList_empty, follow, Sem.run_pure, h4, Array.isEmpty_empty, if_true]
      rw [hpre]
      split at e
      · rename_i el hund
        rw [hund] at hu
        simp only [Option.some.injEq, Prod.mk.injEq] at e
        obtain ⟨rfl, rfl⟩ := e
        refine ⟨v', ?_, hv⟩
        simp only [receiverAt, Sem.run_bind, hu, Result.andThen_ok, Place.get, Sem.run_pure]
      · rename_i el hund
        rw [hund] at hu
        split at e
        · rename_i b o
          cases hv with | ptr _ _ B sh E hb =>
          split at e
          · rename_i x hx
            simp only [Option.some.injEq, Prod.mk.injEq] at e
            obtain ⟨rfl, rfl⟩ := e
            obtain ⟨u, g1, g2⟩ := loadA_sound (p := p) hr hb hx
            refine ⟨u, ?_, g2⟩
            have hw : (Builtin.ssaWrapNilChk_ #[t] t #[.pointer (some ⟨B, sh + o, none⟩), strVal "", strVal ((name.splitOn ".").getLastD name)]).run p w = .ok (.pointer (some ⟨B, sh + o, none⟩)) w := rfl
            simp only [receiverAt, Sem.run_bind, hu, Result.andThen_ok, Place.get, Sem.run_pure, hw, asAddr, g1]
          · simp at e
        · simp at e
      · rename_i hne hnp
        simp only [Option.some.injEq, Prod.mk.injEq] at e
        obtain ⟨rfl, rfl⟩ := e
        refine ⟨v', ?_, hv⟩
        simp only [receiverAt, Sem.run_bind, hu, Result.andThen_ok]
        cases hd : q.und <;> first | rfl | (exact (hnp _ hd).elim)
      · simp at e

theorem resolve_args {c : Call} {ρ' : Operand → Value} : c.args.map ρ' = (c.args.toList.map ρ').toArray := map_toArray _ _

theorem callA_sound (ih : IH p self) (hr : HR f h w) {ρ : Operand → Option AV} {ρ' : Operand → Value} (hρ : OR f ρ ρ') (o : Oper) {c : Call} (ho : o.op = .call c) {v : AV} {h' : H} (e : callA p self ρ c h = some (v, h')) :
    CallsOk p f h w v h' (execOp ρ' o) := by
  unfold callA at e
  split at e
  · simp at e
  · rename_i args hargs
    have ha := evs_sound hρ _ _ hargs
    split at e
    · rename_i b hb
      obtain ⟨v', w', f', g1, g2, g3, g4⟩ := heavyB_sound (p := p) hr ha e o.type (c.args.map fun | .const _ => true | _ => false)
      refine .inl ⟨_, v', w', f', ?_, .inl rfl, g2, g3, g4⟩
      simp only [execOp, ho, resolve, hb, Sem.run_bind, Sem.run_pure, Result.andThen_ok, invoke, resolve_args]
      exact g1
    · rename_i x hx
      split at e
      · rename_i g hg
        unfold valR at e
        split at e
        · rename_i v2 h2 hs
          simp only [Option.some.injEq, Prod.mk.injEq] at e
          obtain ⟨rfl, rfl⟩ := e
          refine (ih.dyn _ _ _ _ _ hs f w _ _ hr (hρ _ _ hg) ha).of_run ?_
          simp only [execOp, ho, resolve, hx, resolve_args]
        · simp at e
      · simp at e
    · rename_i r name hx
      unfold invokeA at e
      split at e
      · rename_i t v1 hr1
        split at e
        · rename_i g v2 hm
          unfold valR at e
          split at e
          · rename_i v3 h3 hs
            simp only [Option.some.injEq, Prod.mk.injEq] at e
            obtain ⟨rfl, rfl⟩ := e
            have hv := hρ _ _ hr1
            generalize hcv : ρ' r = cv at hv
            cases hv with | iface _ _ u hu =>
            obtain ⟨r', g1, g2⟩ := run_method (p := p) hr hu hm (p.types.size + (Made.depth - 1))
            have hd : p.types.size + (Made.depth - 1) + 1 = p.types.size + Made.depth := by unfold Made.depth; omega
            rw [hd] at g1
            refine (ih.call _ _ _ _ _ hs f w (r' :: c.args.toList.map ρ') hr (.cons _ _ _ _ g2 ha)).of_run ?_
            have e1 : (#[Value.iface t u] ++ c.args.map ρ')[0]? = some (Value.iface t u) := by rw [Array.getElem?_append_left (by simp)]; rfl
            have e2 : (#[Value.iface t u] ++ c.args.map ρ').extract 1 (#[Value.iface t u] ++ c.args.map ρ').size = c.args.map ρ' := by
              apply Array.toList_inj.1
              simp only [Array.toList_extract, Array.size_append]
              rw [List.extract_eq_take_drop]
              simp [List.take_of_length_le]
            have e3 : #[r'] ++ c.args.map ρ' = (r' :: c.args.toList.map ρ').toArray := by
              apply Array.toList_inj.1; simp
            simp only [execOp, ho, resolve, hx, hcv, Sem.run_bind, Sem.run_pure, Result.andThen_ok, invoke, e1, e2, callMethod, run_program, g1, e3]
          · simp at e
        · simp at e
      · simp at e

/-- an operation's value -/
theorem opVal_sound (ih : IH p self) (hr : HR f h w) {ρ : Operand → Option AV} {ρ' : Operand → Value} (hρ : OR f ρ ρ') (o : Oper) {v : AV} {h' : H} (e : opVal p self ρ o.op h = some (v, h')) :
    CallsOk p f h w v h' (execOp ρ' o) := by
  unfold opVal at e
  split at e
  · split at e
    · rename_i r hl
      simp only [Option.some.injEq, Prod.mk.injEq] at e
      obtain ⟨rfl, rfl⟩ := e
      obtain ⟨v', g1, g2⟩ := light_sound (p := p) hr hρ o hl
      exact .inl ⟨_, v', w, f, g1, .inl rfl, hr, Ext.refl _ _ _, g2⟩
    · simp at e
  · split at e
    · rename_i r blk hm
      simp only [Option.some.injEq, Prod.mk.injEq] at e
      obtain ⟨rfl, rfl⟩ := e
      obtain ⟨v', ob, E, g1, g2, g3⟩ := makes_sound (p := p) (w := w) hρ o hm
      obtain ⟨k1, k2⟩ := add_sound (d := w.drawn) hr g2
      exact .inl ⟨_, v', _, _, g1, .inl rfl, k1, k2, g3 _ k2.sub (by simp [ins])⟩
    · simp at e
  · unfold heavy at e
    split at e
    · rename_i t a x ho
      exact .inl (storeO_sound (p := p) hr hρ o ho e)
    · rename_i t m k x ho
      exact .inl (mapPutO_sound (p := p) hr hρ o (.inl ho) e)
    · rename_i t m k x ho
      exact .inl (mapPutO_sound (p := p) hr hρ o (.inr ho) e)
    · rename_i it s ho
      split at e
      · rename_i x hx
        obtain ⟨v', w', g1, g2, g3, g4⟩ := nextA_sound (p := p) hr (hρ _ _ hx) e o.type
        refine .inl ⟨_, v', w', f, ?_, .inl rfl, g2, g3, g4⟩
        simp only [execOp, ho]
        exact run_v g1
      · simp at e
    · rename_i c ho
      exact callA_sound ih hr hρ o ho e
    · simp at e

end
end Go.Xec
namespace Go.Xec

section
variable {f : Inj} {h : H} {w : World} {p : Program} {sf : Task → Option Res}

theorem op_steps {ops : Array Oper} {i : Nat} {rest : List Nat} {o : Oper} {a : Act} {k : List Item} {b : Frame} {cs : List Frame} (ho : ops[i]? = some o) (hw : Region.wanted o (yielded ops a.tmps) = true) (hnd : ∀ c, o.op ≠ .defer c)
    {v : AV} {h' : H} (hc : CallsOk p f h w v h' (execOp a.eval o)) :
    ∃ f' w' v', Steps p (lone (b.atR a (.inRegion ops (i :: rest) :: k)) cs w) (lone (b.atR (a.put o.dst v') (.inRegion ops rest :: k)) cs w') ∧ Post f h w f' h' w' ∧ VR f' v v' := by
  have hg := stepGR_op (P := p) (b := b) (k := k) (cs := cs) (w := w) (rest := rest) ho hw
  rw [Oper.semAt_eq _ _ _ hnd] at hg
  have hfin : ∀ v, (b.atR a (.inRegion ops (i :: rest) :: k)).finish v = b.atR (a.put o.dst v) (.inRegion ops rest :: k) := by
    intro v; rw [Frame.finish_atR, ho]; rfl
  rcases hc with ⟨nx, v', w', f', h1, h2, h3, h4, h5⟩ | ⟨g, args', h1, h2⟩ | ⟨L, g, tmps, asg, body, h1, h2⟩
  · refine ⟨f', w', v', .one (step_lone_go ?_), ⟨h3, h4⟩, h5⟩
    rcases h2 with rfl | ⟨rfl, rfl⟩
    · rw [hg, ← hfin]; simp [stepG.apply, h1]
    · rw [hg, ← hfin]; simp [stepG.apply, h1]
  · obtain ⟨f', w', fr, v', g1, g2, g3, g4, g5, ⟨fn, g6, g7⟩, g8, g9⟩ := h2 .normal (b.atR a (.inRegion ops (i :: rest) :: k) :: cs) (.inl rfl)
    have henter : step p (lone (b.atR a (.inRegion ops (i :: rest) :: k)) cs w) =
        .next (lone (Frame.enter p g args' .normal) (b.atR a (.inRegion ops (i :: rest) :: k) :: cs) w) :=
      step_lone_go (by rw [hg]; simp [stepG.apply, h1, Frame.atR])
    have hleave : fr.leaving p w' (.returned v') := ⟨g3, g4, g5, fn, by rw [g2]; exact g6, g7⟩
    refine ⟨f', w', v', .head henter (g1.trans (.one ?_)), g8, g9⟩
    rw [← hfin]; exact step_leave_returned hleave
  · obtain ⟨f', w', v', g1, g2, g3⟩ := h2 (b.atR a (.inRegion ops (i :: rest) :: k)) cs
    have henter : step p (lone (b.atR a (.inRegion ops (i :: rest) :: k)) cs w) =
        .next (lone (Frame.round L g tmps asg body .normal) (b.atR a (.inRegion ops (i :: rest) :: k) :: cs) w) :=
      step_lone_go (by rw [hg]; simp [stepG.apply, h1, Frame.atR])
    refine ⟨f', w', v', .head henter ?_, g2, g3⟩
    rw [← hfin]; exact g1

theorem skip_steps {ops : Array Oper} {i : Nat} {rest : List Nat} {o : Oper} {a : Act} {k : List Item} {b : Frame} {cs : List Frame} (ho : ops[i]? = some o) (hw : Region.wanted o (yielded ops a.tmps) = false) :
    Steps p (lone (b.atR a (.inRegion ops (i :: rest) :: k)) cs w) (lone (b.atR (a.put o.dst undef) (.inRegion ops rest :: k)) cs w) := by
  have hs := stepR_op_skip (P := p) (b := b) (a := a) (k := k) (cs := cs) (w := w) (ops := ops) (i := i) (rest := rest) (by simp [ho, hw])
  simp only [ho, Option.bind_some] at hs
  exact .one hs

/-! frames -/
theorem evOp_rel (hr : HR f h w) {tm : Tr AV} {nt : Nat} {a : Act} (ht : FR f tm nt a.tmps) : OR f (evOp h.gl tm) a.eval := by
  intro x v e
  unfold evOp at e
  split at e
  · rename_i t
    have := ht.2 t
    split at e
    · rename_i u hu
      simp only [Option.some.injEq] at e; subst e
      rw [hu] at this; exact this
    · rename_i hu
      simp only [Option.some.injEq] at e; subst e
      rw [hu] at this; exact this
  · exact toAV_spec e f
  · rename_i g
    rw [cond_eq_ite] at e
    split at e
    · rename_i hg
      simp only [Option.some.injEq] at e; subst e
      obtain ⟨E, e⟩ := hr.glob g hg
      exact .ptr g 0 g 0 E e
    · simp at e
  · simp only [Option.some.injEq] at e; subst e
    exact .func _ _ _ [] [] .nil .nil

theorem FR.put {tm : Tr AV} {nt : Nat} {tmps : Array Value} (ht : FR f tm nt tmps) {d : Nat} (hd : d < nt) {v : AV} {v' : Value} (hv : VR f v v') : FR f (tm.set d v) nt (tmps.setIfInBounds d v') := by
  refine ⟨by simp [ht.1], fun t => ?_⟩
  rw [Tr.get_set]
  by_cases h : d = t
  · subst h
    rw [if_pos rfl]
    have hlt : d < tmps.size := by rw [ht.1]; exact hd
    simpa [Array.getD, hlt] using hv
  · rw [if_neg h]
    have := ht.2 t
    have e : (tmps.setIfInBounds d v').getD t undef = tmps.getD t undef := by
      simp only [Array.getD_eq_getD_getElem?, Array.getElem?_setIfInBounds]
      rw [if_neg h]
    rw [e]; exact this

theorem FrR.put {fr fr' : Fr} {b : Frame} {a : Act} (hf : FrR f fr b a) {d : Option Nat} {v : AV} {v' : Value} (hv : VR f v v') (e : fr.put d v = some fr') : FrR f fr' b (a.put d v') := by
  unfold Fr.put at e
  split at e
  · rename_i d
    rw [bif_blt] at e
    split at e
    · rename_i hd
      simp only [Option.some.injEq] at e; subst e
      exact ⟨hf.1, hf.2, hf.3.put hd hv, hf.4⟩
    · simp at e
  · simp only [Option.some.injEq] at e; subst e
    exact hf

def boolOf : Value → Option Bool
  | .bool b => some b
  | _ => none

theorem wantedT_rel {x : Option AV} {v : Value} (hx : VR f (x.getD undefA) v) (want : Bool) : wantedT x want = (boolOf v == some want) := by
  unfold wantedT
  split
  · rename_i b
    simp only [Option.getD_some] at hx
    cases hx
    rw [beqB_eq]
    show _ = (some b == some want)
    simp
  · rename_i hne
    cases x with
    | none =>
      cases hx
      rfl
    | some y =>
      simp only [Option.getD_some] at hx
      cases hx <;> first | rfl | (exact (hne _ rfl).elim)

theorem yielded_rel {ops : Array Oper} {j : Nat} {tmps : Array Value} : yielded ops tmps j = (match dstOf ops j with | some d => boolOf (tmps.getD d undef) | none => none) := by
  unfold yielded dstOf
  cases hj : ops[j]? with
  | none => rfl
  | some q =>
    simp only [Option.bind_some]
    cases hd : q.dst with
    | none => rfl
    | some d =>
      simp only [Option.bind_some, Array.getD_eq_getD_getElem?]
      cases tmps[d]? with
      | none => rfl
      | some v => cases v <;> rfl

theorem wantedA_rel {ops : Array Oper} {fr : Fr} {a : Act} (ht : FR f fr.tm fr.nt a.tmps) {o : Oper} : Region.wanted o (yielded ops a.tmps) = wantedA ops fr.tm o := by
  unfold Region.wanted wantedA
  cases hg : o.guard with
  | none => rfl
  | some q =>
    obtain ⟨j, want⟩ := q
    show (yielded ops a.tmps j == some want) = _
    rw [yielded_rel]
    show _ = (match dstOf ops j with | some d => wantedT (fr.tm.get d) want | none => false)
    cases hd : dstOf ops j with
    | none => rfl
    | some d =>
      simp only
      rw [wantedT_rel (ht.2 d) want]

theorem deferA_sound (hr : HR f h w) {fr : Fr} {b : Frame} {a : Act} (hf : FrR f fr b a) {o : Oper} {c : Call} (hoc : o.op = .defer c) {fr' : Fr} {h' : H} (e : deferA fr o.dst c h = some (fr', h')) :
    h' = h ∧ fr.rnd = none ∧ ∃ d, (execOp a.eval o).run p w = .ok (.defer d) w ∧ FrR f fr' b ({ a with defers := d :: a.defers }.put o.dst undef) := by
  unfold deferA at e
  split at e
  · rename_i x args hx hargs
    split at e
    · rename_i g first cap hg
      split at e
      · rename_i hrnd
        unfold putRes at e
        split at e
        · rename_i fr2 hp
          simp only [Option.some.injEq, Prod.mk.injEq] at e
          obtain ⟨rfl, rfl⟩ := e
          have hρ := evOp_rel hr hf.tm
          have ha := evs_sound hρ _ _ hargs
          have hv := hρ _ _ hg
          generalize hcv : a.eval x = cv at hv
          cases hv with | func _ _ _ a' c' h1 h2 =>
          refine ⟨rfl, hrnd, { target := .fn (.func g) c'.toArray, args := a'.toArray ++ c.args.map a.eval }, ?_, ?_⟩
          · simp only [execOp, hoc, resolve, hx, hcv, Deferred.ofValue, Sem.run_bind, Sem.run_pure, Result.andThen_ok]
          · refine FrR.put (fr := { fr with ds := .fn g (first ++ args ++ cap) :: fr.ds }) (a := { a with defers := { target := .fn (.func g) c'.toArray, args := a'.toArray ++ c.args.map a.eval } :: a.defers }) (v := undefA) ⟨hf.1, hf.2, hf.3, ?_⟩ (undef_rel f) hp
            refine .fn _ _ _ _ _ _ ?_ hf.4
            have := (h1.append ha).append h2
            simpa [List.append_assoc] using this
        · simp at e
      · simp at e
    · simp at e
  · simp at e

theorem isRecover_spec {op : Op} (e : isRecover op = true) : ∃ c, op = .call c ∧ c.callee = .builtin .recover := by
  unfold isRecover at e
  split at e
  · rename_i c
    split at e
    · rename_i hc; exact ⟨c, rfl, hc⟩
    · simp at e
  · simp at e

theorem recover_steps {ops : Array Oper} {i : Nat} {rest : List Nat} {o : Oper} {a : Act} {k : List Item} {b : Frame} {cs : List Frame} (ho : ops[i]? = some o) (hw : Region.wanted o (yielded ops a.tmps) = true) (hrc : isRecover o.op = true) (hro : b.roundOf = none) (hcalm : Calm b.kind cs) :
    Steps p (lone (b.atR a (.inRegion ops (i :: rest) :: k)) cs w) (lone (b.atR (a.put o.dst .nilIface) (.inRegion ops rest :: k)) cs w) := by
  obtain ⟨c, hc1, hc2⟩ := isRecover_spec hrc
  have hg := stepGR_op (P := p) (b := b) (k := k) (cs := cs) (w := w) (rest := rest) ho hw
  rw [Oper.semAt_eq _ _ _ (fun c' hh => by rw [hc1] at hh; cases hh)] at hg
  have hrun : (execOp a.eval o).run p w = .ok .recover w := by
    simp only [execOp, hc1, resolve, hc2, Sem.run_bind, Sem.run_pure, Result.andThen_ok, invoke, builtin]
  have hfin : ∀ v, (b.atR a (.inRegion ops (i :: rest) :: k)).finish v = b.atR (a.put o.dst v) (.inRegion ops rest :: k) := by
    intro v; rw [Frame.finish_atR, ho]; rfl
  have htr : tryRecover (b.atR a (.inRegion ops (i :: rest) :: k)) cs = none := by
    rcases hcalm with hk | ⟨hk, c0, rest0, rfl, hm⟩
    · cases cs <;> simp [tryRecover, Frame.atR, hk]
    · simp [tryRecover, Frame.atR, hk, hm]
  refine .one (step_lone_go ?_)
  rw [hg, ← hfin]
  simp only [Frame.atR, hro] at htr ⊢
  simp [stepG.apply, hrun, htr]

theorem defer_steps {ops : Array Oper} {i : Nat} {rest : List Nat} {o : Oper} {a : Act} {k : List Item} {b : Frame} {cs : List Frame} (ho : ops[i]? = some o) (hw : Region.wanted o (yielded ops a.tmps) = true) (hro : b.roundOf = none) {d : Deferred} (hrun : (execOp a.eval o).run p w = .ok (.defer d) w) :
    Steps p (lone (b.atR a (.inRegion ops (i :: rest) :: k)) cs w) (lone (b.atR ({ a with defers := d :: a.defers }.put o.dst undef) (.inRegion ops rest :: k)) cs w) := by
  have hg := stepGR_op (P := p) (b := b) (k := k) (cs := cs) (w := w) (rest := rest) ho hw
  rw [hro, Oper.semAt_none] at hg
  refine .one (step_lone_go ?_)
  have : ({ b.atR a (.inRegion ops (i :: rest) :: k) with defers := d :: a.defers } : Frame).finish undef = b.atR ({ a with defers := d :: a.defers }.put o.dst undef) (.inRegion ops rest :: k) := by
    have := Frame.finish_atR b { a with defers := d :: a.defers } ops i rest k undef
    rw [ho] at this; exact this
  rw [hg]; simp only [stepG.apply, Sem.runT_eq, hrun, GStep.bare_after]
  exact congrArg (fun fr => GStep.go { frame := fr, callers := cs, status := .running, dying := none } w) this

theorem RND.none_right {r : Option Nat} (h : RND f none r) : r = none := by cases r <;> simp [RND] at h ⊢

theorem opStep_sound (ih : IH p sf) (hr : HR f h w) {ops : Array Oper} {i : Nat} {rest : List Nat} {o : Oper} {fr : Fr} {a : Act} {k : List Item} {b : Frame} {cs : List Frame} (ho : ops[i]? = some o) (hf : FrR f fr b a) (hcalm : Calm b.kind cs)
    {fr' : Fr} {h' : H} (e : opStep p sf ops o fr h = some (fr', h')) :
    ∃ f' w' a', Steps p (lone (b.atR a (.inRegion ops (i :: rest) :: k)) cs w) (lone (b.atR a' (.inRegion ops rest :: k)) cs w') ∧ Post f h w f' h' w' ∧ FrR f' fr' b a' := by
  unfold opStep at e
  split at e
  · rename_i hwa
    have hw : Region.wanted o (yielded ops a.tmps) = false := by rw [wantedA_rel hf.tm, hwa]
    unfold putRes at e
    split at e
    · rename_i fr2 hp
      simp only [Option.some.injEq, Prod.mk.injEq] at e
      obtain ⟨rfl, rfl⟩ := e
      exact ⟨f, w, _, skip_steps ho hw, ⟨hr, Ext.refl _ _ _⟩, hf.put (undef_rel f) hp⟩
    · simp at e
  · rename_i hwa
    have hw : Region.wanted o (yielded ops a.tmps) = true := by rw [wantedA_rel hf.tm, hwa]
    split at e
    · rename_i c hoc
      obtain ⟨rfl, hrnd, d, h1, h2⟩ := deferA_sound (p := p) hr hf hoc e
      have hro : b.roundOf = none := RND.none_right (f := f) (by have := hf.rnd; rw [hrnd] at this; exact this)
      exact ⟨f, w, _, defer_steps ho hw hro h1, ⟨hr, Ext.refl _ _ _⟩, h2⟩
    · rename_i hnd
      split at e
      · rename_i hrc
        split at e
        · rename_i hrnd
          have hro : b.roundOf = none := RND.none_right (f := f) (by have := hf.rnd; rw [hrnd] at this; exact this)
          unfold putRes at e
          split at e
          · rename_i fr2 hp
            simp only [Option.some.injEq, Prod.mk.injEq] at e
            obtain ⟨rfl, rfl⟩ := e
            exact ⟨f, w, _, recover_steps ho hw hrc hro hcalm, ⟨hr, Ext.refl _ _ _⟩, hf.put .nili hp⟩
          · simp at e
        · simp at e
      · split at e
        · rename_i v h2 hov
          unfold putRes at e
          split at e
          · rename_i fr2 hp
            simp only [Option.some.injEq, Prod.mk.injEq] at e
            obtain ⟨rfl, rfl⟩ := e
            have hc := opVal_sound ih hr (evOp_rel hr hf.tm) o hov
            obtain ⟨f', w', v', g1, g2, g3⟩ := op_steps (b := b) (k := k) (cs := cs) (rest := rest) ho hw (fun c hh => hnd c hh) hc
            exact ⟨f', w', _, g1, g2, (hf.mono g2.2.sub).put g3 hp⟩
          · simp at e
        · simp at e

theorem Post.trans {f' f'' : Inj} {h' h'' : H} {w' w'' : World} (a : Post f h w f' h' w') (b : Post f' h' w' f'' h'' w'') : Post f h w f'' h'' w'' := ⟨b.1, a.2.trans b.2⟩

theorem seqOps_sound (ih : IH p sf) {ops : Array Oper} {k : List Item} {b : Frame} {cs : List Frame} (hcalm : Calm b.kind cs) : ∀ (l : List Oper) (is : List Nat) (f : Inj) (h : H) (w : World) (fr : Fr) (a : Act) (fr' : Fr) (h' : H),
    is.map (ops[·]?) = l.map some → HR f h w → FrR f fr b a → seqOps p sf ops l fr h = some (fr', h') →
    ∃ f' w' a', Steps p (lone (b.atR a (.inRegion ops is :: k)) cs w) (lone (b.atR a' k) cs w') ∧ Post f h w f' h' w' ∧ FrR f' fr' b a'
  | [], is, f, h, w, fr, a, fr', h', hi, hr, hf, e => by
    simp only [List.map_nil, List.map_eq_nil_iff] at hi
    subst hi
    simp only [seqOps, Option.some.injEq, Prod.mk.injEq] at e
    obtain ⟨rfl, rfl⟩ := e
    exact ⟨f, w, a, .one stepR_region_end, ⟨hr, Ext.refl _ _ _⟩, hf⟩
  | o :: l, is, f, h, w, fr, a, fr', h', hi, hr, hf, e => by
    cases is with
    | nil => simp at hi
    | cons i is =>
      simp only [List.map_cons, List.cons.injEq] at hi
      unfold seqOps at e
      split at e
      · rename_i fr2 h2 hs
        obtain ⟨f1, w1, a1, g1, g2, g3⟩ := opStep_sound (k := k) (cs := cs) (rest := is) ih hr hi.1 hf hcalm hs
        obtain ⟨f3, w3, a3, g4, g5, g6⟩ := seqOps_sound ih hcalm l is f1 h2 w1 fr2 a1 fr' h' hi.2 g2.1 g3 e
        exact ⟨f3, w3, a3, g1.trans g4, g2.trans g5, g6⟩
      · simp at e

theorem range_ops (ops : Array Oper) : (List.range ops.size).map (ops[·]?) = ops.toList.map some := by
  apply List.ext_getElem?
  intro i
  by_cases h : i < ops.size
  · simp [h]
  · simp [h]

end
end Go.Xec
namespace Go.Xec

def Le (h h' : H) : Prop := ∀ b x, h.blk.get b = some x → h'.blk.get b = some x
/-- all that an operation reads is there too -/
def Ple (o : Op) (ρ ρ' : Operand → Option AV) : Prop := ∀ x ∈ o.operands, ∀ a, ρ x = some a → ρ' x = some a

theorem Le.refl (h : H) : Le h h := fun _ _ e => e

section
variable {p : Program} {h h' : H} (hh : Le h h')
include hh

theorem loadN_mono {b o n : Nat} {l : List AV} (e : loadN h b o n = some l) : loadN h' b o n = some l := by
  unfold loadN at *
  split at e
  · rename_i hb; rw [hh _ _ hb]; exact e
  · simp at e

theorem loadA_mono {t b o : Nat} {v : AV} (e : loadA p h t b o = some v) : loadA p h' t b o = some v := by
  unfold loadA at *
  split at e
  · simp at e
  · rename_i i hi
    split at e
    · rename_i hb; simp only [hh _ _ hb]; exact e
    · simp at e

theorem cleanAt_mono {b : Nat} (e : cleanAt h b = true) : cleanAt h' b = true := by
  unfold cleanAt at *
  split at e
  · rename_i hb; rw [hh _ _ hb]; exact e
  · simp at e

theorem eqPtr_mono {el a o b o' : Nat} {r : Bool} (e : eqPtr p h el a o b o' = some r) : eqPtr p h' el a o b o' = some r := by
  unfold eqPtr at *
  split at e
  · simp at e
  · rename_i i hi
    simp only [cond_eq_ite] at e ⊢
    split at e
    · simp at e
    · rename_i h0
      rw [if_neg h0]
      split at e
      · rename_i h1; rw [if_pos h1]; exact e
      · rename_i h1
        rw [if_neg h1]
        split at e
        · rename_i h2
          simp only [Bool.and_eq_true] at h2 ⊢
          rw [if_pos ⟨cleanAt_mono hh h2.1, cleanAt_mono hh h2.2⟩]; exact e
        · simp at e
end

section
variable {p : Program} {eq eq' : Nat → AV → AV → Option Bool} (he : ∀ t a b r, eq t a b = some r → eq' t a b = some r)
include he

theorem eqFields_mono {xs ys : List AV} : ∀ (fs : List Field) {r : Bool}, eqFields p eq xs ys fs = some r → eqFields p eq' xs ys fs = some r
  | [], r, e => e
  | f :: fs, r, e => by
    unfold eqFields at *
    simp only [cond_eq_ite] at e ⊢
    split at e
    · rename_i h0; rw [if_pos h0]; exact eqFields_mono fs e
    · rename_i h0
      rw [if_neg h0]
      split at e
      · simp at e
      · rename_i i hi
        split at e
        · simp at e
        · rename_i a ha
          split at e
          · simp at e
          · rename_i b hb
            try simp only [ha, hb]
            split at e
            · rename_i hq; rw [he _ _ _ _ hq]; exact eqFields_mono fs e
            · rename_i hq; rw [he _ _ _ _ hq]; exact e
            · simp at e

theorem eqElems_mono {el : Nat} {q : TI} {xs ys : List AV} : ∀ (n i : Nat) {r : Bool}, eqElems eq el q xs ys n i = some r → eqElems eq' el q xs ys n i = some r
  | 0, i, r, e => e
  | n + 1, i, r, e => by
    unfold eqElems at *
    split at e
    · simp at e
    · rename_i a ha
      split at e
      · simp at e
      · rename_i b hb
        try simp only
        split at e
        · rename_i hq; rw [he _ _ _ _ hq]; exact eqElems_mono n (i + 1) e
        · rename_i hq; rw [he _ _ _ _ hq]; exact e
        · simp at e

theorem eqIface_mono {tx ty : Nat} {vx vy : AV} {r : Bool} (e : eqIface p eq tx ty vx vy = some r) : eqIface p eq' tx ty vx vy = some r := by
  unfold eqIface at *
  simp only [cond_eq_ite] at e ⊢
  split at e
  · rename_i h0; rw [if_pos h0]; exact e
  · rename_i h0
    rw [if_neg h0]
    split at e
    · simp at e
    · rename_i i hi
      split at e
      · rename_i h1; simp only [h1, if_true]; exact he _ _ _ _ e
      · simp at e
end

section
variable {p : Program} {h h' : H} (hh : Le h h')
include hh

theorem eqA_mono : ∀ (d t : Nat) (x y : AV) (r : Bool), eqA p h d t x y = some r → eqA p h' d t x y = some r
  | 0, t, x, y, r, e => by simp [eqA] at e
  | d + 1, t, x, y, r, e => by
    unfold eqA at *
    split at e
    · simp at e
    · rename_i i hi
      try simp only
      split at e <;> first | exact e | skip
      · rename_i h1; (try simp only [h1]); exact eqPtr_mono hh e
      · rename_i h1; (try simp only [h1]); exact eqIface_mono (eqA_mono d) e
      · rename_i h1
        try simp only [h1]
        rw [cond_eq_ite] at e ⊢
        split at e
        · simp at e
        · rename_i h2; rw [if_neg h2]; exact eqFields_mono (eqA_mono d) _ e
      · rename_i h1
        try simp only [h1]
        split at e
        · simp at e
        · rename_i q hq; (try simp only); exact eqElems_mono (eqA_mono d) _ _ e
      all_goals simp_all

theorem binA_mono {op : BinOp} {xt : Nat} {x y v : AV} (e : binA p h op xt x y = some v) : binA p h' op xt x y = some v := by
  unfold binA at *
  split at e
  · exact e
  · exact e
  · split at e
    · split at e
      · rename_i hq; simp only [eqA_mono hh _ _ _ _ _ hq]; exact e
      · simp at e
    · split at e
      · rename_i hq; simp only [eqA_mono hh _ _ _ _ _ hq]; exact e
      · simp at e
    · simp at e

theorem bin2_mono {ρ ρ' : Operand → Option AV} {op : BinOp} {xt : Nat} {x y : Operand} {v : AV} (hx : ∀ a, ρ x = some a → ρ' x = some a) (hy : ∀ a, ρ y = some a → ρ' y = some a)
    (e : bin2 p h ρ op xt x y = some v) : bin2 p h' ρ' op xt x y = some v := by
  unfold bin2 at *
  split at e
  · simp at e
  · rename_i a ha
    split at e
    · simp at e
    · rename_i b hb
      simp only [hx _ ha, hy _ hb]
      rw [cond_eq_ite] at e ⊢
      split at e
      · rename_i h0; rw [if_pos h0]; exact binA_mono hh e
      · simp at e

theorem lenA_mono {t n : Nat} {x : AV} (e : lenA p h t x = some n) : lenA p h' t x = some n := by
  unfold lenA at *
  split at e
  · simp at e
  · rename_i q hq
    try simp only
    split at e <;> first | exact e | skip
    · rename_i h1
      try simp only [h1]
      split at e
      · rename_i hb; simp only [hh _ _ hb]; exact e
      · simp at e
    all_goals simp_all

theorem findA_mono {kt : Nat} {k : AV} : ∀ (es : List (AV × AV × Nat)) (i : Nat) {r : Option (Nat × AV)}, findA p h kt k es i = some r → findA p h' kt k es i = some r
  | [], i, r, e => e
  | x :: es, i, r, e => by
    unfold findA at *
    split at e
    · rename_i hq; rw [eqA_mono hh _ _ _ _ _ hq]; exact e
    · rename_i hq; rw [eqA_mono hh _ _ _ _ _ hq]; exact findA_mono es (i + 1) e
    · simp at e

theorem entriesOf_mono {m : AV} {es : List (AV × AV × Nat)} (e : entriesOf h m = some es) : entriesOf h' m = some es := by
  unfold entriesOf at *
  split at e
  · exact e
  · split at e
    · rename_i hb; simp only [hh _ _ hb]; exact e
    · simp at e
  · simp at e

theorem lookupA_mono {t : Nat} {m k v : AV} {ok : Bool} (e : lookupA p h t m k ok = some v) : lookupA p h' t m k ok = some v := by
  unfold lookupA at *
  split at e
  · simp at e
  · rename_i q hq
    try simp only
    split at e
    · rename_i kt et hu
      try simp only [hu]
      split at e
      · rename_i h1 h2 h3
        simp only [h1, h2, entriesOf_mono hh h3]
        split at e
        · simp at e
        · rename_i hf; simp only [findA_mono hh _ _ hf]; exact e
        · rename_i hf; simp only [findA_mono hh _ _ hf]; exact e
      · simp at e
    · simp at e

theorem convSl_mono {t : Nat} {x v : AV} (e : convSl p h t x = some v) : convSl p h' t x = some v := by
  unfold convSl at *
  split at e
  · simp at e
  · rename_i q hq
    try simp only
    split at e
    · rename_i h1; (try simp only [h1]); exact e
    · rename_i h1
      try simp only [h1]
      split at e
      · rename_i hl; simp only [loadN_mono hh hl]; exact e
      · simp at e
    · simp at e

theorem toUnsafe_mono {t b o : Nat} {v : AV} (e : toUnsafe p h t b o = some v) : toUnsafe p h' t b o = some v := by
  unfold toUnsafe at *
  split at e
  · simp at e
  · rename_i q hq
    try simp only
    split at e
    · rename_i hb; simp only [hh _ _ hb]; exact e
    · simp at e

theorem fromUnsafe_mono {t b o : Nat} {v : AV} (e : fromUnsafe p h t b o = some v) : fromUnsafe p h' t b o = some v := by
  unfold fromUnsafe at *
  split at e
  · simp at e
  · rename_i q hq
    try simp only
    split at e
    · rename_i hb; simp only [hh _ _ hb]; exact e
    · simp at e

theorem convA_mono {s d : Nat} {x v : AV} (e : convA p h s d x = some v) : convA p h' s d x = some v := by
  unfold convA at *
  split at e
  · simp at e
  · rename_i q hq
    split at e
    · simp at e
    · rename_i q2 hq2
      split at e <;> first | exact e | skip
      all_goals try simp only
      · split at e
        · exact convSl_mono hh e
        · simp at e
      · split at e
        · exact toUnsafe_mono hh e
        · simp at e
      · split at e
        · exact fromUnsafe_mono hh e
        · simp at e

theorem lightCall_mono {b : Builtin} {ts : Array TypeId} {args : List AV} {v : AV} (e : lightCall p h b ts args = some v) : lightCall p h' b ts args = some v := by
  unfold lightCall at *
  split at e <;> first | exact e | skip
  · rename_i h1
    try simp only [h1]
    split at e
    · rename_i hl; simp only [lenA_mono hh hl]; exact e
    · simp at e
  all_goals simp_all

theorem loadO_mono {t : Nat} {x v : AV} (e : loadO p h t x = some v) : loadO p h' t x = some v := by
  unfold loadO at *
  split at e
  · exact loadA_mono hh e
  · simp at e
end

section
variable {p : Program} {ρ ρ' : Operand → Option AV}

theorem evs_mono : ∀ (l : List Operand) {vs : List AV}, (∀ x ∈ l, ∀ a, ρ x = some a → ρ' x = some a) → evs ρ l = some vs → evs ρ' l = some vs
  | [], vs, _, e => e
  | x :: l, vs, hx, e => by
    unfold evs at *
    split at e
    · simp at e
    · rename_i v hv
      split at e
      · simp at e
      · rename_i vs hvs
        rw [hx x (by simp) _ hv, evs_mono l (fun y hy => hx y (List.mem_cons_of_mem _ hy)) hvs]; exact e

theorem evps_mono : ∀ (l : List (Nat × Operand)) {vs : List (Nat × AV)}, (∀ x ∈ l.map (·.2), ∀ a, ρ x = some a → ρ' x = some a) → evps ρ l = some vs → evps ρ' l = some vs
  | [], vs, _, e => e
  | (i, x) :: l, vs, hx, e => by
    unfold evps at *
    split at e
    · simp at e
    · rename_i v hv
      split at e
      · simp at e
      · rename_i vs hvs
        rw [hx x (by simp) _ hv, evps_mono l (fun y hy => hx y (List.mem_cons_of_mem _ hy)) hvs]; exact e

theorem evo_mono {x : Option Operand} {v : Option AV} (hx : ∀ y ∈ x.toList, ∀ a, ρ y = some a → ρ' y = some a) (e : evo ρ x = some v) : evo ρ' x = some v := by
  unfold evo at *
  split at e
  · exact e
  · split at e
    · simp at e
    · rename_i hv; rw [hx _ (by simp) _ hv]; exact e

theorem map1_mono {x : Operand} {g g' : AV → Option AV} {v : AV} (hx : ∀ a, ρ x = some a → ρ' x = some a) (hg : ∀ a r, g a = some r → g' a = some r) (e : map1 (ρ x) g = some v) : map1 (ρ' x) g' = some v := by
  unfold map1 at *
  split at e
  · rename_i ha; rw [hx _ ha]; exact hg _ _ e
  · simp at e

theorem map2_mono {x y : Operand} {g g' : AV → AV → Option AV} {v : AV} (hx : ∀ a, ρ x = some a → ρ' x = some a) (hy : ∀ a, ρ y = some a → ρ' y = some a) (hg : ∀ a b r, g a b = some r → g' a b = some r) (e : map2 (ρ x) (ρ y) g = some v) : map2 (ρ' x) (ρ' y) g' = some v := by
  unfold map2 at *
  split at e
  · rename_i ha
    split at e
    · rename_i hb; rw [hx _ ha, hy _ hb]; exact hg _ _ _ e
    · simp at e
  · simp at e

theorem slice4_mono {t : Nat} {x : Operand} {lo hi mx : Option Operand} {v : AV} (hx : ∀ y ∈ x :: (lo.toList ++ hi.toList ++ mx.toList), ∀ a, ρ y = some a → ρ' y = some a) (e : slice4 p ρ t x lo hi mx = some v) : slice4 p ρ' t x lo hi mx = some v := by
  unfold slice4 at *
  split at e
  · rename_i h1 h2 h3 h4
    rw [hx x (by simp) _ h1, evo_mono (fun y hy => hx y (by simp_all)) h2, evo_mono (fun y hy => hx y (by simp_all)) h3, evo_mono (fun y hy => hx y (by simp_all)) h4]; exact e
  · simp at e

theorem light_mono {h h' : H} (hh : Le h h') {o : Op} (hp : Ple o ρ ρ') {v : AV} (e : light p h ρ o = some v) : light p h' ρ' o = some v := by
  unfold Ple at hp
  unfold light at *
  split at e <;> simp only [Op.operands] at hp <;> try simp only
  · exact hp _ (by simp) _ e
  · exact hp _ (by simp) _ e
  · rename_i c a b
    unfold pickA at *
    split at e
    · rename_i hc; rw [hp c (by simp) _ hc]; exact hp a (by simp) _ e
    · rename_i hc; rw [hp c (by simp) _ hc]; exact hp b (by simp) _ e
    · simp at e
  · exact map1_mono (hp _ (by simp)) (fun _ _ => loadO_mono hh) e
  · exact map1_mono (hp _ (by simp)) (fun _ _ e => e) e
  · exact bin2_mono hh (hp _ (by simp)) (hp _ (by simp)) e
  · exact map1_mono (hp _ (by simp)) (fun _ _ e => e) e
  · exact map1_mono (hp _ (by simp)) (fun _ _ => convA_mono hh) e
  · exact map1_mono (hp _ (by simp)) (fun _ _ e => e) e
  · unfold mkFunc at *
    split at e
    · simp at e
    · rename_i h1
      split at e
      · simp at e
      · rename_i h2
        rw [evs_mono _ (fun x hx => hp x (by simp_all)) h1, evs_mono _ (fun x hx => hp x (by simp_all)) h2]; exact e
  · exact slice4_mono (fun y hy => hp y (by simp_all)) e
  · exact map1_mono (hp _ (by simp)) (fun _ _ e => e) e
  · exact map1_mono (hp _ (by simp)) (fun _ _ e => e) e
  · exact map2_mono (hp _ (by simp)) (hp _ (by simp)) (fun _ _ _ e => e) e
  · exact map2_mono (hp _ (by simp)) (hp _ (by simp)) (fun _ _ _ e => e) e
  · exact map2_mono (hp _ (by simp)) (hp _ (by simp)) (fun _ _ _ => lookupA_mono hh) e
  · exact map1_mono (hp _ (by simp)) (fun _ _ e => e) e
  · exact map1_mono (hp _ (by simp)) (fun _ _ e => e) e
  · unfold build1 at *
    split at e
    · rename_i h1
      rw [evps_mono _ (fun x hx => hp x (by simp_all)) h1]; exact e
    · simp at e
  · rename_i c
    unfold call1 at *
    split at e
    · rename_i h0
      split at e
      · rename_i h1
        try simp only [h0]
        rw [evs_mono _ (fun x hx => hp x (by simp_all [Call.operands])) h1]; exact lightCall_mono hh e
      · simp at e
    · simp at e
  · simp at e

theorem makes_mono {nx : Nat} {o : Op} (hp : Ple o ρ ρ') {r : AV × Blk} (e : makes p nx ρ o = some r) : makes p nx ρ' o = some r := by
  unfold Ple at hp
  unfold makes at *
  split at e <;> simp only [Op.operands] at hp <;> try simp only
  · exact e
  · split at e
    · rename_i h1; rw [hp _ (by simp) _ h1]; exact e
    · simp at e
  · split at e
    · rename_i h1
      rw [evps_mono _ (fun x hx => hp x (by simp_all)) h1]; exact e
    · simp at e
  · exact e
  · split at e
    · rename_i q hq
      split at e
      · rename_i h1
        try simp only [h1]
        unfold mkMap at *
        split at e
        · rename_i h2; rw [hp _ (by simp) _ h2]; exact e
        · simp at e
      · simp at e
    · simp at e
  · split at e
    · rename_i h1
      split at e
      · rename_i h2
        rw [hp _ (by simp) _ h1, hp _ (by simp) _ h2]; exact e
      · simp at e
    · simp at e
  · split at e
    · rename_i h1; rw [hp _ (by simp) _ h1]; exact e
    · simp at e
  · simp at e

theorem callA_mono {sf : Task → Option Res} {h : H} {c : Call} {r : AV × H} (hp : ∀ x ∈ c.operands, ∀ a, ρ x = some a → ρ' x = some a) (e : callA p sf ρ c h = some r) : callA p sf ρ' c h = some r := by
  unfold callA at *
  split at e
  · simp at e
  · rename_i h1
    rw [evs_mono _ (fun x hx => hp x (by simp_all [Call.operands])) h1]
    try simp only
    split at e
    · rename_i h2; (try simp only [h2]); exact e
    · rename_i f h2
      try simp only [h2]
      split at e
      · rename_i h3; rw [hp f (by simp [Call.operands, h2]) _ h3]; exact e
      · simp at e
    · rename_i q m h2
      try simp only [h2]
      unfold invokeA at *
      split at e
      · rename_i h3; rw [hp q (by simp [Call.operands, h2]) _ h3]; exact e
      · simp at e

theorem opVal_mono {sf : Task → Option Res} {h : H} {o : Op} (hp : Ple o ρ ρ') {r : AV × H} (e : opVal p sf ρ o h = some r) : opVal p sf ρ' o h = some r := by
  unfold opVal at *
  split at e
  · rename_i hk
    try simp only
    split at e
    · rename_i h1; rw [light_mono (Le.refl h) hp h1]; exact e
    · simp at e
  · try simp only
    split at e
    · rename_i h1; rw [makes_mono hp h1]; exact e
    · simp at e
  · try simp only
    unfold Ple at hp
    unfold heavy at *
    split at e <;> simp only [Op.operands] at hp <;> try simp only
    · unfold storeO at *
      split at e
      · rename_i h1
        split at e
        · rename_i h2
          rw [hp _ (by simp) _ h1, hp _ (by simp) _ h2]; exact e
        · simp at e
      · simp at e
    · unfold mapPutO at *
      split at e
      · rename_i h1
        split at e
        · rename_i h2
          split at e
          · rename_i h3
            rw [hp _ (by simp) _ h1, hp _ (by simp) _ h2, hp _ (by simp) _ h3]; exact e
          · simp at e
        · simp at e
      · simp at e
    · unfold mapPutO at *
      split at e
      · rename_i h1
        split at e
        · rename_i h2
          split at e
          · rename_i h3
            rw [hp _ (by simp) _ h1, hp _ (by simp) _ h2, hp _ (by simp) _ h3]; exact e
          · simp at e
        · simp at e
      · simp at e
    · split at e
      · rename_i h1; rw [hp _ (by simp) _ h1]; exact e
      · simp at e
    · exact callA_mono hp e
    · simp at e
end
end Go.Xec
namespace Go.Xec

def stepB (acc : Array Nat) (o : Oper) : Array Nat :=
  acc.push (o.after.foldl (fun s e => if Region.binds .any e then s ||| 2 ^ e.on ||| acc.getD e.on 0 else s) 0)

theorem before_eq (ops : Array Oper) : Region.before ops = ops.toList.foldl stepB #[] := by
  rw [Array.foldl_toList]; rfl

theorem stepB_pre : ∀ (l : List Oper) (acc : Array Nat) (x : Nat), x < acc.size → (l.foldl stepB acc)[x]? = acc[x]?
  | [], acc, x, _ => rfl
  | o :: l, acc, x, hx => by
    rw [List.foldl_cons, stepB_pre l (stepB acc o) x (by simp [stepB]; omega)]
    simp only [stepB, Array.getElem?_push]
    rw [if_neg (by omega)]

theorem stepB_size : ∀ (l : List Oper) (acc : Array Nat), (l.foldl stepB acc).size = acc.size + l.length
  | [], acc => by simp
  | o :: l, acc => by rw [List.foldl_cons, stepB_size l]; simp [stepB]; omega

theorem fold_bit (acc : Nat → Nat) (i : Nat) : ∀ (es : List Edge) (s : Nat), (es.foldl (fun s e => if Region.binds .any e then s ||| 2 ^ e.on ||| acc e.on else s) s).testBit i = true →
    s.testBit i = true ∨ ∃ e ∈ es, Region.binds .any e = true ∧ (e.on = i ∨ (acc e.on).testBit i = true)
  | [], s, h => .inl h
  | e :: es, s, h => by
    rw [List.foldl_cons] at h
    rcases fold_bit acc i es _ h with h1 | ⟨e', h1, h2, h3⟩
    · split at h1
      · rename_i hb
        simp only [Nat.testBit_or, Bool.or_eq_true] at h1
        rcases h1 with (h1 | h1) | h1
        · exact .inl h1
        · refine .inr ⟨e, by simp, hb, .inl ?_⟩
          rw [Nat.testBit_two_pow] at h1
          exact of_decide_eq_true h1
        · exact .inr ⟨e, by simp, hb, .inr h1⟩
      · exact .inl h1
    · exact .inr ⟨e', List.mem_cons_of_mem _ h1, h2, h3⟩

theorem stepB_bit (i : Nat) : ∀ (l : List Oper) (acc : Array Nat) (j : Nat) (o : Oper), l[j]? = some o → ((l.foldl stepB acc).getD (acc.size + j) 0).testBit i = true →
    ∃ e ∈ o.after, Region.binds .any e = true ∧ (e.on = i ∨ e.on < acc.size + j ∧ ((l.foldl stepB acc).getD e.on 0).testBit i = true)
  | [], acc, j, o, h, _ => by simp at h
  | q :: l, acc, 0, o, h, hb => by
    simp only [List.getElem?_cons_zero, Option.some.injEq] at h
    subst h
    rw [List.foldl_cons] at hb ⊢
    have h1 : (l.foldl stepB (stepB acc q)).getD (acc.size + 0) 0 = q.after.foldl (fun s e => if Region.binds .any e then s ||| 2 ^ e.on ||| acc.getD e.on 0 else s) 0 := by
      rw [Array.getD_eq_getD_getElem?, stepB_pre l (stepB acc q) _ (by simp [stepB])]
      simp [stepB]
    rw [h1, ← Array.foldl_toList] at hb
    rcases fold_bit (fun x => acc.getD x 0) i _ _ hb with h2 | ⟨e, h2, h3, h4⟩
    · simp at h2
    · refine ⟨e, by simpa using h2, h3, h4.imp id fun h5 => ?_⟩
      have hlt : e.on < acc.size := by
        rcases Nat.lt_or_ge e.on acc.size with h6 | h6
        · exact h6
        · rw [Array.getD_eq_getD_getElem?, Array.getElem?_eq_none h6] at h5; simp at h5
      refine ⟨by omega, ?_⟩
      rw [Array.getD_eq_getD_getElem?, stepB_pre l (stepB acc q) _ (by simp [stepB]; omega)]
      simp only [stepB, Array.getElem?_push]
      rw [if_neg (by omega)]
      rw [Array.getD_eq_getD_getElem?] at h5
      exact h5
  | q :: l, acc, j + 1, o, h, hb => by
    rw [List.foldl_cons] at hb ⊢
    have hs : (stepB acc q).size = acc.size + 1 := by simp [stepB]
    have := stepB_bit i l (stepB acc q) j o (by simpa using h)
    rw [hs] at this
    have e : acc.size + (j + 1) = acc.size + 1 + j := by omega
    rw [e] at hb ⊢
    exact this hb

theorem tied_spec {ops : Array Oper} {i j : Nat} (h : tied (Region.before ops) i j = true) :
    ∃ o, ops[j]? = some o ∧ ∃ e ∈ o.after, Region.binds .any e = true ∧ (e.on = i ∨ e.on < j ∧ tied (Region.before ops) i e.on = true) := by
  unfold tied at h ⊢
  rw [before_eq] at h ⊢
  have hj : j < ops.size := by
    rcases Nat.lt_or_ge j ops.size with h6 | h6
    · exact h6
    · rw [Array.getD_eq_getD_getElem?, Array.getElem?_eq_none (by rw [stepB_size]; simpa using h6)] at h; simp at h
  refine ⟨ops[j], by simp [hj], ?_⟩
  have := stepB_bit i ops.toList #[] j ops[j] (by simp [hj]) (by simpa using h)
  simpa using this

/-! values that are found equal -/
theorem beqFn_eq {a b : Fn} (h : beqFn a b = true) : a = b := by
  unfold beqFn at h
  split at h
  · rw [beq_iff] at h; rw [h]
  · rw [of_decide_eq_true h]
  · simp at h

theorem beqAVs_eq {eq : AV → AV → Bool} (he : ∀ a b, eq a b = true → a = b) : ∀ (x y : List AV), beqAVs eq x y = true → x = y
  | [], [], _ => rfl
  | a :: x, b :: y, h => by
    unfold beqAVs at h
    rw [cond_eq_ite] at h
    split at h
    · rename_i h1; rw [he _ _ h1, beqAVs_eq he x y h]
    · simp at h
  | [], _ :: _, h => by simp [beqAVs] at h
  | _ :: _, [], h => by simp [beqAVs] at h

theorem beqAV_eq : ∀ (d : Nat) (x y : AV), beqAV d x y = true → x = y
  | 0, x, y, h => by simp [beqAV] at h
  | d + 1, x, y, h => by
    have ih := fun a b => beqAV_eq d a b
    unfold beqAV at h
    split at h <;> try simp only [cond_eq_ite, Bool.and_eq_true] at h
    · rw [beqB_eq, beq_iff_eq] at h; rw [h]
    · split at h
      · rename_i h1
        rw [beqK_eq] at h1; rw [beqI_eq, beq_iff_eq] at h; rw [h1, h]
      · simp at h
    · rw [beqS_eq, beq_iff_eq] at h; rw [h]
    · rfl
    · split at h
      · rename_i h1
        rw [beq_iff] at h1 h; rw [h1, h]
      · simp at h
    · rfl
    · obtain ⟨⟨⟨⟨h1, h2⟩, h3⟩, h4⟩, h5⟩ := h
      rw [beq_iff] at h1 h2 h3 h4 h5
      rw [h1, h2, h3, h4, h5]
    · rfl
    · rw [beq_iff] at h; rw [h]
    · rw [beq_iff] at h; rw [h]
    · rfl
    · rfl
    · split at h
      · rename_i h1
        rw [beq_iff] at h1; rw [h1, ih _ _ h]
      · simp at h
    · rw [beqAVs_eq ih _ _ h]
    · rw [beqAVs_eq ih _ _ h]
    · obtain ⟨⟨h1, h2⟩, h3⟩ := h
      rw [beqFn_eq h1, beqAVs_eq ih _ _ h2, beqAVs_eq ih _ _ h3]
    · simp at h

theorem sameV_spec {a b : Option AV} (h : sameV a b = true) : ∃ v, a = some v ∧ b = some v := by
  unfold sameV at h
  split at h
  · rename_i x y
    exact ⟨x, rfl, by rw [beqAV_eq _ _ _ h]⟩
  · simp at h

/-! writers -/
theorem srcOf_spec (t i : Nat) : ∀ (os : List Oper) (j : Nat) (r : Option Nat),
    (∃ m o, os[m]? = some o ∧ o.dst = some t ∧ j + m < i ∧ srcOf t i os j r = some (j + m) ∧ ∀ m' o', m < m' → os[m']? = some o' → j + m' < i → o'.dst ≠ some t) ∨
    (srcOf t i os j r = r ∧ ∀ m o, os[m]? = some o → j + m < i → o.dst ≠ some t)
  | [], j, r => .inr ⟨rfl, fun m o h => by simp at h⟩
  | o :: os, j, r => by
    unfold srcOf
    rw [bif_blt]
    by_cases hlt : j < i
    · rw [if_pos hlt]
      rcases srcOf_spec t i os (j + 1) (updS o.dst t j r) with ⟨m, q, h1, h2, h3, h4, h5⟩ | ⟨h1, h2⟩
      · refine .inl ⟨m + 1, q, by simpa using h1, h2, by omega, ?_, ?_⟩
        · rw [h4]; congr 1; omega
        · intro m' o' hm ho hlt
          cases m' with
          | zero => omega
          | succ m' => exact h5 m' o' (by omega) (by simpa using ho) (by omega)
      · have hrest : ∀ m q, os[m]? = some q → j + (m + 1) < i → q.dst ≠ some t := fun m q e hlt => h2 m q e (by omega)
        rw [h1]
        by_cases hw : o.dst = some t
        · refine .inl ⟨0, o, rfl, hw, by omega, ?_, ?_⟩
          · rw [hw]; simp only [updS, bif_beq, if_true]; rfl
          · intro m' o' hm ho hlt
            cases m' with
            | zero => omega
            | succ m' => exact hrest m' o' (by simpa using ho) hlt
        · refine .inr ⟨?_, ?_⟩
          · unfold updS
            split
            · rename_i d hd
              rw [bif_beq, if_neg]
              intro e; exact hw (by rw [hd, e])
            · rfl
          · intro m q e hlt
            cases m with
            | zero =>
              simp only [List.getElem?_cons_zero, Option.some.injEq] at e
              subst e; exact hw
            | succ m => exact hrest m q (by simpa using e) hlt
    · rw [if_neg hlt]
      exact .inr ⟨rfl, fun m q _ hl => by omega⟩

theorem putAll_spec : ∀ (os : List Oper) (i : Nat) (vals : Tr AV) (fr fr' : Fr), putAll os i vals fr = some fr' →
    fr'.nt = fr.nt ∧ fr'.ds = fr.ds ∧ fr'.fn = fr.fn ∧ fr'.rnd = fr.rnd ∧ (∀ m o, os[m]? = some o → ∃ v, vals.get (i + m) = some v ∧ ∀ d, o.dst = some d → d < fr.nt) ∧
    ∀ t, (∃ m o, os[m]? = some o ∧ o.dst = some t ∧ (∀ m' o', m < m' → os[m']? = some o' → o'.dst ≠ some t) ∧ fr'.tm.get t = vals.get (i + m)) ∨
      ((∀ (m : Nat) (o : Oper), os[m]? = some o → o.dst ≠ some t) ∧ fr'.tm.get t = fr.tm.get t)
  | [], i, vals, fr, fr', e => by
    simp only [putAll, Option.some.injEq] at e
    subst e
    exact ⟨rfl, rfl, rfl, rfl, fun m o h => by simp at h, fun t => .inr ⟨fun m o h => by simp at h, rfl⟩⟩
  | o :: os, i, vals, fr, fr', e => by
    unfold putAll at e
    split at e
    · simp at e
    · rename_i v hv
      split at e
      · rename_i fr2 hp
        obtain ⟨h1, h2, h3, h4, h5, h6⟩ := putAll_spec os (i + 1) vals fr2 fr' e
        have hfr : fr2.nt = fr.nt ∧ fr2.ds = fr.ds ∧ fr2.fn = fr.fn ∧ fr2.rnd = fr.rnd ∧ (∀ d, o.dst = some d → d < fr.nt) ∧ ∀ t, fr2.tm.get t = if o.dst = some t then some v else fr.tm.get t := by
          unfold Fr.put at hp
          generalize hdd : o.dst = dd at hp
          split at hp
          · rename_i d
            rw [bif_blt] at hp
            split at hp
            · rename_i hlt
              simp only [Option.some.injEq] at hp; subst hp
              refine ⟨rfl, rfl, rfl, rfl, fun d' e' => by cases e'; exact hlt, fun t => ?_⟩
              simp only [Tr.get_set, Option.some.injEq]
            · simp at hp
          · simp only [Option.some.injEq] at hp; subst hp
            exact ⟨rfl, rfl, rfl, rfl, fun d' e' => by simp at e', fun t => by simp⟩
        obtain ⟨g1, g2, g3, g4, g5, g6⟩ := hfr
        refine ⟨h1.trans g1, h2.trans g2, h3.trans g3, h4.trans g4, ?_, ?_⟩
        · intro m q hm
          cases m with
          | zero =>
            simp only [List.getElem?_cons_zero, Option.some.injEq] at hm
            subst hm
            exact ⟨v, hv, g5⟩
          | succ m =>
            obtain ⟨v', k1, k2⟩ := h5 m q (by simpa using hm)
            exact ⟨v', by rw [← k1]; congr 1; omega, by rw [g1] at k2; exact k2⟩
        · intro t
          rcases h6 t with ⟨m, q, k1, k2, k3, k4⟩ | ⟨k1, k2⟩
          · refine .inl ⟨m + 1, q, by simpa using k1, k2, ?_, by rw [k4]; congr 1; omega⟩
            intro m' q' hm hq'
            cases m' with
            | zero => omega
            | succ m' => exact k3 m' q' (by omega) (by simpa using hq')
          · by_cases hd : o.dst = some t
            · refine .inl ⟨0, o, rfl, hd, ?_, ?_⟩
              · intro m' q' hm hq'
                cases m' with
                | zero => omega
                | succ m' => exact k1 m' q' (by simpa using hq')
              · rw [k2, g6, if_pos hd]; exact hv.symm
            · refine .inr ⟨?_, by rw [k2, g6, if_neg hd]⟩
              intro m q hm
              cases m with
              | zero =>
                simp only [List.getElem?_cons_zero, Option.some.injEq] at hm
                subst hm; exact hd
              | succ m => exact k1 m q (by simpa using hm)
      · simp at e

theorem stable_spec {p : Program} {ops : Array Oper} {mask : Nat} {tm vals : Tr AV} {h : H} : ∀ (l : List (Oper × Nat)), stable p ops mask tm vals h l = true →
    ∀ o i, (o, i) ∈ l → kind o.op = 0 → mask.testBit i = false → wantedR vals o = some false ∨ (wantedR vals o = some true ∧ ∃ v, vals.get i = some v ∧ light p h (evR ops i h.gl tm vals) o.op = some v)
  | [], _, o, i, hm, _, _ => by simp at hm
  | (q, j) :: r, e, o, i, hm, hk, hb => by
    unfold stable at e
    have rest : stable p ops mask tm vals h r = true → (o, i) ∈ r → wantedR vals o = some false ∨ (wantedR vals o = some true ∧ ∃ v, vals.get i = some v ∧ light p h (evR ops i h.gl tm vals) o.op = some v) :=
      fun e' hm' => stable_spec r e' o i hm' hk hb
    rw [cond_eq_ite] at e
    rcases List.mem_cons.1 hm with h1 | h1
    · simp only [Prod.mk.injEq] at h1
      obtain ⟨rfl, rfl⟩ := h1
      rw [if_pos (by simp [hk, hb])] at e
      split at e
      · rename_i hw
        split at e
        · rename_i hs
          obtain ⟨v, k1, k2⟩ := sameV_spec hs
          exact .inr ⟨hw, v, k2, k1⟩
        · simp at e
      · rename_i hw; exact .inl hw
      · simp at e
    · refine rest ?_ h1
      split at e
      · split at e
        · split at e
          · exact e
          · simp at e
        · exact e
        · simp at e
      · exact e
end Go.Xec
namespace Go.Xec

/-! what the region's checks say -/
theorem mem_zip {ops : Array Oper} {o : Oper} {i : Nat} : (o, i) ∈ ops.toList.zipIdx ↔ ops[i]? = some o := by
  rw [List.mem_zipIdx_iff_getElem?]; simp

noncomputable def bfo (ops : Array Oper) : Array Nat := Region.before ops

theorem toOk_spec {ops : Array Oper} {bf : Array Nat} (h : toOk ops bf = true) {i j t : Nat} {o o' : Oper} (ho : ops[i]? = some o) (ht : t ∈ namesOf ops o) (ho' : ops[j]? = some o') (hd : o'.dst = some t) :
    i = j ∨ (i < j ∧ tied bf i j = true) ∨ (j < i ∧ tied bf j i = true) := by
  unfold toOk at h
  simp only [List.all_eq_true] at h
  have h1 := h (o, i) (mem_zip.2 ho) t ht (o', j) (mem_zip.2 ho')
  simp only [hd, bne_self_eq_false, Bool.false_or, Bool.or_eq_true, beq_iff, bif_blt] at h1
  rcases h1 with h1 | h1
  · exact .inl h1
  · split at h1
    · rename_i hlt; exact .inr (.inl ⟨hlt, h1⟩)
    · by_cases e : i = j
      · exact .inl e
      · exact .inr (.inr ⟨by omega, h1⟩)

theorem guardOkR_spec {ops : Array Oper} (h : guardOkR ops = true) {i j : Nat} {o : Oper} {want : Bool} (ho : ops[i]? = some o) (hg : o.guard = some (j, want)) :
    j < i ∧ ∃ d, dstOf ops j = some d ∧ ∀ k o', ops[k]? = some o' → o'.dst = some d → k = j := by
  unfold guardOkR at h
  simp only [List.all_eq_true] at h
  have h1 := h (o, i) (mem_zip.2 ho)
  simp only [hg, Bool.and_eq_true] at h1
  obtain ⟨h1, h2⟩ := h1
  refine ⟨Nat.le_of_ble_eq_true h1, ?_⟩
  split at h2
  · rename_i d hd
    refine ⟨d, hd, fun k o' hk hd' => ?_⟩
    simp only [List.all_eq_true] at h2
    have h3 := h2 (o', k) (mem_zip.2 hk)
    simp only [hd', bne_self_eq_false, Bool.false_or, beq_iff] at h3
    exact h3
  · simp at h2

theorem orderedH_spec {bf : Array Nat} : ∀ (hs : List Nat), orderedH bf hs = true → ∀ (m n i j : Nat), m < n → hs[m]? = some i → hs[n]? = some j → tied bf i j = true
  | [], _, m, n, i, j, _, h, _ => by simp at h
  | x :: hs, h, m, n, i, j, hmn, hi, hj => by
    simp only [orderedH, Bool.and_eq_true, List.all_eq_true] at h
    cases n with
    | zero => omega
    | succ n =>
      simp only [List.getElem?_cons_succ] at hj
      cases m with
      | zero =>
        simp only [List.getElem?_cons_zero, Option.some.injEq] at hi
        subst hi
        exact h.1 j (List.mem_of_getElem? hj)
      | succ m => exact orderedH_spec hs h.2 m n i j (by omega) (by simpa using hi) hj

theorem backOk_spec {ops : Array Oper} (h : backOk ops = true) {i : Nat} {o : Oper} (ho : ops[i]? = some o) {e : Edge} (he : e ∈ o.after) (hb : Region.binds .any e = true) : e.on < i := by
  unfold backOk at h
  simp only [List.all_eq_true] at h
  have h1 := h (o, i) (mem_zip.2 ho) e (by simpa using he)
  simp only [hb, Bool.not_true, Bool.false_or] at h1
  exact Nat.le_of_ble_eq_true h1

theorem mem_heavies {ops : Array Oper} {i : Nat} : i ∈ heavies ops ↔ ∃ o, ops[i]? = some o ∧ kind o.op = 2 := by
  unfold heavies
  simp only [List.mem_map, List.mem_filter]
  constructor
  · rintro ⟨⟨o, j⟩, ⟨h1, h2⟩, rfl⟩
    exact ⟨o, mem_zip.1 h1, by simpa using h2⟩
  · rintro ⟨o, h1, h2⟩
    exact ⟨(o, i), ⟨mem_zip.2 h1, by simpa using h2⟩, rfl⟩

theorem nodup_idx (ops : Array Oper) : (ops.toList.zipIdx.map (·.2)).Nodup := by
  have : ops.toList.zipIdx.map (·.2) = List.range' 0 ops.toList.length := List.zipIdx_map_snd 0 ops.toList
  rw [this]; exact List.nodup_range'

theorem heavies_nodup (ops : Array Oper) : (heavies ops).Nodup :=
  List.Nodup.sublist (List.Sublist.map _ List.filter_sublist) (nodup_idx ops)

noncomputable def lsOf (ops : Array Oper) (k : Nat) : List (Oper × Nat) :=
  (ops.toList.zipIdx.filter fun (o, _) => kind o.op != 2).filter (fun (_, i) => level (Region.before ops) (heavies ops) i == k)
noncomputable def hvOf (ops : Array Oper) (k : Nat) : Option (Oper × Nat) := ((heavies ops)[k]?).bind fun i => (ops[i]?).map (·, i)

theorem mem_lsOf {ops : Array Oper} {k i : Nat} {o : Oper} : (o, i) ∈ lsOf ops k ↔ ops[i]? = some o ∧ kind o.op ≠ 2 ∧ level (Region.before ops) (heavies ops) i = k := by
  unfold lsOf
  simp only [List.mem_filter, mem_zip, bne_iff_ne, ne_eq, beq_iff_eq, and_assoc]

theorem lsOf_nodup (ops : Array Oper) (k : Nat) : ((lsOf ops k).map (·.2)).Nodup :=
  List.Nodup.sublist (List.Sublist.map _ (List.Sublist.trans List.filter_sublist List.filter_sublist)) (nodup_idx ops)

structure Checks (ops : Array Oper) : Prop where
  to : toOk ops (Region.before ops) = true
  guard : guardOkR ops = true
  ord : orderedH (Region.before ops) (heavies ops) = true
  back : backOk ops = true

theorem stages_spec {ops : Array Oper} {st : List Stage} (e : stages ops = some st) : Checks ops ∧ st = (List.range ((heavies ops).length + 1)).map fun k => (lsOf ops k, hvOf ops k) := by
  unfold stages at e
  simp only at e
  split at e
  · rename_i hc
    simp only [Bool.and_eq_true] at hc
    simp only [Option.some.injEq] at e
    exact ⟨⟨hc.1.1.1, hc.1.1.2, hc.1.2, hc.2⟩, e.symm⟩
  · simp at e

/-! the state -/
noncomputable def globOk (f : Inj) (gl : List Nat) : Prop := ∀ g, memN g gl = true → ∃ E, f g = some (g, 0, E)

def Pend (p : Program) (ops : Array Oper) (tm : Tr AV) (h0 : H) (nb : Nat → Nat) (vals : Tr AV) (h : H) (f : Inj) (i : Nat) (o : Oper) (v : AV) : Prop :=
  (wantedR vals o = some false ∧ v = undefA) ∨
  (wantedR vals o = some true ∧ (kind o.op = 0 → light p h (evR ops i h.gl tm vals) o.op = some v) ∧
    (kind o.op = 1 → ∃ blk gl, globOk f gl ∧ makes p (nb i) (evR ops i gl tm vals) o.op = some (v, blk) ∧ h.blk.get (nb i) = some blk ∧ f (nb i) = none ∧ h0.next ≤ nb i ∧ nb i < h.next))

noncomputable def pm (ops : Array Oper) (S : Nat → Prop) (vals : Tr AV) (i : Nat) : Prop := ∃ o v, ops[i]? = some o ∧ kind o.op = 1 ∧ vals.get i = some v ∧ ¬ S i ∧ wantedR vals o = some true

structure Inv (p : Program) (ops : Array Oper) (tm : Tr AV) (tmps0 : Array Value) (f0 : Inj) (h0 : H) (w0 : World) (S : Nat → Prop) (nb : Nat → Nat) (vals : Tr AV) (h : H) (f : Inj) (w : World) (tmps : Array Value) : Prop where
  hr : HR f h w
  ext : Ext f0 h0 w0 f h w
  ftm : ∀ t, VR f ((tm.get t).getD undefA) (tmps0.getD t undef)
  closed : ∀ i j, S j → tied (Region.before ops) i j = true → S i
  tmp : ∀ t, (∃ j o v, S j ∧ ops[j]? = some o ∧ o.dst = some t ∧ (∀ j' o', S j' → ops[j']? = some o' → o'.dst = some t → j' ≤ j) ∧ vals.get j = some v ∧ VR f v (tmps.getD t undef)) ∨
    ((∀ j o, S j → ops[j]? = some o → o.dst ≠ some t) ∧ tmps.getD t undef = tmps0.getD t undef)
  size : tmps.size = tmps0.size
  pend : ∀ i o v, ops[i]? = some o → vals.get i = some v → ¬ S i → kind o.op ≠ 2 → Pend p ops tm h0 nb vals h f i o v
  dist : ∀ i j, pm ops S vals i → pm ops S vals j → nb i = nb j → i = j

section
variable {p : Program} {sf : Task → Option Res} {ops : Array Oper} {tm : Tr AV} {tmps0 : Array Value} {f0 : Inj} {h0 : H} {w0 : World}
variable {S : Nat → Prop} {nb : Nat → Nat} {vals vals' : Tr AV} {h h' : H} {f f' : Inj} {w w' : World} {tmps : Array Value}

def Vle (a b : Tr AV) : Prop := ∀ i v, a.get i = some v → b.get i = some v

theorem Vle.set {i : Nat} {v : AV} (hi : vals.get i = none) : Vle vals (vals.set i v) := by
  intro j u hj
  rw [Tr.get_set]
  split
  · rename_i e; subst e; rw [hi] at hj; cases hj
  · exact hj

theorem evR_mono (hv : Vle vals vals') (i : Nat) (gl : List Nat) (x : Operand) {a : AV} (e : evR ops i gl tm vals x = some a) : evR ops i gl tm vals' x = some a := by
  unfold evR at *
  split at e
  · split at e
    · exact hv _ _ e
    · exact e
  · exact e

theorem wantedR_mono (hv : Vle vals vals') {o : Oper} {b : Bool} (e : wantedR vals o = some b) : wantedR vals' o = some b := by
  unfold wantedR at *
  split at e
  · exact e
  · split at e
    · rename_i hg; simp only [hv _ _ hg]; exact e
    · simp at e

theorem globOk.mono (s : Sub f f') {gl : List Nat} (hg : globOk f gl) : globOk f' gl := fun g e => let ⟨E, k⟩ := hg g e; ⟨E, s _ _ k⟩

/-- an operation's operands -/
theorem evR_rel (inv : Inv p ops tm tmps0 f0 h0 w0 S nb vals h f w tmps) (hc : Checks ops) {i : Nat} {o : Oper} (ho : ops[i]? = some o) (hns : ¬ S i) (hpre : ∀ j, tied (Region.before ops) j i = true → S j)
    {gl : List Nat} (hgl : globOk f gl) {a : Act} (hat : a.tmps = tmps) {x : Operand} (hx : x ∈ o.op.operands) {v : AV} (e : evR ops i gl tm vals x = some v) : VR f v (a.eval x) := by
  have key : ∀ (t j : Nat) (o' : Oper), t ∈ namesOf ops o → ops[j]? = some o' → o'.dst = some t → S j → j < i := by
    intro t j o' ht ho' hd hs
    rcases toOk_spec hc.to ho ht ho' hd with h1 | h1 | h1
    · subst h1; exact absurd hs hns
    · exact absurd (inv.closed _ _ hs h1.2) hns
    · exact h1.1
  cases x with
  | tmp t =>
    have ht : t ∈ namesOf ops o := by
      unfold namesOf tmpsOf
      refine List.mem_append_left _ (List.mem_append_right _ (List.mem_filterMap.2 ⟨.tmp t, by simpa using hx, rfl⟩))
    have hev : a.eval (.tmp t) = tmps.getD t undef := by rw [← hat]; simp [Act.eval]
    rw [hev]
    unfold evR at e
    simp only at e
    rcases srcOf_spec t i ops.toList 0 none with ⟨m, q, h1, h2, h3, h4, h5⟩ | ⟨h1, h2⟩
    · rw [h4] at e
      simp only [Nat.zero_add] at e h3 h5
      have hq : ops[m]? = some q := by simpa using h1
      have hsm : S m := by
        rcases toOk_spec hc.to ho ht hq h2 with k | k | k
        · omega
        · omega
        · exact hpre _ k.2
      rcases inv.tmp t with ⟨j, o', u, k1, k2, k3, k4, k5, k6⟩ | ⟨k1, _⟩
      · have hji := key t j o' ht k2 k3 k1
        have hmj := k4 m q hsm hq h2
        have : j = m := by
          by_cases hlt : m < j
          · exact absurd k3 (h5 j o' hlt (by simpa using k2) hji)
          · omega
        subst this
        rw [e] at k5; cases k5; exact k6
      · exact absurd h2 (k1 m q hsm hq)
    · rw [h1] at e
      rcases inv.tmp t with ⟨j, o', u, k1, k2, k3, k4, k5, k6⟩ | ⟨_, k2⟩
      · exact absurd k3 (h2 j o' (by simpa using k2) (by simpa using key t j o' ht k2 k3 k1))
      · rw [k2]
        have := inv.ftm t
        simp only [evOp] at e
        split at e
        · rename_i u hu
          rw [hu] at this
          simp only [Option.some.injEq] at e; subst e; exact this
        · rename_i hu
          rw [hu] at this
          simp only [Option.some.injEq] at e; subst e; exact this
  | const c => exact toAV_spec e f
  | global g =>
    unfold evR evOp at e
    simp only [cond_eq_ite] at e
    split at e
    · rename_i hg
      simp only [Option.some.injEq] at e; subst e
      obtain ⟨E, k⟩ := hgl g hg
      exact .ptr g 0 g 0 E k
    · simp at e
  | func g =>
    unfold evR evOp at e
    simp only [Option.some.injEq] at e; subst e
    exact .func _ _ _ [] [] .nil .nil

theorem wantedR_rel (inv : Inv p ops tm tmps0 f0 h0 w0 S nb vals h f w tmps) (hc : Checks ops) {i : Nat} {o : Oper} (ho : ops[i]? = some o) (hpre : ∀ j, tied (Region.before ops) j i = true → S j) {b : Bool} (e : wantedR vals o = some b) :
    Region.wanted o (yielded ops tmps) = b := by
  unfold wantedR at e
  unfold Region.wanted
  cases hg : o.guard with
  | none => simp only [hg, Option.some.injEq] at e; exact e
  | some q =>
    obtain ⟨j, want⟩ := q
    simp only [hg] at e
    obtain ⟨hji, d, hd, huniq⟩ := guardOkR_spec hc.guard ho hg
    split at e
    · rename_i u hu
      simp only [Option.some.injEq] at e
      subst e
      obtain ⟨q, hq, hqd⟩ : ∃ q, ops[j]? = some q ∧ q.dst = some d := by
        unfold dstOf at hd
        split at hd
        · rename_i q hq; exact ⟨q, hq, hd⟩
        · simp at hd
      have hnm : d ∈ namesOf ops o := by
        unfold namesOf guardTmp
        rw [hg]; simp only [hd]
        exact List.mem_append_right _ (by simp)
      have hsj : S j := by
        rcases toOk_spec hc.to ho hnm hq hqd with k | k | k
        · omega
        · omega
        · exact hpre _ k.2
      rcases inv.tmp d with ⟨j', o', u', k1, k2, k3, k4, k5, k6⟩ | ⟨k1, _⟩
      · have := huniq j' o' k2 k3
        subst this
        rw [hu] at k5; cases k5
        show (yielded ops tmps j' == some want) = _
        rw [yielded_rel, hd]
        show (boolOf (tmps.getD d undef) == some want) = _
        rw [wantedT_rel (x := some u) k6 want]
      · exact absurd hqd (k1 j q hsj hq)
    · simp at e

/-- abstractly done, nothing happens in the machine -/
theorem quiet_add (hr : HR f h w) (blk : Blk) : HR f (h.add blk) w ∧ Ext f h w f (h.add blk) w := by
  have hlt : ∀ b L, f b = some L → b < h.next := fun b L e => (hr.dom b L e).1
  have hal : ∀ b L, f b = some L → alive (h.add blk) b → alive h b := by
    intro b L e a
    unfold alive at *
    rw [get_add, if_neg (by have := hlt b L e; omega)] at a; exact a
  refine ⟨⟨?_, ?_, hr.glob⟩, ⟨Sub.refl f, ?_, ?_, Nat.le_refl _, ?_, ?_, fun _ _ _ => rfl, rfl, rfl⟩⟩
  · intro b L e
    obtain ⟨h1, k, o, h2, h3, h4⟩ := hr.dom b L e
    exact ⟨by simp [H.add]; omega, k, o, by rw [get_add, if_neg (by omega)]; exact h2, h3, h4⟩
  · intro b b' L L' e e' a a' hL
    exact hr.inj b b' L L' e e' (hal b L e a) (hal b' L' e' a') hL
  · intro b hb e
    exact ⟨e, by rw [get_add, if_neg (by omega)]⟩
  · simp [H.add]
  · intro b hb e
    rw [get_add, if_neg (by omega)]; exact e
  · intro b L e a
    exact .inr ⟨b, L, e, hal b L e a, rfl⟩

theorem Le.add (h : H) (blk : Blk) (hf : h.blk.get h.next = none) : Le h (h.add blk) := by
  intro b x e
  rw [get_add, if_neg (fun k => by rw [k] at hf; rw [hf] at e; cases e)]; exact e

/-- a block that lies ready gets its place -/
theorem map_sound (hr : HR f h w) {n : Nat} {blk : Blk} {o : Obj} {E d : Nat} (hn : f n = none) (hlt : n < h.next) (hb : h.blk.get n = some blk) (hbr : BR f (w.heap.size, 0, E) blk o) :
    HR (ins f n (w.heap.size, 0, E)) h (addW w o d) ∧ (Ext f0 h0 w0 f h w → h0.next ≤ n → Ext f0 h0 w0 (ins f n (w.heap.size, 0, E)) h (addW w o d)) := by
  have hs := sub_ins (L := (w.heap.size, 0, E)) hn
  have hsz : ∀ b L, f b = some L → L.1 < w.heap.size := by
    intro b L e
    obtain ⟨_, _, o', _, h2, _⟩ := hr.dom b L e
    exact (Array.getElem?_eq_some_iff.1 h2).1
  refine ⟨⟨?_, ?_, fun g hg => let ⟨E, e⟩ := hr.glob g hg; ⟨E, hs _ _ e⟩⟩, fun ext h0n => ⟨ext.sub.trans hs, ?_, ext.next, ?_, ext.dead, ?_, ?_, ext.still⟩⟩
  · intro b L e
    unfold ins at e
    split at e
    · rename_i hbn
      subst hbn
      simp only [Option.some.injEq] at e; subst e
      exact ⟨hlt, blk, o, hb, by simp [addW], hbr.mono hs⟩
    · obtain ⟨h1, blk', o', h2, h3, h4⟩ := hr.dom b L e
      refine ⟨h1, blk', o', h2, ?_, h4.mono hs⟩
      have := hsz b L e
      simp only [addW, Array.getElem?_push]
      rw [if_neg (by omega)]; exact h3
  · intro b b' L L' e e' a a' hL
    unfold ins at e e'
    split at e
    · rename_i hbn
      simp only [Option.some.injEq] at e; subst e
      split at e'
      · rename_i hbn'; rw [hbn, hbn']
      · have := hsz b' L' e'; simp only at hL; omega
    · split at e'
      · simp only [Option.some.injEq] at e'; subst e'
        have := hsz b L e; simp only at hL; omega
      · exact hr.inj b b' L L' e e' a a' hL
  · intro b hb' e
    obtain ⟨k1, k2⟩ := ext.old b hb' e
    refine ⟨?_, k2⟩
    unfold ins; rw [if_neg (by omega)]; exact k1
  · have := ext.size
    simp [addW]; omega
  · intro b L e a
    unfold ins at e
    split at e
    · simp only [Option.some.injEq] at e; subst e; exact .inl ext.size
    · exact ext.rng b L e a
  · intro B hB hk
    have := ext.size
    simp only [addW, Array.getElem?_push]
    rw [if_neg (by omega)]
    exact ext.kept B hB hk
end
end Go.Xec
namespace Go.Xec

noncomputable def restr (xs : Array Operand) (ρ : Operand → Option AV) : Operand → Option AV := fun x => @ite _ (x ∈ xs) (Classical.propDecidable _) (ρ x) none

theorem restr_ple {o : Op} {ρ : Operand → Option AV} : Ple o ρ (restr o.operands ρ) := by
  intro x hx a e
  unfold restr
  rw [if_pos hx]; exact e

theorem restr_or {f : Inj} {o : Op} {ρ : Operand → Option AV} {ρ' : Operand → Value} (hh : ∀ x ∈ o.operands, ∀ a, ρ x = some a → VR f a (ρ' x)) : OR f (restr o.operands ρ) ρ' := by
  intro x a e
  unfold restr at e
  by_cases hx : x ∈ o.operands
  · rw [if_pos hx] at e; exact hh x hx a e
  · rw [if_neg hx] at e; cases e

section
variable {p : Program} {sf : Task → Option Res} {ops : Array Oper} {tm : Tr AV} {tmps0 : Array Value} {f0 : Inj} {h0 : H} {w0 : World}
variable {S : Nat → Prop} {nb : Nat → Nat} {vals vals' : Tr AV} {h h' : H} {f f' : Inj} {w w' : World} {tmps : Array Value}
variable {b : Frame} {a : Act} {k : List Item} {cs : List Frame} {rest : List Nat}

theorem value_steps {i : Nat} {o : Oper} (ho : ops[i]? = some o) (hw : Region.wanted o (yielded ops a.tmps) = true) (hnd : ∀ c, o.op ≠ .defer c) {v' : Value} (hrun : (execOp a.eval o).run p w = .ok (.value v') w') :
    Steps p (lone (b.atR a (.inRegion ops (i :: rest) :: k)) cs w) (lone (b.atR (a.put o.dst v') (.inRegion ops rest :: k)) cs w') := by
  have hg := stepGR_op (P := p) (b := b) (k := k) (cs := cs) (w := w) (rest := rest) ho hw
  rw [Oper.semAt_eq _ _ _ hnd] at hg
  have hfin : ∀ v, (b.atR a (.inRegion ops (i :: rest) :: k)).finish v = b.atR (a.put o.dst v) (.inRegion ops rest :: k) := by
    intro v; rw [Frame.finish_atR, ho]; rfl
  refine .one (step_lone_go ?_)
  rw [hg, ← hfin]; simp [stepG.apply, hrun]

/-- the abstract side moves on -/
theorem inv_vals (inv : Inv p ops tm tmps0 f0 h0 w0 S nb vals h f w tmps) {i : Nat} {o : Oper} {v : AV} (ho : ops[i]? = some o) (hn : vals.get i = none) (hle : Le h h') (hgl : h'.gl = h.gl) (hnx : h.next ≤ h'.next) (hr : HR f h' w) (hx : Ext f h w f h' w)
    {nb' : Nat → Nat} (hnb : ∀ j, j ≠ i → nb' j = nb j) (hp : Pend p ops tm h0 nb' (vals.set i v) h' f i o v) (hd : kind o.op = 1 → wantedR (vals.set i v) o = some true → ∀ j, j ≠ i → pm ops S vals j → nb' i ≠ nb j) :
    Inv p ops tm tmps0 f0 h0 w0 S nb' (vals.set i v) h' f w tmps := by
  have hv := Vle.set (v := v) hn
  have hpm : ∀ j, j ≠ i → pm ops S (vals.set i v) j → pm ops S vals j := by
    rintro j hj ⟨q, u, k1, k2, k3, k4, k5⟩
    rw [Tr.get_set, if_neg (fun e => hj e.symm)] at k3
    refine ⟨q, u, k1, k2, k3, k4, ?_⟩
    rcases inv.pend j q u k1 k3 k4 (by omega) with ⟨g1, _⟩ | ⟨g1, _⟩
    · rw [wantedR_mono hv g1] at k5; cases k5
    · exact g1
  refine ⟨hr, inv.ext.trans hx, inv.ftm, inv.closed, ?_, inv.size, ?_, ?_⟩
  · intro t
    rcases inv.tmp t with ⟨j, q, u, k1, k2, k3, k4, k5, k6⟩ | k1
    · exact .inl ⟨j, q, u, k1, k2, k3, k4, hv _ _ k5, k6⟩
    · exact .inr k1
  · intro j q u hq hu hs hk
    by_cases hj : j = i
    · subst hj
      rw [ho] at hq; cases hq
      rw [Tr.get_set, if_pos rfl] at hu; cases hu
      exact hp
    · rw [Tr.get_set, if_neg (fun e => hj e.symm)] at hu
      rcases inv.pend j q u hq hu hs hk with ⟨k1, k2⟩ | ⟨k1, k2, k3⟩
      · exact .inl ⟨wantedR_mono hv k1, k2⟩
      · refine .inr ⟨wantedR_mono hv k1, fun e => ?_, fun e => ?_⟩
        · rw [hgl]
          exact light_mono hle (fun x _ a e => evR_mono hv j h.gl x e) (k2 e)
        · obtain ⟨blk, gl, g1, g2, g3, g4, g5, g6⟩ := k3 e
          rw [hnb j hj]
          exact ⟨blk, gl, g1, makes_mono (fun x _ a e => evR_mono hv j gl x e) g2, hle _ _ g3, g4, g5, by omega⟩
  · intro x y hx hy e
    by_cases hxi : x = i
    · by_cases hyi : y = i
      · rw [hxi, hyi]
      · subst hxi
        obtain ⟨q, u, k1, k2, k3, k4, k5⟩ := hx
        rw [ho] at k1; cases k1
        rw [hnb y hyi] at e
        exact absurd e (hd k2 k5 y hyi (hpm y hyi hy))
    · by_cases hyi : y = i
      · subst hyi
        obtain ⟨q, u, k1, k2, k3, k4, k5⟩ := hy
        rw [ho] at k1; cases k1
        rw [hnb x hxi] at e
        exact absurd e.symm (hd k2 k5 x hxi (hpm x hxi hx))
      · rw [hnb x hxi, hnb y hyi] at e
        exact inv.dist x y (hpm x hxi hx) (hpm y hyi hy) e

theorem inv_abs (inv : Inv p ops tm tmps0 f0 h0 w0 S nb vals h f w tmps) {i : Nat} {o : Oper} (ho : ops[i]? = some o) (hk : kind o.op ≠ 2) (hn : vals.get i = none) (e : opR p sf ops tm (o, i) vals h = some (vals', h')) :
    ∃ nb' v, vals' = vals.set i v ∧ Inv p ops tm tmps0 f0 h0 w0 S nb' vals' h' f w tmps := by
  unfold opR at e
  simp only at e
  split at e
  · rename_i hw
    rw [cond_eq_ite] at e
    split at e
    · simp at e
    · rename_i hfr
      split at e
      · rename_i v h2 hov
        simp only [Option.some.injEq, Prod.mk.injEq] at e
        obtain ⟨rfl, rfl⟩ := e
        have hv := Vle.set (v := v) hn
        unfold opVal at hov
        split at hov
        · rename_i hk0
          split at hov
          · rename_i u hl
            simp only [Option.some.injEq, Prod.mk.injEq] at hov
            obtain ⟨rfl, rfl⟩ := hov
            refine ⟨nb, u, rfl, inv_vals inv ho hn (Le.refl h) rfl (Nat.le_refl _) inv.hr (Ext.refl _ _ _) (fun _ _ => rfl) (.inr ⟨wantedR_mono hv hw, fun _ => ?_, fun e => by omega⟩) (fun e => by omega)⟩
            exact light_mono (Le.refl h) (fun x _ a e => evR_mono hv i h.gl x e) hl
          · simp at hov
        · rename_i hk1
          split at hov
          · rename_i u blk hm
            simp only [Option.some.injEq, Prod.mk.injEq] at hov
            obtain ⟨rfl, rfl⟩ := hov
            have hfree : h.blk.get h.next = none := by
              cases hq : h.blk.get h.next with
              | none => rfl
              | some x => simp [hk1, hq] at hfr
            obtain ⟨q1, q2⟩ := quiet_add inv.hr blk
            have hnb : ∀ j, pm ops S vals j → nb j < h.next := by
              rintro j ⟨q, u', k1, k2, k3, k4, k5⟩
              rcases inv.pend j q u' k1 k3 k4 (by omega) with ⟨g1, _⟩ | ⟨_, _, g3⟩
              · rw [g1] at k5; cases k5
              · obtain ⟨_, _, _, _, _, _, _, g⟩ := g3 k2; exact g
            refine ⟨fun j => if j = i then h.next else nb j, u, rfl, inv_vals inv ho hn (Le.add h blk hfree) rfl q2.next q1 q2 (fun j hj => if_neg hj) (.inr ⟨wantedR_mono hv hw, fun e => by omega, fun _ => ?_⟩) ?_⟩
            · refine ⟨blk, h.gl, inv.hr.glob, ?_, ?_, ?_, ?_, ?_⟩
              · simp only [if_true]; exact makes_mono (fun x _ a e => evR_mono hv i h.gl x e) hm
              · simp [get_add]
              · simp only [if_true]; exact inv.hr.fresh (Nat.le_refl _)
              · simp only [if_true]; exact inv.ext.next
              · simp [H.add]
            · intro _ _ j hj hpj
              have := hnb j hpj
              simp only [if_true]; omega
          · simp at hov
        · rename_i k0 k1
          have : kind o.op = 0 ∨ kind o.op = 1 ∨ kind o.op = 2 := by
            unfold kind
            split <;> first | exact .inl rfl | exact .inr (.inl rfl) | exact .inr (.inr rfl) | skip
            unfold kindC
            split <;> first | exact .inl rfl | exact .inr (.inr rfl)
          rcases this with t0 | t0 | t0
          · exact absurd t0 (fun q => k0 q)
          · exact absurd t0 (fun q => k1 q)
          · exact absurd t0 hk
      · simp at e
  · rename_i hw
    simp only [Option.some.injEq, Prod.mk.injEq] at e
    obtain ⟨rfl, rfl⟩ := e
    have hv := Vle.set (v := undefA) hn
    refine ⟨nb, undefA, rfl, inv_vals inv ho hn (Le.refl h) rfl (Nat.le_refl _) inv.hr (Ext.refl _ _ _) (fun _ _ => rfl) (.inl ⟨wantedR_mono hv hw, rfl⟩) (fun _ e => ?_)⟩
    rw [wantedR_mono hv hw] at e; cases e
  · simp at e

theorem inv_seq : ∀ (ls : List (Oper × Nat)) (vals : Tr AV) (h : H) (nb : Nat → Nat), (∀ q ∈ ls, ops[q.2]? = some q.1 ∧ kind q.1.op ≠ 2 ∧ vals.get q.2 = none) → (ls.map (·.2)).Nodup →
    Inv p ops tm tmps0 f0 h0 w0 S nb vals h f w tmps → seqR p sf ops tm ls vals h = some (vals', h') →
    ∃ nb', Inv p ops tm tmps0 f0 h0 w0 S nb' vals' h' f w tmps ∧ (∀ j, j ∉ ls.map (·.2) → vals'.get j = vals.get j) ∧ ∀ q ∈ ls, (vals'.get q.2).isSome = true
  | [], vals, h, nb, _, _, inv, e => by
    simp only [seqR, Option.some.injEq, Prod.mk.injEq] at e
    obtain ⟨rfl, rfl⟩ := e
    exact ⟨nb, inv, fun _ _ => rfl, fun q hq => by simp at hq⟩
  | (o, i) :: ls, vals, h, nb, hq, hnd, inv, e => by
    unfold seqR at e
    split at e
    · rename_i vals1 h1 ho
      obtain ⟨q1, q2, q3⟩ := hq (o, i) (by simp)
      simp only [List.map_cons, List.nodup_cons] at hnd
      obtain ⟨nb1, v, rfl, inv1⟩ := inv_abs inv q1 q2 q3 ho
      obtain ⟨nb', g1, g2, g3⟩ := inv_seq ls _ h1 nb1 (fun q hm => by
        obtain ⟨k1, k2, k3⟩ := hq q (List.mem_cons_of_mem _ hm)
        refine ⟨k1, k2, ?_⟩
        rw [Tr.get_set, if_neg]; exact k3
        intro e'
        exact hnd.1 (by have e2 : i = q.2 := e'; rw [e2]; exact List.mem_map_of_mem hm)) hnd.2 inv1 e
      refine ⟨nb', g1, ?_, ?_⟩
      · intro j hj
        simp only [List.map_cons, List.mem_cons, not_or] at hj
        rw [g2 j hj.2, Tr.get_set, if_neg (fun e => hj.1 e.symm)]
      · intro q hm
        rcases List.mem_cons.1 hm with rfl | hm
        · rw [g2 i hnd.1, Tr.get_set, if_pos rfl]; rfl
        · exact g3 q hm
    · simp at e

/-- a pending operation is carried out -/
theorem inv_put (inv : Inv p ops tm tmps0 f0 h0 w0 S nb vals h f w a.tmps) (hc : Checks ops) (hds : ∀ (i : Nat) (o : Oper) (d : Nat), ops[i]? = some o → o.dst = some d → d < tmps0.size)
    {i : Nat} {o : Oper} {v : AV} {v' : Value} (ho : ops[i]? = some o) (hns : ¬ S i) (hpre : ∀ j, tied (Region.before ops) j i = true → S j) (hv : vals.get i = some v) (hvr : VR f' v v')
    (hr : HR f' h w') (hx : Ext f0 h0 w0 f' h w') (hs : Sub f f') (hpn : ∀ j, pm ops S vals j → j ≠ i → f' (nb j) = none) :
    Inv p ops tm tmps0 f0 h0 w0 (fun j => S j ∨ j = i) nb vals h f' w' (a.put o.dst v').tmps := by
  have hpm : ∀ j, pm ops (fun j => S j ∨ j = i) vals j → j ≠ i ∧ pm ops S vals j := by
    rintro j ⟨q, u, k1, k2, k3, k4, k5⟩
    exact ⟨fun e => k4 (.inr e), q, u, k1, k2, k3, fun e => k4 (.inl e), k5⟩
  refine ⟨hr, hx, fun t => (inv.ftm t).mono hs, ?_, ?_, ?_, ?_, ?_⟩
  · rintro x y (hy | rfl) ht
    · exact .inl (inv.closed x y hy ht)
    · exact .inl (hpre x ht)
  · intro t
    by_cases hd : o.dst = some t
    · refine .inl ⟨i, o, v, .inr rfl, ho, hd, ?_, hv, ?_⟩
      · rintro j' o' (hj | rfl) ho' hd'
        · have hnm : t ∈ namesOf ops o := by
            unfold namesOf
            exact List.mem_append_left _ (List.mem_append_left _ (by simp [hd]))
          rcases toOk_spec hc.to ho hnm ho' hd' with g | g | g
          · omega
          · exact absurd (inv.closed _ _ hj g.2) hns
          · omega
        · exact Nat.le_refl _
      · have hlt := hds i o t ho hd
        rw [← inv.size] at hlt
        rw [hd]
        simpa [Act.put, Array.getD, hlt] using hvr
    · have hsame : (a.put o.dst v').tmps.getD t undef = a.tmps.getD t undef := by
        cases hdd : o.dst with
        | none => rfl
        | some d =>
          have hne : d ≠ t := fun e => hd (by rw [hdd, e])
          simp [Act.put, Array.getD_eq_getD_getElem?, Array.getElem?_setIfInBounds_ne hne]
      rw [hsame]
      rcases inv.tmp t with ⟨j, q, u, k1, k2, k3, k4, k5, k6⟩ | ⟨k1, k2⟩
      · refine .inl ⟨j, q, u, .inl k1, k2, k3, ?_, k5, k6.mono hs⟩
        rintro j' o' (hj | rfl) ho' hd'
        · exact k4 j' o' hj ho' hd'
        · rw [ho] at ho'; cases ho'; exact absurd hd' hd
      · refine .inr ⟨?_, k2⟩
        rintro j q (hj | rfl) hq
        · exact k1 j q hj hq
        · rw [ho] at hq; cases hq; exact hd
  · rw [← inv.size]
    cases hdd : o.dst <;> simp [Act.put]
  · intro j q u hq hu hsn hk
    have hsj : ¬ S j := fun e => hsn (.inl e)
    have hji : j ≠ i := fun e => hsn (.inr e)
    rcases inv.pend j q u hq hu hsj hk with g | ⟨k1, k2, k3⟩
    · exact .inl g
    · refine .inr ⟨k1, k2, fun e => ?_⟩
      obtain ⟨blk, gl, g1, g2, g3, g4, g5, g6⟩ := k3 e
      exact ⟨blk, gl, g1.mono hs, g2, g3, hpn j ⟨q, u, hq, e, hu, hsj, k1⟩ hji, g5, g6⟩
  · intro x y hx hy e
    exact inv.dist x y (hpm x hx).2 (hpm y hy).2 e

theorem inv_light (inv : Inv p ops tm tmps0 f0 h0 w0 S nb vals h f w a.tmps) (hc : Checks ops) (hds : ∀ (i : Nat) (o : Oper) (d : Nat), ops[i]? = some o → o.dst = some d → d < tmps0.size)
    {i : Nat} {o : Oper} {v : AV} (ho : ops[i]? = some o) (hns : ¬ S i) (hpre : ∀ j, tied (Region.before ops) j i = true → S j) (hk : kind o.op ≠ 2) (hv : vals.get i = some v) :
    ∃ f' w' v', Steps p (lone (b.atR a (.inRegion ops (i :: rest) :: k)) cs w) (lone (b.atR (a.put o.dst v') (.inRegion ops rest :: k)) cs w') ∧
      Inv p ops tm tmps0 f0 h0 w0 (fun j => S j ∨ j = i) nb vals h f' w' (a.put o.dst v').tmps := by
  have hnone : ∀ j, pm ops S vals j → f (nb j) = none := by
    rintro j ⟨q, u', k1, k2, k3, k4, k5⟩
    rcases inv.pend j q u' k1 k3 k4 (by omega) with ⟨g1, _⟩ | ⟨_, _, g3⟩
    · rw [g1] at k5; cases k5
    · obtain ⟨_, _, _, _, _, g, _⟩ := g3 k2; exact g
  have hnd : ∀ c, o.op ≠ .defer c := fun c e => hk (by rw [e]; rfl)
  rcases inv.pend i o v ho hv hns hk with ⟨k1, rfl⟩ | ⟨k1, k2, k3⟩
  · exact ⟨f, w, undef, skip_steps ho (wantedR_rel inv hc ho hpre k1), inv_put inv hc hds ho hns hpre hv (undef_rel f) inv.hr inv.ext (Sub.refl f) (fun j hj _ => hnone j hj)⟩
  · have hw := wantedR_rel inv hc ho hpre k1
    have h012 : kind o.op = 0 ∨ kind o.op = 1 := by
      have : kind o.op = 0 ∨ kind o.op = 1 ∨ kind o.op = 2 := by
        unfold kind
        split <;> first | exact .inl rfl | exact .inr (.inl rfl) | exact .inr (.inr rfl) | skip
        unfold kindC
        split <;> first | exact .inl rfl | exact .inr (.inr rfl)
      omega
    rcases h012 with e0 | e1
    · have hl := light_mono (Le.refl h) restr_ple (k2 e0)
      obtain ⟨v', g1, g2⟩ := light_sound (p := p) inv.hr (restr_or fun x hx u e => evR_rel inv hc ho hns hpre inv.hr.glob rfl hx e) o hl
      exact ⟨f, w, v', value_steps ho hw hnd g1, inv_put inv hc hds ho hns hpre hv g2 inv.hr inv.ext (Sub.refl f) (fun j hj _ => hnone j hj)⟩
    · obtain ⟨blk, gl, g1, g2, g3, g4, g5, g6⟩ := k3 e1
      have hm := makes_mono restr_ple g2
      obtain ⟨v', ob, E, m1, m2, m3⟩ := makes_sound (p := p) (w := w) (restr_or fun x hx u e => evR_rel inv hc ho hns hpre g1 rfl hx e) o hm
      obtain ⟨n1, n2⟩ := map_sound (d := w.drawn) (f0 := f0) (h0 := h0) (w0 := w0) inv.hr g4 g6 g3 m2
      refine ⟨_, _, v', value_steps ho hw hnd m1, inv_put inv hc hds ho hns hpre hv (m3 _ (sub_ins g4) (by simp [ins])) n1 (n2 inv.ext g5) (sub_ins g4) (fun j hj hji => ?_)⟩
      unfold ins
      rw [if_neg]
      · exact hnone j hj
      · intro e
        exact hji (inv.dist j i hj ⟨o, v, ho, e1, hv, hns, k1⟩ e)

theorem inv_heavy (ih : IH p sf) (inv : Inv p ops tm tmps0 f0 h0 w0 S nb vals h f w a.tmps) (hc : Checks ops) (hds : ∀ (i : Nat) (o : Oper) (d : Nat), ops[i]? = some o → o.dst = some d → d < tmps0.size)
    {i : Nat} {o : Oper} (ho : ops[i]? = some o) (hns : ¬ S i) (hpre : ∀ j, tied (Region.before ops) j i = true → S j) (hk : kind o.op = 2) (hn : vals.get i = none) (e : opR p sf ops tm (o, i) vals h = some (vals', h'))
    {dl : List (Oper × Nat)} (hst : stable p ops ((Region.before ops).getD i 0) tm vals' h' dl = true) (hdl : ∀ (j : Nat) (q : Oper), ops[j]? = some q → kind q.op ≠ 2 → (vals.get j).isSome = true → (q, j) ∈ dl) :
    ∃ f' w' v' v, vals' = vals.set i v ∧ Steps p (lone (b.atR a (.inRegion ops (i :: rest) :: k)) cs w) (lone (b.atR (a.put o.dst v') (.inRegion ops rest :: k)) cs w') ∧
      Inv p ops tm tmps0 f0 h0 w0 (fun j => S j ∨ j = i) nb vals' h' f' w' (a.put o.dst v').tmps := by
  obtain ⟨f', w', v', v, rfl, hsteps, hr, hx, hvr⟩ : ∃ f' w' v' v, vals' = vals.set i v ∧ Steps p (lone (b.atR a (.inRegion ops (i :: rest) :: k)) cs w) (lone (b.atR (a.put o.dst v') (.inRegion ops rest :: k)) cs w') ∧ HR f' h' w' ∧ Ext f h w f' h' w' ∧ VR f' v v' := by
    unfold opR at e
    simp only at e
    split at e
    · rename_i hw
      rw [cond_eq_ite] at e
      split at e
      · simp at e
      · split at e
        · rename_i v h2 hov
          simp only [Option.some.injEq, Prod.mk.injEq] at e
          obtain ⟨rfl, rfl⟩ := e
          have hnd : ∀ c, o.op ≠ .defer c := by
            intro c hh
            rw [hh] at hov
            simp [opVal, kind, heavy] at hov
          have hov' := opVal_mono restr_ple hov
          have hcall := opVal_sound (w := w) ih inv.hr (restr_or fun x hx u e => evR_rel inv hc ho hns hpre inv.hr.glob rfl hx e) o hov'
          obtain ⟨f', w', v', g1, g2, g3⟩ := op_steps (b := b) (k := k) (cs := cs) (rest := rest) ho (wantedR_rel inv hc ho hpre hw) hnd hcall
          exact ⟨f', w', v', v, rfl, g1, g2.1, g2.2, g3⟩
        · simp at e
    · rename_i hw
      simp only [Option.some.injEq, Prod.mk.injEq] at e
      obtain ⟨rfl, rfl⟩ := e
      exact ⟨f, w, undef, undefA, rfl, skip_steps ho (wantedR_rel inv hc ho hpre hw), inv.hr, Ext.refl _ _ _, undef_rel f⟩
    · simp at e
  refine ⟨f', w', v', v, rfl, hsteps, ?_⟩
  have hv := Vle.set (v := v) hn
  have hpm : ∀ j, j ≠ i → pm ops S (vals.set i v) j → pm ops S vals j := by
    rintro j hj ⟨q, u, k1, k2, k3, k4, k5⟩
    rw [Tr.get_set, if_neg (fun e => hj e.symm)] at k3
    refine ⟨q, u, k1, k2, k3, k4, ?_⟩
    rcases inv.pend j q u k1 k3 k4 (by omega) with ⟨g1, _⟩ | ⟨g1, _⟩
    · rw [wantedR_mono hv g1] at k5; cases k5
    · exact g1
  have hpmi : ∀ j, pm ops S (vals.set i v) j → j ≠ i := by
    rintro j ⟨q, u, k1, k2, _⟩ rfl
    rw [ho] at k1; cases k1; omega
  have hout : ∀ j, pm ops S vals j → f' (nb j) = none ∧ h'.blk.get (nb j) = h.blk.get (nb j) := by
    rintro j ⟨q, u', k1, k2, k3, k4, k5⟩
    rcases inv.pend j q u' k1 k3 k4 (by omega) with ⟨g1, _⟩ | ⟨_, _, g3⟩
    · rw [g1] at k5; cases k5
    · obtain ⟨_, _, _, _, _, g, _, g'⟩ := g3 k2; exact hx.old _ g' g
  have inv1 : Inv p ops tm tmps0 f0 h0 w0 S nb (vals.set i v) h' f' w' a.tmps := by
    refine ⟨hr, inv.ext.trans hx, fun t => (inv.ftm t).mono hx.sub, inv.closed, ?_, inv.size, ?_, ?_⟩
    · intro t
      rcases inv.tmp t with ⟨j, q, u, k1, k2, k3, k4, k5, k6⟩ | k1
      · exact .inl ⟨j, q, u, k1, k2, k3, k4, hv _ _ k5, k6.mono hx.sub⟩
      · exact .inr k1
    · intro j q u hq hu hs hkj
      have hji : j ≠ i := by rintro rfl; rw [ho] at hq; cases hq; omega
      have hu' := hu
      rw [Tr.get_set, if_neg (fun e => hji e.symm)] at hu'
      have hbit : ((Region.before ops).getD i 0).testBit j = false := by
        cases hb : ((Region.before ops).getD i 0).testBit j with
        | false => rfl
        | true => exact absurd (hpre j hb) hs
      rcases inv.pend j q u hq hu' hs hkj with ⟨k1, k2⟩ | ⟨k1, k2, k3⟩
      · exact .inl ⟨wantedR_mono hv k1, k2⟩
      · refine .inr ⟨wantedR_mono hv k1, fun e => ?_, fun e => ?_⟩
        · rcases stable_spec dl hst q j (hdl j q hq hkj (by rw [hu']; rfl)) e hbit with g1 | ⟨_, u2, g2, g3⟩
          · rw [wantedR_mono hv k1] at g1; cases g1
          · rw [hu] at g2; cases g2; exact g3
        · obtain ⟨blk, gl, g1, g2, g3, g4, g5, g6⟩ := k3 e
          obtain ⟨n1, n2⟩ := hout j ⟨q, u, hq, e, hu', hs, k1⟩
          have := hx.next
          exact ⟨blk, gl, g1.mono hx.sub, makes_mono (fun x _ a e => evR_mono hv j gl x e) g2, n2.trans g3, n1, g5, by omega⟩
    · intro x y hx hy e
      exact inv.dist x y (hpm x (hpmi x hx) hx) (hpm y (hpmi y hy) hy) e
  exact inv_put inv1 hc hds ho hns hpre (by rw [Tr.get_set, if_pos rfl]) hvr hr inv1.ext (Sub.refl f') (fun j hj hji => (hout j (hpm j hji hj)).1)
end
end Go.Xec
namespace Go.Xec

noncomputable def drawnD (p : Program) (sf : Task → Option Res) (ops : Array Oper) (bf : Array Nat) (tm : Tr AV) (hv : Option (Oper × Nat)) (rest : List Stage) (dl : List (Oper × Nat)) (vals : Tr AV) (h : H) : Option (Tr AV × H) :=
  match hv with
  | none => some (vals, h)
  | some q => match opR p sf ops tm q vals h with
    | none => none
    | some (vals, h) => match stable p ops (bf.getD q.2 0) tm vals h dl with
      | true => drawn p sf ops bf tm rest dl vals h
      | false => none

theorem drawn_cons (p : Program) (sf : Task → Option Res) (ops : Array Oper) (bf : Array Nat) (tm : Tr AV) (ls : List (Oper × Nat)) (hv : Option (Oper × Nat)) (rest : List Stage) (done : List (Oper × Nat)) (vals : Tr AV) (h : H) :
    drawn p sf ops bf tm ((ls, hv) :: rest) done vals h = match seqR p sf ops tm ls vals h with
      | none => none
      | some (vals, h) => drawnD p sf ops bf tm hv rest (done ++ ls) vals h := by
  unfold drawn drawnD
  split
  · rename_i hq; rw [hq]
  · rename_i hq; rw [hq]; cases hv <;> rfl

theorem level_le {bf : Array Nat} {hs : List Nat} {i k : Nat} (h : ∀ (m x : Nat), hs[m]? = some x → tied bf x i = true → m < k) : level bf hs i ≤ k := by
  unfold level
  have e : hs = hs.take k ++ hs.drop k := (List.take_append_drop k hs).symm
  have h2 : (hs.drop k).filter (fun x => tied bf x i) = [] := by
    rw [List.filter_eq_nil_iff]
    intro x hx ht
    obtain ⟨n, hn⟩ := List.getElem?_of_mem hx
    rw [List.getElem?_drop] at hn
    have := h (k + n) x hn ht
    omega
  rw [e, List.filter_append, h2, List.append_nil]
  refine Nat.le_trans (List.length_filter_le _ _) ?_
  rw [List.length_take]; omega

theorem go_cons {ops : Array Oper} {fuel t : Nat} {listed : Array Bool} :
    Region.linearise.go .any ops (fuel + 1) t listed [] = [] ∧ Region.ready .any ops listed = [] ∨
    ∃ i t', i ∈ Region.ready .any ops listed ∧ Region.linearise.go .any ops (fuel + 1) t listed [] = i :: Region.linearise.go .any ops fuel t' (listed.setIfInBounds i true) [] := by
  simp only [Region.linearise.go]
  change (match (Region.ready .any ops listed)[t % (Region.ready .any ops listed).length]? with
      | some i => Region.linearise.go .any ops fuel (t / (Region.ready .any ops listed).length) (listed.setIfInBounds i true) [i]
      | none => [].reverse) = [] ∧ _ ∨ ∃ i t', _ ∧ (match (Region.ready .any ops listed)[t % (Region.ready .any ops listed).length]? with
      | some i => Region.linearise.go .any ops fuel (t / (Region.ready .any ops listed).length) (listed.setIfInBounds i true) [i]
      | none => [].reverse) = _
  cases hi : (Region.ready .any ops listed)[t % (Region.ready .any ops listed).length]? with
  | none =>
    left
    refine ⟨rfl, ?_⟩
    cases hr : Region.ready .any ops listed with
    | nil => rfl
    | cons x xs =>
      rw [hr] at hi
      have hlt : t % (x :: xs).length < (x :: xs).length := Nat.mod_lt _ (by simp)
      rw [List.getElem?_eq_none_iff] at hi
      omega
  | some i =>
    right
    refine ⟨i, t / (Region.ready .any ops listed).length, List.mem_of_getElem? hi, ?_⟩
    simp only []
    rw [linearise_go_acc, List.reverse_singleton, List.singleton_append]

section
variable {p : Program} {sf : Task → Option Res} {ops : Array Oper} {tm : Tr AV} {tmps0 : Array Value} {f0 : Inj} {h0 : H} {w0 : World}
variable {valsF : Tr AV} {hF : H}
variable {b : Frame} {k : List Item} {cs : List Frame}

noncomputable def stg (ops : Array Oper) : List Stage := (List.range ((heavies ops).length + 1)).map fun k => (lsOf ops k, hvOf ops k)

theorem stg_drop {n : Nat} (hn : n ≤ (heavies ops).length) : (stg ops).drop n = (lsOf ops n, hvOf ops n) :: (stg ops).drop (n + 1) := by
  have hl : n < (stg ops).length := by simp [stg]; omega
  rw [List.drop_eq_getElem_cons hl]
  simp [stg]

/-- what is done at stage n -/
structure Lv (ops : Array Oper) (n : Nat) (vals : Tr AV) (dl : List (Oper × Nat)) : Prop where
  li : ∀ i o, ops[i]? = some o → kind o.op ≠ 2 → (level (Region.before ops) (heavies ops) i ≤ n → (vals.get i).isSome = true ∧ (o, i) ∈ dl) ∧ (n < level (Region.before ops) (heavies ops) i → vals.get i = none)
  hv : ∀ m i, (heavies ops)[m]? = some i → n ≤ m → vals.get i = none

theorem stage_next {S : Nat → Prop} {nb : Nat → Nat} {vals : Tr AV} {h : H} {f : Inj} {w : World} {tmps : Array Value} {n : Nat} {dl : List (Oper × Nat)} (hn : n ≤ (heavies ops).length)
    (inv : Inv p ops tm tmps0 f0 h0 w0 S nb vals h f w tmps)
    (hli : ∀ i o, ops[i]? = some o → kind o.op ≠ 2 → (level (Region.before ops) (heavies ops) i < n → (vals.get i).isSome = true ∧ (o, i) ∈ dl) ∧ (n ≤ level (Region.before ops) (heavies ops) i → vals.get i = none))
    (hhv : ∀ m i, (heavies ops)[m]? = some i → n ≤ m → vals.get i = none)
    (e : drawn p sf ops (Region.before ops) tm ((stg ops).drop n) dl vals h = some (valsF, hF)) :
    ∃ nb' vals' h', Inv p ops tm tmps0 f0 h0 w0 S nb' vals' h' f w tmps ∧ Lv ops n vals' (dl ++ lsOf ops n) ∧
      drawnD p sf ops (Region.before ops) tm (hvOf ops n) ((stg ops).drop (n + 1)) (dl ++ lsOf ops n) vals' h' = some (valsF, hF) := by
  rw [stg_drop hn, drawn_cons] at e
  split at e
  · simp at e
  · rename_i vals' h' hs
    have hq : ∀ q ∈ lsOf ops n, ops[q.2]? = some q.1 ∧ kind q.1.op ≠ 2 ∧ vals.get q.2 = none := by
      rintro ⟨o, i⟩ hm
      obtain ⟨h1, h2, h3⟩ := mem_lsOf.1 hm
      exact ⟨h1, h2, (hli i o h1 h2).2 (by omega)⟩
    obtain ⟨nb', g1, g2, g3⟩ := inv_seq (lsOf ops n) vals h nb hq (lsOf_nodup ops n) inv hs
    have hnot : ∀ i o, ops[i]? = some o → (kind o.op = 2 ∨ level (Region.before ops) (heavies ops) i ≠ n) → vals'.get i = vals.get i := by
      intro i o ho hor
      apply g2
      intro hm
      obtain ⟨⟨o', i'⟩, k1, k2⟩ := List.mem_map.1 hm
      simp only at k2; subst k2
      obtain ⟨h1, h2, h3⟩ := mem_lsOf.1 k1
      rw [ho] at h1; cases h1
      rcases hor with c | c
      · exact h2 c
      · exact c h3
    refine ⟨nb', vals', h', g1, ⟨?_, ?_⟩, e⟩
    · intro i o ho hk
      refine ⟨fun hle => ?_, fun hlt => ?_⟩
      · by_cases hl : level (Region.before ops) (heavies ops) i = n
        · have hm : (o, i) ∈ lsOf ops n := mem_lsOf.2 ⟨ho, hk, hl⟩
          exact ⟨g3 _ hm, List.mem_append_right _ hm⟩
        · obtain ⟨k1, k2⟩ := (hli i o ho hk).1 (by omega)
          exact ⟨by rw [hnot i o ho (.inr hl)]; exact k1, List.mem_append_left _ k2⟩
      · rw [hnot i o ho (.inr (by omega))]
        exact (hli i o ho hk).2 (by omega)
    · intro m i hm hle
      obtain ⟨o, ho, hk⟩ := mem_heavies.1 (List.mem_of_getElem? hm)
      rw [hnot i o ho (.inl hk)]
      exact hhv m i hm hle

theorem getD_set {listed : Array Bool} {i j : Nat} (hi : i < listed.size) : (listed.setIfInBounds i true).getD j false = true ↔ listed.getD j false = true ∨ j = i := by
  by_cases e : i = j
  · subst e; simp [hi]
  · rw [getD_set_ne false e]
    constructor
    · exact .inl
    · rintro (h | h)
      · exact h
      · exact absurd h.symm e

theorem hs_inj {m n x : Nat} (h : (heavies ops)[m]? = some x) (h' : (heavies ops)[n]? = some x) : m = n := by
  have hnd := heavies_nodup ops
  obtain ⟨h1, h2⟩ := List.getElem?_eq_some_iff.1 h
  obtain ⟨h3, h4⟩ := List.getElem?_eq_some_iff.1 h'
  rcases Nat.lt_trichotomy m n with c | c | c
  · exact absurd (h2.trans h4.symm) (List.pairwise_iff_getElem.1 hnd m n h1 h3 c)
  · exact c
  · exact absurd (h4.trans h2.symm) (List.pairwise_iff_getElem.1 hnd n m h3 h1 c)

theorem drawn_go (ih : IH p sf) (hc : Checks ops) (hds : ∀ (i : Nat) (o : Oper) (d : Nat), ops[i]? = some o → o.dst = some d → d < tmps0.size) :
    ∀ (fuel t : Nat) (listed : Array Bool) (n : Nat) (dl : List (Oper × Nat)) (vals : Tr AV) (h : H) (nb : Nat → Nat) (f : Inj) (w : World) (a : Act),
    listed.size = ops.size → ((List.range ops.size).filter (fun i => !listed.getD i true)).length ≤ fuel →
    Inv p ops tm tmps0 f0 h0 w0 (fun i => listed.getD i false = true) nb vals h f w a.tmps →
    (∀ (m i : Nat), (heavies ops)[m]? = some i → (listed.getD i false = true ↔ m < n)) → n ≤ (heavies ops).length → Lv ops n vals dl →
    drawnD p sf ops (Region.before ops) tm (hvOf ops n) ((stg ops).drop (n + 1)) dl vals h = some (valsF, hF) →
    ∃ f' w' a' nb', Steps p (lone (b.atR a (.inRegion ops (Region.linearise.go .any ops fuel t listed []) :: k)) cs w) (lone (b.atR a' k) cs w') ∧
      Inv p ops tm tmps0 f0 h0 w0 (fun i => i < ops.size) nb' valsF hF f' w' a'.tmps ∧ a'.defers = a.defers := by
  have final : ∀ (listed : Array Bool) (n : Nat) (dl : List (Oper × Nat)) (vals : Tr AV) (h : H) (nb : Nat → Nat) (f : Inj) (w : World) (a : Act),
    listed.size = ops.size → (∀ i, i < ops.size → listed.getD i true = true) →
    Inv p ops tm tmps0 f0 h0 w0 (fun i => listed.getD i false = true) nb vals h f w a.tmps →
    (∀ (m i : Nat), (heavies ops)[m]? = some i → (listed.getD i false = true ↔ m < n)) → n ≤ (heavies ops).length →
    drawnD p sf ops (Region.before ops) tm (hvOf ops n) ((stg ops).drop (n + 1)) dl vals h = some (valsF, hF) →
    ∃ f' w' a' nb', Steps p (lone (b.atR a (.inRegion ops [] :: k)) cs w) (lone (b.atR a' k) cs w') ∧
      Inv p ops tm tmps0 f0 h0 w0 (fun i => i < ops.size) nb' valsF hF f' w' a'.tmps ∧ a'.defers = a.defers := by
    intro listed n dl vals h nb f w a hsz hall inv hS hn e
    have hS' : (fun i => listed.getD i false = true) = (fun i => i < ops.size) := by
      funext i
      apply propext
      constructor
      · intro h
        rcases Nat.lt_or_ge i ops.size with h' | h'
        · exact h'
        · simp [Array.getElem?_eq_none (show listed.size ≤ i by omega)] at h
      · intro h
        have := hall i h
        simp [show i < listed.size by omega] at this ⊢
        exact this
    have hnone : hvOf ops n = none := by
      unfold hvOf
      cases hm : (heavies ops)[n]? with
      | none => rfl
      | some i =>
        obtain ⟨o, ho, _⟩ := mem_heavies.1 (List.mem_of_getElem? hm)
        have hlt := (Array.getElem?_eq_some_iff.1 ho).1
        have : listed.getD i false = true := by
          have : (fun i => listed.getD i false = true) i := by rw [hS']; exact hlt
          exact this
        have := (hS n i hm).1 this
        omega
    rw [hnone] at e
    simp only [drawnD, Option.some.injEq, Prod.mk.injEq] at e
    obtain ⟨rfl, rfl⟩ := e
    rw [hS'] at inv
    exact ⟨f, w, a, nb, .one stepR_region_end, inv, rfl⟩
  intro fuel
  induction fuel with
  | zero =>
    intro t listed n dl vals h nb f w a hsz hcnt inv hS hn hlv e
    have hall : ∀ i, i < ops.size → listed.getD i true = true := by
      intro i hi
      have h0 : (List.range ops.size).filter (fun i => !listed.getD i true) = [] := List.length_eq_zero_iff.1 (by omega)
      rw [List.filter_eq_nil_iff] at h0
      have := h0 i (List.mem_range.2 hi)
      simpa using this
    exact final listed n dl vals h nb f w a hsz hall inv hS hn e
  | succ fuel ihf =>
    intro t listed n dl vals h nb f w a hsz hcnt inv hS hn hlv e
    rcases go_cons (ops := ops) (fuel := fuel) (t := t) (listed := listed) with ⟨h1, h2⟩ | ⟨i, t', h1, h2⟩
    · rw [h1]
      refine final listed n dl vals h nb f w a hsz ?_ inv hS hn e
      intro i
      induction i using Nat.strongRecOn with
      | ind i hi =>
        intro hlt
        cases hq : listed.getD i true with
        | true => rfl
        | false =>
          have : i ∈ Region.ready .any ops listed := by
            rw [mem_ready]
            refine ⟨hq, ops[i], by simp [hlt], fun ed he hb => ?_⟩
            have hback := backOk_spec hc.back (i := i) (o := ops[i]) (by simp [hlt]) he hb
            have := hi ed.on hback (by omega)
            simp [show ed.on < listed.size by omega] at this ⊢
            exact this
          rw [h2] at this; cases this
    · rw [h2]
      obtain ⟨hun, o, ho, hall⟩ := mem_ready.1 h1
      have hlt : i < ops.size := (Array.getElem?_eq_some_iff.1 ho).1
      have hls : i < listed.size := by omega
      have hns : ¬ (listed.getD i false = true) := by
        simp [hls] at hun ⊢; exact hun
      have hpre : ∀ j, tied (Region.before ops) j i = true → listed.getD j false = true := by
        intro j hj
        obtain ⟨o', ho', ed, he, hb, hor⟩ := tied_spec hj
        rw [ho] at ho'; cases ho'
        have h3 := hall ed he hb
        rcases hor with rfl | ⟨_, h4⟩
        · exact h3
        · exact inv.closed j ed.on h3 h4
      have hSS : (fun j => (listed.getD j false = true) ∨ j = i) = (fun j => (listed.setIfInBounds i true).getD j false = true) := by
        funext j; exact propext (getD_set hls).symm
      have hsz' : (listed.setIfInBounds i true).size = ops.size := by simp [hsz]
      have hcnt' : ((List.range ops.size).filter (fun j => !(listed.setIfInBounds i true).getD j true)).length ≤ fuel := by
        have e1 : (List.range ops.size).filter (fun j => !(listed.setIfInBounds i true).getD j true) = ((List.range ops.size).filter (fun j => !listed.getD j true)).filter (fun j => j != i) := by
          rw [List.filter_filter]
          apply List.filter_congr
          intro j _
          by_cases hji : i = j
          · subst hji; simp [hls]
          · rw [getD_set_ne true hji]
            have : (j != i) = true := by simp; omega
            rw [this, Bool.true_and]
        rw [e1]
        have : (((List.range ops.size).filter (fun j => !listed.getD j true)).filter (fun j => j != i)).length < ((List.range ops.size).filter (fun j => !listed.getD j true)).length := by
          rw [List.length_filter_lt_length_iff_exists]
          exact ⟨i, List.mem_filter.2 ⟨List.mem_range.2 hlt, by rw [hun]; rfl⟩, by simp⟩
        omega
      by_cases hk : kind o.op = 2
      · obtain ⟨m, hm⟩ := List.getElem?_of_mem (mem_heavies.2 ⟨o, ho, hk⟩)
        have hmn : n ≤ m := by
          rcases Nat.lt_or_ge m n with c | c
          · exact absurd ((hS m i hm).2 c) hns
          · exact c
        have hml : m < (heavies ops).length := (List.getElem?_eq_some_iff.1 hm).1
        have hme : m = n := by
          by_cases c : n < m
          · have hnn : (heavies ops)[n]? = some (heavies ops)[n] := by simp
            have ht := orderedH_spec (heavies ops) hc.ord n m _ i c hnn hm
            have := (hS n _ hnn).1 (hpre _ ht)
            omega
          · omega
        subst hme
        have hhv : hvOf ops m = some (o, i) := by unfold hvOf; simp [hm, ho]
        rw [hhv] at e
        simp only [drawnD] at e
        split at e
        · simp at e
        · rename_i vals1 h1' hop
          split at e
          · rename_i hst
            have hn0 := hlv.hv m i hm (Nat.le_refl _)
            have hdl : ∀ (j : Nat) (q : Oper), ops[j]? = some q → kind q.op ≠ 2 → (vals.get j).isSome = true → (q, j) ∈ dl := by
              intro j q hq hkq hs
              rcases Nat.lt_or_ge m (level (Region.before ops) (heavies ops) j) with c | c
              · rw [((hlv.li j q hq hkq).2 c)] at hs; cases hs
              · exact ((hlv.li j q hq hkq).1 c).2
            obtain ⟨f', w', v', v, rfl, g1, g2⟩ := inv_heavy (b := b) (k := k) (cs := cs) (rest := Region.linearise.go .any ops fuel t' (listed.setIfInBounds i true) []) ih inv hc hds ho hns hpre hk hn0 hop hst hdl
            rw [hSS] at g2
            have hne : ∀ j q, ops[j]? = some q → kind q.op ≠ 2 → (vals.set i v).get j = vals.get j := by
              intro j q hq hkq
              rw [Tr.get_set, if_neg]
              rintro rfl
              rw [ho] at hq; cases hq; exact hkq hk
            obtain ⟨nb', vals2, h2', k1, k2, k3⟩ := stage_next (n := m + 1) (by omega) g2 (fun j q hq hkq => by
              rw [hne j q hq hkq]
              exact ⟨fun c => (hlv.li j q hq hkq).1 (by omega), fun c => (hlv.li j q hq hkq).2 (by omega)⟩) (fun m' j hj hle => by
              rw [Tr.get_set, if_neg]
              · exact hlv.hv m' j hj (by omega)
              · rintro rfl
                have := hs_inj hm hj; omega) e
            obtain ⟨f2, w2, a2, nb2, q1, q2, q3⟩ := ihf t' (listed.setIfInBounds i true) (m + 1) _ vals2 h2' nb' f' w' _ hsz' hcnt' k1 (fun m' j hj => by
              rw [getD_set hls, hS m' j hj]
              constructor
              · rintro (c | rfl)
                · omega
                · have := hs_inj hm hj; omega
              · intro c
                rcases Nat.lt_or_ge m' m with c' | c'
                · exact .inl c'
                · have : m' = m := by omega
                  subst this
                  rw [hm] at hj; cases hj; exact .inr rfl) (by omega) k2 k3
            refine ⟨f2, w2, a2, nb2, g1.trans q1, q2, q3.trans ?_⟩
            cases o.dst <;> rfl
          · simp at e
      · have hle : level (Region.before ops) (heavies ops) i ≤ n := level_le fun m x hx ht => (hS m x hx).1 (hpre x ht)
        obtain ⟨v, hv⟩ := Option.isSome_iff_exists.1 ((hlv.li i o ho hk).1 hle).1
        obtain ⟨f', w', v', g1, g2⟩ := inv_light (b := b) (k := k) (cs := cs) (rest := Region.linearise.go .any ops fuel t' (listed.setIfInBounds i true) []) inv hc hds ho hns hpre hk hv
        rw [hSS] at g2
        obtain ⟨f2, w2, a2, nb2, q1, q2, q3⟩ := ihf t' (listed.setIfInBounds i true) n dl vals h nb f' w' _ hsz' hcnt' g2 (fun m j hj => by
          rw [getD_set hls, hS m j hj]
          constructor
          · rintro (c | rfl)
            · exact c
            · obtain ⟨o', ho', hk'⟩ := mem_heavies.1 (List.mem_of_getElem? hj)
              rw [ho] at ho'; cases ho'; exact absurd hk' hk
          · exact .inl) hn hlv e
        refine ⟨f2, w2, a2, nb2, g1.trans q1, q2, q3.trans ?_⟩
        cases o.dst <;> rfl

/-- a region, in whatever order -/
theorem region_sound (hp : POk p) (ih : IH p sf) {f : Inj} {h : H} {w : World} (hr : HR f h w) {fr : Fr} {a : Act} (hf : FrR f fr b a) (hcalm : Calm b.kind cs) {id : Nat} {draw : Bool} {r : Res} (e : regionA p sf ops draw fr h = some r) :
    ∃ fr' h' f' w' a', r = .code .nrm fr' h' ∧ Steps p (lone (b.atR a (.code (.region id ops draw) :: k)) cs w) (lone (b.atR a' k) cs w') ∧ Post f h w f' h' w' ∧ FrR f' fr' b a' := by
  unfold regionA at e
  split at e
  · split at e
    · rename_i fr' h' hs
      simp only [Option.some.injEq] at e; subst e
      obtain ⟨f', w', a', g1, g2, g3⟩ := seqOps_sound (p := p) (k := k) ih hcalm ops.toList (List.range ops.size) f h w fr a fr' h' (range_ops ops) hr hf hs
      exact ⟨fr', h', f', w', a', rfl, .head stepR_region g1, g2, g3⟩
    · simp at e
  · split at e
    · simp at e
    · rename_i st hst
      split at e
      · rename_i vals h' hd
        split at e
        · rename_i fr' hput
          simp only [Option.some.injEq] at e; subst e
          obtain ⟨hc, rfl⟩ := stages_spec hst
          obtain ⟨p1, p2, p3, p4, p5, p6⟩ := putAll_spec ops.toList 0 vals fr fr' hput
          have hds : ∀ (i : Nat) (o : Oper) (d : Nat), ops[i]? = some o → o.dst = some d → d < a.tmps.size := by
            intro i o d ho hd
            obtain ⟨_, _, k2⟩ := p5 i o (by simpa using ho)
            rw [hf.tm.1]; exact k2 d hd
          have hr1 : HR f h { w with drawn := w.drawn + 1 } := ⟨hr.dom, hr.inj, hr.glob⟩
          have hx1 : Ext f h w f h { w with drawn := w.drawn + 1 } := ⟨Sub.refl f, fun _ _ e => ⟨e, rfl⟩, Nat.le_refl _, Nat.le_refl _, fun _ _ e => e, fun b L e a => .inr ⟨b, L, e, a, rfl⟩, fun _ _ _ => rfl, rfl, rfl⟩
          have hfalse : ∀ i, (Array.replicate ops.size false).getD i false = false := by intro i; simp only [Array.getD_eq_getD_getElem?, Array.getElem?_replicate]; split <;> rfl
          have inv0 : Inv p ops fr.tm a.tmps f h w (fun i => (Array.replicate ops.size false).getD i false = true) (fun _ => 0) .nil h f { w with drawn := w.drawn + 1 } a.tmps := by
            refine ⟨hr1, hx1, hf.tm.2, ?_, ?_, rfl, ?_, ?_⟩
            · intro i j hj; rw [hfalse] at hj; cases hj
            · intro t
              refine .inr ⟨fun j o hj => ?_, rfl⟩
              rw [hfalse] at hj; cases hj
            · intro i o v _ hv; rw [Tr.get_nil] at hv; cases hv
            · rintro i j ⟨_, _, _, _, hv, _⟩; rw [Tr.get_nil] at hv; cases hv
          obtain ⟨nb1, vals1, h1, g1, g2, g3⟩ := stage_next (n := 0) (dl := []) (Nat.zero_le _) inv0 (fun i o _ _ => ⟨fun c => by omega, fun _ => Tr.get_nil _⟩) (fun _ _ _ _ => Tr.get_nil _) hd
          obtain ⟨f', w', a', nb', q1, q2, q3⟩ := drawn_go (b := b) (k := k) (cs := cs) ih hc hds ops.size (w.tape w.drawn (.order b.fn id)) (Array.replicate ops.size false) 0 _ vals1 h1 nb1 f _ a (by simp)
            (by have := List.length_filter_le (fun i => !(Array.replicate ops.size false).getD i true) (List.range ops.size); simpa using this) g1 (fun m i _ => by rw [hfalse]; simp) (Nat.zero_le _) g2 g3
          refine ⟨fr', h', f', w', a', rfl, ?_, ⟨q2.hr, q2.ext⟩, ?_⟩
          · refine .head stepR_region_draw ?_
            simp only [Region.schedule, hp.mixed, Bool.true_or, if_true]
            exact q1
          · refine ⟨hf.fn.trans p3.symm, by rw [p4]; exact hf.rnd.mono q2.ext.sub, ⟨by rw [q2.size, p1]; exact hf.tm.1, fun t => ?_⟩, by rw [p2, q3]; exact hf.ds.mono q2.ext.sub⟩
            rcases q2.tmp t with ⟨j, o, v, k1, k2, k3, k4, k5, k6⟩ | ⟨k1, k2⟩
            · rcases p6 t with ⟨m, o', m1, m2, m3, m4⟩ | ⟨m1, _⟩
              · have hm : ops[m]? = some o' := by simpa using m1
                have hmj := k4 m o' (Array.getElem?_eq_some_iff.1 hm).1 hm m2
                have : j = m := by
                  by_cases c : m < j
                  · exact absurd k3 (m3 j o c (by simpa using k2))
                  · omega
                subst this
                rw [m4, Nat.zero_add, k5]; exact k6
              · exact absurd k3 (m1 j o (by simpa using k2))
            · rcases p6 t with ⟨m, o', m1, m2, m3, m4⟩ | ⟨_, m2⟩
              · have hm : ops[m]? = some o' := by simpa using m1
                exact absurd m2 (k1 m o' (Array.getElem?_eq_some_iff.1 hm).1 hm)
              · rw [m2, k2]; exact q2.ftm t
        · simp at e
      · simp at e
end
end Go.Xec
namespace Go.Xec

theorem next0 (n : String) (h : Extern.allNextRows.lookup n = none) (fn : Func) (hn : fn.name = n) (ho : fn.origin = "") : Extern.findNext fn = none := by
  unfold Extern.findNext
  simp only [hn, ho, h]
  have : Extern.allNextRows.lookup "" = none := by kernel_rfl
  rw [this]; rfl

theorem countA_eq (c : UInt8) : ∀ (l : List UInt8) (n : Nat), countA c l n = n + Lib.countByte l c
  | [], n => by simp [countA, Lib.countByte]
  | b :: l, n => by
    unfold countA
    rw [countA_eq c l, beqU_eq]
    unfold Lib.countByte
    rw [List.count_cons]
    cases h : b == c <;> simp <;> omega

theorem idxA_eq (c : UInt8) : ∀ (l : List UInt8) (i : Nat), idxA c l i = if Lib.indexByte l c = -1 then -1 else Lib.indexByte l c + i
  | [], i => by simp [idxA, Lib.indexByte]
  | b :: l, i => by
    unfold idxA
    rw [idxA_eq c l, beqU_eq]
    have hge := Lib.indexByte_ge l c
    have e : Lib.indexByte (b :: l) c = if b == c then 0 else if Lib.indexByte l c == -1 then -1 else Lib.indexByte l c + 1 := rfl
    rw [e]
    cases h : b == c
    · simp only [cond_false, Bool.false_eq_true, if_false, beq_iff_eq]
      by_cases h1 : Lib.indexByte l c = -1
      · rw [if_pos h1, if_pos h1]; rfl
      · rw [if_neg h1, if_neg h1, if_neg (by omega)]; omega
    · simp

section
variable {f : Inj} {h : H} {w : World} {p : Program} {sf : Task → Option Res}

theorem ofNat_toU (n : Nat) : (Int.ofNat n).toNat.toUInt8 = UInt8.ofNat n := rfl

theorem extern_sound (hp : POk p) (hr : HR f h w) {g : Nat} {fn : Func} (hf : p.funcs[g]? = some fn) (hb : fn.body = none) {args : List AV} {args' : List Value} (ha : VRs f args args') {v : AV} {h' : H} (e : externA p fn args h = some (.val v h')) :
    CallsOk p f h w v h' (callFunc g args'.toArray) := by
  have hb' : fn.body.isNone = true := by rw [hb]; rfl
  have hc : extCode fn ≠ 0 := by
    intro h0
    simp [externA, h0] at e
  have ho := hp.ext g fn hf hb hc
  have key : ∀ (e : Array Value → Sem Value), (fn.name == "runtime.NumGoroutine") = false → Extern.findNext fn = none → Extern.find fn = some e → ∀ v' w' f', (e args'.toArray).run p w = .ok v' w' → HR f' h' w' → Ext f h w f' h' w' → VR f' v v' →
      CallsOk p f h w v h' (callFunc g args'.toArray) := by
    intro e hn h1 h2 v' w' f' h3 h4 h5 h6
    refine .inl ⟨.value v', v', w', f', ?_, .inl rfl, h4, h5, h6⟩
    rw [run_callFunc_extern hf hn hb' h1 h2, h3]; rfl
  have hcode : (extCode fn = 1 → fn.name = "internal/bytealg.CountString") ∧ (extCode fn = 2 → fn.name = "internal/bytealg.IndexByteString") ∧ (extCode fn = 3 → fn.name = "internal/abi.NoEscape") ∧ (extCode fn = 5 → fn.name = "maps.clone") := by
    unfold extCode
    repeat' split
    all_goals simp_all
  unfold externA at e
  split at e
  · rename_i s c hc1
    have hn := hcode.1 hc1
    simp only [Option.some.injEq, Res.val.injEq] at e
    obtain ⟨rfl, rfl⟩ := e
    cases ha with | cons _ _ _ _ h1 hs =>
    cases hs with | cons _ _ _ _ h2 hs =>
    cases hs
    cases h1 with | str _ sv hsv =>
    cases h2
    refine key Extern.BytealgCount.count (by rw [hn]; decide) (next0 _ (by kernel_rfl) fn hn ho) (by unfold Extern.find; rw [hn, ho]; kernel_rfl) _ w f (Lib.run_countString sv _ w) hr (Ext.refl _ _ _) ?_
    rw [hsv, countA_eq, Nat.zero_add]
    exact .int _ _
  · rename_i s c hc1
    have hn := hcode.2.1 hc1
    simp only [Option.some.injEq, Res.val.injEq] at e
    obtain ⟨rfl, rfl⟩ := e
    cases ha with | cons _ _ _ _ h1 hs =>
    cases hs with | cons _ _ _ _ h2 hs =>
    cases hs
    cases h1 with | str _ sv hsv =>
    cases h2
    refine key Extern.BytealgIndexByte.indexByte (by rw [hn]; decide) (next0 _ (by kernel_rfl) fn hn ho) (by unfold Extern.find; rw [hn, ho]; kernel_rfl) _ w f (Lib.run_indexByteString sv _ w) hr (Ext.refl _ _ _) ?_
    rw [hsv, idxA_eq]
    have : (if Lib.indexByte s (UInt8.ofNat c) = -1 then (-1 : Int) else Lib.indexByte s (UInt8.ofNat c) + ((0 : Nat) : Int)) = Lib.indexByte s (UInt8.ofNat c) := by
      split
      · rename_i q; rw [q]
      · simp
    rw [this]
    exact .int _ _
  · rename_i x hc1
    have hn := hcode.2.2.1 hc1
    simp only [Option.some.injEq, Res.val.injEq] at e
    obtain ⟨rfl, rfl⟩ := e
    cases ha with | cons _ y _ _ h1 hs =>
    cases hs
    exact key Extern.AbiNoEscape.same (by rw [hn]; decide) (next0 _ (by kernel_rfl) fn hn ho) (by unfold Extern.find; rw [hn, ho]; kernel_rfl) y w f rfl hr (Ext.refl _ _ _) h1
  · rename_i t r hc1
    have hn := hcode.2.2.2 hc1
    split at e
    · rename_i es c hblk
      simp only [Option.some.injEq, Res.val.injEq] at e
      obtain ⟨rfl, rfl⟩ := e
      cases ha with | cons _ _ _ _ h1 hs =>
      cases hs
      cases h1 with | iface _ _ _ h2 =>
      cases h2 with | map _ B sh E hB =>
      obtain ⟨_, blk, o, hg, hw, hbr⟩ := hr.dom _ _ hB
      rw [hblk] at hg; cases hg
      cases o <;> simp only [BR] at hbr
      rename_i es' clock'
      obtain ⟨rfl, hm⟩ := hbr
      have hm2 : BR f (w.heap.size, 0, 0) (.map es clock') (.map es' clock') := ⟨rfl, hm⟩
      obtain ⟨k1, k2⟩ := add_sound (d := w.drawn) hr hm2
      refine key Extern.MapsClone.clone (by rw [hn]; decide) (next0 _ (by kernel_rfl) fn hn ho) (by unfold Extern.find; rw [hn, ho]; kernel_rfl) (.iface t (.map (some w.heap.size))) (addW w (.map es' clock') w.drawn) _ ?_ k1 k2 (.iface _ _ _ (.map _ _ 0 0 (by simp [ins])))
      have e : Extern.MapsClone.clone #[.iface t (.map (some B))] = (getObj B >>= fun o => match o with
        | .map entries clock => (newObj (.map entries clock) >>= fun n => pure (.iface t (.map (some n))))
        | _ => stuck "maps.clone: a map expected") := rfl
      show (Extern.MapsClone.clone #[.iface t (.map (some B))]).run p w = _
      rw [e]
      have hgo : (getObj B).run p w = .ok (.map es' clock') w := by simp [getObj, Sem.run, hw]
      simp only [Sem.run_bind, hgo, Result.andThen_ok, run_newObj, Sem.run_pure]
      rfl
    · simp at e
  · simp at e

/-! results -/
noncomputable def resAt (tmps : Array Value) : ResultVar → Sem Value
  | .tmp t => pure (tmps.getD t undef)
  | .cell a t => do loadVar t (← asAddr (tmps.getD a undef))

theorem loadRes_sound (hr : HR f h w) {tm : Tr AV} {nt : Nat} {tmps : Array Value} (ht : FR f tm nt tmps) : ∀ (rs : List ResultVar) {vs : List AV}, loadRes p tm h rs = some vs →
    ∃ vs', (rs.mapM (m := Sem) (resAt tmps)).run p w = .ok vs' w ∧ VRs f vs vs'
  | [], vs, e => by
    simp only [loadRes, Option.some.injEq] at e; subst e
    exact ⟨[], by simp, .nil⟩
  | .tmp t :: rs, vs, e => by
    unfold loadRes at e
    split at e
    · rename_i v vs2 h1 h2
      simp only [Option.some.injEq] at e; subst e
      obtain ⟨vs', k1, k2⟩ := loadRes_sound hr ht rs h2
      refine ⟨tmps.getD t undef :: vs', ?_, .cons _ _ _ _ ?_ k2⟩
      · simp only [List.mapM_cons, resAt, Sem.run_bind, Sem.run_pure, Result.andThen_ok, k1]
      · have := ht.2 t
        simp only [evOp] at h1
        split at h1
        · rename_i u hu; rw [hu] at this; simp only [Option.some.injEq] at h1; subst h1; exact this
        · rename_i hu; rw [hu] at this; simp only [Option.some.injEq] at h1; subst h1; exact this
    · simp at e
  | .cell a t :: rs, vs, e => by
    unfold loadRes at e
    split at e
    · rename_i b o hp
      split at e
      · rename_i v vs2 h1 h2
        simp only [Option.some.injEq] at e; subst e
        obtain ⟨vs', k1, k2⟩ := loadRes_sound hr ht rs h2
        have hv := ht.2 a
        rw [hp] at hv
        simp only [Option.getD_some] at hv
        generalize hcv : tmps.getD a undef = cv at hv
        cases hv with | ptr _ _ B sh E hb =>
        obtain ⟨u, g1, g2⟩ := loadA_sound (p := p) hr hb h1
        refine ⟨u :: vs', ?_, .cons _ _ _ _ g2 k2⟩
        have e1 : (resAt tmps (.cell a t)).run p w = .ok u w := by
          simp only [resAt, Sem.run_bind, hcv, asAddr, Sem.run_pure, Result.andThen_ok, g1]
        simp only [List.mapM_cons, Sem.run_bind, Sem.run_pure, Result.andThen_ok, k1, e1]
      · simp at e
    · simp at e

theorem results_sound (hr : HR f h w) {tm : Tr AV} {nt : Nat} {tmps : Array Value} (ht : FR f tm nt tmps) {fn : Func} {vs : List AV} (e : loadRes p tm h fn.results.toList = some vs) {v : AV} (hv : (vs = [v]) ∨ (v = .tup vs ∧ ∀ x, vs ≠ [x])) :
    ∃ v', (results fn tmps).run p w = .ok v' w ∧ VR f v v' := by
  obtain ⟨vs', k1, k2⟩ := loadRes_sound (p := p) hr ht _ e
  have e1 : results fn tmps = (do let vs ← fn.results.mapM (m := Sem) (resAt tmps); pure (if h : vs.size = 1 then vs[0] else .tuple vs)) := by
    unfold results
    congr 1
  have e2 : (fn.results.mapM (m := Sem) (resAt tmps)).run p w = .ok vs'.toArray w := by
    rw [Array.mapM_eq_mapM_toList]
    simp only [Sem.run_map, k1]
    rfl
  refine ⟨if h : vs'.toArray.size = 1 then vs'.toArray[0] else .tuple vs'.toArray, ?_, ?_⟩
  · rw [e1]
    simp only [Sem.run_bind, e2, Result.andThen_ok, Sem.run_pure]
  · rcases hv with rfl | ⟨rfl, hne⟩
    · cases k2 with | cons _ y _ _ h1 hs =>
      cases hs
      exact h1
    · have hl := k2.length
      rw [dif_neg]
      · exact .tup _ _ k2
      · intro h1
        rw [List.size_toArray] at h1
        obtain ⟨x, hx⟩ := List.length_eq_one_iff.1 (hl.trans h1)
        exact hne x hx
end
end Go.Xec
namespace Go.Xec

def Arr (p : Program) (m : Machine) (b : Frame) (cs : List Frame) (e : Ex) (a : Act) (k : List Item) (w : World) : Prop :=
  match e with
  | .nrm => Steps p m (lone (b.atR a k) cs w)
  | .exit id => ∃ k₁, exitTo id k₁ = exitTo id k ∧ Steps p m (lone (b.atR a (.code (.exit id) :: k₁)) cs w)
  | .goto l => ∃ k₁, gotoIn l k₁ = gotoIn l k ∧ Steps p m (lone (b.atR a (.code (.goto l) :: k₁)) cs w)
  | .ret => ∃ k₁, Steps p m (lone (b.atR a (.code .ret :: k₁)) cs w)

def WalkOk (p : Program) (its : List Item) (f : Inj) (h : H) (w : World) (fr : Fr) (e : Ex) (fr' : Fr) (h' : H) : Prop :=
  ∀ (b : Frame) (a : Act) (k : List Item) (cs : List Frame), FrR f fr b a → Calm b.kind cs → ∃ f' w' a', Arr p (lone (b.atR a (its ++ k)) cs w) b cs e a' k w' ∧ Post f h w f' h' w' ∧ FrR f' fr' b a'

theorem Arr.of_steps {p : Program} {m m' : Machine} {b : Frame} {cs : List Frame} {e : Ex} {a : Act} {k : List Item} {w : World} (s : Steps p m m') (h : Arr p m' b cs e a k w) : Arr p m b cs e a k w := by
  cases e with
  | nrm => exact s.trans h
  | exit id => obtain ⟨k₁, h1, h2⟩ := h; exact ⟨k₁, h1, s.trans h2⟩
  | goto l => obtain ⟨k₁, h1, h2⟩ := h; exact ⟨k₁, h1, s.trans h2⟩
  | ret => obtain ⟨k₁, h2⟩ := h; exact ⟨k₁, s.trans h2⟩

/-- what is left unended passes by the items behind -/
theorem Arr.pass {p : Program} {m : Machine} {b : Frame} {cs : List Frame} {e : Ex} {a : Act} {k k' : List Item} {w : World} (hx : ∀ id, exitTo id k = exitTo id k') (hg : ∀ l, gotoIn l k = gotoIn l k') (hn : e ≠ .nrm) (h : Arr p m b cs e a k w) : Arr p m b cs e a k' w := by
  cases e with
  | nrm => exact absurd rfl hn
  | exit id => obtain ⟨k₁, h1, h2⟩ := h; exact ⟨k₁, h1.trans (hx id), h2⟩
  | goto l => obtain ⟨k₁, h1, h2⟩ := h; exact ⟨k₁, h1.trans (hg l), h2⟩
  | ret => exact h

structure IC (p : Program) (sf : Task → Option Res) : Prop extends IH p sf where
  code : ∀ c fr h e fr' h', sf (.code c fr h) = some (.code e fr' h') → ∀ f w, HR f h w → WalkOk p [.code c] f h w fr e fr' h'
  again : ∀ c fr h e fr' h', sf (.code (.loop c) fr h) = some (.code e fr' h') → ∀ f w, HR f h w → WalkOk p [.inLoop c] f h w fr e fr' h'
  scope : ∀ body cur fr h e fr' h', sf (.scope body cur fr h) = some (.code e fr' h') → ∀ f w, HR f h w → WalkOk p [.code cur, .inScope body] f h w fr e fr' h'

section
variable {p : Program} {sf : Task → Option Res} {f : Inj} {h h' : H} {w : World} {fr fr' : Fr} {e : Ex}

theorem WalkOk.refl_nrm {its : List Item} (hr : HR f h w) (hs : ∀ (b : Frame) (a : Act) (k : List Item) (cs : List Frame), Steps p (lone (b.atR a (its ++ k)) cs w) (lone (b.atR a k) cs w)) : WalkOk p its f h w fr .nrm fr h :=
  fun b a k cs hf _ => ⟨f, w, a, hs b a k cs, ⟨hr, Ext.refl _ _ _⟩, hf⟩

/-- one thing behind the other -/
theorem WalkOk.seq {x y : List Item} {f₁ : Fr} {h₁ : H} (hx : WalkOk p x f h w fr .nrm f₁ h₁) (hy : ∀ f w, HR f h₁ w → WalkOk p y f h₁ w f₁ e fr' h') : WalkOk p (x ++ y) f h w fr e fr' h' := by
  intro b a k cs hf hc
  rw [List.append_assoc]
  obtain ⟨f2, w2, a2, g1, g2, g3⟩ := hx b a (y ++ k) cs hf hc
  obtain ⟨f3, w3, a3, g4, g5, g6⟩ := hy f2 w2 g2.1 b a2 k cs g3 hc
  exact ⟨f3, w3, a3, g4.of_steps g1, g2.trans g5, g6⟩

theorem WalkOk.stop {x y : List Item} (hx : WalkOk p x f h w fr e fr' h') (hn : e ≠ .nrm) (h1 : ∀ k id, exitTo id (y ++ k) = exitTo id k) (h2 : ∀ k l, gotoIn l (y ++ k) = gotoIn l k) : WalkOk p (x ++ y) f h w fr e fr' h' := by
  intro b a k cs hf hc
  rw [List.append_assoc]
  obtain ⟨f2, w2, a2, g1, g2, g3⟩ := hx b a (y ++ k) cs hf hc
  exact ⟨f2, w2, a2, g1.pass (h1 k) (h2 k) hn, g2, g3⟩

theorem WalkOk.head {x y : List Item} (hy : WalkOk p y f h w fr e fr' h') (hs : ∀ (b : Frame) (a : Act) (k : List Item) (cs : List Frame), FrR f fr b a → Steps p (lone (b.atR a (x ++ k)) cs w) (lone (b.atR a (y ++ k)) cs w)) : WalkOk p x f h w fr e fr' h' := by
  intro b a k cs hf hc
  obtain ⟨f2, w2, a2, g1, g2, g3⟩ := hy b a k cs hf hc
  exact ⟨f2, w2, a2, g1.of_steps (hs b a k cs hf), g2, g3⟩

theorem loop_sound (ic : IC p sf) (hr : HR f h w) {c : Code} (e1 : (match sf (.code c fr h) with | some (.code .nrm fr h) => sf (.code (.loop c) fr h) | r => r) = some (.code e fr' h')) : WalkOk p [.code c, .inLoop c] f h w fr e fr' h' := by
  split at e1
  · rename_i fr1 h1 hc
    exact WalkOk.seq (x := [.code c]) (ic.code _ _ _ _ _ _ hc f w hr) (fun f w hr => ic.again _ _ _ _ _ _ e1 f w hr)
  · rename_i r hne
    refine WalkOk.stop (x := [.code c]) (ic.code _ _ _ _ _ _ e1 f w hr) ?_ (fun _ _ => rfl) (fun _ _ => rfl)
    rintro rfl
    exact hne _ _ e1

theorem scope_sound (ic : IC p sf) (hr : HR f h w) {body cur : Code} (e1 : scopeA sf body cur fr h = some (.code e fr' h')) : WalkOk p [.code cur, .inScope body] f h w fr e fr' h' := by
  unfold scopeA at e1
  split at e1
  · rename_i l fr1 h1 hc
    have hw := ic.code _ _ _ _ _ _ hc f w hr
    split at e1
    · rename_i rest hl
      intro b a k cs hf hcalm
      obtain ⟨f2, w2, a2, ⟨k₁, g0, g1⟩, g2, g3⟩ := hw b a (.inScope body :: k) cs hf hcalm
      obtain ⟨f3, w3, a3, g4, g5, g6⟩ := ic.scope _ _ _ _ _ _ _ e1 f2 w2 g2.1 b a2 k cs g3 hcalm
      have hg : gotoIn l k₁ = some (.code rest :: .inScope body :: k) := by
        rw [g0]; simp [gotoIn, hl]
      exact ⟨f3, w3, a3, g4.of_steps (g1.trans (.one (stepR_goto hg))), g2.trans g5, g6⟩
    · rename_i hl
      simp only [Option.some.injEq, Res.code.injEq] at e1
      obtain ⟨rfl, rfl, rfl⟩ := e1
      intro b a k cs hf hcalm
      obtain ⟨f2, w2, a2, ⟨k₁, g0, g1⟩, g2, g3⟩ := hw b a (.inScope body :: k) cs hf hcalm
      refine ⟨f2, w2, a2, ⟨k₁, ?_, g1⟩, g2, g3⟩
      rw [g0]; simp [gotoIn, hl]
  · rename_i r hne
    have hw := ic.code _ _ _ _ _ _ e1 f w hr
    intro b a k cs hf hcalm
    obtain ⟨f2, w2, a2, g1, g2, g3⟩ := hw b a (.inScope body :: k) cs hf hcalm
    refine ⟨f2, w2, a2, ?_, g2, g3⟩
    cases e with
    | nrm => exact Steps.trans g1 (.one (step_lone_go (by simp [stepG, stepG.exec, Frame.atR])))
    | exit id => obtain ⟨k₁, q1, q2⟩ := g1; exact ⟨k₁, q1, q2⟩
    | ret => exact g1
    | goto l => exact absurd e1 (hne l fr' h')

theorem obj_of (hr : HR f h w) {b : Nat} {L : Nat × Nat × Nat} (hb : f b = some L) {blk : Blk} (hg : h.blk.get b = some blk) : ∃ o, w.heap[L.1]? = some o ∧ BR f L blk o := by
  obtain ⟨_, blk', o, h1, h2, h3⟩ := hr.dom b L hb
  rw [hg] at h1; cases h1
  exact ⟨o, h2, h3⟩

theorem loop_of (hr : HR f h w) {b : Nat} {L : Nat × Nat × Nat} (hb : f b = some L) {st : LoopState} {pend : Option Code} {fn : Nat} {tm : Tr AV} {nt : Nat} {ps : Array Tmp} {asg body : Code} {df : Nat} (hg : h.blk.get b = some (.loop st pend fn tm nt ps asg body df)) :
    ∃ l, w.heap[L.1]? = some (.loop l) ∧ LR f st pend fn tm nt ps asg body df l ∧ (Instr.getLoop L.1).run p w = .ok l w := by
  obtain ⟨o, h1, h2⟩ := obj_of hr hb hg
  cases o <;> simp only [BR] at h2
  rename_i l
  refine ⟨l, h1, h2, ?_⟩
  have : (getObj L.1).run p w = .ok (.loop l) w := by simp [getObj, Sem.run, h1]
  simp only [Instr.getLoop, Sem.run_bind, this, Result.andThen_ok, Sem.run_pure]

theorem code_sound (hp : POk p) (ic : IC p sf) (hr : HR f h w) {c : Code} (hnr : ∀ g ps asg body, c ≠ .rangeFunc g ps asg body) (e1 : codeA p sf c fr h = some (.code e fr' h')) : WalkOk p [.code c] f h w fr e fr' h' := by
  unfold codeA at e1
  split at e1
  · simp only [Option.some.injEq, Res.code.injEq] at e1
    obtain ⟨rfl, rfl, rfl⟩ := e1
    exact WalkOk.refl_nrm hr fun b a k cs => .one stepR_skip
  · simp only [Option.some.injEq, Res.code.injEq] at e1
    obtain ⟨rfl, rfl, rfl⟩ := e1
    exact WalkOk.refl_nrm hr fun b a k cs => .one stepR_label
  · simp only [Option.some.injEq, Res.code.injEq] at e1
    obtain ⟨rfl, rfl, rfl⟩ := e1
    exact fun b a k cs hf _ => ⟨f, w, a, ⟨k, rfl, .refl _ _⟩, ⟨hr, Ext.refl _ _ _⟩, hf⟩
  · simp only [Option.some.injEq, Res.code.injEq] at e1
    obtain ⟨rfl, rfl, rfl⟩ := e1
    exact fun b a k cs hf _ => ⟨f, w, a, ⟨k, .refl _ _⟩, ⟨hr, Ext.refl _ _ _⟩, hf⟩
  · simp only [Option.some.injEq, Res.code.injEq] at e1
    obtain ⟨rfl, rfl, rfl⟩ := e1
    exact fun b a k cs hf _ => ⟨f, w, a, ⟨k, rfl, .refl _ _⟩, ⟨hr, Ext.refl _ _ _⟩, hf⟩
  · rename_i x y
    refine WalkOk.head (y := [.code x, .code y]) ?_ (fun b a k cs _ => .one stepR_seq)
    split at e1
    · rename_i fr1 h1 hc
      exact WalkOk.seq (x := [.code x]) (ic.code _ _ _ _ _ _ hc f w hr) (fun f w hr => ic.code _ _ _ _ _ _ e1 f w hr)
    · rename_i hne
      refine WalkOk.stop (x := [.code x]) (ic.code _ _ _ _ _ _ e1 f w hr) ?_ (fun _ _ => rfl) (fun _ _ => rfl)
      rintro rfl
      exact hne _ _ e1
  · rename_i c x y
    split at e1
    · rename_i hc
      refine WalkOk.head (y := [.code x]) (ic.code _ _ _ _ _ _ e1 f w hr) (fun b a k cs hf => ?_)
      have := evOp_rel hr hf.tm _ _ hc
      generalize hcv : a.eval c = cv at this
      cases this
      exact .one (stepR_cond hcv)
    · rename_i hc
      refine WalkOk.head (y := [.code y]) (ic.code _ _ _ _ _ _ e1 f w hr) (fun b a k cs hf => ?_)
      have := evOp_rel hr hf.tm _ _ hc
      generalize hcv : a.eval c = cv at this
      cases this
      exact .one (stepR_cond hcv)
    · simp at e1
  · rename_i id c
    refine WalkOk.head (y := [.code c, .inBlock id]) ?_ (fun b a k cs _ => .one stepR_block)
    split at e1
    · rename_i i fr1 h1 hc
      have hw := ic.code _ _ _ _ _ _ hc f w hr
      rw [bif_beq] at e1
      intro b a k cs hf hcalm
      obtain ⟨f2, w2, a2, ⟨k₁, g0, g1⟩, g2, g3⟩ := hw b a (.inBlock id :: k) cs hf hcalm
      split at e1
      · rename_i hi
        subst hi
        simp only [Option.some.injEq, Res.code.injEq] at e1
        obtain ⟨rfl, rfl, rfl⟩ := e1
        refine ⟨f2, w2, a2, Steps.trans g1 (.one (stepR_exit ?_)), g2, g3⟩
        rw [g0]; simp [exitTo]
      · rename_i hi
        simp only [Option.some.injEq, Res.code.injEq] at e1
        obtain ⟨rfl, rfl, rfl⟩ := e1
        refine ⟨f2, w2, a2, ⟨k₁, ?_, g1⟩, g2, g3⟩
        have hi' : (id == i) = false := by simpa using fun q => hi q.symm
        rw [g0]; simp [exitTo, hi']
    · rename_i hne
      have hw := ic.code _ _ _ _ _ _ e1 f w hr
      intro b a k cs hf hcalm
      obtain ⟨f2, w2, a2, g1, g2, g3⟩ := hw b a (.inBlock id :: k) cs hf hcalm
      refine ⟨f2, w2, a2, ?_, g2, g3⟩
      cases e with
      | nrm => exact Steps.trans g1 (.one stepR_inBlock)
      | exit i => exact absurd e1 (hne i fr' h')
      | ret => exact g1
      | goto l => obtain ⟨k₁, q1, q2⟩ := g1; exact ⟨k₁, q1, q2⟩
  · rename_i c
    exact WalkOk.head (loop_sound ic hr e1) (fun b a k cs _ => .one stepR_loop)
  · rename_i id ops draw
    intro b a k cs hf hcalm
    obtain ⟨fr2, h2, f2, w2, a2, q1, q2, q3, q4⟩ := region_sound (k := k) (id := id) hp ic.toIH hr hf hcalm e1
    simp only [Res.code.injEq] at q1
    obtain ⟨rfl, rfl, rfl⟩ := q1
    exact ⟨f2, w2, a2, q2, q3, q4⟩
  · exact absurd rfl (hnr _ _ _ _)
  · rename_i body
    exact WalkOk.head (ic.scope _ _ _ _ _ _ _ e1 f w hr) (fun b a k cs _ => .one (step_lone_go (by simp [stepG, stepG.exec, Frame.atR])))
  · simp at e1
end
end Go.Xec
namespace Go.Xec

section
variable {p : Program} {sf : Task → Option Res} {f : Inj} {h h' : H} {w : World} {fr fr' : Fr} {e : Ex}

/-! ranges over functions -/
theorem enter_sound (hr : HR f h w) {b : Frame} {a : Act} (hf : FrR f fr b a) {df : Nat} {mk : List AD} {h1 : H} (e1 : openLoop fr h = some (df, mk, h1)) (ps : Array Tmp) (asg body : Code) :
    ∃ f' w' l mark, (Instr.enterLoop b.fn a.tmps ps asg body b.roundOf).run p w = .ok (l, mark) w' ∧ Post f h w f' (h1.add (.loop .ready none fr.fn fr.tm fr.nt ps asg body df)) w' ∧ (∃ sh E, f' h1.next = some (l, sh, E)) ∧
      FrR f' { fr with ds := mk ++ fr.ds } b { a with defers := mark ++ a.defers } := by
  unfold openLoop at e1
  split at e1
  · rename_i hrnd
    have hro : b.roundOf = none := RND.none_right (f := f) (by have := hf.rnd; rw [hrnd] at this; exact this)
    simp only [Option.some.injEq, Prod.mk.injEq] at e1
    obtain ⟨rfl, rfl, rfl⟩ := e1
    have b1 : BR f (w.heap.size, 0, 0) .defs (.deferred (some [])) := rfl
    obtain ⟨k1, k2⟩ := add_sound (d := w.drawn) hr b1
    have hdf : (ins f h.next (w.heap.size, 0, 0)) h.next = some (w.heap.size, 0, 0) := by simp [ins]
    have b2 : BR (ins f h.next (w.heap.size, 0, 0)) ((addW w (.deferred (some [])) w.drawn).heap.size, 0, 0) (.loop .ready none fr.fn fr.tm fr.nt ps asg body h.next)
        (.loop { state := .ready, pending := none, fn := b.fn, tmps := a.tmps, params := ps, assign := asg, body := body, defers := w.heap.size }) :=
      ⟨rfl, rfl, hf.fn, hf.tm.mono k2.sub, rfl, rfl, rfl, 0, 0, hdf⟩
    obtain ⟨k3, k4⟩ := add_sound (d := w.drawn) k1 b2
    refine ⟨_, _, (addW w (.deferred (some [])) w.drawn).heap.size, [{ target := .collected w.heap.size, args := #[] }], ?_, ⟨k3, k2.trans k4⟩, ⟨0, 0, by simp [ins]⟩, ?_⟩
    · rw [hro]; rfl
    · refine ⟨hf.fn, ?_, hf.tm.mono (k2.sub.trans k4.sub), .coll _ _ 0 0 _ _ (k4.sub _ _ hdf) (hf.ds.mono (k2.sub.trans k4.sub))⟩
      exact hf.rnd.mono (k2.sub.trans k4.sub)
  · rename_i l hrnd
    have hrn := hf.rnd
    rw [hrnd] at hrn
    cases hro : b.roundOf with
    | none => rw [hro] at hrn; exact hrn.elim
    | some L =>
      rw [hro] at hrn
      obtain ⟨sh, E, hl⟩ := hrn
      split at e1
      · rename_i st pend fn tm nt ps0 asg0 body0 df0 hg
        simp only [Option.some.injEq, Prod.mk.injEq] at e1
        obtain ⟨rfl, rfl, rfl⟩ := e1
        obtain ⟨lo, _, hlr, hget⟩ := loop_of (p := p) hr hl hg
        have b2 : BR f (w.heap.size, 0, 0) (.loop .ready none fr.fn fr.tm fr.nt ps asg body df0)
            (.loop { state := .ready, pending := none, fn := b.fn, tmps := a.tmps, params := ps, assign := asg, body := body, defers := lo.defers }) :=
          ⟨rfl, rfl, hf.fn, hf.tm, rfl, rfl, rfl, hlr.df⟩
        obtain ⟨k3, k4⟩ := add_sound (d := w.drawn) hr b2
        refine ⟨_, _, w.heap.size, [], ?_, ⟨k3, k4⟩, ⟨0, 0, by simp [ins]⟩, ?_⟩
        · simp only [Instr.enterLoop, Sem.run_bind, hget, Result.andThen_ok, Sem.run_pure, run_newObj]; rfl
        · exact hf.mono k4.sub
      · simp at e1

theorem close_sound (ic : IC p sf) (hr : HR f h w) {l : Nat} {L : Nat} (hl : ∃ sh E, f l = some (L, sh, E)) {mk : List AD} {b : Frame} {A : Act} {k : List Item} {cs : List Frame} (hf : FrR f { fr with ds := mk ++ fr.ds } b A) (hcalm : Calm b.kind cs)
    (e1 : closeLoop sf l mk fr h = some (.code e fr' h')) : ∃ f' w' a', Arr p (lone (b.atR A (.endRangeFunc L :: k)) cs w) b cs e a' k w' ∧ Post f h w f' h' w' ∧ FrR f' fr' b a' := by
  obtain ⟨sh, E, hl⟩ := hl
  unfold closeLoop at e1
  split at e1
  · simp at e1
  · rename_i st pend fn tm nt ps asg body df hnb hg
    obtain ⟨lo, ho, hlr, hget⟩ := loop_of (p := p) hr hl hg
    have hne : (lo.state == .busy) = false := by
      rw [hlr.st]
      cases st with
      | busy => exact (hnb rfl).elim
      | _ => rfl
    have hbr : BR f (L, sh, E) (.loop .exhausted pend fn tm nt ps asg body df) (.loop { lo with state := .exhausted }) :=
      ⟨rfl, hlr.pend, hlr.fn, hlr.tm, hlr.ps, hlr.asg, hlr.body, hlr.df⟩
    obtain ⟨w1, g1, g2, g3⟩ := setObj_sound (p := p) hr hl ho (by intro c t z hh; cases hh) (by unfold alive; rw [hg]; simp) hbr (by simp)
    have hend : (Instr.endLoop L).run p w = .ok pend w1 := by
      simp only [Instr.endLoop, Sem.run_bind, hget, Result.andThen_ok, hne, Bool.false_eq_true, if_false, Sem.run_pure, g1]
      rw [hlr.pend]
    have hst := stepR_endRangeFunc (P := p) (b := b) (a := A) (k := k) (cs := cs) hend
    split at e1
    · simp only [Option.some.injEq, Res.code.injEq] at e1
      obtain ⟨rfl, rfl, rfl⟩ := e1
      exact ⟨f, w1, A, .one hst, ⟨g2, g3⟩, hf⟩
    · rename_i c
      obtain ⟨f2, w2, a2, q1, q2, q3⟩ := ic.code _ _ _ _ _ _ e1 f w1 g2 b A k cs hf hcalm
      exact ⟨f2, w2, a2, q1.of_steps (.one hst), Post.trans ⟨g2, g3⟩ q2, q3⟩
  · simp at e1

theorem range_sound (ic : IC p sf) (hr : HR f h w) {g : Operand} {ps : Array Tmp} {asg body : Code} (e1 : rangeA sf g ps asg body fr h = some (.code e fr' h')) : WalkOk p [.code (.rangeFunc g ps asg body)] f h w fr e fr' h' := by
  intro b a k cs hf hcalm
  unfold rangeA at e1
  split at e1
  · simp at e1
  · rename_i gv hgv
    split at e1
    · simp at e1
    · rename_i df mk h1 hop
      split at e1
      · rename_i v h2 hd
        have hg0 := evOp_rel hr hf.tm _ _ hgv
        obtain ⟨f1, w1, l, mark, q1, q2, ⟨sh, E, q3⟩, q4⟩ := enter_sound (p := p) hr hf hop ps asg body
        have hargs : VRs f1 [.yield h1.next] [.func (.yield l) #[] #[]] := .one (.yield _ _ sh E q3)
        have hcall := ic.dyn _ _ _ _ _ hd f1 w1 _ _ q2.1 (hg0.mono q2.2.sub) hargs
        have hev := Frame.eval_atR b { a with defers := mark ++ a.defers } (.inRangeFunc l :: k)
        simp only [Frame.atR] at hev
        have heq : ({ tmps := a.tmps, defers := mark ++ a.defers } : Act).eval = a.eval := by
          funext x; cases x <;> rfl
        have hres : ∀ (ρ : Operand → Value), ρ g = a.eval g → ρ (.const (.func (.yield l) #[] #[])) = .func (.yield l) #[] #[] → resolve ρ { callee := .value g, args := #[.const (.func (.yield l) #[] #[])], argTypes := #[] } 0 = Deferred.ofValue (a.eval g) [Value.func (.yield l) #[] #[]].toArray := by
          intro ρ h1 h2
          simp [resolve, h1, h2]
        have hr2 := hres a.eval rfl rfl
        have after : ∀ (f2 : Inj) (w2 : World) (v' : Value), Steps p (lone (b.atR a (.code (.rangeFunc g ps asg body) :: k)) cs w) (lone ((b.atR { a with defers := mark ++ a.defers } (.inRangeFunc l :: k)).finish v') cs w2) → Post f1 (h1.add (.loop .ready none fr.fn fr.tm fr.nt ps asg body df)) w1 f2 h2 w2 →
            ∃ f' w' a', Arr p (lone (b.atR a ([.code (.rangeFunc g ps asg body)] ++ k)) cs w) b cs e a' k w' ∧ Post f h w f' h' w' ∧ FrR f' fr' b a' := by
          intro f2 w2 v' hs hpost
          rw [finish_atR_inRangeFunc] at hs
          obtain ⟨f3, w3, a3, r1, r2, r3⟩ := close_sound ic hpost.1 ⟨sh, E, hpost.2.sub _ _ q3⟩ (q4.mono hpost.2.sub) hcalm (k := k) (cs := cs) e1
          exact ⟨f3, w3, a3, r1.of_steps hs, (q2.trans hpost).trans r2, r3⟩
        rcases hcall with ⟨nx, v', w2, f2, c1, c2, c3, c4, c5⟩ | ⟨gg, args', c1, c2⟩ | ⟨LL, gg, tmps, asg', body', c1, c2⟩
        · refine after f2 w2 v' (.one (step_lone_go ?_)) ⟨c3, c4⟩
          rcases c2 with rfl | ⟨rfl, rfl⟩ <;>
          · simp only [Frame.atR] at q1 ⊢
            simp [stepG, stepG.exec, Sem.runT_eq, q1, GStep.bare_after, stepG.apply, hev, heq, hr2, c1]
        · obtain ⟨f2, w2, fr2, v', g1, g2, g3, g4, g5, ⟨fn, g6, g7⟩, g8, g9⟩ := c2 .normal (b.atR { a with defers := mark ++ a.defers } (.inRangeFunc l :: k) :: cs) (.inl rfl)
          have henter : step p (lone (b.atR a (.code (.rangeFunc g ps asg body) :: k)) cs w) =
              .next (lone (Frame.enter p gg args' .normal) (b.atR { a with defers := mark ++ a.defers } (.inRangeFunc l :: k) :: cs) w1) := by
            refine step_lone_go ?_
            simp only [Frame.atR] at q1 ⊢
            simp [stepG, stepG.exec, Sem.runT_eq, q1, GStep.bare_after, stepG.apply, hev, heq, hr2, c1]
          have hleave : fr2.leaving p w2 (.returned v') := ⟨g3, g4, g5, fn, by rw [g2]; exact g6, g7⟩
          exact after f2 w2 v' (.head henter (g1.trans (.one (step_leave_returned hleave)))) g8
        · obtain ⟨f2, w2, v', g1, g2, g3⟩ := c2 (b.atR { a with defers := mark ++ a.defers } (.inRangeFunc l :: k)) cs
          have henter : step p (lone (b.atR a (.code (.rangeFunc g ps asg body) :: k)) cs w) =
              .next (lone (Frame.round LL gg tmps asg' body' .normal) (b.atR { a with defers := mark ++ a.defers } (.inRangeFunc l :: k) :: cs) w1) := by
            refine step_lone_go ?_
            simp only [Frame.atR] at q1 ⊢
            simp [stepG, stepG.exec, Sem.runT_eq, q1, GStep.bare_after, stepG.apply, hev, heq, hr2, c1]
          exact after f2 w2 v' (.head henter g1) g2
      · simp at e1

/-! rounds -/
theorem setPs_sound : ∀ (is : List Nat) (vs : List AV) (vs' : List Value) (fr fr' : Fr) (tmps : Array Value), VRs f vs vs' → FR f fr.tm fr.nt tmps → setPs is vs fr = some fr' →
    is.length = vs.length ∧ fr'.ds = fr.ds ∧ fr'.fn = fr.fn ∧ fr'.rnd = fr.rnd ∧ FR f fr'.tm fr'.nt ((is.zip vs').foldl (fun tmps (t, a) => tmps.setIfInBounds t a) tmps)
  | [], [], _, fr, fr', tmps, .nil, hf, e => by
    simp only [setPs, Option.some.injEq] at e; subst e
    exact ⟨rfl, rfl, rfl, rfl, hf⟩
  | i :: is, v :: vs, v' :: vs', fr, fr', tmps, .cons _ _ _ _ h1 hs, hf, e => by
    unfold setPs at e
    split at e
    · rename_i fr2 hp
      unfold Fr.put at hp
      simp only at hp
      rw [bif_blt] at hp
      split at hp
      · rename_i hlt
        simp only [Option.some.injEq] at hp; subst hp
        obtain ⟨g1, g2, g3, g4, g5⟩ := setPs_sound is vs vs' _ fr' _ hs (hf.put hlt h1) e
        exact ⟨by simp [g1], g2, g3, g4, g5⟩
      · simp at hp
    · simp at e
  | [], _ :: _, _, _, _, _, _, _, e => by simp [setPs] at e
  | _ :: _, [], _, _, _, _, _, _, e => by simp [setPs] at e

theorem round_sound (ic : IC p sf) (hr : HR f h w) {l : Nat} {args : List AV} {v : AV} (e1 : roundA sf l args h = some (.val v h')) {L sh E : Nat} (hl : f l = some (L, sh, E)) {args' : List Value} (ha : VRs f args args') :
    CallsOk p f h w v h' (Instr.yield L args'.toArray) := by
  unfold roundA at e1
  split at e1
  · rename_i st pend fn tm nt ps asg body df hg
    obtain ⟨lo, ho, hlr, hget⟩ := loop_of (p := p) hr hl hg
    split at e1
    · simp at e1
    · rename_i fr1 hps
      obtain ⟨g1, g2, g3, g4, g5⟩ := setPs_sound ps.toList args args' _ fr1 lo.tmps ha hlr.tm hps
      have hsz : args'.toArray.size = lo.params.size := by
        rw [hlr.ps, List.size_toArray, ← ha.length, ← g1]; simp
      have hy : (Instr.yield L args'.toArray).run p w = .ok (.round L lo.fn ((lo.params.zip args'.toArray).foldl (fun tmps (t, a) => tmps.setIfInBounds t a) lo.tmps) lo.assign lo.body) w := by
        simp only [Instr.yield, Sem.run_bind, hget, Result.andThen_ok, hsz, ne_eq, not_true_eq_false, if_false, Sem.run_pure]
      refine .inr (.inr ⟨L, lo.fn, _, lo.assign, lo.body, hy, ?_⟩)
      intro c cs
      have hfold : (lo.params.zip args'.toArray).foldl (fun tmps (t, a) => tmps.setIfInBounds t a) lo.tmps = (ps.toList.zip args').foldl (fun tmps (t, a) => tmps.setIfInBounds t a) lo.tmps := by
        rw [← Array.foldl_toList, Array.toList_zip, hlr.ps]
      rw [hfold, hlr.asg, hlr.body]
      generalize htm : (ps.toList.zip args').foldl (fun tmps (t, a) => tmps.setIfInBounds t a) lo.tmps = tmps' at g5
      let b : Frame := { (default : Frame) with fn := lo.fn, kind := .normal, roundOf := some L }
      have hb0 : Frame.round L lo.fn tmps' asg body .normal = b.atR { tmps := tmps', defers := [] } [.code asg, .beginRound, .code body] := by
        simp [Frame.round, Frame.atR, b]
      have hf1 : FrR f fr1 b { tmps := tmps', defers := [] } := by
        refine ⟨?_, ?_, g5, ?_⟩
        · rw [g3]; exact hlr.fn
        · rw [g4]; exact ⟨sh, E, hl⟩
        · rw [g2]; exact .nil
      have hcalm : Calm b.kind (c :: cs) := .inl rfl
      rw [hb0]
      split at e1
      · rename_i fr2 h2 hasg
        obtain ⟨f2, w2, a2, q1, q2, q3⟩ := ic.code _ _ _ _ _ _ hasg f w hr b _ [.beginRound, .code body] (c :: cs) hf1 hcalm
        split at e1
        · rename_i pend2 fn2 tm2 nt2 ps2 asg2 bo2 df2 hg2
          have hl2 := q2.2.sub _ _ hl
          obtain ⟨lo2, ho2, hlr2, hget2⟩ := loop_of (p := p) q2.1 hl2 hg2
          have hbr : BR f2 (L, sh, E) (.loop .busy pend2 fn2 tm2 nt2 ps2 asg2 bo2 df2) (.loop { lo2 with state := .busy }) :=
            ⟨rfl, hlr2.pend, hlr2.fn, hlr2.tm, hlr2.ps, hlr2.asg, hlr2.body, hlr2.df⟩
          obtain ⟨w3, m1, m2, m3⟩ := setObj_sound (p := p) q2.1 hl2 ho2 (by intro c t z hh; cases hh) (by unfold alive; rw [hg2]; simp) hbr (by simp)
          have hbegin : (Instr.beginRound L).run p w2 = .ok () w3 := by
            simp only [Instr.beginRound, Sem.run_bind, hget2, Result.andThen_ok, m1, hlr2.st, Sem.run_pure]
          have s1 : Steps p (lone (b.atR { tmps := tmps', defers := [] } [.code asg, .beginRound, .code body]) (c :: cs) w) (lone (b.atR a2 [.code body]) (c :: cs) w3) :=
            Steps.trans q1 (.one (stepR_beginRound rfl hbegin))
          split at e1
          · rename_i ex tm4 nt4 fn4 rnd4 h4 hbody
            obtain ⟨f4, w4, a4, r1, r2, r3⟩ := ic.code _ _ _ _ _ _ hbody f2 w3 m2 b a2 [] (c :: cs) q3 hcalm
            have hl4 := r2.2.sub _ _ hl2
            have hpost : Post f h w f4 h4 w4 := (q2.trans ⟨m2, m3⟩).trans r2
            have endr : ∀ (jump : Option Code) (st5 : LoopState), st5 = (if jump.isNone then .ready else .done) → ∀ v5 h5, (match h4.blk.get l with | some (.loop _ _ fn tm nt ps asg body df) => some (Res.val (.bool jump.isNone) (h4.put l (.loop st5 jump fn tm nt ps asg body df))) | _ => none) = some (.val v5 h5) →
                ∃ w5 v', (Instr.endRound L jump).run p w4 = .ok v' w5 ∧ Post f h w f4 h5 w5 ∧ VR f4 v5 v' := by
              intro jump st5 hst5 v5 h5 he
              split at he
              · rename_i st6 pend6 fn6 tm6 nt6 ps6 asg6 body6 df6 hg6
                simp only [Option.some.injEq, Res.val.injEq] at he
                obtain ⟨rfl, rfl⟩ := he
                obtain ⟨lo6, ho6, hlr6, hget6⟩ := loop_of (p := p) r2.1 hl4 hg6
                have hbr6 : BR f4 (L, sh, E) (.loop st5 jump fn6 tm6 nt6 ps6 asg6 body6 df6) (.loop { lo6 with state := if jump.isNone then .ready else .done, pending := jump }) :=
                  ⟨hst5.symm, rfl, hlr6.fn, hlr6.tm, hlr6.ps, hlr6.asg, hlr6.body, hlr6.df⟩
                obtain ⟨w5, m4, m5, m6⟩ := setObj_sound (p := p) r2.1 hl4 ho6 (by intro c t z hh; cases hh) (by unfold alive; rw [hg6]; simp) hbr6 (by simp)
                refine ⟨w5, .bool jump.isNone, ?_, hpost.trans ⟨m5, m6⟩, .bool _⟩
                simp only [Instr.endRound, Sem.run_bind, hget6, Result.andThen_ok, m4, Sem.run_pure]
              · simp at he
            cases ex with
            | nrm =>
              obtain ⟨w5, v', n1, n2, n3⟩ := endr none .ready rfl v h' (by unfold endRnd at e1; exact e1)
              exact ⟨f4, w5, v', s1.trans (Steps.trans r1 (.one (stepR_round_end rfl rfl n1))), n2, n3⟩
            | ret =>
              obtain ⟨k₁, r1⟩ := r1
              obtain ⟨w5, v', n1, n2, n3⟩ := endr (some .ret) .done rfl v h' (by unfold endRnd at e1; exact e1)
              exact ⟨f4, w5, v', s1.trans (Steps.trans r1 (.one (stepR_round_ret rfl rfl n1))), n2, n3⟩
            | exit id =>
              obtain ⟨k₁, r0, r1⟩ := r1
              obtain ⟨w5, v', n1, n2, n3⟩ := endr (some (.exit id)) .done rfl v h' (by unfold endRnd at e1; exact e1)
              exact ⟨f4, w5, v', s1.trans (Steps.trans r1 (.one (stepR_round_exit rfl rfl r0 n1))), n2, n3⟩
            | goto t => unfold endRnd at e1; split at e1 <;> simp at e1
          · simp at e1
        · simp at e1
      · simp at e1
  · simp at e1

/-! functions -/
theorem hasBody_spec {g : Nat} (e1 : hasBody p g = true) : ∃ fn c, p.funcs[g]? = some fn ∧ fn.body = some c := by
  unfold hasBody at e1
  split at e1
  · rename_i fn hf
    split at e1
    · rename_i c hc; exact ⟨fn, c, hf, hc⟩
    · simp at e1
  · simp at e1

theorem callFunc_enter (hp : POk p) {g : Nat} {fn : Func} {c : Code} (hf : p.funcs[g]? = some fn) (hc : fn.body = some c) (args : Array Value) (w : World) : (callFunc g args).run p w = .ok (.enter g args) w := by
  have hn := hp.num g fn hf (by rw [hc]; rfl)
  simp [callFunc, hf, hn, hc]

theorem runDefers_sound (hp : POk p) (ih : IH p sf) : ∀ (ads : List AD) (h : H) (f : Inj) (w : World) (ds : List Deferred) (F : Frame) (cs : List Frame) (h' : H), runDefers p sf ads h = some h' → HR f h w → DR f ads ds → F.mode = .returning → F.defers = ds →
    ∃ f' w', Steps p (lone F cs w) (lone { F with defers := [] } cs w') ∧ Post f h w f' h' w'
  | [], h, f, w, _, F, cs, h', e1, hr, .nil, hm, hd => by
    simp only [runDefers, Option.some.injEq] at e1; subst e1
    refine ⟨f, w, ?_, hr, Ext.refl _ _ _⟩
    have : ({ F with defers := [] } : Frame) = F := by cases F; simp only at hd; subst hd; rfl
    rw [this]; exact .refl _ _
  | .coll r :: ads, h, f, w, _, F, cs, h', e1, hr, .coll _ R sh E _ ds hR hs, hm, hd => by
    unfold runDefers at e1
    split at e1
    · rename_i hg
      obtain ⟨o, ho, hbr⟩ := obj_of hr hR hg
      cases o <;> simp only [BR] at hbr
      rename_i cc
      subst hbr
      have hbr2 : BR f (R, sh, E) .taken (.deferred none) := rfl
      obtain ⟨w1, g1, g2, g3⟩ := setObj_sound (p := p) hr hR ho (by intro c t z hh; cases hh) (by unfold alive; rw [hg]; simp) hbr2 (by simp)
      have hgo : (getObj R).run p w = .ok (.deferred (some [])) w := by simp [getObj, Sem.run, ho]
      have htake : (Instr.takeDeferred R).run p w = .ok [] w1 := by
        simp only [Instr.takeDeferred, Sem.run_bind, hgo, Result.andThen_ok, g1, Sem.run_pure]
      have hst := step_collected (P := p) (cs := cs) (by rw [hm]; simp) hd rfl htake
      obtain ⟨f2, w2, q1, q2⟩ := runDefers_sound hp ih ads _ f w1 ds { F with defers := [] ++ ds } cs h' e1 g2 hs hm rfl
      exact ⟨f2, w2, .head hst q1, Post.trans ⟨g2, g3⟩ q2⟩
    · simp at e1
  | .fn g args :: ads, h, f, w, _, F, cs, h', e1, hr, .fn _ _ cap args' _ ds ha hs, hm, hd => by
    unfold runDefers at e1
    split at e1
    · rename_i hbd
      obtain ⟨fn, c, hfn, hbody⟩ := hasBody_spec hbd
      split at e1
      · rename_i v h1 hcall
        have hc := ih.call _ _ _ _ _ hcall f w _ hr ha
        have hrun := callFunc_enter hp hfn hbody (args'.toList ++ cap.toList).toArray w
        have harr : (args'.toList ++ cap.toList).toArray = args' ++ cap := by apply Array.toList_inj.1; simp
        rcases hc with ⟨nx, v', w', f', h1, h2, _⟩ | ⟨g', as, h1, h2⟩ | ⟨_, _, _, _, _, h1, _⟩
        · rw [hrun] at h1
          simp only [Result.ok.injEq] at h1
          rcases h2 with rfl | ⟨rfl, _⟩ <;> cases h1.1
        · rw [hrun] at h1
          simp only [Result.ok.injEq, Next.enter.injEq, and_true] at h1
          obtain ⟨rfl, rfl⟩ := h1
          obtain ⟨f2, w2, fr2, v', g1, g2, g3, g4, g5, ⟨fn2, g6, g7⟩, g8, g9⟩ := h2 .deferred ({ F with defers := ds } :: cs) (.inr ⟨rfl, _, _, rfl, hm⟩)
          have hinv : (invoke (.fn (.func g) cap) args').run p w = .ok (.enter g (args'.toList ++ cap.toList).toArray) w := by
            rw [harr]
            have := callFunc_enter hp hfn hbody (args' ++ cap) w
            exact this
          have hst := step_defer (P := p) (cs := cs) (by rw [hm]; simp) hd rfl hinv
          have hgo : fr2.going p w2 (.returned v') := ⟨g3, g4, fn2, by rw [g2]; exact g6, g7⟩
          have hst2 := step_going_returned (c := { F with defers := ds }) (cs := cs) g5 hgo
          have hset : ({ ({ F with defers := ds } : Frame) with mode := settle ({ F with defers := ds } : Frame).mode } : Frame) = { F with defers := ds } := by
            simp only [hm, settle]
          rw [hset] at hst2
          obtain ⟨f3, w3, q1, q2⟩ := runDefers_sound hp ih ads _ f2 w2 ds { F with defers := ds } cs h' e1 g8.1 (hs.mono g8.2.sub) hm rfl
          exact ⟨f3, w3, .head hst (g1.trans (.head hst2 q1)), g8.trans q2⟩
        · rw [hrun] at h1
          simp only [Result.ok.injEq] at h1
          cases h1.1
      · simp at e1
    · simp at e1

theorem initTm_get : ∀ (args : List AV) (i : Nat) (t : Tr AV) (m : Nat), (initTm i args t).get m = if i ≤ m ∧ m < i + args.length then args[m - i]? else t.get m
  | [], i, t, m => by
    rw [if_neg (by simp)]; rfl
  | v :: vs, i, t, m => by
    unfold initTm
    rw [initTm_get vs (i + 1) _ m, Tr.get_set]
    by_cases h1 : i = m
    · subst h1
      rw [if_neg (by omega), if_pos rfl, if_pos (by simp)]; simp
    · by_cases h2 : i + 1 ≤ m ∧ m < i + 1 + vs.length
      · rw [if_pos h2, if_pos (by simp; omega)]
        have : m - i = (m - (i + 1)) + 1 := by omega
        rw [this]; rfl
      · rw [if_neg h2, if_neg h1, if_neg (by simp; omega)]

theorem initTm_FR {args : List AV} {args' : List Value} (ha : VRs f args args') (nt : Nat) : FR f (initTm 0 args .nil) (ntOf args nt) (args'.toArray ++ Array.replicate (nt - args'.toArray.size) undef) := by
  have hl := ha.length
  refine ⟨by simp [ntOf, hl], fun t => ?_⟩
  rw [initTm_get]
  simp only [Nat.zero_le, true_and, Nat.zero_add, Nat.sub_zero]
  by_cases ht : t < args.length
  · rw [if_pos ht]
    have hx : args[t]? = some args[t] := by simp [ht]
    obtain ⟨y, hy, hv⟩ := ha.get t _ hx
    rw [hx]
    simp only [Option.getD_some]
    have : (args'.toArray ++ Array.replicate (nt - args'.toArray.size) undef).getD t undef = y := by
      rw [Array.getD_eq_getD_getElem?, Array.getElem?_append_left (by simp; omega)]
      simp [hy]
    rw [this]; exact hv
  · rw [if_neg ht]
    have : (args'.toArray ++ Array.replicate (nt - args'.toArray.size) undef).getD t undef = undef := by
      rw [Array.getD_eq_getD_getElem?, Array.getElem?_append_right (by simp; omega), Array.getElem?_replicate]
      split <;> rfl
    rw [this, Tr.get_nil]; exact undef_rel f

theorem call_sound (hp : POk p) (ic : IC p sf) (hr : HR f h w) {g : Nat} {args : List AV} {v : AV} (e1 : enterA p sf g args h = some (.val v h')) {args' : List Value} (ha : VRs f args args') :
    CallsOk p f h w v h' (callFunc g args'.toArray) := by
  unfold enterA at e1
  split at e1
  · simp at e1
  · rename_i fn hfn
    split at e1
    · rename_i hb
      exact extern_sound hp hr hfn hb ha e1
    · rename_i c hb
      refine .inr (.inl ⟨g, args'.toArray, callFunc_enter hp hfn hb _ w, ?_⟩)
      intro kd cs hcalm
      let b : Frame := { (default : Frame) with fn := g, kind := kd, roundOf := none }
      have henter : Frame.enter p g args'.toArray kd = b.atR { tmps := args'.toArray ++ Array.replicate (fn.ntmps - args'.toArray.size) undef, defers := [] } [.code c] := by
        simp [Frame.enter, Frame.atR, hfn, hb, b]
      have hf1 : FrR f ⟨initTm 0 args .nil, ntOf args fn.ntmps, [], g, none⟩ b { tmps := args'.toArray ++ Array.replicate (fn.ntmps - args'.toArray.size) undef, defers := [] } :=
        ⟨rfl, trivial, initTm_FR ha fn.ntmps, .nil⟩
      have hfin : ∀ (fr2 : Fr) (h2 : H) (f2 : Inj) (w2 : World) (a2 : Act) (todo : List Item), retA.fin p sf fn fr2 h2 = some (.val v h') → Post f h w f2 h2 w2 → FrR f2 fr2 b a2 →
          Steps p (lone (Frame.enter p g args'.toArray kd) cs w) (lone { b.atR a2 todo with mode := .returning } cs w2) →
          ∃ f' w' fr v', Steps p (lone (Frame.enter p g args'.toArray kd) cs w) (lone fr cs w') ∧ fr.fn = g ∧ fr.mode = .returning ∧ fr.defers = [] ∧ fr.kind = kd ∧
            (∃ fn, p.funcs[g]? = some fn ∧ (results fn fr.tmps).run p w' = .ok v' w') ∧ Post f h w f' h' w' ∧ VR f' v v' := by
        intro fr2 h2 f2 w2 a2 todo e2 q2 q3 hs
        unfold retA.fin at e2
        split at e2
        · simp at e2
        · rename_i h3 hd
          obtain ⟨f3, w3, r1, r2⟩ := runDefers_sound hp ic.toIH fr2.ds h2 f2 w2 a2.defers { b.atR a2 todo with mode := .returning } cs h3 hd q2.1 q3.ds rfl rfl
          have htm := q3.tm.mono r2.2.sub
          split at e2
          · rename_i v2 hres
            simp only [Option.some.injEq, Res.val.injEq] at e2
            obtain ⟨rfl, rfl⟩ := e2
            obtain ⟨v', k1, k2⟩ := results_sound (p := p) r2.1 htm (fn := fn) hres (.inl rfl)
            exact ⟨f3, w3, _, v', hs.trans r1, rfl, rfl, rfl, rfl, ⟨fn, hfn, k1⟩, q2.trans r2, k2⟩
          · rename_i vs hne hres
            simp only [Option.some.injEq, Res.val.injEq] at e2
            obtain ⟨rfl, rfl⟩ := e2
            obtain ⟨v', k1, k2⟩ := results_sound (p := p) r2.1 htm (fn := fn) hres (.inr ⟨rfl, fun x hx => hne x hx⟩)
            exact ⟨f3, w3, _, v', hs.trans r1, rfl, rfl, rfl, rfl, ⟨fn, hfn, k1⟩, q2.trans r2, k2⟩
          · simp at e2
      unfold retA at e1
      split at e1
      · rename_i fr2 h2 hcode
        obtain ⟨f2, w2, a2, q1, q2, q3⟩ := ic.code _ _ _ _ _ _ hcode f w hr b _ [] cs hf1 hcalm
        refine hfin fr2 h2 f2 w2 a2 [] e1 q2 q3 ?_
        rw [henter]
        exact Steps.trans q1 (.one (stepR_end rfl))
      · rename_i fr2 h2 hcode
        obtain ⟨f2, w2, a2, ⟨k₁, q1⟩, q2, q3⟩ := ic.code _ _ _ _ _ _ hcode f w hr b _ [] cs hf1 hcalm
        refine hfin fr2 h2 f2 w2 a2 (.code .ret :: k₁) e1 q2 q3 ?_
        rw [henter]
        exact Steps.trans q1 (.one (stepR_ret rfl))
      · simp at e1

theorem dyn_sound (ic : IC p sf) (hr : HR f h w) {x : AV} {args : List AV} {v : AV} (e1 : dynA sf x args h = some (.val v h')) {x' : Value} (hx : VR f x x') {args' : List Value} (ha : VRs f args args') :
    CallsOk p f h w v h' (do let d ← Deferred.ofValue x' args'.toArray; invoke d.target d.args) := by
  unfold dynA at e1
  split at e1
  · rename_i g first cap
    cases hx with | func _ _ _ a' c' h1 h2 =>
    refine (ic.call _ _ _ _ _ e1 f w _ hr ((h1.append ha).append h2)).of_run ?_
    have : (a' ++ args' ++ c').toArray = a'.toArray ++ args'.toArray ++ c'.toArray := by simp
    rw [this]
    simp only [Deferred.ofValue, Sem.run_bind, Sem.run_pure, Result.andThen_ok, invoke]
  · rename_i l
    cases hx with | yield _ L sh E hl =>
    refine (ic.round _ _ _ _ _ e1 f w L sh E _ hr hl ha).of_run ?_
    have : (#[] : Array Value) ++ args'.toArray = args'.toArray := by simp
    simp only [Deferred.ofValue, Sem.run_bind, Sem.run_pure, Result.andThen_ok, invoke, this]
  · simp at e1
end

/-- THE EXECUTOR's LAW -/
theorem run_ic {p : Program} (hp : POk p) : ∀ n, IC p (run p n)
  | 0 => { call := fun _ _ _ _ _ e => by simp [run] at e, round := fun _ _ _ _ _ e => by simp [run] at e, dyn := fun _ _ _ _ _ e => by simp [run] at e,
           code := fun _ _ _ _ _ _ e => by simp [run] at e, again := fun _ _ _ _ _ _ e => by simp [run] at e, scope := fun _ _ _ _ _ _ _ e => by simp [run] at e }
  | n + 1 => by
    have ic := run_ic hp n
    refine { call := ?_, round := ?_, dyn := ?_, code := ?_, again := ?_, scope := ?_ }
    · intro g args h v h' e f w args' hr ha
      exact call_sound hp ic hr (by simpa [run, stepF] using e) ha
    · intro l args h v h' e f w L sh E args' hr hl ha
      exact round_sound ic hr (by simpa [run, stepF] using e) hl ha
    · intro x args h v h' e f w x' args' hr hx ha
      exact dyn_sound ic hr (by simpa [run, stepF] using e) hx ha
    · intro c fr h e fr' h' e1 f w hr
      have e2 : codeA p (run p n) c fr h = some (.code e fr' h') := by simpa [run, stepF] using e1
      by_cases hc : ∃ g ps asg body, c = .rangeFunc g ps asg body
      · obtain ⟨g, ps, asg, body, rfl⟩ := hc
        exact range_sound ic hr e2
      · exact code_sound hp ic hr (fun g ps asg body q => hc ⟨g, ps, asg, body, q⟩) e2
    · intro c fr h e fr' h' e1 f w hr
      have e2 : codeA p (run p n) (.loop c) fr h = some (.code e fr' h') := by simpa [run, stepF] using e1
      exact WalkOk.head (loop_sound ic hr e2) (fun b a k cs _ => .one stepR_inLoop)
    · intro body cur fr h e fr' h' e1 f w hr
      exact scope_sound ic hr (by simpa [run, stepF] using e1)
end Go.Xec
