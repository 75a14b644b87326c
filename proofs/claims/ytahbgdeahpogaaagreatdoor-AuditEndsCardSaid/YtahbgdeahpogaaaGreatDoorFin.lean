/- The law AuditEnds returns true at every number, and its input reads as it did; the variables that its card lists are tied to the program text. No condition of our own. -/
import Derived.Test.YtahbgdeahpogaaaGreatDoorCards
import Derived.Test.YtahbgdeahpogaaaGreatDoorAe7
import Derived.Test.YtahbgdeahpogaaaGreatDoorWit
import Derived.Test.YtahbgdeahpogaaaGreatDoorF1
import Derived.Test.YtahbgdeahpogaaaGreatDoorF2
import Derived.Test.YtahbgdeahpogaaaGreatDoorT0
import Derived.Test.YtahbgdeahpogaaaGreatDoorT1
import Derived.Test.YtahbgdeahpogaaaGreatDoorT2
import Derived.Test.YtahbgdeahpogaaaGreatDoorT3
import Derived.Test.YtahbgdeahpogaaaGreatDoorT4
import Derived.ProofKit
import Derived.Stop.LaidErr
namespace Go.Proofs.YtahbgdeahpogaaaGreatDoor
open Go.ChangeShapes Go.WideShapes Go.ChangeAt Go.RowKit
theorem own : ownKnob Tryz.prog.godebug = none := by kernel_rfl
theorem pok : Xec.POk Tryz.prog := Xec.pok_of (by kernel_rfl)
theorem d64 : Rows.laid_math_bits_deBruijn64tab (H := Unit) = Lib.tabData .u8 Lv.tabZ := by kernel_rfl
theorem ty0 : (Tryz.prog.globals[0]?).map (·.type) = some 327 := by kernel_rfl
theorem u327 : ∃ e, Tryz.prog.underlying 327 = some (.array 64 e) ∧ Tryz.prog.underlying e = some (.int .u8) ∧ Tryz.prog.cellsOf e = 1 := ⟨5, by kernel_rfl, by kernel_rfl, by kernel_rfl⟩
theorem c327 : Tryz.prog.cellsOf 327 = 64 := by kernel_rfl
theorem tab_of {W : World} (h : laidMetH Tryz.prog Rows.auditEndsRow.laid W) : Lib.TabIs Tryz.prog W "math/bits.deBruijn64tab" .u8 Lv.tabZ := by
  have h1 : laidMet Tryz.prog [("unicode/utf8.first", Rows.laid_unicode_utf8_first), ("unicode/utf8.acceptRanges", Rows.laid_unicode_utf8_acceptRanges), ("strconv.ErrSyntax", Rows.laid_strconv_ErrSyntax), ("strconv.ErrRange", Rows.laid_strconv_ErrRange), ("internal/strconv.uint64pow10", Rows.laid_internal_strconv_uint64pow10), ("math/bits.deBruijn32tab", Rows.laid_math_bits_deBruijn32tab), ("math/bits.deBruijn64tab", Rows.laid_math_bits_deBruijn64tab)] W :=
    (show laidMet Tryz.prog _ W ∧ handlesMet Tryz.prog _ W from h).1
  have h2 := h1.tail.tail.tail.tail.tail.tail
  rw [d64] at h2
  obtain ⟨e, k1, k2, k3⟩ := u327
  exact Lib.tabIs_of_head Lv.glob0 ty0 k1 k2 k3 c327 h2
set_option maxRecDepth 100000 in
theorem lifted (os : Os) (started : os.Started) (H : Type) (enc : TypeId × Value → H) :
    ReturnsInHanded {} Tryz.checked os 3 .any (fun w args => (Rows.auditEndsSpec.pre enc Tryz.prog Tryz.f3 [] false w args ∧ laidMetH Tryz.prog Rows.auditEndsRow.laid w) ∧ sizedMet enc Tryz.prog Tryz.f3 (OpenSpec.ofChange Rows.auditEndsSpec) false w args)
      (Rows.auditEndsSpec.post enc Tryz.prog Tryz.f3 false true false false) := by
  refine returnsInHanded_of_calls (C := Tryz.checked) own started (by kernel_rfl)
    (ChangeSpec.witness_shaped (enc := enc) (C := Tryz.checked) (os := os) (X := fun w _ => laidMetH Tryz.prog Rows.auditEndsRow.laid w) false (wL os) #[.int .u16 0] 8 (wL_os os) (wL_shaped os _) (by kernel_rfl) (by kernel_rfl) (by kernel_rfl) (wL_met os _)) ?_
  intro w tape i _ hsh _ hok hpre _
  obtain ⟨_, _, _, fn', hfn', _, _, _, _, hval0⟩ := hok
  obtain rfl : fn' = Tryz.f3 := Option.some.inj (hfn'.symm.trans Tryz.func3)
  obtain ⟨⟨⟨ds, gs, before, hw, _⟩, hx⟩, _⟩ := hpre
  have hW := DataW.Whole.of_heap (w' := w.forCall tape i) (by rfl) hw
  have hL : laidMetH Tryz.prog Rows.auditEndsRow.laid (w.forCall tape i) := hx.of_heap (by rfl)
  have hval : ∀ (j : Nat) t v, Tryz.f3.params[j]? = some t → i.args[j]? = some v → Value.okWide Tryz.prog (w.forCall tape i) .any w.heap.size t v := hval0
  generalize hWn : w.forCall tape i = W at *
  generalize hAn : i.args = args at *
  have hW' := hW
  obtain ⟨p, q, hA0, hV, rfl, _, _⟩ := hW
  have hA : DataW.TrodAll enc Tryz.prog W 0 (fun _ => true) true Tryz.f3.params.toList args.toList ds p := hA0
  rw [Tryz.params3] at hA hval
  obtain ⟨v0, d0, rfl, rfl, h0⟩ := trodAll_one hA
  obtain ⟨rfl, rfl⟩ := trodVars_none hV
  obtain ⟨x, rfl, rfl, rfl, wx⟩ := open_int Tryz.underlying22 (hval 0 22 v0 rfl rfl) h0
  have hx' : 0 ≤ x ∧ x ≤ 65535 := by simpa [Lit.wf, IntKind.min, IntKind.max, IntKind.signed, IntKind.bits] using wx
  simp only [List.append_nil] at hW'
  refine (Lv.ends_any pok hx'.1 (by omega) (tab_of hL) hsh).mono fun e W' ⟨he, hk⟩ => ?_
  subst he
  exact ChangeSpec.post_blind ⟨_, _, _, [], [], [], hW', trodAll_mk1 (shut_bool Tryz.underlying4 _), trodAll_mk1 (shut_int Tryz.underlying22 wx), rfl, hk _, fun h => by cases h⟩
theorem AuditEndsRow : Rows.AuditEndsSaid :=
  OpenClaim.holds_of_wide 3 Tryz.f3 rfl rfl rfl rfl rfl rfl rfl ⟨rfl, rfl, rfl, rfl, rfl⟩ rfl rfl rfl rfl rfl named3 Tryz.func3 jf inst3 wrap3 (fun os started H enc _ => lifted os started H enc)

theorem pinFirst : Tryz.pinned.checked.prog.pinnedFits "unicode/utf8.first" = true := by kernel_rfl
theorem noOwn : Tryz.pinned.checked.prog.headLifts.contains "ownunsafe" = false := by kernel_rfl
theorem fitsAll : Tryz.pinned.checked.prog.listedFits Rows.auditEndsRow.laid = true := by
  unfold Program.listedFits
  rw [noOwn]
  kernel_rfl
theorem tieAll : Tryz.prog.laidByTextLater tieList tieKinds true :=
  Program.laidByTextLater_by_run_h 400 8 t0 t1 t2 t3 t4 t5 t6 t7 t8 t9
theorem rowTie : Rows.auditEndsRow.laidByTextAt .later Tryz.pinned [.pinned, .data, .sentinel, .sentinel, .data, .data, .data, .handle] true :=
  OpenClaim.laidByTextAt_pinned rfl rfl tieAll rfl rfl rfl rfl (fun y hy e => by
    simp only [Rows.auditEndsRow, List.zip_cons_cons, List.zip_nil_right, List.mem_cons, List.mem_nil_iff, or_false] at hy
    rcases hy with rfl | rfl | rfl | rfl | rfl | rfl | rfl | rfl
    · exact ⟨pinFirst, by kernel_rfl⟩
    all_goals cases e) fitsAll

theorem AuditEnds : Rows.AuditEndsCardSaid :=
  Claim7.holds_tied_plain_at .later [] [.pinned, .data, .sentinel, .sentinel, .data, .data, .data, .handle] true (true, "7bc5c1db6e86e2639b21d9c24c430149195963c52b28471b60447422f382c7b6") true
    AuditEndsRow (fun _ h => by cases h) wfText (fun _ h => by cases h) rowTie rfl ⟨rfl, rfl⟩ mainSum3 rfl
    (fun f fn hf hfn => by
      obtain rfl : f = 3 := Option.some.inj (named3.symm.trans hf) |>.symm
      obtain rfl : fn = Tryz.f3 := (Option.some.inj (Tryz.func3.symm.trans hfn)).symm
      exact ⟨looks3, fun j t ht => by
        rw [Tryz.params3] at ht
        have hm : t ∈ [22] := by simpa using Array.mem_of_getElem? ht
        obtain rfl : t = 22 := by simpa using hm
        exact want3⟩)
    goes3
#print axioms AuditEnds
end Go.Proofs.YtahbgdeahpogaaaGreatDoor
