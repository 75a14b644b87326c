/- Closed facts of the row, each by itself; what the call comes to is reckoned with a mask of bits. No condition. -/
import Derived.Test.YtahbgdeahpogaaaGreatDoorRows
import Derived.JoinedOf
namespace Go.Proofs.YtahbgdeahpogaaaGreatDoor
/-- the closure's way, with what was seen as bits of one number -/
noncomputable def viaM (P : Program) : Nat → List Nat → List Nat → Nat → List Nat
  | 0, _, seen, _ => seen.reverse
  | _, [], seen, _ => seen.reverse
  | n + 1, f :: todo, seen, m => bif m.testBit f then viaM P n todo seen m else viaM P n (((P.funcs[f]?).elim [] P.leadsTo) ++ todo) (f :: seen) (m ||| (1 <<< f))
theorem viaM_eq (P : Program) : ∀ (n : Nat) (todo seen : List Nat) (m : Nat), (∀ x, m.testBit x = seen.contains x) → viaM P n todo seen m = P.closureVia n todo seen
  | 0, _, _, _, _ => by unfold viaM Program.closureVia; rfl
  | n + 1, [], _, _, _ => rfl
  | n + 1, f :: todo, seen, m, h => by
    unfold viaM Program.closureVia
    rw [h f]
    cases hc : seen.contains f with
    | true =>
      simp only [cond_true, if_true]
      exact viaM_eq P n todo seen m h
    | false =>
      simp only [cond_false, Bool.false_eq_true, if_false]
      refine viaM_eq P n _ _ _ fun x => ?_
      rw [Nat.testBit_or, h x, Nat.one_shiftLeft, Nat.testBit_two_pow, List.contains_cons, Bool.or_comm]
      congr 1
      by_cases e : f = x
      · subst e; simp
      · have : ¬ x = f := fun k => e k.symm
        simp [e, this]
noncomputable def clL : List Nat := [3, 4, 9, 10, 29, 76, 156, 256, 343, 344, 420, 257, 345, 258, 346, 269, 352, 337, 336, 421, 466, 30, 77, 31, 78, 35, 89, 166, 167, 168, 169, 170, 171, 172, 270, 271, 353, 272, 354, 333, 412, 460, 486, 497, 498, 413, 461, 487, 462, 463, 334, 414, 465, 489, 490, 406, 499, 500, 491, 492, 501, 502, 505, 98, 488, 464, 90, 173, 273, 174, 274, 175, 79, 157, 259, 347, 422, 467, 423, 468, 348, 349, 158, 100, 179, 276, 180, 260, 261, 350, 351, 159, 262, 161, 263, 94, 178, 264, 265, 266, 164, 243, 267, 165, 268, 252, 340, 419, 162, 160, 81, 80, 163, 82, 84, 83, 87, 11, 12, 32, 86, 85, 33, 34, 88, 13, 36, 91, 176, 275, 92, 177, 99, 37, 93, 38, 95, 96, 39, 97, 40, 41, 102, 101, 181, 103, 104, 183, 182, 277, 184, 278, 355, 42, 105, 107, 106, 185, 187, 186, 280, 279, 356, 108, 5, 14, 43, 110, 111, 188, 245, 189, 190, 281, 357, 282, 283, 288, 254, 341, 342, 198, 191, 109, 44, 45, 46, 15, 47, 48, 112, 114, 192, 194, 195, 286, 49, 50, 51, 285, 358, 193, 284, 287, 196, 197, 115, 113, 199, 200, 52, 6, 16, 53, 54, 116, 55, 117, 201, 289, 290, 359, 360, 291, 361, 424, 292, 362, 363, 293, 294, 364, 365, 366, 425, 469, 118, 119, 18, 56, 120, 17, 7, 19, 20, 21, 57, 121, 122, 202, 123, 22, 58, 125, 126, 207, 208, 226, 320, 304, 382, 433, 434, 471, 381, 432, 301, 378, 309, 310, 395, 216, 311, 448, 387, 435, 472, 437, 236, 474, 447, 480, 449, 219, 220, 481, 495, 496, 504, 130, 385, 128, 215, 299, 371, 372, 373, 374, 375, 428, 430, 429, 470, 376, 431, 377, 210, 135, 209, 300, 302, 379, 211, 303, 380, 212, 214, 206, 298, 312, 306, 383, 384, 307, 308, 386, 436, 473, 493, 213, 305, 124, 203, 295, 296, 230, 324, 367, 204, 205, 297, 368, 426, 227, 321, 131, 221, 314, 315, 389, 390, 439, 388, 438, 391, 440, 222, 316, 317, 392, 441, 475, 442, 476, 494, 503, 223, 427, 369, 228, 370, 59, 127, 129, 217, 218, 313, 60, 61, 132, 224, 63, 134, 133, 225, 318, 393, 394, 443, 444, 445, 446, 477, 478, 479, 319, 137, 62, 64, 136, 23, 65, 138, 229, 323, 405, 322, 396, 402, 455, 397, 450, 398, 451, 452, 399, 453, 454, 482, 400, 401, 403, 404, 139, 231, 140, 232, 325, 326, 407, 72, 144, 145, 241, 240, 331, 408, 409, 235, 457, 458, 484, 459, 485, 456, 483, 410, 141, 233, 327, 234, 142, 237, 328, 329, 330, 411, 238, 73, 66, 67, 69, 68, 143, 239, 70, 25, 24, 71, 8, 26, 74, 146, 147, 242, 332, 148, 244, 149, 246, 335, 247, 248, 249, 150, 250, 338, 152, 253, 251, 339, 415, 416, 417, 418, 27, 151, 28, 75, 153, 255, 154, 155]
theorem cl3 : Tryz.prog.closure 3 = clL := by
  unfold Program.closure
  rw [← viaM_eq Tryz.prog _ [3] [] 0 (fun x => by simp)]
  kernel_rfl
theorem ip3 : (Rows.auditEndsRow.inPlace == Tryz.prog.inPlace 3) = true := by
  unfold Program.inPlace
  rw [cl3]; kernel_rfl
theorem unf : Tryz.prog.unfollowed 3 = true := by
  unfold Program.unfollowed
  rw [cl3]; kernel_rfl
theorem unf3 : (Rows.auditEndsRow.unfollowed == Tryz.prog.unfollowed 3) = true := by rw [unf]; rfl
theorem rec3 : (Rows.auditEndsRow.recurses == Tryz.prog.recurses 3) = true := by
  unfold Program.recurses
  rw [unf]; rfl
theorem nam3 : (Rows.auditEndsRow.named == Tryz.prog.varsNamed 3) = true := by
  unfold Program.varsNamed
  rw [cl3]; kernel_rfl
theorem nTypes : Tryz.prog.types.size = 762 := by kernel_rfl
theorem rw0 : (List.range 160).all (fun k => rowFine Tryz.prog (0 + k)) = true := by kernel_rfl
theorem rw1 : (List.range 160).all (fun k => rowFine Tryz.prog (160 + k)) = true := by kernel_rfl
theorem rw2 : (List.range 160).all (fun k => rowFine Tryz.prog (320 + k)) = true := by kernel_rfl
theorem rw3 : (List.range 160).all (fun k => rowFine Tryz.prog (480 + k)) = true := by kernel_rfl
theorem rw4 : (List.range 122).all (fun k => rowFine Tryz.prog (640 + k)) = true := by kernel_rfl
theorem rowAt {a n : Nat} (h : (List.range n).all (fun k => rowFine Tryz.prog (a + k)) = true) (t : Nat) (h1 : a ≤ t) (h2 : t < a + n) : rowFine Tryz.prog t = true := by
  have := List.all_eq_true.1 h (t - a) (List.mem_range.2 (by omega))
  rwa [show a + (t - a) = t by omega] at this
theorem laidOut : laidOutB Tryz.prog = true := by
  unfold laidOutB
  rw [Bool.and_eq_true, Bool.and_eq_true]
  refine ⟨⟨?_, by as_aux_lemma => kernel_rfl⟩, by as_aux_lemma => kernel_rfl⟩
  rw [List.all_eq_true, nTypes]
  intro t ht
  have ht := List.mem_range.1 ht
  by_cases c0 : t < 160
  · exact rowAt rw0 t (by omega) (by omega)
  by_cases c1 : t < 320
  · exact rowAt rw1 t (by omega) (by omega)
  by_cases c2 : t < 480
  · exact rowAt rw2 t (by omega) (by omega)
  by_cases c3 : t < 640
  · exact rowAt rw3 t (by omega) (by omega)
  · exact rowAt rw4 t (by omega) (by omega)
theorem q1 : mapsRowed Tryz.prog = true := by kernel_rfl
theorem q2 : (Rows.auditEndsRow.plainKeys == Tryz.prog.plainKeys) = true := by kernel_rfl
theorem q3 : Tryz.prog.stopsHeard = true := by kernel_rfl
theorem q4 : Tryz.prog.mayEnter = true := by kernel_rfl
theorem q8 : (Rows.auditEndsRow.lifted == Tryz.prog.liftsFinal) = true := by kernel_rfl
theorem q9 : (Tryz.prog.make == some Rows.auditEndsRow.make) = true := by kernel_rfl
theorem q10 : Rows.auditEndsRow.wf (OpenSpec.ofChange Rows.auditEndsSpec) = true := by kernel_rfl
theorem q11 : (Rows.auditEndsRow.pinned == Rows.auditEndsRow.pinnedBy) = true := by kernel_rfl
theorem q12 : (Tryz.prog.stops == []) = true := by kernel_rfl
theorem q13 : (Tryz.prog.stopKnobs == []) = true := by kernel_rfl
theorem jf : joinedFacts Tryz.prog 3 Tryz.f3 Rows.auditEndsSpec Rows.auditEndsRow = true := by
  unfold joinedFacts
  simp only [Bool.and_eq_true]
  repeat' apply And.intro
  all_goals first
    | with_reducible exact laidOut
    | with_reducible exact q1
    | with_reducible exact q2
    | with_reducible exact q3
    | with_reducible exact q4
    | with_reducible exact q8
    | with_reducible exact q9
    | with_reducible exact q10
    | with_reducible exact q11
    | with_reducible exact q12
    | with_reducible exact q13
    | with_reducible exact ip3
    | with_reducible exact unf3
    | with_reducible exact rec3
    | with_reducible exact nam3
    | (as_aux_lemma => kernel_rfl)
theorem named3 : Tryz.prog.funcNamed "stet/stetlaw44.AuditEnds" = some 3 := by kernel_rfl
theorem inst3 : Tryz.f3.isInstance Tryz.prog Rows.auditEndsRow.origin Rows.auditEndsRow.targs := of_decide_eq_true (by kernel_rfl)
theorem wrap3 : Tryz.f3.isWrapper Tryz.prog Rows.auditEndsRow.wrapper Rows.auditEndsRow.mainSum := by
  unfold Func.isWrapper
  rw [if_neg (of_decide_eq_false (by kernel_rfl))]
  exact ⟨rfl, rfl⟩
end Go.Proofs.YtahbgdeahpogaaaGreatDoor
