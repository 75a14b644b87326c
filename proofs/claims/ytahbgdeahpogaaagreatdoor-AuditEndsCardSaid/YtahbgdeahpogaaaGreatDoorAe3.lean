/- AuditEnds: the states at its loop's head, and its code in pieces. No condition. -/
import Derived.Test.YtahbgdeahpogaaaGreatDoorAeD
import Derived.KernelRfl
import Derived.Test.YtahbgdeahpogaaaGreatDoorProg
open Go Go.Xec
namespace Go.Proofs.Lv

noncomputable def sL : Code → Code | .seq a _ => a | c => c
noncomputable def sR : Code → Code | .seq _ b => b | c => c
noncomputable def inL : Code → Code | .block _ (.loop c) => c | c => c
noncomputable def c3 : Code := match Tryz.f3.body with | some c => c | none => .skip
noncomputable def k1 := sR c3
noncomputable def k2 := sR k1
noncomputable def k3 := sR k2
noncomputable def k4 := sR k3
noncomputable def k5 := sR k4
noncomputable def pX := sL k5
noncomputable def pY := sR k5
noncomputable def bl := sR pX
noncomputable def bB := inL bl
noncomputable def b7 := sL bB
noncomputable def r7 := sL b7
noncomputable def cnd := sR b7
noncomputable def rest := sR bB
theorem c3_eq : c3 = .seq (sL c3) (.seq (sL k1) (.seq (sL k2) (.seq (sL k3) (.seq (sL k4) (.seq (.seq (sL pX) (.block 0 (.loop bB))) pY))))) := by kernel_rfl
theorem bB_eq : bB = .seq (.seq r7 (.cond (.tmp 40) .skip (.exit 0))) rest := by kernel_rfl

/-- the operations, and the example -/
noncomputable def askDo (t : Xec.Task) : Option Res :=
  match t with
  | .call g args h => bif Nat.beq g 7 then
      (match h.blk.get 527 with
      | some (.cells _ cs _ _) => (match (List.drop 5 cs) with
        | .int _ (.ofNat k) :: _ => bif Nat.blt k 150 then askE gl (doE k) g args h else askE gl fullE g args h
        | _ => none)
      | _ => none)
    else none
  | _ => none
noncomputable def q : Xec.Task → Option Res := orT askDo (askT gl [aNew, aDoc, aAud, e6726])
noncomputable def Rn (n : Nat) : Xec.Task → Option Res := runQ Tryz.prog q n

theorem q_code (c : Code) (fr : Fr) (h : H) : q (.code c fr h) = none := rfl
theorem Rn_code (n : Nat) (c : Code) (fr : Fr) (h : H) : Rn (n + 1) (.code c fr h) = codeA Tryz.prog (Rn n) c fr h := rfl

/-! states -/
noncomputable def layT : List (Nat × AV) → Tr AV → Tr AV
  | [], t => t
  | x :: r, t => layT r (t.set x.1 x.2)
noncomputable def com (m : Nat) : List (Nat × AV) := [(0, W m), (2, .bool false), (3, .ptr 88 0), (4, I 0), (5, .ptr 462 0), (6, I 0), (7, .ptr 527 0), (8, I 0), (11, .tup [.ptr 88 0, I 0]), (12, .tup [.ptr 88 0, I 0]), (13, .ptr 88 0), (14, I 0), (15, .tup [.ptr 462 0, I 0]), (16, .ptr 88 0), (17, .tup [.ptr 462 0, I 0]), (18, .ptr 462 0), (19, I 0), (20, .tup [.ptr 527 0, I 0]), (21, .ptr 88 0), (22, .ptr 462 0), (23, .tup [.ptr 527 0, I 0]), (24, .ptr 527 0), (25, I 0), (26, I 0), (27, .bool false), (28, .bool false), (29, I 0), (30, .bool false), (31, .bool false), (32, .bool false), (33, I 0), (34, .bool false), (35, .bool false)]
noncomputable def X (m : Nat) : Int := (wrapA .i64 (.ofNat m)).tmod 300
noncomputable def mid (m j : Nat) : List (Nat × AV) := [(9, I (j + 1)), (10, .ptr (528 + j) 0), (36, I j), (37, W m), (38, .int .i64 (wrapA .i64 (.ofNat m))), (39, .int .i64 (X m)), (40, .bool true), (41, I j), (42, I (j + 1)), (43, .ptr 527 0), (44, .agg [I 4, I 0, .nils, I 0, I 0, I 0]), (46, I j), (58, .bool false), (59, .bool false), (60, I j), (79, .bool false), (80, .bool false)]
noncomputable def xA (j : Nat) : List (Nat × AV) := [(45, .agg [I 0, I 0, .nils, I 0, .bool true, .bool true, .bool true]), (47, .bool true), (48, .bool true), (49, .ptr (528 + j) 0), (50, .ptr (528 + j) 0), (51, I 0), (52, .bool false), (53, .bool false), (54, .ptr (528 + j) 6), (55, .bool true), (56, .bool false), (57, .bool false), (61, .bool false), (62, .bool false), (63, .tup []), (64, .tup []), (65, .tup []), (66, .tup []), (67, .tup []), (68, .tup []), (69, .tup []), (70, .tup []), (71, .tup []), (72, .tup []), (73, .tup []), (74, .tup []), (75, .tup []), (76, .tup []), (77, .tup []), (78, .tup [])]
noncomputable def xB (j : Nat) : List (Nat × AV) := [(45, .agg [I 7, I 0, .nils, I 0, .bool false, .bool false, .bool false]), (47, .bool false), (48, .bool false), (49, .tup []), (50, .tup []), (51, .tup []), (52, .tup []), (53, .tup []), (54, .tup []), (55, .tup []), (56, .tup []), (57, .tup []), (61, .bool true), (62, .bool true), (63, .ptr (528 + j) 0), (64, .ptr (528 + j) 0), (65, I 7), (66, .bool false), (67, .bool false), (68, .ptr (528 + j) 4), (69, .bool false), (70, .bool false), (71, .bool false), (72, .ptr (528 + j) 5), (73, .bool false), (74, .bool false), (75, .bool false), (76, .ptr (528 + j) 6), (77, .bool false), (78, .bool false)]
noncomputable def fr0 (m : Nat) : Fr := ⟨layT ((9, I 0) :: com m) .nil, 82, [], 3, none⟩
noncomputable def frA (m j : Nat) : Fr := ⟨layT (com m ++ mid m j ++ xA j) .nil, 82, [], 3, none⟩
noncomputable def frB (m j : Nat) : Fr := ⟨layT (com m ++ mid m j ++ xB j) .nil, 82, [], 3, none⟩
noncomputable def stF (m : Nat) : Nat → Fr
  | 0 => fr0 m
  | j + 1 => bif Nat.blt j 150 then frA m j else frB m j
noncomputable def xblk (j : Nat) : Blk := .cells 37 (bif Nat.blt j 150 then [I 0, I 0, .nils, I 0, .bool true, .bool true, .bool true] else [I 7, I 0, .nils, I 0, .bool false, .bool false, .bool false]) false true
noncomputable def t0 : Tr Blk := layL aAud.T (layL aDoc.T (layL aNew.T (layL aNew.S .nil)))
noncomputable def hB : Nat → Tr Blk
  | 0 => t0
  | j + 1 => bif Nat.blt j 150 then ((hB j).set 527 (aud (j + 1))).set (528 + j) (xblk j) else (hB j).set (528 + j) (xblk j)
noncomputable def hI (i : Nat) : H := ⟨hB i, 528 + i, gl⟩
noncomputable def fr7 (m i : Nat) (fr : Fr) (b : AV) : Fr := ⟨((((fr.tm.set 36 (I i)).set 37 (W m)).set 38 (.int .i64 (wrapA .i64 (.ofNat m)))).set 39 (.int .i64 (X m))).set 40 b, 82, [], 3, none⟩

theorem r7_0 (m n : Nat) (h : H) : Rn (n + 1) (.code r7 (fr0 m) h) = some (.code .nrm (fr7 m 0 (fr0 m) (.bool (ltI (.ofNat 0) (X m)))) h) := by kernel_rfl
theorem r7_A (m n j : Nat) (h : H) : Rn (n + 1) (.code r7 (frA m j) h) = some (.code .nrm (fr7 m (j + 1) (frA m j) (.bool (ltI (.ofNat (j + 1)) (X m)))) h) := by kernel_rfl
theorem r7_B (m n j : Nat) (h : H) : Rn (n + 1) (.code r7 (frB m j) h) = some (.code .nrm (fr7 m (j + 1) (frB m j) (.bool (ltI (.ofNat (j + 1)) (X m)))) h) := by kernel_rfl
theorem r7_run (m n i : Nat) (h : H) : Rn (n + 1) (.code r7 (stF m i) h) = some (.code .nrm (fr7 m i (stF m i) (.bool (ltI (.ofNat i) (X m)))) h) := by
  cases i with
  | zero => exact r7_0 m n h
  | succ j =>
    show Rn (n + 1) (.code r7 (bif Nat.blt j 150 then frA m j else frB m j) h) = some (.code .nrm (fr7 m (j + 1) (bif Nat.blt j 150 then frA m j else frB m j) _) h)
    cases Nat.blt j 150
    · exact r7_B m n j h
    · exact r7_A m n j h
theorem cnd_run (m n i : Nat) (b : Bool) (fr : Fr) (h : H) : Rn (n + 2) (.code (.cond (.tmp 40) .skip (.exit 0)) (fr7 m i fr (.bool b)) h) = some (.code (if b then .nrm else .exit 0) (fr7 m i fr (.bool b)) h) := by
  rw [Rn_code]
  have e : evOp h.gl (fr7 m i fr (.bool b)).tm (.tmp 40) = some (.bool b) := by
    simp only [evOp, fr7, Tr.get_set, if_true]
  unfold codeA
  simp only [e]
  cases b <;> rfl
end Go.Proofs.Lv
