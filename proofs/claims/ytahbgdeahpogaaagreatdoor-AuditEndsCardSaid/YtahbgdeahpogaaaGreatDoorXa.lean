/- An executor for the translated code on an abstract heap, and what that heap says of the memory. No condition. -/
import GoSem.Step
import Derived.RangeFuncIn
import Derived.DefersIn
namespace Go.Xec

inductive Tr (α : Type) where
  | nil
  | node (v : Option α) (l r : Tr α)

noncomputable def Tr.get0 {α : Type} : Tr α → Nat → Option α
  | .nil, _ => none
  | .node v l r, n => bif Nat.beq n 0 then v else bif Nat.beq (n % 2) 1 then l.get0 (n / 2) else r.get0 (n / 2 - 1)

noncomputable def Tr.setAt {α : Type} : Nat → Tr α → Nat → α → Tr α
  | 0, t, _, _ => t
  | d + 1, .nil, n, x => bif Nat.beq n 0 then .node (some x) .nil .nil else bif Nat.beq (n % 2) 1 then .node none (Tr.setAt d .nil (n / 2) x) .nil else .node none .nil (Tr.setAt d .nil (n / 2 - 1) x)
  | d + 1, .node v l r, n, x => bif Nat.beq n 0 then .node (some x) l r else bif Nat.beq (n % 2) 1 then .node v (Tr.setAt d l (n / 2) x) r else .node v l (Tr.setAt d r (n / 2 - 1) x)

inductive Pos where
  | e
  | o (p : Pos)
  | i (p : Pos)

noncomputable def posAt (d : Nat) : Nat → Pos :=
  Nat.rec (motive := fun _ => Nat → Pos) (fun _ => .e) (fun _ ih n => bif Nat.beq n 0 then .e else bif Nat.beq (n % 2) 1 then .o (ih (n / 2)) else .i (ih (n / 2 - 1))) d
noncomputable def pos (n : Nat) : Pos := posAt (n + 1) n

/-- what stands at a path -/
noncomputable def getP {α : Type} (p : Pos) : Tr α → Option α :=
  Pos.rec (motive := fun _ => Tr α → Option α)
    (fun t => Tr.rec (motive := fun _ => Option α) none (fun v _ _ _ _ => v) t)
    (fun _ ih t => Tr.rec (motive := fun _ => Option α) none (fun _ l _ _ _ => ih l) t)
    (fun _ ih t => Tr.rec (motive := fun _ => Option α) none (fun _ _ r _ _ => ih r) t) p

/-- a trie with one thing more -/
noncomputable def setP {α : Type} (x : α) (p : Pos) : Tr α → Tr α :=
  Pos.rec (motive := fun _ => Tr α → Tr α)
    (fun t => Tr.rec (motive := fun _ => Tr α) (.node (some x) .nil .nil) (fun _ l r _ _ => .node (some x) l r) t)
    (fun _ ih t => Tr.rec (motive := fun _ => Tr α) (.node none (ih .nil) .nil) (fun v l r _ _ => .node v (ih l) r) t)
    (fun _ ih t => Tr.rec (motive := fun _ => Tr α) (.node none .nil (ih .nil)) (fun v l r _ _ => .node v l (ih r)) t) p

noncomputable def Tr.get {α : Type} (t : Tr α) (n : Nat) : Option α := getP (pos n) t
noncomputable def Tr.set {α : Type} (t : Tr α) (n : Nat) (x : α) : Tr α := setP x (pos n) t

/-- abstract values: as the model's, but with block numbers of the abstract heap; a slice bears the element's size in cells if its capacity is not known ('open'), else 0 -/
inductive AV where
  | bool (b : Bool)
  | int (k : IntKind) (n : Int)
  | str (s : List UInt8)
  | nilp
  | ptr (b o : Nat)
  | nils
  | sl (b o len cap op : Nat)
  | nilm
  | map (b : Nat)
  | func (fn : Fn) (first captured : List AV)
  | yield (l : Nat)
  | nilf
  | iface (t : Nat) (v : AV)
  | nili
  | agg (cs : List AV)
  | tup (vs : List AV)

inductive Blk where
  | cells (el : Nat) (cs : List AV) (opn clean : Bool)
  | map (es : List (AV × AV × Nat)) (clock : Nat)
  | siter (s : List UInt8) (pos : Nat)
  | miter
  | loop (st : LoopState) (pend : Option Code) (fn : Nat) (tm : Tr AV) (nt : Nat) (ps : Array Tmp) (asg body : Code) (df : Nat)
  | defs
  | taken
  | dead

/-- the heap; 'gl': the package-level variables that lie in it, under their own numbers -/
structure H where
  blk : Tr Blk
  next : Nat
  gl : List Nat

noncomputable def H.add (h : H) (b : Blk) : H := ⟨h.blk.set h.next b, h.next + 1, h.gl⟩
noncomputable def H.put (h : H) (i : Nat) (b : Blk) : H := ⟨h.blk.set i b, h.next, h.gl⟩
noncomputable def memN (n : Nat) : List Nat → Bool
  | [] => false
  | m :: r => bif Nat.beq m n then true else memN n r

structure TI where
  und : TypeDesc
  size : Nat
  bytes : Nat
  zero : AV
  comparable : Bool
  agg : Bool

noncomputable def toAV0 : Value → Option AV
  | .bool b => some (.bool b)
  | .int k n => some (.int k n)
  | .string s => some (.str s.data.toList)
  | .pointer none => some .nilp
  | .slice none 0 0 => some .nils
  | .map none => some .nilm
  | .nilFunc => some .nilf
  | .nilIface => some .nili
  | _ => none

noncomputable def toAVs : List Value → Option (List AV)
  | [] => some []
  | v :: vs => match toAV0 v with
    | none => none
    | some a => match toAVs vs with
      | none => none
      | some r => some (a :: r)

noncomputable def toAV : Value → Option AV
  | .agg cs => (toAVs cs.toList).map .agg
  | .tuple cs => (toAVs cs.toList).map .tup
  | .iface t v => (toAV0 v).map (.iface t)
  | v => toAV0 v

noncomputable def isAggD : TypeDesc → Bool
  | .struct _ | .array _ _ => true
  | _ => false

noncomputable def ti (p : Program) (t : Nat) : Option TI :=
  match p.info? t with
  | none => none
  | some i => match p.underlying t with
    | none => none
    | some u => match i.zero.bind toAV with
      | none => none
      | some z => some ⟨u, i.size, i.bytes, z, i.comparable, isAggD u⟩

noncomputable def AV.cells : AV → List AV
  | .agg cs => cs
  | v => [v]

noncomputable def beqK (a b : IntKind) : Bool := Nat.beq a.ctorIdx b.ctorIdx
noncomputable def beqB : Bool → Bool → Bool
  | true, b => b
  | false, b => !b
noncomputable def beqI : Int → Int → Bool
  | .ofNat a, .ofNat b => Nat.beq a b
  | .negSucc a, .negSucc b => Nat.beq a b
  | _, _ => false
noncomputable def leI : Int → Int → Bool
  | .ofNat a, .ofNat b => Nat.ble a b
  | .negSucc a, .negSucc b => Nat.ble b a
  | .ofNat _, .negSucc _ => false
  | .negSucc _, .ofNat _ => true
noncomputable def ltI (a b : Int) : Bool := !leI b a
noncomputable def beqU (a b : UInt8) : Bool := Nat.beq a.toNat b.toNat
noncomputable def beqS : List UInt8 → List UInt8 → Bool
  | [], [] => true
  | a :: x, b :: y => bif beqU a b then beqS x y else false
  | _, _ => false
noncomputable def ltS : List UInt8 → List UInt8 → Bool
  | _, [] => false
  | [], _ :: _ => true
  | a :: x, b :: y => bif Nat.blt a.toNat b.toNat then true else bif beqU a b then ltS x y else false

/-- n elements from off on, if they are there -/
noncomputable def cut {α : Type} (cs : List α) (off n : Nat) : Option (List α) :=
  let l := (cs.drop off).take n
  bif Nat.beq l.length n then some l else none

noncomputable def part (t : TI) (cs : List AV) (off : Nat) : Option AV :=
  match t.agg with
  | true => (match cut cs off t.size with | some l => some (.agg l) | none => none)
  | false => cs[off]?

noncomputable def putAt {α : Type} : List α → Nat → List α → List α
  | cs, 0, [] => cs
  | _ :: cs, 0, y :: ys => y :: putAt cs 0 ys
  | c :: cs, n + 1, ys => c :: putAt cs n ys
  | [], _, _ => []

noncomputable def loadN (h : H) (b o n : Nat) : Option (List AV) :=
  match h.blk.get b with
  | some (.cells _ cs _ _) => cut cs o n
  | _ => none

noncomputable def storeN (h : H) (b o : Nat) (new : List AV) : Option H :=
  match h.blk.get b with
  | some (.cells el cs op true) => bif Nat.ble (o + new.length) cs.length then some (h.put b (.cells el (putAt cs o new) op true)) else none
  | _ => none

noncomputable def loadA (p : Program) (h : H) (t b o : Nat) : Option AV :=
  match ti p t with
  | none => none
  | some i => match h.blk.get b with
    | some (.cells _ cs _ _) => part i cs o
    | _ => none

/-- may each of these be one cell's value? -/
noncomputable def flat : List AV → Bool
  | [] => true
  | .agg _ :: _ => false
  | .tup _ :: _ => false
  | _ :: r => flat r

noncomputable def storeA (p : Program) (h : H) (t b o : Nat) (v : AV) : Option H :=
  match ti p t with
  | none => none
  | some i => bif Nat.beq v.cells.length i.size && flat v.cells then storeN h b o v.cells else none

noncomputable def cleanAt (h : H) (b : Nat) : Bool :=
  match h.blk.get b with
  | some (.cells _ _ _ c) => c
  | _ => false

noncomputable def eqPtr (p : Program) (h : H) (el a o b o' : Nat) : Option Bool :=
  match ti p el with
  | none => none
  | some e => bif Nat.beq e.size 0 then none else
    bif Nat.beq a b then some (Nat.beq o o') else
    bif cleanAt h a && cleanAt h b then some false else none

noncomputable def eqFields (p : Program) (eq : Nat → AV → AV → Option Bool) (xs ys : List AV) : List Field → Option Bool
  | [] => some true
  | f :: fs => bif f.name = "_" then eqFields p eq xs ys fs else
    match ti p f.type with
    | none => none
    | some e => match part e xs f.offset with
      | none => none
      | some a => match part e ys f.offset with
        | none => none
        | some b => match eq f.type a b with
          | some true => eqFields p eq xs ys fs
          | some false => some false
          | none => none

noncomputable def eqElems (eq : Nat → AV → AV → Option Bool) (el : Nat) (e : TI) (xs ys : List AV) : Nat → Nat → Option Bool
  | 0, _ => some true
  | n + 1, i => match part e xs (i * e.size) with
    | none => none
    | some a => match part e ys (i * e.size) with
      | none => none
      | some b => match eq el a b with
        | some true => eqElems eq el e xs ys n (i + 1)
        | some false => some false
        | none => none

noncomputable def eqIface (p : Program) (eq : Nat → AV → AV → Option Bool) (tx ty : Nat) (vx vy : AV) : Option Bool :=
  bif !(Nat.beq tx ty) then some false else
  match ti p tx with
  | none => none
  | some e => bif e.comparable then eq tx vx vy else none

noncomputable def eqA (p : Program) (h : H) : Nat → Nat → AV → AV → Option Bool
  | 0, _, _, _ => none
  | d + 1, t, x, y =>
    match ti p t with
    | none => none
    | some i => match i.und, x, y with
      | .bool, .bool a, .bool b => some (beqB a b)
      | .int _, .int k a, .int k' b => bif beqK k k' then some (beqI a b) else none
      | .string, .str a, .str b => some (beqS a b)
      | .pointer _, .nilp, .nilp => some true
      | .pointer _, .nilp, .ptr _ _ => some false
      | .pointer _, .ptr _ _, .nilp => some false
      | .pointer el, .ptr a o, .ptr b o' => eqPtr p h el a o b o'
      | .interface _, .nili, .nili => some true
      | .interface _, .nili, .iface _ _ => some false
      | .interface _, .iface _ _, .nili => some false
      | .interface _, .iface tx vx, .iface ty vy => eqIface p (eqA p h d) tx ty vx vy
      | .struct fields, .agg xs, .agg ys => bif p.stoodInHeld t then none else eqFields p (eqA p h d) xs ys fields.toList
      | .array len el, .agg xs, .agg ys => match ti p el with
        | none => none
        | some e => eqElems (eqA p h d) el e xs ys len 0
      | .slice _, .nils, .nils => some true
      | .slice _, .nils, .sl .. => some false
      | .slice _, .sl .., .nils => some false
      | .map _ _, .nilm, .nilm => some true
      | .map _ _, .nilm, .map _ => some false
      | .map _ _, .map _, .nilm => some false
      | .func _ _ _, .nilf, .nilf => some true
      | .func _ _ _, .nilf, .func .. => some false
      | .func _ _ _, .func .., .nilf => some false
      | .func _ _ _, .nilf, .yield .. => some false
      | .func _ _ _, .yield .., .nilf => some false
      | _, _, _ => none

noncomputable def cmpI (op : BinOp) (a b : Int) : Option AV :=
  match op with
  | .eql => some (.bool (beqI a b))
  | .neq => some (.bool (!beqI a b))
  | .lss => some (.bool (ltI a b))
  | .leq => some (.bool (leI a b))
  | .gtr => some (.bool (ltI b a))
  | .geq => some (.bool (leI b a))
  | _ => none

noncomputable def pow2 : IntKind → Nat
  | .i8 | .u8 => 256
  | .i16 | .u16 => 65536
  | .i32 | .u32 => 4294967296
  | .i64 | .u64 => 18446744073709551616
noncomputable def half : IntKind → Nat
  | .i8 | .u8 => 128
  | .i16 | .u16 => 32768
  | .i32 | .u32 => 2147483648
  | .i64 | .u64 => 9223372036854775808
/-- the residue of an integer, as a natural number -/
noncomputable def res (k : IntKind) : Int → Nat
  | .ofNat n => n % pow2 k
  | .negSucc n => pow2 k - 1 - n % pow2 k
noncomputable def unres (k : IntKind) (m : Nat) : Int :=
  bif k.signed && Nat.ble (half k) m then Int.negSucc (pow2 k - 1 - m) else Int.ofNat m
noncomputable def wrapA (k : IntKind) (n : Int) : Int := unres k (res k n)

noncomputable def arith (op : BinOp) (k : IntKind) (a b : Int) : Option AV :=
  match op with
  | .add => some (.int k (wrapA k (a + b)))
  | .sub => some (.int k (wrapA k (a - b)))
  | .mul => some (.int k (wrapA k (a * b)))
  | .quo => bif beqI b 0 then none else some (.int k (wrapA k (a.tdiv b)))
  | .rem => bif beqI b 0 then none else some (.int k (a.tmod b))
  | .and => some (.int k (unres k (Nat.land (res k a) (res k b))))
  | .or => some (.int k (unres k (Nat.lor (res k a) (res k b))))
  | .xor => some (.int k (unres k (Nat.xor (res k a) (res k b))))
  | .andNot => some (.int k (unres k (Nat.land (res k a) (pow2 k - 1 - res k b))))
  | _ => cmpI op a b

noncomputable def strOp (op : BinOp) (a b : List UInt8) : Option AV :=
  match op with
  | .add => bif Nat.ble (a.length + b.length) 1000000 then some (.str (a ++ b)) else none
  | .eql => some (.bool (beqS a b))
  | .neq => some (.bool (!beqS a b))
  | .lss => some (.bool (ltS a b))
  | .leq => some (.bool (ltS a b || beqS a b))
  | .gtr => some (.bool (!(ltS a b || beqS a b)))
  | .geq => some (.bool (!ltS a b))
  | _ => none

noncomputable def shiftA (op : BinOp) (k : IntKind) (a : Int) (y : Int) : Option AV :=
  match y with
  | .negSucc _ => none
  | .ofNat y =>
    match op with
    | .shl => some (.int k (wrapA k (a * Int.ofNat (2 ^ (bif Nat.ble y k.bits then y else k.bits)))))
    | .shr => some (.int k (a.fdiv (Int.ofNat (2 ^ (bif Nat.ble y k.bits then y else k.bits)))))
    | _ => none

noncomputable def isShift : BinOp → Bool
  | .shl | .shr => true
  | _ => false

noncomputable def binA (p : Program) (h : H) (op : BinOp) (xt : Nat) (x y : AV) : Option AV :=
  match x, y with
  | .int k a, .int k' b => match isShift op with
    | true => shiftA op k a b
    | false => bif beqK k k' then arith op k a b else none
  | .str a, .str b => strOp op a b
  | x, y => match op with
    | .eql => (match eqA p h 20 xt x y with | some b => some (.bool b) | none => none)
    | .neq => (match eqA p h 20 xt x y with | some b => some (.bool (!b)) | none => none)
    | _ => none

noncomputable def isConstO : Operand → Bool
  | .const _ => true
  | _ => false

/-- the model's guard before == and != goes through -/
noncomputable def guardOk (p : Program) (op : BinOp) (xt : Nat) (x y : Operand) (a b : AV) : Bool :=
  match a, b with
  | .nili, .nili => isConstO x || isConstO y
  | .agg _, .agg _ => (match op with | .eql | .neq => !p.eqGuardType p.depth xt | _ => true)
  | _, _ => true

noncomputable def unA (op : UnOp) (x : AV) : Option AV :=
  match x with
  | .int k n => (match op with
    | .neg => some (.int k (wrapA k (0 - n)))
    | .xor => some (.int k (unres k (pow2 k - 1 - res k n)))
    | _ => none)
  | .bool b => (match op with | .not => some (.bool (!b)) | _ => none)
  | _ => none

noncomputable def fieldOf (p : Program) (s i : Nat) : Option Field :=
  match ti p s with
  | some e => (match e.und with | .struct fs => fs[i]? | _ => none)
  | none => none

noncomputable def sizeA (p : Program) (t : Nat) : Option Nat :=
  match ti p t with
  | some e => some e.size
  | none => none

noncomputable def fieldAddrA (p : Program) (s : Nat) (x : AV) (i : Nat) : Option AV :=
  match x with
  | .ptr b o => match fieldOf p s i with
    | none => none
    | some f => match sizeA p f.type with
      | none => none
      | some sz => bif Nat.beq sz 0 then none else some (.ptr b (o + f.offset))
  | _ => none

noncomputable def fieldA (p : Program) (s : Nat) (x : AV) (i : Nat) : Option AV :=
  match x with
  | .agg cs => match fieldOf p s i with
    | none => none
    | some f => match ti p f.type with
      | none => none
      | some t => part t cs f.offset
  | _ => none

noncomputable def elemAddr (p : Program) (el b o len : Nat) (i : AV) : Option AV :=
  match i with
  | .int _ (.ofNat n) => match sizeA p el with
    | some sz => bif Nat.blt n len then some (.ptr b (o + n * sz)) else none
    | none => none
  | _ => none

noncomputable def indexAddrA (p : Program) (t : Nat) (x i : AV) : Option AV :=
  match ti p t with
  | none => none
  | some e => match e.und, x with
    | .array len el, .ptr b o => elemAddr p el b o len i
    | .slice el, .sl b o len _ _ => elemAddr p el b o len i
    | _, _ => none

noncomputable def indexA (p : Program) (t : Nat) (x i : AV) : Option AV :=
  match i with
  | .int _ (.ofNat n) => match ti p t with
    | none => none
    | some e => match e.und, x with
      | .array len el, .agg cs => match ti p el with
        | some q => bif Nat.blt n len then part q cs (n * q.size) else none
        | none => none
      | .string, .str s => match s[n]? with
        | some b => some (.int .u8 (.ofNat b.toNat))
        | none => none
      | _, _ => none
  | _ => none

noncomputable def bound (x : Option AV) (dflt lim : Nat) : Option Nat :=
  match x with
  | none => some dflt
  | some (.int _ (.ofNat n)) => bif Nat.ble n lim then some n else none
  | some _ => none

/-- low, high, max -/
noncomputable def bounds (len cap : Nat) (lo hi mx : Option AV) : Option (Nat × Nat × Nat) :=
  match mx, hi with
  | some _, none => none
  | _, _ => match bound mx cap cap with
    | none => none
    | some m => match bound hi len m with
      | none => none
      | some h => match bound lo 0 h with
        | none => none
        | some l => some (l, h, m)

noncomputable def sliceSl (p : Program) (el b o len cap op : Nat) (lo hi mx : Option AV) : Option AV :=
  match sizeA p el with
  | none => none
  | some sz => match bounds len cap lo hi mx with
    | none => none
    | some (l, h, m) =>
      match op, mx with
      | 0, _ => some (.sl b (bif Nat.beq m l then o else o + l * sz) (h - l) (m - l) 0)
      | _, some _ => some (.sl b (bif Nat.beq m l then o else o + l * sz) (h - l) (m - l) 0)
      | op, none => bif Nat.beq op sz then some (.sl b (o + l * sz) (h - l) (m - l) op) else none

noncomputable def sliceA (p : Program) (t : Nat) (x : AV) (lo hi mx : Option AV) : Option AV :=
  match ti p t with
  | none => none
  | some e => match e.und, x with
    | .string, .str s => (match mx with
      | some _ => none
      | none => match bounds s.length s.length lo hi none with
        | none => none
        | some (l, h, _) => some (.str ((s.drop l).take (h - l))))
    | .slice el, .sl b o len cap op => sliceSl p el b o len cap op lo hi mx
    | .slice el, .nils => (match sizeA p el with
      | none => none
      | some _ => match bounds 0 0 lo hi mx with | none => none | some _ => some .nils)
    | .array n el, .ptr b o => sliceSl p el b o n n 0 lo hi mx
    | _, _ => none

noncomputable def fillA (sz : Nat → Option (Nat × Nat)) (cells : List AV) : List (Nat × AV) → Option (List AV)
  | [] => some cells
  | (i, v) :: rest => match sz i with
    | none => none
    | some (off, size) => bif Nat.beq v.cells.length size && Nat.ble (off + size) cells.length then fillA sz (putAt cells off v.cells) rest else none

noncomputable def rep {α : Type} : Nat → List α → List α
  | 0, _ => []
  | n + 1, l => l ++ rep n l

noncomputable def placesA (p : Program) : List Field → Option (List (Nat × Nat))
  | [] => some []
  | f :: fs => match sizeA p f.type with
    | none => none
    | some s => match placesA p fs with
      | none => none
      | some r => some ((f.offset, s) :: r)

noncomputable def buildA (p : Program) (t : Nat) (parts : List (Nat × AV)) : Option AV :=
  match ti p t with
  | none => none
  | some i => match i.und with
    | .struct fields => (match placesA p fields.toList with
      | none => none
      | some pl => match fillA (fun j => pl[j]?) i.zero.cells parts with | some l => some (.agg l) | none => none)
    | .array _ el => (match sizeA p el with
      | none => none
      | some s => match fillA (fun j => some (j * s, s)) i.zero.cells parts with | some l => some (.agg l) | none => none)
    | _ => none

noncomputable def evs (ρ : Operand → Option AV) : List Operand → Option (List AV)
  | [] => some []
  | x :: xs => match ρ x with
    | none => none
    | some v => match evs ρ xs with
      | none => none
      | some vs => some (v :: vs)

noncomputable def evps (ρ : Operand → Option AV) : List (Nat × Operand) → Option (List (Nat × AV))
  | [] => some []
  | (i, x) :: xs => match ρ x with
    | none => none
    | some v => match evps ρ xs with
      | none => none
      | some vs => some ((i, v) :: vs)

noncomputable def evo (ρ : Operand → Option AV) : Option Operand → Option (Option AV)
  | none => some none
  | some x => match ρ x with
    | none => none
    | some v => some (some v)

noncomputable def lenA (p : Program) (h : H) (t : Nat) (x : AV) : Option Nat :=
  match ti p t with
  | none => none
  | some e => match e.und, x with
    | .string, .str s => some s.length
    | .array n _, _ => some n
    | .pointer a, _ => (match ti p a with | some q => (match q.und with | .array n _ => some n | _ => none) | none => none)
    | .slice _, .sl _ _ n _ _ => some n
    | .slice _, .nils => some 0
    | .map _ _, .nilm => some 0
    | .map _ _, .map r => (match h.blk.get r with | some (.map es _) => some es.length | _ => none)
    | _, _ => none

noncomputable def capA (p : Program) (t : Nat) (x : AV) : Option Nat :=
  match ti p t with
  | none => none
  | some e => match e.und, x with
    | .slice _, .sl _ _ _ c 0 => some c
    | .slice _, .nils => some 0
    | _, _ => none

noncomputable def findA (p : Program) (h : H) (kt : Nat) (k : AV) : List (AV × AV × Nat) → Nat → Option (Option (Nat × AV))
  | [], _ => some none
  | e :: es, i => match eqA p h 20 kt k e.1 with
    | some true => some (some (i, e.2.1))
    | some false => findA p h kt k es (i + 1)
    | none => none

noncomputable def keyFields (p : Program) (chk : Nat → AV → Bool) (cs : List AV) : List Field → Bool
  | [] => true
  | f :: fs => bif f.name = "_" then keyFields p chk cs fs else
    match ti p f.type with
    | none => false
    | some e => match part e cs f.offset with
      | none => false
      | some x => bif chk f.type x then keyFields p chk cs fs else false

noncomputable def keyElems (chk : Nat → AV → Bool) (el : Nat) (e : TI) (cs : List AV) : Nat → Nat → Bool
  | 0, _ => true
  | n + 1, i => match part e cs (i * e.size) with
    | none => false
    | some x => bif chk el x then keyElems chk el e cs n (i + 1) else false

/-- keys that are surely hashable -/
noncomputable def keyOk (p : Program) : Nat → Nat → AV → Bool
  | 0, _, _ => false
  | d + 1, t, k => match ti p t with
    | none => false
    | some i => match i.und, k with
      | .bool, _ => true
      | .int _, _ => true
      | .string, _ => true
      | .pointer _, _ => true
      | .array n el, .agg cs => (match ti p el with | some e => keyElems (keyOk p d) el e cs n 0 | none => false)
      | .struct fs, .agg cs => keyFields p (keyOk p d) cs fs.toList
      | _, _ => false

noncomputable def entriesOf (h : H) : AV → Option (List (AV × AV × Nat))
  | .nilm => some []
  | .map r => (match h.blk.get r with | some (.map es _) => some es | _ => none)
  | _ => none

noncomputable def lookupA (p : Program) (h : H) (t : Nat) (m k : AV) (ok : Bool) : Option AV :=
  match ti p t with
  | none => none
  | some q => match q.und with
    | .map kt et => (match keyOk p 10 kt k, ti p et, entriesOf h m with
      | true, some e, some es => (match findA p h kt k es 0 with
        | none => none
        | some (some (_, v)) => some (bif ok then .tup [v, .bool true] else v)
        | some none => some (bif ok then .tup [e.zero, .bool false] else e.zero))
      | _, _, _ => none)
    | _ => none

/-- bytes of cells -/
noncomputable def bytesOf : List AV → Option (List UInt8)
  | [] => some []
  | .int .u8 (.ofNat n) :: r => (match bytesOf r with | some l => some (UInt8.ofNat n :: l) | none => none)
  | _ => none

noncomputable def convSl (p : Program) (h : H) (e : Nat) (x : AV) : Option AV :=
  match ti p e with
  | none => none
  | some q => match q.und, x with
    | .int .u8, .nils => some (.str [])
    | .int .u8, .sl b o n _ _ => (match loadN h b o n with
      | some l => (match bytesOf l with | some s => some (.str s) | none => none)
      | none => none)
    | _, _ => none

noncomputable def toUnsafe (p : Program) (h : H) (t b o : Nat) : Option AV :=
  match sizeA p t with
  | none => none
  | some sz => match h.blk.get b with
    | some (.cells _ cs _ _) => bif !(Nat.beq sz 0) && Nat.blt o cs.length then some (.ptr b o) else none
    | _ => none

noncomputable def fromUnsafe (p : Program) (h : H) (u b o : Nat) : Option AV :=
  match sizeA p u with
  | none => none
  | some _ => match h.blk.get b with
    | some (.cells e cs false _) => bif Nat.blt o cs.length && liesAt p p.depth e (cs.length / p.cellsOf e) o u 1 then some (.ptr b o) else none
    | _ => none

noncomputable def convA (p : Program) (h : H) (src dst : Nat) (x : AV) : Option AV :=
  match ti p src with
  | none => none
  | some s => match ti p dst with
    | none => none
    | some d => match d.und, x with
      | .int k, .int _ n => some (.int k (wrapA k n))
      | .string, .str b => some (.str b)
      | .string, x => (match s.und with | .slice e => convSl p h e x | _ => none)
      | .unsafePointer, .nilp => (match s.und with | .pointer _ => some .nilp | _ => none)
      | .unsafePointer, .ptr b o => (match s.und with | .pointer t => toUnsafe p h t b o | _ => none)
      | .pointer _, .nilp => (match s.und with | .unsafePointer => some .nilp | _ => none)
      | .pointer u, .ptr b o => (match s.und with | .unsafePointer => fromUnsafe p h u b o | _ => none)
      | _, _ => none

noncomputable def pickA (c : Option AV) (a b : Option AV) : Option AV :=
  match c with
  | some (.bool true) => a
  | some (.bool false) => b
  | _ => none

noncomputable def methodOf (p : Program) (t : Nat) (name : String) : Option (Nat × Bool) :=
  match p.info? t with
  | none => none
  | some i => match i.methods.find? (·.name == name) with
    | none => none
    | some m => match m.path.isEmpty, m.func with
      | true, some f => some f
      | _, _ => none

noncomputable def nilChkM (p : Program) (m : String) (t : Nat) (v : AV) (a c : List AV) : Option AV :=
  match ti p t with
  | none => none
  | some _ => match methodOf p t m, v with
    | some (_, true), _ => some (.func (.method m) a c)
    | some (_, false), .nilp => none
    | some (_, false), _ => some (.func (.method m) a c)
    | none, _ => none

noncomputable def nilChk (p : Program) (x : AV) : Option AV :=
  match x with
  | .func (.method m) [.iface t v] c => nilChkM p m t v [.iface t v] c
  | .ptr b o => some (.ptr b o)
  | .func (.func f) a c => some (.func (.func f) a c)
  | .yield l => some (.yield l)
  | .iface t v => some (.iface t v)
  | _ => none

noncomputable def mkIface (p : Program) (t : Nat) (x : AV) : Option AV :=
  match ti p t with
  | none => none
  | some e => match e.und with
    | .interface _ => none
    | _ => some (.iface t x)

noncomputable def assertA (p : Program) (x : AV) (t : Nat) (ok : Bool) : Option AV :=
  match ti p t with
  | none => none
  | some a => match a.und, x with
    | .interface _, _ => none
    | _, .iface u v => bif Nat.beq u t then some (bif ok then .tup [v, .bool true] else v) else bif ok then some (.tup [a.zero, .bool false]) else none
    | _, .nili => bif ok then some (.tup [a.zero, .bool false]) else none
    | _, _ => none

noncomputable def maxs (k : IntKind) (a : Int) : List AV → Option AV
  | [] => some (.int k a)
  | .int _ b :: r => maxs k (bif ltI a b then b else a) r
  | _ => none
noncomputable def mins (k : IntKind) (a : Int) : List AV → Option AV
  | [] => some (.int k a)
  | .int _ b :: r => mins k (bif ltI b a then b else a) r
  | _ => none

/-- builtins that only read -/
noncomputable def lightCall (p : Program) (h : H) (b : Builtin) (ts : Array TypeId) (args : List AV) : Option AV :=
  match b, args, ts[0]? with
  | .len, [x], some t => (match lenA p h t x with | some n => some (.int .i64 (.ofNat n)) | none => none)
  | .cap, [x], some t => (match capA p t x with | some n => some (.int .i64 (.ofNat n)) | none => none)
  | .unsafeSliceData, [.nils], _ => some .nilp
  | .unsafeSliceData, [.sl b o _ c _], _ => bif Nat.beq c 0 then none else some (.ptr b o)
  | .max, .int k a :: rest, _ => maxs k a rest
  | .min, .int k a :: rest, _ => mins k a rest
  | _, _, _ => none

noncomputable def bin2 (p : Program) (h : H) (ρ : Operand → Option AV) (op : BinOp) (xt : Nat) (x y : Operand) : Option AV :=
  match ρ x with
  | none => none
  | some a => match ρ y with
    | none => none
    | some b => bif guardOk p op xt x y a b then binA p h op xt a b else none

noncomputable def map1 (x : Option AV) (f : AV → Option AV) : Option AV :=
  match x with
  | some a => f a
  | none => none
noncomputable def map2 (x y : Option AV) (f : AV → AV → Option AV) : Option AV :=
  match x with
  | some a => (match y with | some b => f a b | none => none)
  | none => none
noncomputable def loadO (p : Program) (h : H) (t : Nat) (x : AV) : Option AV :=
  match x with
  | .ptr b o => loadA p h t b o
  | _ => none
noncomputable def slice4 (p : Program) (ρ : Operand → Option AV) (t : Nat) (x : Operand) (lo hi mx : Option Operand) : Option AV :=
  match ρ x, evo ρ lo, evo ρ hi, evo ρ mx with
  | some x, some lo, some hi, some mx => sliceA p t x lo hi mx
  | _, _, _, _ => none
noncomputable def extractA (x : AV) (i : Nat) : Option AV :=
  match x with
  | .tup vs => vs[i]?
  | _ => none
noncomputable def mkFunc (ρ : Operand → Option AV) (fn : Fn) (first cap : Array Operand) : Option AV :=
  match evs ρ first.toList with
  | none => none
  | some a => match evs ρ cap.toList with
    | none => none
    | some b => some (.func fn a b)
noncomputable def build1 (p : Program) (ρ : Operand → Option AV) (t : Nat) (parts : Array (Nat × Operand)) : Option AV :=
  match evps ρ parts.toList with
  | some ps => buildA p t ps
  | none => none
noncomputable def call1 (p : Program) (h : H) (ρ : Operand → Option AV) (c : Call) : Option AV :=
  match c.callee with
  | .builtin b => (match evs ρ c.args.toList with | some vs => lightCall p h b c.argTypes vs | none => none)
  | _ => none

/-- light operations: they only read -/
noncomputable def light (p : Program) (h : H) (ρ : Operand → Option AV) (o : Op) : Option AV :=
  match o with
  | .move x => ρ x
  | .assign x => ρ x
  | .pick c a b => pickA (ρ c) (ρ a) (ρ b)
  | .load t a => map1 (ρ a) (loadO p h t)
  | .nilCheck x => map1 (ρ x) (nilChk p)
  | .binOp op xt x y _ => bin2 p h ρ op xt x y
  | .unOp op _ x => map1 (ρ x) (unA op)
  | .convert s d x => map1 (ρ x) (convA p h s d)
  | .makeInterface t x => map1 (ρ x) (mkIface p t)
  | .makeFunc fn first cap => mkFunc ρ fn first cap
  | .slice t x lo hi mx => slice4 p ρ t x lo hi mx
  | .fieldAddr s x i => map1 (ρ x) fun v => fieldAddrA p s v i
  | .field s x i => map1 (ρ x) fun v => fieldA p s v i
  | .indexAddr t x i => map2 (ρ x) (ρ i) (indexAddrA p t)
  | .index t x i => map2 (ρ x) (ρ i) (indexA p t)
  | .lookup t m k ok => map2 (ρ m) (ρ k) fun m k => lookupA p h t m k ok
  | .typeAssert x _ t ok => map1 (ρ x) fun v => assertA p v t ok
  | .extract t i => map1 (ρ t) fun v => extractA v i
  | .build t parts => build1 p ρ t parts
  | .call c => call1 p h ρ c
  | _ => none

noncomputable def mkSlice (p : Program) (nx t len : Nat) (ps : List (Nat × AV)) : Option (AV × Blk) :=
  match ti p t with
  | none => none
  | some q => match q.und with
    | .slice el => (match ti p el with
      | none => none
      | some e => match fillA (fun j => some (j * e.size, e.size)) (rep len e.zero.cells) ps with
        | some cs => bif Nat.beq e.zero.cells.length e.size && Nat.ble (len * e.size) 1000000 && !(Nat.beq e.size 0) then some (.sl nx 0 len len 0, .cells el cs false true) else none
        | none => none)
    | _ => none

noncomputable def mkMake (p : Program) (nx t : Nat) (l c : AV) : Option (AV × Blk) :=
  match l, c with
  | .int _ (.ofNat l), .int _ (.ofNat c) => (match ti p t with
    | none => none
    | some q => match q.und with
      | .slice el => (match ti p el with
        | none => none
        | some e => bif Nat.ble l c && Nat.ble c 1000000 && Nat.ble e.bytes 100000 && Nat.beq e.zero.cells.length e.size && !(Nat.beq e.size 0) then some (.sl nx 0 l c 0, .cells el (rep c e.zero.cells) false true) else none)
      | _ => none)
  | _, _ => none

noncomputable def mkIter (p : Program) (nx t : Nat) (x : AV) : Option (AV × Blk) :=
  match ti p t with
  | none => none
  | some q => match q.und, x with
    | .string, .str s => some (.ptr nx 0, .siter s 0)
    | .map _ _, .nilm => some (.ptr nx 0, .miter)
    | _, _ => none

noncomputable def mkMap (x : Option AV) (nx : Nat) : Option (AV × Blk) :=
  match x with
  | some (.int _ _) => some (.map nx, .map [] 0)
  | _ => none

/-- operations that make a block out of their operands -/
noncomputable def makes (p : Program) (nx : Nat) (ρ : Operand → Option AV) (o : Op) : Option (AV × Blk) :=
  match o with
  | .alloc t => (match ti p t with | some i => some (.ptr nx 0, .cells t i.zero.cells false true) | none => none)
  | .box t x => (match ρ x with | some v => some (.ptr nx 0, .cells t v.cells false true) | none => none)
  | .buildSlice t len parts => (match evps ρ parts.toList with | some ps => mkSlice p nx t len ps | none => none)
  | .makeMap _ none => some (.map nx, .map [] 0)
  | .makeMap t (some x) => (match ti p t with
    | some q => (match q.und with | .map _ _ => mkMap (ρ x) nx | _ => none)
    | none => none)
  | .makeSlice t l c => (match ρ l with | some l => (match ρ c with | some c => mkMake p nx t l c | none => none) | none => none)
  | .range t x => (match ρ x with | some x => mkIter p nx t x | none => none)
  | _ => none

inductive AD where
  | coll (r : Nat)
  | fn (f : Nat) (args : List AV)

structure Fr where
  tm : Tr AV
  nt : Nat
  ds : List AD
  fn : Nat
  rnd : Option Nat

noncomputable def undefA : AV := .tup []
noncomputable def evOp (gl : List Nat) (tm : Tr AV) : Operand → Option AV
  | .tmp t => (match tm.get t with | some v => some v | none => some undefA)
  | .const v => toAV v
  | .global g => bif memN g gl then some (.ptr g 0) else none
  | .func f => some (.func (.func f) [] [])

inductive Ex where
  | nrm | exit (id : Nat) | ret | goto (l : Nat)

inductive Task where
  | code (c : Code) (fr : Fr) (h : H)
  | call (f : Nat) (args : List AV) (h : H)
  | round (l : Nat) (args : List AV) (h : H)
  | dyn (f : AV) (args : List AV) (h : H)
  | scope (body cur : Code) (fr : Fr) (h : H)

inductive Res where
  | code (e : Ex) (fr : Fr) (h : H)
  | val (v : AV) (h : H)

noncomputable def beqAVs (eq : AV → AV → Bool) : List AV → List AV → Bool
  | [], [] => true
  | a :: x, b :: y => bif eq a b then beqAVs eq x y else false
  | _, _ => false

noncomputable def beqFn : Fn → Fn → Bool
  | .func i, .func j => Nat.beq i j
  | .method s, .method t => decide (s = t)
  | _, _ => false

noncomputable def beqAV : Nat → AV → AV → Bool
  | 0, _, _ => false
  | d + 1, x, y => match x, y with
    | .bool a, .bool b => beqB a b
    | .int k a, .int k' b => bif beqK k k' then beqI a b else false
    | .str a, .str b => beqS a b
    | .nilp, .nilp => true
    | .ptr a b, .ptr a' b' => bif Nat.beq a a' then Nat.beq b b' else false
    | .nils, .nils => true
    | .sl b o l c q, .sl b' o' l' c' q' => Nat.beq b b' && Nat.beq o o' && Nat.beq l l' && Nat.beq c c' && Nat.beq q q'
    | .nilm, .nilm => true
    | .map a, .map b => Nat.beq a b
    | .yield a, .yield b => Nat.beq a b
    | .nilf, .nilf => true
    | .nili, .nili => true
    | .iface t v, .iface t' v' => bif Nat.beq t t' then beqAV d v v' else false
    | .agg a, .agg b => beqAVs (beqAV d) a b
    | .tup a, .tup b => beqAVs (beqAV d) a b
    | .func f a b, .func f' a' b' => beqFn f f' && beqAVs (beqAV d) a a' && beqAVs (beqAV d) b b'
    | _, _ => false

/-- the cells that are appended, or copied: how many elements, and their cells -/
noncomputable def srcCells (h : H) (size : Nat) : AV → Option (Nat × List AV)
  | .nils => some (0, [])
  | .sl b o n _ _ => (match loadN h b o (n * size) with | some l => some (n, l) | none => none)
  | .str s => some (s.length, s.map fun b => .int .u8 (.ofNat b.toNat))
  | _ => none

noncomputable def freshRow (h : H) (el : Nat) (e : TI) (need : Nat) (old new : List AV) : Option (AV × H) :=
  bif Nat.ble need 1000000 && Nat.ble e.bytes 100000 && Nat.beq e.zero.cells.length e.size && !(Nat.beq e.size 0) && flat old && flat new && Nat.beq (old.length + new.length) (need * e.size) then
    some (.sl h.next 0 need need e.size, h.add (.cells el (old ++ new) true true))
  else none

noncomputable def isIntT (p : Program) (t : Option TypeId) : Bool :=
  match t with
  | none => false
  | some t => match ti p t with
    | some q => (match q.und with | .int _ => true | _ => false)
    | none => false

noncomputable def isRowT (p : Program) (t : Option TypeId) : Bool :=
  match t with
  | none => false
  | some t => match ti p t with
    | some q => (match q.und with | .slice _ => true | .string => true | _ => false)
    | none => false

noncomputable def zerosOf (e : TI) (x : AV) : Option (Nat × List AV) :=
  match x with
  | .int _ (.ofNat n) => bif Nat.ble n 100000 && Nat.ble e.bytes 100000 && Nat.beq e.zero.cells.length e.size then some (n, rep n e.zero.cells) else none
  | _ => none

noncomputable def cleanEl (h : H) (b el : Nat) : Bool :=
  match h.blk.get b with
  | some (.cells el' _ _ c) => Nat.beq el' el && c
  | _ => false

noncomputable def appendTo (h : H) (el : Nat) (e : TI) (s : AV) (n : Nat) (new : List AV) : Option (AV × H) :=
  match s with
  | .nils => bif Nat.beq n 0 then some (.nils, h) else freshRow h el e n [] new
  | .sl b o len cap op =>
    bif Nat.ble (len + n) cap then
      (match flat new && Nat.beq new.length (n * e.size), storeN h b (o + len * e.size) new with
      | true, some h' => some (.sl b o (len + n) cap op, h')
      | _, _ => none)
    else match loadN h b o (len * e.size) with
      | none => none
      | some old => match op with
        | 0 => freshRow h el e (len + n) old new
        | op => bif Nat.beq op e.size && cleanEl h b el then freshRow (h.put b .dead) el e (len + n) old new else none
  | _ => none

noncomputable def appendA (p : Program) (h : H) (ts : Array TypeId) (s x : AV) : Option (AV × H) :=
  match ts[0]? with
  | none => none
  | some t => match ti p t with
    | none => none
    | some q => match q.und with
      | .slice el => (match ti p el with
        | none => none
        | some e => match isIntT p ts[1]? with
          | true => (match zerosOf e x with | some (n, new) => appendTo h el e s n new | none => none)
          | false => (match isRowT p ts[1]?, srcCells h e.size x with
            | true, some (n, new) => appendTo h el e s n new
            | _, _ => none))
      | _ => none

noncomputable def setNth {α : Type} : List α → Nat → (α → α) → List α
  | [], _, _ => []
  | a :: r, 0, f => f a :: r
  | a :: r, i + 1, f => a :: setNth r i f

noncomputable def plainKey : AV → Bool
  | .bool _ | .int _ _ | .str _ => true
  | _ => false

noncomputable def mapPutA (p : Program) (h : H) (t : Nat) (m k v : AV) : Option H :=
  match m with
  | .map r => (match ti p t with
    | none => none
    | some q => match q.und with
      | .map kt _ => (match h.blk.get r with
        | some (.map es clock) => (match keyOk p 10 kt k, findA p h kt k es 0 with
          | true, some (some (i, _)) => bif plainKey k then some (h.put r (.map (setNth es i fun e => (k, v, e.2.2)) clock)) else none
          | true, some none => some (h.put r (.map (es ++ [(k, v, clock)]) (clock + 1)))
          | _, _ => none)
        | _ => none)
      | _ => none)
  | _ => none

noncomputable def nextA (h : H) (it : AV) (isS : Bool) : Option (AV × H) :=
  match it with
  | .ptr r 0 => (match h.blk.get r with
    | some (.siter s pos) => (match isS with
      | true => bif Nat.blt pos s.length then
          some (.tup [.bool true, .int .i64 (.ofNat pos), .int .i32 (.ofNat (Utf8.decode ⟨s.toArray⟩ pos).1)], h.put r (.siter s (pos + (Utf8.decode ⟨s.toArray⟩ pos).2)))
        else some (.tup [.bool false], h)
      | false => none)
    | some .miter => (match isS with | false => some (.tup [.bool false], h) | true => none)
    | _ => none)
  | _ => none

noncomputable def unsafeStrA (p : Program) (h : H) (ts : Array TypeId) (q n : AV) : Option (AV × H) :=
  match n with
  | .int _ (.ofNat n) => (match q with
    | .nilp => (match ts[0]? with
      | some _ => bif Nat.beq n 0 then some (.str [], h) else none
      | none => none)
    | .ptr b o => (match ts[0]? with
      | none => none
      | some pt => bif Nat.beq n 0 then some (.str [], h) else match ti p pt with
        | none => none
        | some x => match x.und with
          | .pointer el => (match h.blk.get b with
            | some (.cells e cs op _) => (match cut cs o n with
              | some l => (match bytesOf l with
                | some s => bif Nat.beq e el && Nat.beq (p.cellsOf e) 1 && Nat.ble n 1000000 then some (.str s, h.put b (.cells e cs op false)) else none
                | none => none)
              | none => none)
            | _ => none)
          | _ => none)
    | _ => none)
  | _ => none

noncomputable def methodA (p : Program) (h : H) (t : Nat) (v : AV) (name : String) : Option (Nat × AV) :=
  match methodOf p t name with
  | none => none
  | some (f, pr) => match ti p t with
    | none => none
    | some q => match pr, q.und with
      | true, .pointer _ => some (f, v)
      | false, .pointer el => (match v with | .ptr b o => (match loadA p h el b o with | some x => some (f, x) | none => none) | _ => none)
      | false, _ => some (f, v)
      | true, _ => none

noncomputable def kindC : Callee → Nat
  | .builtin .len | .builtin .cap | .builtin .max | .builtin .min | .builtin .unsafeSliceData => 0
  | _ => 2

/-- 0: light, 1: makes a block, 2: heavy -/
noncomputable def kind (o : Op) : Nat :=
  match o with
  | .move _ | .assign _ | .pick .. | .load .. | .nilCheck _ | .binOp .. | .unOp .. | .makeInterface .. | .makeFunc .. | .slice .. | .fieldAddr .. | .field .. | .indexAddr .. | .index .. | .lookup .. | .typeAssert .. | .extract .. | .build .. | .convert .. => 0
  | .call c => kindC c.callee
  | .alloc _ | .box .. | .buildSlice .. | .makeMap .. | .makeSlice .. | .range .. => 1
  | _ => 2

noncomputable def skipV (r : Option H) : Option (AV × H) := match r with | some h => some (undefA, h) | none => none
noncomputable def valR (r : Option Res) : Option (AV × H) := match r with | some (.val v h) => some (v, h) | _ => none

noncomputable def storeO (p : Program) (h : H) (t : Nat) (a v : Option AV) : Option (AV × H) :=
  match a with
  | some (.ptr b o) => (match v with | some v => skipV (storeA p h t b o v) | none => none)
  | _ => none

noncomputable def mapPutO (p : Program) (h : H) (t : Nat) (m k v : Option AV) : Option (AV × H) :=
  match m with
  | some m => (match k with
    | some k => (match v with | some v => skipV (mapPutA p h t m k v) | none => none)
    | none => none)
  | none => none

noncomputable def heavyB (p : Program) (h : H) (b : Builtin) (ts : Array TypeId) (args : List AV) : Option (AV × H) :=
  match b, args with
  | .append, [s, x] => appendA p h ts s x
  | .unsafeString, [q, n] => unsafeStrA p h ts q n
  | _, _ => none

noncomputable def invokeA (p : Program) (self : Task → Option Res) (h : H) (r : Option AV) (name : String) (args : List AV) : Option (AV × H) :=
  match r with
  | some (.iface t v) => (match methodA p h t v name with
    | some (f, v) => valR (self (.call f (v :: args) h))
    | none => none)
  | _ => none

noncomputable def callA (p : Program) (self : Task → Option Res) (ρ : Operand → Option AV) (c : Call) (h : H) : Option (AV × H) :=
  match evs ρ c.args.toList with
  | none => none
  | some args => match c.callee with
    | .builtin b => heavyB p h b c.argTypes args
    | .value f => (match ρ f with | some g => valR (self (.dyn g args h)) | none => none)
    | .invoke r name => invokeA p self h (ρ r) name args

/-- heavy operations: they write, or call -/
noncomputable def heavy (p : Program) (self : Task → Option Res) (ρ : Operand → Option AV) (o : Op) (h : H) : Option (AV × H) :=
  match o with
  | .store t a x => storeO p h t (ρ a) (ρ x)
  | .mapUpdate t m k x => mapPutO p h t (ρ m) (ρ k) (ρ x)
  | .insert t m k x => mapPutO p h t (ρ m) (ρ k) (ρ x)
  | .next it s => (match ρ it with | some it => nextA h it s | none => none)
  | .call c => callA p self ρ c h
  | _ => none

/-- an operation's value, and the heap behind it -/
noncomputable def opVal (p : Program) (self : Task → Option Res) (ρ : Operand → Option AV) (o : Op) (h : H) : Option (AV × H) :=
  match kind o with
  | 0 => (match light p h ρ o with | some v => some (v, h) | none => none)
  | 1 => (match makes p h.next ρ o with | some (v, b) => some (v, h.add b) | none => none)
  | _ => heavy p self ρ o h

noncomputable def Fr.put (fr : Fr) (d : Option Nat) (v : AV) : Option Fr :=
  match d with
  | some d => bif Nat.blt d fr.nt then some { fr with tm := fr.tm.set d v } else none
  | none => some fr

noncomputable def putRes (fr : Fr) (d : Option Nat) (v : AV) (h : H) : Option (Fr × H) :=
  match fr.put d v with
  | some fr => some (fr, h)
  | none => none

noncomputable def wantedT (v : Option AV) (want : Bool) : Bool :=
  match v with
  | some (.bool b) => beqB b want
  | _ => false

noncomputable def dstOf (ops : Array Oper) (j : Nat) : Option Nat :=
  match ops[j]? with
  | some o => o.dst
  | none => none

noncomputable def wantedA (ops : Array Oper) (tm : Tr AV) (o : Oper) : Bool :=
  match o.guard with
  | none => true
  | some (j, want) => match dstOf ops j with
    | some d => wantedT (tm.get d) want
    | none => false

noncomputable def deferA (fr : Fr) (d : Option Nat) (c : Call) (h : H) : Option (Fr × H) :=
  match c.callee, evs (evOp h.gl fr.tm) c.args.toList with
  | .value f, some args => (match evOp h.gl fr.tm f with
    | some (.func (.func g) first cap) => (match fr.rnd with
      | none => putRes { fr with ds := .fn g (first ++ args ++ cap) :: fr.ds } d undefA h
      | some _ => none)
    | _ => none)
  | _, _ => none

noncomputable def isRecover : Op → Bool
  | .call c => (match c.callee with | .builtin .recover => true | _ => false)
  | _ => false

noncomputable def opStep (p : Program) (self : Task → Option Res) (ops : Array Oper) (o : Oper) (fr : Fr) (h : H) : Option (Fr × H) :=
  match wantedA ops fr.tm o with
  | false => putRes fr o.dst undefA h
  | true => match o.op with
    | .defer c => deferA fr o.dst c h
    | op => match isRecover op with
      | true => (match fr.rnd with | none => putRes fr o.dst .nili h | some _ => none)
      | false => match opVal p self (evOp h.gl fr.tm) op h with
        | some (v, h) => putRes fr o.dst v h
        | none => none

noncomputable def seqOps (p : Program) (self : Task → Option Res) (ops : Array Oper) : List Oper → Fr → H → Option (Fr × H)
  | [], fr, h => some (fr, h)
  | o :: r, fr, h => match opStep p self ops o fr h with
    | some (fr, h) => seqOps p self ops r fr h
    | none => none

/-! regions that draw their order -/
noncomputable def tmpsOf (o : Oper) : List Nat := o.op.operands.toList.filterMap fun | .tmp t => some t | _ => none
noncomputable def guardTmp (ops : Array Oper) (o : Oper) : List Nat := match o.guard with
  | some (j, _) => (dstOf ops j).toList
  | none => []
noncomputable def namesOf (ops : Array Oper) (o : Oper) : List Nat := o.dst.toList ++ tmpsOf o ++ guardTmp ops o

noncomputable def tied (bf : Array Nat) (i j : Nat) : Bool := (bf.getD j 0).testBit i

noncomputable def toOk (ops : Array Oper) (bf : Array Nat) : Bool :=
  let l := ops.toList.zipIdx
  l.all fun (o, i) => (namesOf ops o).all fun t => l.all fun (o', j) => o'.dst != some t || (Nat.beq i j || (bif Nat.blt i j then tied bf i j else tied bf j i))

noncomputable def guardOkR (ops : Array Oper) : Bool :=
  let l := ops.toList.zipIdx
  l.all fun (o, i) => match o.guard with
    | none => true
    | some (j, _) => Nat.blt j i && (match dstOf ops j with | some d => l.all (fun (o', k) => o'.dst != some d || Nat.beq k j) | none => false)

noncomputable def heavies (ops : Array Oper) : List Nat := (ops.toList.zipIdx.filter fun (o, _) => kind o.op == 2).map (·.2)
noncomputable def orderedH (bf : Array Nat) : List Nat → Bool
  | [] => true
  | i :: r => r.all (fun j => tied bf i j) && orderedH bf r

noncomputable def level (bf : Array Nat) (hs : List Nat) (j : Nat) : Nat := (hs.filter fun i => tied bf i j).length

/-- every operation waits only for earlier ones -/
noncomputable def backOk (ops : Array Oper) : Bool :=
  ops.toList.zipIdx.all fun (o, i) => o.after.toList.all fun e => !Region.binds .any e || Nat.blt e.on i

abbrev Stage := List (Oper × Nat) × Option (Oper × Nat)

/-- stages: the lights of level k, then heavy k -/
noncomputable def stages (ops : Array Oper) : Option (List Stage) :=
  let bf := Region.before ops
  let hs := heavies ops
  if toOk ops bf && guardOkR ops && orderedH bf hs && backOk ops then
    let ls := ops.toList.zipIdx.filter fun (o, _) => kind o.op != 2
    some ((List.range (hs.length + 1)).map fun k => (ls.filter (fun (_, i) => level bf hs i == k), (hs[k]?).bind fun i => (ops[i]?).map (·, i)))
  else none

noncomputable def updS (d : Option Nat) (t j : Nat) (r : Option Nat) : Option Nat :=
  match d with
  | some d => bif Nat.beq d t then some j else r
  | none => r

/-- the last operation ahead of i that names t as its own -/
noncomputable def srcOf (t i : Nat) : List Oper → Nat → Option Nat → Option Nat
  | [], _, r => r
  | o :: os, j, r => bif Nat.blt j i then srcOf t i os (j + 1) (updS o.dst t j r) else r

noncomputable def evR (ops : Array Oper) (i : Nat) (gl : List Nat) (tm vals : Tr AV) : Operand → Option AV
  | .tmp t => (match srcOf t i ops.toList 0 none with
    | some j => vals.get j
    | none => evOp gl tm (.tmp t))
  | x => evOp gl tm x

noncomputable def wantedR (vals : Tr AV) (o : Oper) : Option Bool :=
  match o.guard with
  | none => some true
  | some (j, want) => match vals.get j with
    | some v => some (wantedT (some v) want)
    | none => none

noncomputable def opR (p : Program) (self : Task → Option Res) (ops : Array Oper) (tm : Tr AV) (q : Oper × Nat) (vals : Tr AV) (h : H) : Option (Tr AV × H) :=
  match wantedR vals q.1 with
  | some true => bif Nat.beq (kind q.1.op) 1 && (h.blk.get h.next).isSome then none else
    (match opVal p self (evR ops q.2 h.gl tm vals) q.1.op h with
    | some (v, h) => some (vals.set q.2 v, h)
    | none => none)
  | some false => some (vals.set q.2 undefA, h)
  | none => none

noncomputable def seqR (p : Program) (self : Task → Option Res) (ops : Array Oper) (tm : Tr AV) : List (Oper × Nat) → Tr AV → H → Option (Tr AV × H)
  | [], vals, h => some (vals, h)
  | q :: r, vals, h => match opR p self ops tm q vals h with
    | some (vals, h) => seqR p self ops tm r vals h
    | none => none

noncomputable def sameV (a b : Option AV) : Bool :=
  match a, b with
  | some v, some v' => beqAV 10 v v'
  | _, _ => false

noncomputable def stable (p : Program) (ops : Array Oper) (mask : Nat) (tm vals : Tr AV) (h : H) : List (Oper × Nat) → Bool
  | [] => true
  | (o, i) :: r =>
    bif Nat.beq (kind o.op) 0 && !mask.testBit i then
      (match wantedR vals o with
      | some true => (match sameV (light p h (evR ops i h.gl tm vals) o.op) (vals.get i) with
        | true => stable p ops mask tm vals h r
        | false => false)
      | some false => stable p ops mask tm vals h r
      | none => false)
    else stable p ops mask tm vals h r

noncomputable def drawn (p : Program) (self : Task → Option Res) (ops : Array Oper) (bf : Array Nat) (tm : Tr AV) : List Stage → List (Oper × Nat) → Tr AV → H → Option (Tr AV × H)
  | [], _, vals, h => some (vals, h)
  | (ls, hv) :: rest, done, vals, h =>
    match seqR p self ops tm ls vals h with
    | none => none
    | some (vals, h) =>
      match hv with
      | none => some (vals, h)
      | some q => match opR p self ops tm q vals h with
        | none => none
        | some (vals, h) => match stable p ops (bf.getD q.2 0) tm vals h (done ++ ls) with
          | true => drawn p self ops bf tm rest (done ++ ls) vals h
          | false => none

noncomputable def putAll : List Oper → Nat → Tr AV → Fr → Option Fr
  | [], _, _, fr => some fr
  | o :: os, i, vals, fr => match vals.get i with
    | none => none
    | some v => match fr.put o.dst v with
      | some fr => putAll os (i + 1) vals fr
      | none => none

noncomputable def loadRes (p : Program) (tm : Tr AV) (h : H) : List ResultVar → Option (List AV)
  | [] => some []
  | .tmp t :: r => (match evOp [] tm (.tmp t), loadRes p tm h r with
    | some v, some vs => some (v :: vs)
    | _, _ => none)
  | .cell a t :: r => (match tm.get a with
    | some (.ptr b o) => (match loadA p h t b o, loadRes p tm h r with
      | some v, some vs => some (v :: vs)
      | _, _ => none)
    | _ => none)

noncomputable def initTm : Nat → List AV → Tr AV → Tr AV
  | _, [], t => t
  | i, v :: vs, t => initTm (i + 1) vs (t.set i v)

noncomputable def hasBody (p : Program) (f : Nat) : Bool :=
  match p.funcs[f]? with
  | some fn => (match fn.body with | some _ => true | none => false)
  | none => false

noncomputable def runDefers (p : Program) (self : Task → Option Res) : List AD → H → Option H
  | [], h => some h
  | .coll r :: ds, h => (match h.blk.get r with
    | some .defs => runDefers p self ds (h.put r .taken)
    | _ => none)
  | .fn f args :: ds, h => (match hasBody p f with
    | true => (match self (.call f args h) with
      | some (.val _ h) => runDefers p self ds h
      | _ => none)
    | false => none)

noncomputable def setPs : List Nat → List AV → Fr → Option Fr
  | [], [], fr => some fr
  | i :: is, v :: vs, fr => (match fr.put (some i) v with | some fr => setPs is vs fr | none => none)
  | _, _, _ => none

noncomputable def countA (c : UInt8) : List UInt8 → Nat → Nat
  | [], n => n
  | b :: r, n => countA c r (bif beqU b c then n + 1 else n)
noncomputable def idxA (c : UInt8) : List UInt8 → Nat → Int
  | [], _ => -1
  | b :: r, i => bif beqU b c then .ofNat i else idxA c r (i + 1)

/-- externs, by a number: 1 CountString, 2 IndexByteString, 3 NoEscape, 5 maps.clone -/
noncomputable def extCode (fn : Func) : Nat :=
  if fn.name = "internal/bytealg.CountString" then 1 else
  if fn.name = "internal/bytealg.IndexByteString" then 2 else
  if fn.name = "internal/abi.NoEscape" then 3 else
  if fn.name = "maps.clone" then 5 else 0

noncomputable def externA (_p : Program) (fn : Func) (args : List AV) (h : H) : Option Res :=
  match extCode fn, args with
  | 1, [.str s, .int .u8 (.ofNat c)] => some (.val (.int .i64 (.ofNat (countA (UInt8.ofNat c) s 0))) h)
  | 2, [.str s, .int .u8 (.ofNat c)] => some (.val (.int .i64 (idxA (UInt8.ofNat c) s 0)) h)
  | 3, [x] => some (.val x h)
  | 5, [.iface t (.map r)] => (match h.blk.get r with
    | some (.map es c) => some (.val (.iface t (.map h.next)) (h.add (.map es c)))
    | _ => none)
  | _, _ => none

noncomputable def regionA (p : Program) (self : Task → Option Res) (ops : Array Oper) (draw : Bool) (fr : Fr) (h : H) : Option Res :=
  match draw with
  | false => (match seqOps p self ops ops.toList fr h with
    | some (fr, h) => some (.code .nrm fr h)
    | none => none)
  | true => (match stages ops with
    | none => none
    | some st => match drawn p self ops (Region.before ops) fr.tm st [] .nil h with
      | some (vals, h) => (match putAll ops.toList 0 vals fr with
        | some fr => some (.code .nrm fr h)
        | none => none)
      | none => none)

noncomputable def openLoop (fr : Fr) (h : H) : Option (Nat × List AD × H) :=
  match fr.rnd with
  | none => some (h.next, [AD.coll h.next], h.add .defs)
  | some l => match h.blk.get l with
    | some (.loop _ _ _ _ _ _ _ _ df) => some (df, [], h)
    | _ => none

noncomputable def closeLoop (self : Task → Option Res) (l : Nat) (mk : List AD) (fr : Fr) (h : H) : Option Res :=
  match h.blk.get l with
  | some (.loop .busy _ _ _ _ _ _ _ _) => none
  | some (.loop _ pend fn tm nt ps asg body df) =>
    (match pend with
    | none => some (.code .nrm { fr with ds := mk ++ fr.ds } (h.put l (.loop .exhausted pend fn tm nt ps asg body df)))
    | some c => self (.code c { fr with ds := mk ++ fr.ds } (h.put l (.loop .exhausted pend fn tm nt ps asg body df))))
  | _ => none

noncomputable def rangeA (self : Task → Option Res) (f : Operand) (ps : Array Tmp) (asg body : Code) (fr : Fr) (h : H) : Option Res :=
  match evOp h.gl fr.tm f with
  | none => none
  | some g => match openLoop fr h with
    | none => none
    | some (df, mk, h) =>
      match self (.dyn g [.yield h.next] (h.add (.loop .ready none fr.fn fr.tm fr.nt ps asg body df))) with
      | some (.val _ h') => closeLoop self h.next mk fr h'
      | _ => none

noncomputable def codeA (p : Program) (self : Task → Option Res) (c : Code) (fr : Fr) (h : H) : Option Res :=
  match c with
  | .skip => some (.code .nrm fr h)
  | .label _ => some (.code .nrm fr h)
  | .exit id => some (.code (.exit id) fr h)
  | .ret => some (.code .ret fr h)
  | .goto l => some (.code (.goto l) fr h)
  | .seq a b => (match self (.code a fr h) with
    | some (.code .nrm fr h) => self (.code b fr h)
    | r => r)
  | .cond c a b => (match evOp h.gl fr.tm c with
    | some (.bool true) => self (.code a fr h)
    | some (.bool false) => self (.code b fr h)
    | _ => none)
  | .block id c => (match self (.code c fr h) with
    | some (.code (.exit i) fr h) => bif Nat.beq i id then some (.code .nrm fr h) else some (.code (.exit i) fr h)
    | r => r)
  | .loop c => (match self (.code c fr h) with
    | some (.code .nrm fr h) => self (.code (.loop c) fr h)
    | r => r)
  | .region _ ops draw => regionA p self ops draw fr h
  | .rangeFunc f params asg body => rangeA self f params asg body fr h
  | .scope body => self (.scope body body fr h)
  | .refuse _ => none

noncomputable def retA (p : Program) (self : Task → Option Res) (fn : Func) (r : Option Res) : Option Res :=
  match r with
  | some (.code .nrm fr h) => fin fr h
  | some (.code .ret fr h) => fin fr h
  | _ => none
where
  fin (fr : Fr) (h : H) : Option Res :=
    match runDefers p self fr.ds h with
    | none => none
    | some h => match loadRes p fr.tm h fn.results.toList with
      | some [v] => some (.val v h)
      | some vs => some (.val (.tup vs) h)
      | none => none

noncomputable def ntOf (args : List AV) (nt : Nat) : Nat := args.length + (nt - args.length)

noncomputable def enterA (p : Program) (self : Task → Option Res) (f : Nat) (args : List AV) (h : H) : Option Res :=
  match p.funcs[f]? with
  | none => none
  | some fn => match fn.body with
    | none => externA p fn args h
    | some c => retA p self fn (self (.code c ⟨initTm 0 args .nil, ntOf args fn.ntmps, [], f, none⟩ h))

noncomputable def endRnd (l : Nat) (e : Ex) (h : H) : Option Res :=
  match h.blk.get l with
  | some (.loop _ _ fn tm nt ps asg body df) =>
    (match e with
    | .nrm => some (.val (.bool true) (h.put l (.loop .ready none fn tm nt ps asg body df)))
    | .ret => some (.val (.bool false) (h.put l (.loop .done (some .ret) fn tm nt ps asg body df)))
    | .exit id => some (.val (.bool false) (h.put l (.loop .done (some (.exit id)) fn tm nt ps asg body df)))
    | .goto _ => none)
  | _ => none

noncomputable def roundA (self : Task → Option Res) (l : Nat) (args : List AV) (h : H) : Option Res :=
  match h.blk.get l with
  | some (.loop _ _ fn tm nt ps asg body _) => (match setPs ps.toList args ⟨tm, nt, [], fn, some l⟩ with
    | none => none
    | some fr => match self (.code asg fr h) with
      | some (.code .nrm fr h) => (match h.blk.get l with
        | some (.loop .ready pend fn tm nt ps asg bo df) =>
          (match self (.code body fr (h.put l (.loop .busy pend fn tm nt ps asg bo df))) with
          | some (.code e ⟨_, _, [], _, _⟩ h) => endRnd l e h
          | _ => none)
        | _ => none)
      | _ => none)
  | _ => none

noncomputable def dynA (self : Task → Option Res) (g : AV) (args : List AV) (h : H) : Option Res :=
  match g with
  | .func (.func f) first cap => self (.call f (first ++ args ++ cap) h)
  | .yield l => self (.round l args h)
  | _ => none

noncomputable def scopeA (self : Task → Option Res) (body cur : Code) (fr : Fr) (h : H) : Option Res :=
  match self (.code cur fr h) with
  | some (.code (.goto l) fr h) => (match findLabel body l with
    | some rest => self (.scope body rest fr h)
    | none => some (.code (.goto l) fr h))
  | r => r

noncomputable def stepF (p : Program) (self : Task → Option Res) (t : Task) : Option Res :=
  match t with
  | .code c fr h => codeA p self c fr h
  | .call f args h => enterA p self f args h
  | .round l args h => roundA self l args h
  | .dyn g args h => dynA self g args h
  | .scope body cur fr h => scopeA self body cur fr h

noncomputable def run (p : Program) : Nat → Task → Option Res
  | 0, _ => none
  | n + 1, t => stepF p (run p n) t

end Go.Xec
namespace Go.Xec

/-! tries -/
theorem beq_iff (a b : Nat) : Nat.beq a b = true ↔ a = b := ⟨Nat.eq_of_beq_eq_true, fun h => by subst h; exact Nat.beq_refl a⟩
theorem bif_beq {α : Sort _} (a b : Nat) (x y : α) : (bif Nat.beq a b then x else y) = if a = b then x else y := by
  by_cases h : a = b
  · rw [if_pos h, (beq_iff a b).2 h]; rfl
  · rw [if_neg h, Bool.eq_false_iff.2 (fun e => h ((beq_iff a b).1 e))]; rfl
theorem bif_ble {α : Sort _} (a b : Nat) (x y : α) : (bif Nat.ble a b then x else y) = if a ≤ b then x else y := by
  by_cases h : a ≤ b
  · rw [if_pos h, Nat.ble_eq_true_of_le h]; rfl
  · rw [if_neg h, Bool.eq_false_iff.2 (fun e => h (Nat.le_of_ble_eq_true e))]; rfl
theorem bif_blt {α : Sort _} (a b : Nat) (x y : α) : (bif Nat.blt a b then x else y) = if a < b then x else y := bif_ble (a + 1) b x y
theorem Tr.get0_nil {α : Type} (n : Nat) : (Tr.nil : Tr α).get0 n = none := rfl

theorem Tr.get_setAt {α : Type} (x : α) : ∀ (d : Nat) (t : Tr α) (n m : Nat), n < d → (Tr.setAt d t n x).get0 m = if n = m then some x else t.get0 m := by
  intro d
  induction d with
  | zero => intro t n m h; omega
  | succ d ih =>
    intro t n m h
    cases t with
    | nil =>
      simp only [Tr.setAt, bif_beq]
      by_cases hn : n = 0
      · subst hn
        simp only [if_true, Tr.get0, bif_beq]
        by_cases hm : m = 0
        · simp [hm]
        · have hm' : ¬ 0 = m := fun h => hm h.symm
          simp only [hm, hm', if_false]
          split <;> rfl
      · rw [if_neg hn]
        by_cases hp : n % 2 = 1
        · rw [if_pos hp]
          simp only [Tr.get0, bif_beq]
          by_cases hm : m = 0
          · have : ¬ n = m := by omega
            simp [hm, hn]
          · simp only [hm, if_false]
            by_cases hq : m % 2 = 1
            · simp only [hq, if_true]
              rw [ih .nil (n / 2) (m / 2) (by omega)]
              simp only [Tr.get0]
              have : n / 2 = m / 2 ↔ n = m := by omega
              simp [this]
            · simp only [hq, if_false]
              have : ¬ n = m := by intro e; subst e; exact hq hp
              simp [this]
        · rw [if_neg hp]
          simp only [Tr.get0, bif_beq]
          by_cases hm : m = 0
          · simp [hm, hn]
          · simp only [hm, if_false]
            by_cases hq : m % 2 = 1
            · simp only [hq, if_true]
              have : ¬ n = m := by intro e; subst e; exact hp hq
              simp [this]
            · simp only [hq, if_false]
              rw [ih .nil (n / 2 - 1) (m / 2 - 1) (by omega)]
              simp only [Tr.get0]
              have : n / 2 - 1 = m / 2 - 1 ↔ n = m := by omega
              simp [this]
    | node v l r =>
      simp only [Tr.setAt, bif_beq]
      by_cases hn : n = 0
      · subst hn
        simp only [if_true, Tr.get0, bif_beq]
        by_cases hm : m = 0
        · simp [hm]
        · have hm' : ¬ 0 = m := fun h => hm h.symm
          simp only [hm, hm', if_false]
      · rw [if_neg hn]
        by_cases hp : n % 2 = 1
        · rw [if_pos hp]
          simp only [Tr.get0, bif_beq]
          by_cases hm : m = 0
          · simp [hm, hn]
          · simp only [hm, if_false]
            by_cases hq : m % 2 = 1
            · simp only [hq, if_true]
              rw [ih l (n / 2) (m / 2) (by omega)]
              have : n / 2 = m / 2 ↔ n = m := by omega
              simp [this]
            · simp only [hq, if_false]
              have : ¬ n = m := by intro e; subst e; exact hq hp
              simp [this]
        · rw [if_neg hp]
          simp only [Tr.get0, bif_beq]
          by_cases hm : m = 0
          · simp [hm, hn]
          · simp only [hm, if_false]
            by_cases hq : m % 2 = 1
            · simp only [hq, if_true]
              have : ¬ n = m := by intro e; subst e; exact hp hq
              simp [this]
            · simp only [hq, if_false]
              rw [ih r (n / 2 - 1) (m / 2 - 1) (by omega)]
              have : n / 2 - 1 = m / 2 - 1 ↔ n = m := by omega
              simp [this]

theorem getP_posAt {α : Type} : ∀ (d n : Nat) (t : Tr α), n < d → getP (posAt d n) t = t.get0 n
  | 0, n, t, h => by omega
  | d + 1, n, t, h => by
    have e : posAt (d + 1) n = bif Nat.beq n 0 then .e else bif Nat.beq (n % 2) 1 then .o (posAt d (n / 2)) else .i (posAt d (n / 2 - 1)) := rfl
    rw [e]
    by_cases h0 : n = 0
    · subst h0
      cases t <;> rfl
    · have b0 : Nat.beq n 0 = false := by
        cases hb : Nat.beq n 0 with
        | false => rfl
        | true => exact absurd (Nat.eq_of_beq_eq_true hb) h0
      rw [b0]
      cases h1 : Nat.beq (n % 2) 1 with
      | true =>
        cases t with
        | nil => rfl
        | node v l r =>
          have ih := getP_posAt d (n / 2) l (by omega)
          unfold Tr.get0
          rw [b0, h1]
          exact ih
      | false =>
        cases t with
        | nil => rfl
        | node v l r =>
          have ih := getP_posAt d (n / 2 - 1) r (by omega)
          unfold Tr.get0
          rw [b0, h1]
          exact ih

theorem setP_posAt {α : Type} (x : α) : ∀ (d n : Nat) (t : Tr α), n < d → setP x (posAt d n) t = Tr.setAt d t n x
  | 0, n, t, h => by omega
  | d + 1, n, t, h => by
    have e : posAt (d + 1) n = bif Nat.beq n 0 then .e else bif Nat.beq (n % 2) 1 then .o (posAt d (n / 2)) else .i (posAt d (n / 2 - 1)) := rfl
    rw [e]
    by_cases h0 : n = 0
    · subst h0
      cases t <;> rfl
    · have b0 : Nat.beq n 0 = false := by
        cases hb : Nat.beq n 0 with
        | false => rfl
        | true => exact absurd (Nat.eq_of_beq_eq_true hb) h0
      rw [b0]
      cases h1 : Nat.beq (n % 2) 1 with
      | true =>
        cases t with
        | nil =>
          have ih := setP_posAt x d (n / 2) .nil (by omega)
          unfold Tr.setAt
          rw [b0, h1]
          show Tr.node none (setP x (posAt d (n / 2)) .nil) .nil = _
          rw [ih]; rfl
        | node v l r =>
          have ih := setP_posAt x d (n / 2) l (by omega)
          unfold Tr.setAt
          rw [b0, h1]
          show Tr.node v (setP x (posAt d (n / 2)) l) r = _
          rw [ih]; rfl
      | false =>
        cases t with
        | nil =>
          have ih := setP_posAt x d (n / 2 - 1) .nil (by omega)
          unfold Tr.setAt
          rw [b0, h1]
          show Tr.node none .nil (setP x (posAt d (n / 2 - 1)) .nil) = _
          rw [ih]; rfl
        | node v l r =>
          have ih := setP_posAt x d (n / 2 - 1) r (by omega)
          unfold Tr.setAt
          rw [b0, h1]
          show Tr.node v l (setP x (posAt d (n / 2 - 1)) r) = _
          rw [ih]; rfl

theorem getP_eq {α : Type} (n : Nat) (t : Tr α) : getP (pos n) t = t.get n := rfl
theorem setP_eq {α : Type} (n : Nat) (x : α) (t : Tr α) : setP x (pos n) t = t.set n x := rfl
theorem Tr.get_eq0 {α : Type} (t : Tr α) (n : Nat) : t.get n = t.get0 n := getP_posAt _ _ _ (Nat.lt_succ_self n)
theorem Tr.get_set {α : Type} (t : Tr α) (n m : Nat) (x : α) : (t.set n x).get m = if n = m then some x else t.get m := by
  rw [Tr.get_eq0, Tr.get_eq0]
  have : t.set n x = Tr.setAt (n + 1) t n x := setP_posAt x _ _ _ (Nat.lt_succ_self n)
  rw [this]
  exact Tr.get_setAt x _ _ _ _ (Nat.lt_succ_self n)
theorem Tr.get_nil {α : Type} (n : Nat) : (Tr.nil : Tr α).get n = none := by rw [Tr.get_eq0]; rfl

/-! values -/
/-- where an abstract block lies: the model's block, by how much it is moved, and how many cells that block has -/
abbrev Inj := Nat → Option (Nat × Nat × Nat)

mutual
inductive VR (f : Inj) : AV → Value → Prop
  | bool (b : Bool) : VR f (.bool b) (.bool b)
  | int (k : IntKind) (n : Int) : VR f (.int k n) (.int k n)
  | str (l : List UInt8) (s : ByteArray) (h : s.data.toList = l) : VR f (.str l) (.string s)
  | nilp : VR f .nilp (.pointer none)
  | ptr (b o B sh E : Nat) (h : f b = some (B, sh, E)) : VR f (.ptr b o) (.pointer (some ⟨B, sh + o, none⟩))
  | nils : VR f .nils (.slice none 0 0)
  | sl (b o len cap op B sh E X c : Nat) (h : f b = some (B, sh, E)) (hl : len ≤ cap) (hc : cap ≤ c) (h0 : op = 0 → c = cap) (hx : c = 0 ∨ X = sh + o ∧ (op = 0 ∨ X + c * op = E)) : VR f (.sl b o len cap op) (.slice (some ⟨B, X, none⟩) len c)
  | nilm : VR f .nilm (.map none)
  | map (b B sh E : Nat) (h : f b = some (B, sh, E)) : VR f (.map b) (.map (some B))
  | func (fn : Fn) (a c : List AV) (a' c' : List Value) (h : VRs f a a') (h' : VRs f c c') : VR f (.func fn a c) (.func fn a'.toArray c'.toArray)
  | yield (l L sh E : Nat) (h : f l = some (L, sh, E)) : VR f (.yield l) (.func (.yield L) #[] #[])
  | nilf : VR f .nilf .nilFunc
  | iface (t : Nat) (a : AV) (v : Value) (h : VR f a v) : VR f (.iface t a) (.iface t v)
  | nili : VR f .nili .nilIface
  | agg (a : List AV) (v : List Value) (h : VRs f a v) : VR f (.agg a) (.agg v.toArray)
  | tup (a : List AV) (v : List Value) (h : VRs f a v) : VR f (.tup a) (.tuple v.toArray)
inductive VRs (f : Inj) : List AV → List Value → Prop
  | nil : VRs f [] []
  | cons (a : AV) (v : Value) (as : List AV) (vs : List Value) (h : VR f a v) (hs : VRs f as vs) : VRs f (a :: as) (v :: vs)
end

def Sub (f g : Inj) : Prop := ∀ b L, f b = some L → g b = some L

mutual
theorem VR.mono {f g : Inj} (s : Sub f g) {a : AV} {v : Value} (h : VR f a v) : VR g a v :=
  match h with
  | .bool b => .bool b
  | .int k n => .int k n
  | .str l s h => .str l s h
  | .nilp => .nilp
  | .ptr b o B sh E h => .ptr b o B sh E (s _ _ h)
  | .nils => .nils
  | .sl b o len cap op B sh E X c h hl hc h0 hx => .sl b o len cap op B sh E X c (s _ _ h) hl hc h0 hx
  | .nilm => .nilm
  | .map b B sh E h => .map b B sh E (s _ _ h)
  | .func fn a c a' c' h h' => .func fn a c a' c' (VRs.mono s h) (VRs.mono s h')
  | .yield l L sh E h => .yield l L sh E (s _ _ h)
  | .nilf => .nilf
  | .iface t a v h => .iface t a v (VR.mono s h)
  | .nili => .nili
  | .agg a v h => .agg a v (VRs.mono s h)
  | .tup a v h => .tup a v (VRs.mono s h)
theorem VRs.mono {f g : Inj} (s : Sub f g) {a : List AV} {v : List Value} (h : VRs f a v) : VRs g a v :=
  match h with
  | .nil => .nil
  | .cons a v as vs h hs => .cons a v as vs (VR.mono s h) (VRs.mono s hs)
end

theorem Sub.refl (f : Inj) : Sub f f := fun _ _ h => h
theorem Sub.trans {f g h : Inj} (a : Sub f g) (b : Sub g h) : Sub f h := fun _ _ x => b _ _ (a _ _ x)

theorem VRs.length {f : Inj} : ∀ {a : List AV} {v : List Value}, VRs f a v → a.length = v.length
  | _, _, .nil => rfl
  | _, _, .cons _ _ _ _ _ hs => by simp [VRs.length hs]

theorem VRs.get {f : Inj} : ∀ {a : List AV} {v : List Value}, VRs f a v → ∀ (i : Nat) (x : AV), a[i]? = some x → ∃ y, v[i]? = some y ∧ VR f x y
  | _, _, .nil, i, x, h => by simp at h
  | _, _, .cons a v as vs h hs, 0, x, e => by simp at e; subst e; exact ⟨v, rfl, h⟩
  | _, _, .cons a v as vs h hs, i + 1, x, e => by simpa using VRs.get hs i x (by simpa using e)

theorem VRs.append {f : Inj} : ∀ {a : List AV} {v : List Value} {b : List AV} {u : List Value}, VRs f a v → VRs f b u → VRs f (a ++ b) (v ++ u)
  | _, _, _, _, .nil, h => h
  | _, _, _, _, .cons a v as vs h hs, h' => .cons a v _ _ h (VRs.append hs h')

theorem VRs.drop {f : Inj} : ∀ (n : Nat) {a : List AV} {v : List Value}, VRs f a v → VRs f (a.drop n) (v.drop n)
  | 0, _, _, h => by simpa using h
  | n + 1, _, _, .nil => by simpa using VRs.nil
  | n + 1, _, _, .cons _ _ _ _ _ hs => by simpa using VRs.drop n hs

theorem VRs.take {f : Inj} : ∀ (n : Nat) {a : List AV} {v : List Value}, VRs f a v → VRs f (a.take n) (v.take n)
  | 0, _, _, _ => by simpa using VRs.nil
  | n + 1, _, _, .nil => by simpa using VRs.nil
  | n + 1, _, _, .cons a v _ _ h hs => by simpa using VRs.cons a v _ _ h (VRs.take n hs)

theorem VRs.of_get {f : Inj} : ∀ (a : List AV) (v : List Value), a.length = v.length → (∀ (i : Nat) (x : AV), a[i]? = some x → ∃ y, v[i]? = some y ∧ VR f x y) → VRs f a v
  | [], [], _, _ => .nil
  | a :: as, v :: vs, hl, h => by
    obtain ⟨y, hy, hr⟩ := h 0 a rfl
    simp at hy; subst hy
    exact .cons _ _ _ _ hr (VRs.of_get as vs (by simpa using hl) fun i x e => by simpa using h (i + 1) x (by simpa using e))
  | [], _ :: _, hl, _ => by simp at hl
  | _ :: _, [], hl, _ => by simp at hl

theorem VRs.one {f : Inj} {a : AV} {v : Value} (h : VR f a v) : VRs f [a] [v] := .cons _ _ _ _ h .nil

/-- the cells of a value -/
theorem VR.cells {f : Inj} {a : AV} {v : Value} (h : VR f a v) : VRs f a.cells v.cells.toList := by
  cases h <;> first
    | (rename_i h; simpa [AV.cells, Value.cells] using h)
    | (apply VRs.one; constructor <;> assumption)
    | (apply VRs.one; constructor)

/-- a value of the program's text -/
theorem toAV0_spec {v : Value} {a : AV} (h : toAV0 v = some a) (f : Inj) : VR f a v := by
  unfold toAV0 at h
  split at h <;> simp at h <;> subst h <;> constructor
  rfl

theorem toAVs_spec : ∀ {l : List Value} {as : List AV}, toAVs l = some as → ∀ f : Inj, VRs f as l
  | [], as, h, f => by simp [toAVs] at h; subst h; exact .nil
  | v :: vs, as, h, f => by
    unfold toAVs at h
    split at h
    · simp at h
    · rename_i a ha
      split at h
      · simp at h
      · rename_i r hr
        simp at h; subst h
        exact .cons _ _ _ _ (toAV0_spec ha f) (toAVs_spec hr f)

theorem toAV_spec {v : Value} {a : AV} (h : toAV v = some a) (f : Inj) : VR f a v := by
  unfold toAV at h
  split at h
  · rename_i cs
    simp only [Option.map_eq_some_iff] at h
    obtain ⟨l, hl, rfl⟩ := h
    have := VR.agg l cs.toList (toAVs_spec hl f)
    simpa using this
  · rename_i cs
    simp only [Option.map_eq_some_iff] at h
    obtain ⟨l, hl, rfl⟩ := h
    have := VR.tup l cs.toList (toAVs_spec hl f)
    simpa using this
  · simp only [Option.map_eq_some_iff] at h
    obtain ⟨l, hl, rfl⟩ := h
    exact .iface _ _ _ (toAV0_spec hl f)
  · exact toAV0_spec h f

/-! types -/
structure TOk (p : Program) (t : Nat) (i : TI) : Prop where
  info : ∃ q : TypeInfo, p.info? t = some q ∧ q.size = i.size ∧ q.bytes = i.bytes ∧ q.comparable = i.comparable ∧ ∃ z, q.zero = some z ∧ ∀ f, VR f i.zero z
  und : p.underlying t = some i.und
  agg : i.agg = isAggD i.und

theorem ti_spec {p : Program} {t : Nat} {i : TI} (h : ti p t = some i) : TOk p t i := by
  unfold ti at h
  split at h
  · simp at h
  · rename_i q hq
    split at h
    · simp at h
    · rename_i u hu
      split at h
      · simp at h
      · rename_i z hz
        simp at h; subst h
        obtain ⟨zv, hz1, hz2⟩ := Option.bind_eq_some_iff.1 hz
        exact ⟨⟨q, hq, rfl, rfl, rfl, zv, hz1, fun f => toAV_spec hz2 f⟩, hu, rfl⟩

section
variable {p : Program} {t : Nat} {i : TI} (h : TOk p t i) (w : World)
include h
theorem TOk.run_und : (underlying t).run p w = .ok i.und w := by simp [underlying, h.und]
theorem TOk.run_size : (sizeOf t).run p w = .ok i.size w := by
  obtain ⟨q, hq, h1, _⟩ := h.info
  simp [sizeOf, typeInfo, hq, h1]
theorem TOk.run_isAgg : (isAgg t).run p w = .ok i.agg w := by
  simp only [isAgg, Sem.run_bind, h.run_und, Result.andThen_ok, h.agg]
  cases i.und <;> rfl
theorem TOk.run_zero : ∃ z, (zeroValue t).run p w = .ok z w ∧ ∀ f, VR f i.zero z := by
  obtain ⟨q, hq, _, _, _, z, hz, hr⟩ := h.info
  exact ⟨z, by simp [zeroValue, typeInfo, hq, hz], hr⟩
theorem TOk.run_info : ∃ q : TypeInfo, (typeInfo t).run p w = .ok q w ∧ q.size = i.size ∧ q.bytes = i.bytes ∧ q.comparable = i.comparable ∧ p.info? t = some q := by
  obtain ⟨q, hq, h1, h2, h3, _⟩ := h.info
  exact ⟨q, by simp [typeInfo, hq], h1, h2, h3, hq⟩
end

/-! memory -/
def FR (f : Inj) (tm : Tr AV) (nt : Nat) (tmps : Array Value) : Prop :=
  tmps.size = nt ∧ ∀ t, VR f ((tm.get t).getD undefA) (tmps.getD t undef)

inductive MR (f : Inj) : List (AV × AV × Nat) → List MapEntry → Prop
  | nil : MR f [] []
  | cons (k v : AV) (n : Nat) (e : MapEntry) (es : List (AV × AV × Nat)) (es' : List MapEntry) (hk : VR f k e.key) (hv : VR f v e.val) (hn : e.born = n) (hs : MR f es es') : MR f ((k, v, n) :: es) (e :: es')

structure LR (f : Inj) (st : LoopState) (pend : Option Code) (fn : Nat) (tm : Tr AV) (nt : Nat) (ps : Array Tmp) (asg body : Code) (df : Nat) (l : Loop) : Prop where
  st : l.state = st
  pend : l.pending = pend
  fn : l.fn = fn
  tm : FR f tm nt l.tmps
  ps : l.params = ps
  asg : l.assign = asg
  body : l.body = body
  df : ∃ sh E, f df = some (l.defers, sh, E)

def CR (f : Inj) (L : Nat × Nat × Nat) (el : Nat) (cs : List AV) (opn clean : Bool) (c : Array Value) (el' : Nat) (fz : Nat × Nat) : Prop :=
  el' = el ∧ c.size = L.2.2 ∧ (∀ (i : Nat) (x : AV), cs[i]? = some x → ∃ v, c[L.2.1 + i]? = some v ∧ VR f x v) ∧ (opn = false → L.2.1 = 0 ∧ c.size = cs.length) ∧ (clean = true → fz = (0, 0))

def BR (f : Inj) (L : Nat × Nat × Nat) : Blk → Obj → Prop
  | .cells el cs opn clean, .cells c el' fz => CR f L el cs opn clean c el' fz
  | .map es clock, .map es' clock' => clock' = clock ∧ MR f es es'.toList
  | .siter s pos, .stringIter s' pos' => s'.data.toList = s ∧ pos' = pos ∧ L.2.1 = 0
  | .miter, .mapIter m _ _ _ => m = none ∧ L.2.1 = 0
  | .loop st pend fn tm nt ps asg body df, .loop l => LR f st pend fn tm nt ps asg body df l
  | .defs, .deferred c => c = some []
  | .taken, .deferred c => c = none
  | .dead, _ => True
  | _, _ => False

def alive (h : H) (b : Nat) : Prop := h.blk.get b ≠ some .dead

structure HR (f : Inj) (h : H) (w : World) : Prop where
  dom : ∀ b L, f b = some L → b < h.next ∧ ∃ blk o, h.blk.get b = some blk ∧ w.heap[L.1]? = some o ∧ BR f L blk o
  inj : ∀ b b' L L', f b = some L → f b' = some L' → alive h b → alive h b' → L.1 = L'.1 → b = b'
  glob : ∀ g, memN g h.gl = true → ∃ E, f g = some (g, 0, E)

structure Ext (f : Inj) (h : H) (w : World) (f' : Inj) (h' : H) (w' : World) : Prop where
  sub : Sub f f'
  old : ∀ b, b < h.next → f b = none → f' b = none ∧ h'.blk.get b = h.blk.get b
  next : h.next ≤ h'.next
  size : w.heap.size ≤ w'.heap.size
  dead : ∀ b, b < h.next → h.blk.get b = some .dead → h'.blk.get b = some .dead
  rng : ∀ b L, f' b = some L → alive h' b → w.heap.size ≤ L.1 ∨ ∃ b' L', f b' = some L' ∧ alive h b' ∧ L'.1 = L.1
  kept : ∀ B, B < w.heap.size → (∀ b L, f b = some L → alive h b → L.1 ≠ B) → w'.heap[B]? = w.heap[B]?
  still : w'.os = w.os ∧ w'.output = w.output

theorem Ext.refl (f : Inj) (h : H) (w : World) : Ext f h w f h w :=
  ⟨Sub.refl f, fun _ _ e => ⟨e, rfl⟩, Nat.le_refl _, Nat.le_refl _, fun _ _ e => e, fun b L e a => .inr ⟨b, L, e, a, rfl⟩, fun _ _ _ => rfl, rfl, rfl⟩

theorem Ext.trans {f g k : Inj} {h h' h'' : H} {w w' w'' : World} (a : Ext f h w g h' w') (b : Ext g h' w' k h'' w'') : Ext f h w k h'' w'' where
  sub := a.sub.trans b.sub
  old := fun x hx e => by
    obtain ⟨e1, e2⟩ := a.old x hx e
    obtain ⟨e3, e4⟩ := b.old x (Nat.lt_of_lt_of_le hx a.next) e1
    exact ⟨e3, e4.trans e2⟩
  next := Nat.le_trans a.next b.next
  still := ⟨b.still.1.trans a.still.1, b.still.2.trans a.still.2⟩
  size := Nat.le_trans a.size b.size
  dead := fun x hx e => b.dead x (Nat.lt_of_lt_of_le hx a.next) (a.dead x hx e)
  rng := fun x L e al => by
    rcases b.rng x L e al with h1 | ⟨y, L', h1, h2, h3⟩
    · exact .inl (Nat.le_trans a.size h1)
    · rcases a.rng y L' h1 h2 with h4 | ⟨z, L'', h4, h5, h6⟩
      · exact .inl (h3 ▸ h4)
      · exact .inr ⟨z, L'', h4, h5, h6.trans h3⟩
  kept := fun B hB hn => by
    rw [b.kept B (Nat.lt_of_lt_of_le hB a.size) ?_, a.kept B hB hn]
    intro x L e al hL
    rcases a.rng x L e al with h1 | ⟨z, L', h1, h2, h3⟩
    · omega
    · exact hn z L' h1 h2 (h3.trans hL)

theorem FR.mono {f g : Inj} (s : Sub f g) {tm : Tr AV} {nt : Nat} {tmps : Array Value} (h : FR f tm nt tmps) : FR g tm nt tmps :=
  ⟨h.1, fun t => (h.2 t).mono s⟩

theorem MR.mono {f g : Inj} (s : Sub f g) : ∀ {a : List (AV × AV × Nat)} {b : List MapEntry}, MR f a b → MR g a b
  | _, _, .nil => .nil
  | _, _, .cons k v n e es es' hk hv hn hs => .cons k v n e es es' (hk.mono s) (hv.mono s) hn (MR.mono s hs)

theorem BR.mono {f g : Inj} (s : Sub f g) {L : Nat × Nat × Nat} {b : Blk} {o : Obj} (h : BR f L b o) : BR g L b o := by
  cases b <;> cases o <;> simp only [BR] at h ⊢ <;> try exact h
  · obtain ⟨h1, h2, h3, h4, h5⟩ := h
    exact ⟨h1, h2, fun i x e => let ⟨v, a, b⟩ := h3 i x e; ⟨v, a, b.mono s⟩, h4, h5⟩
  · exact ⟨h.1, h.2.mono s⟩
  · exact ⟨h.1, h.2, h.3, h.4.mono s, h.5, h.6, h.7, let ⟨sh, E, e⟩ := h.8; ⟨sh, E, s _ _ e⟩⟩

/-- the operand's value -/
def OR (f : Inj) (ρ : Operand → Option AV) (ρ' : Operand → Value) : Prop := ∀ x a, ρ x = some a → VR f a (ρ' x)

end Go.Xec
