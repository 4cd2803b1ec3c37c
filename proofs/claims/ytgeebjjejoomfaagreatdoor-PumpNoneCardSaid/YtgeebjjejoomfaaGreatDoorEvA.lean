/- An evaluator of the given program's code over plain values and a plain heap: it computes what a call comes to, whatever order Go leaves open. Conditions: none (definitions alone). -/
import Derived.Calls
import Derived.Orders
import Derived.Laws.AppendOwn
import Derived.Laws.CopyRow
import Derived.Laws.Cells
import Derived.Laws.Strings2
import Derived.Laws.Concat
import Derived.IntWalk
import Derived.Laws.StructEq
import Derived.ChangeKeysEq
import Derived.WalkSpells
import Derived.WideLaws
import Derived.Laws.BytesArg
import Derived.Deep.AppendSrc
import Derived.MapKept
set_option linter.unusedVariables false
set_option linter.unusedSimpArgs false
set_option linter.unnecessarySimpa false
set_option linter.constructorNameAsVariable false
namespace Go.Av
noncomputable section

/-! ### Tries: the heap, the slots, the tables -/
inductive T (α : Type) where
  | nil
  | node (l : T α) (v : Option α) (r : T α)
namespace T
variable {α : Type}
def get (t : T α) : Nat → Option α :=
  T.rec (motive := fun _ => Nat → Option α) (fun _ => none) (fun _ v _ gl gr n => Bool.rec (Bool.rec (gr (Nat.div (Nat.sub n 1) 2)) (gl (Nat.div (Nat.sub n 1) 2)) (Nat.beq (Nat.mod n 2) 1)) v (Nat.beq n 0)) t
def setF (f : Nat) : T α → Nat → Option α → T α :=
  Nat.rec (motive := fun _ => T α → Nat → Option α → T α) (fun t _ _ => t) (fun _ ih t n v =>
    T.rec (motive := fun _ => T α)
      (Bool.rec (Bool.rec (.node .nil none (ih .nil (Nat.div (Nat.sub n 1) 2) v)) (.node (ih .nil (Nat.div (Nat.sub n 1) 2) v) none .nil) (Nat.beq (Nat.mod n 2) 1)) (.node .nil v .nil) (Nat.beq n 0))
      (fun l x r _ _ => Bool.rec (Bool.rec (.node l x (ih r (Nat.div (Nat.sub n 1) 2) v)) (.node (ih l (Nat.div (Nat.sub n 1) 2) v) x r) (Nat.beq (Nat.mod n 2) 1)) (.node l v r) (Nat.beq n 0)) t) f
theorem get_node (l : T α) (v : Option α) (r : T α) (n : Nat) : (node l v r).get n = bif Nat.beq n 0 then v else bif Nat.beq (n % 2) 1 then l.get ((n - 1) / 2) else r.get ((n - 1) / 2) := by
  show (Bool.rec (Bool.rec _ _ (Nat.beq (n % 2) 1)) v (Nat.beq n 0) : Option α) = _
  cases Nat.beq n 0 <;> cases Nat.beq (n % 2) 1 <;> rfl
theorem setF_nil (f n : Nat) (v : Option α) : setF (f + 1) nil n v = bif Nat.beq n 0 then node nil v nil else bif Nat.beq (n % 2) 1 then node (setF f nil ((n - 1) / 2) v) none nil else node nil none (setF f nil ((n - 1) / 2) v) := by
  show (Bool.rec (Bool.rec _ _ (Nat.beq (n % 2) 1)) _ (Nat.beq n 0) : T α) = _
  cases Nat.beq n 0 <;> cases Nat.beq (n % 2) 1 <;> rfl
theorem setF_node (f : Nat) (l : T α) (x : Option α) (r : T α) (n : Nat) (v : Option α) : setF (f + 1) (node l x r) n v = bif Nat.beq n 0 then node l v r else bif Nat.beq (n % 2) 1 then node (setF f l ((n - 1) / 2) v) x r else node l x (setF f r ((n - 1) / 2) v) := by
  show (Bool.rec (Bool.rec _ _ (Nat.beq (n % 2) 1)) _ (Nat.beq n 0) : T α) = _
  cases Nat.beq n 0 <;> cases Nat.beq (n % 2) 1 <;> rfl
def set (t : T α) (n : Nat) (v : Option α) : T α := setF (n + 1) t n v
end T

/-! ### Values -/
inductive AV where
  | int (k : IntKind) (n : Int)
  | bool (b : Bool)
  | str (s : List UInt8)
  | ptr (p : Option (Nat × Nat))
  | slc (p : Option (Nat × Nat)) (len size : Nat)
  | map (m : Option Nat)
  | fn (f : FuncId) (args : List AV)
  | nilfn
  | niliface
  | agg (cs : List AV)
  | tup (vs : List AV)
  deriving Inhabited
def AV.cells : AV → List AV
  | .agg cs => cs
  | v => [v]
def AV.one : AV → Bool
  | .agg _ | .tup _ => false
  | _ => true

inductive Obj where
  /-- cells; ro: that may be read alone -/
  | row (ro : Bool) (cs : List AV)
  | map (es : List (AV × AV)) (clk : Nat)
  /-- of a map gone through: what is left, and which key is at hand -/
  | iter (m : Option Nat) (since : Nat) (left : List AV) (cur : Option AV)

/-- the heap: what lies below 'prot' may not be written -/
structure Hp where
  h : T Obj
  next : Nat
  prot : Nat
namespace Hp
def get (H : Hp) (i : Nat) : Option Obj := H.h.get i
def put (H : Hp) (i : Nat) (o : Option Obj) : Hp := ⟨H.h.set i o, H.next, H.prot⟩
def wr (H : Hp) (i : Nat) (o : Option Obj) : Option Hp := bif Nat.ble H.prot i then some (H.put i o) else none
def new (H : Hp) (o : Obj) : Hp := ⟨H.h.set H.next (some o), H.next + 1, H.prot⟩
end Hp
def chk (b : Bool) : Option Unit := bif b then some () else none

/-! ### Equality, by which outcomes are merged -/
mutual
def AV.beq : AV → AV → Bool
  | .int j a, .int k b => decide (j = k) && decide (a = b)
  | .bool a, .bool b => a == b
  | .str a, .str b => decide (a = b)
  | .ptr a, .ptr b => decide (a = b)
  | .slc a b c, .slc d e f => decide (a = d) && (Nat.beq b e && Nat.beq c f)
  | .map a, .map b => decide (a = b)
  | .fn a b, .fn d e => Nat.beq a d && AV.beqs b e
  | .nilfn, .nilfn => true
  | .niliface, .niliface => true
  | .agg a, .agg b => AV.beqs a b
  | .tup a, .tup b => AV.beqs a b
  | _, _ => false
def AV.beqs : List AV → List AV → Bool
  | [], [] => true
  | a :: as, b :: bs => AV.beq a b && AV.beqs as bs
  | _, _ => false
end
def beqP : List (AV × AV) → List (AV × AV) → Bool
  | [], [] => true
  | (a, u) :: as, (b, v) :: bs => AV.beq a b && (AV.beq u v && beqP as bs)
  | _, _ => false
def beqO : Option AV → Option AV → Bool
  | none, none => true
  | some a, some b => AV.beq a b
  | _, _ => false
def Obj.beq : Obj → Obj → Bool
  | .row r a, .row s b => (r == s) && AV.beqs a b
  | .map a c, .map b d => Nat.beq c d && beqP a b
  | .iter a b c d, .iter e f g h => decide (a = e) && (Nat.beq b f && (AV.beqs c g && beqO d h))
  | _, _ => false
def beqOO : Option Obj → Option Obj → Bool
  | none, none => true
  | some a, some b => Obj.beq a b
  | _, _ => false
def T.beq : T Obj → T Obj → Bool
  | .nil, .nil => true
  | .node a b c, .node d e f => beqOO b e && (T.beq a d && T.beq c f)
  | _, _ => false
def sameR (a b : AV × Hp) : Bool := AV.beq a.1 b.1 && (Nat.beq a.2.next b.2.next && (Nat.beq a.2.prot b.2.prot && T.beq a.2.h b.2.h))
def anyB {α : Type} (p : α → Bool) : List α → Bool
  | [] => false
  | x :: xs => p x || anyB p xs
def merge : List (AV × Hp) → List (AV × Hp)
  | [] => []
  | [x] => [x]
  | x :: y :: xs => bif anyB (sameR x) (merge (y :: xs)) then merge (y :: xs) else x :: merge (y :: xs)

/-! ### Types -/
inductive TD where
  | bool | int (k : IntKind) | str | ptr (e : Nat) | slice (e : Nat) | array (n e : Nat) | map (k e : Nat) | struct (fs : List (Nat × Nat)) | func | iface
/-- the sorts of cells that are compared -/
inductive EK where
  | i (k : IntKind)
  | b
  | s
structure TI where
  d : TD
  size : Nat
  bytes : Nat
  zero : Option AV
  /-- a struct or an array that is compared cell by cell: of which sorts these are; [] of others -/
  eqk : List EK
def TD.isAgg : TD → Bool
  | .array .. | .struct .. => true
  | _ => false

/-! ### Functions -/
structure AFn where
  code : Code
  results : List ResultVar
  /-- of regions whose order is open: loads beside stores of other memory -/
  odd : List (Nat × List (Nat × Nat))
structure Ctx where
  ty : Nat → Option TI
  fn : Nat → Option AFn
  /-- what is known of a function, in the place of its code -/
  prim : Nat → Option (List AV → Hp → Option (List (AV × Hp)))
  /-- functions that write to no memory that was there -/
  quiet : Nat → Bool

abbrev M (α : Type) := Option (List α)
def bindL {α β : Type} (k : α → M β) : List α → M β
  | [] => some []
  | x :: xs => match k x, bindL k xs with
    | some a, some b => some (a ++ b)
    | _, _ => none
def M.bind {α β : Type} (m : M α) (k : α → M β) : M β :=
  match m with
  | none => none
  | some [] => some []
  | some [x] => k x
  | some (x :: y :: l) => bindL k (x :: y :: l)
def nth {α : Type} : List α → Nat → Option α
  | [], _ => none
  | x :: _, 0 => some x
  | _ :: xs, n + 1 => nth xs n

/-! ### Constants, slots -/
def ofVal : Value → Option AV
  | .int k n => some (.int k n)
  | .bool b => some (.bool b)
  | .string s => some (.str s.data.toList)
  | .pointer none => some (.ptr none)
  | .slice none 0 0 => some (.slc none 0 0)
  | .map none => some (.map none)
  | .nilFunc => some .nilfn
  | .nilIface => some .niliface
  | _ => none
def undefA : AV := .tup []
def ev (E : T AV) : Operand → Option AV
  | .tmp t => some ((E.get t).getD undefA)
  | .const v => ofVal v
  | .func f => some (.fn f [])
  | .global _ => none
def evs (E : T AV) : List Operand → Option (List AV)
  | [] => some []
  | o :: os => match ev E o, evs E os with
    | some a, some as => some (a :: as)
    | _, _ => none
def evParts (E : T AV) : List (Nat × Operand) → Option (List (Nat × AV))
  | [] => some []
  | (i, o) :: os => match ev E o, evParts E os with
    | some a, some as => some ((i, a) :: as)
    | _, _ => none
def optEv (E : T AV) : Option Operand → Option (Option AV)
  | none => some none
  | some o => (ev E o).map some

/-! ### What values are -/
def asPtr : AV → Option (Nat × Nat)
  | .ptr p => p
  | _ => none
def asInt : AV → Option Int
  | .int _ n => some n
  | _ => none
def asBool : AV → Option Bool
  | .bool b => some b
  | _ => none
def asAgg : AV → Option (List AV)
  | .agg cs => some cs
  | _ => none
def asStr : AV → Option (List UInt8)
  | .str s => some s
  | _ => none
def asSlc : AV → Option (Option (Nat × Nat) × Nat × Nat)
  | .slc p n k => some (p, n, k)
  | _ => none
def asTup : AV → Option (List AV)
  | .tup vs => some vs
  | _ => none
def asMap : AV → Option Nat
  | .map m => m
  | _ => none
def natOf : Int → Option Nat
  | .ofNat n => some n
  | .negSucc _ => none

def TI.structT (i : TI) : Option (List (Nat × Nat)) := match i.d with | .struct fs => some fs | _ => none
def TI.sliceT (i : TI) : Option Nat := match i.d with | .slice e => some e | _ => none
def TI.arrayT (i : TI) : Option (Nat × Nat) := match i.d with | .array n e => some (n, e) | _ => none
def TI.mapT (i : TI) : Option (Nat × Nat) := match i.d with | .map k e => some (k, e) | _ => none

/-! ### Operations on numbers and texts -/
def limA : IntKind → Nat
  | .i8 => 128 | .i16 => 32768 | .i32 => 2147483648 | .i64 => 9223372036854775808
  | .u8 => 256 | .u16 => 65536 | .u32 => 4294967296 | .u64 => 18446744073709551616
/-- as 'wrap', with a shorter way for what needs none -/
def wrapA (k : IntKind) (n : Int) : Int :=
  match n with
  | .ofNat m => bif Nat.blt m (limA k) then .ofNat m else k.wrap (.ofNat m)
  | .negSucc m => bif k.signed && Nat.blt m (limA k) then .negSucc m else k.wrap (.negSucc m)
def arith (op : BinOp) (k : IntKind) (x y : Int) : Option AV :=
  match op with
  | .add => some (.int k (wrapA k (x + y)))
  | .sub => some (.int k (wrapA k (x - y)))
  | .mul => some (.int k (wrapA k (x * y)))
  | .quo => bif decide (y = 0) then none else some (.int k (wrapA k (x.tdiv y)))
  | .rem => bif decide (y = 0) then none else some (.int k (x.tmod y))
  | .and => some (.int k (wrapA k (BitVec.ofInt k.bits x &&& BitVec.ofInt k.bits y).toNat))
  | .or => some (.int k (wrapA k (BitVec.ofInt k.bits x ||| BitVec.ofInt k.bits y).toNat))
  | .xor => some (.int k (wrapA k (BitVec.ofInt k.bits x ^^^ BitVec.ofInt k.bits y).toNat))
  | .andNot => some (.int k (wrapA k (BitVec.ofInt k.bits x &&& ~~~ BitVec.ofInt k.bits y).toNat))
  | .eql => some (.bool (x == y))
  | .neq => some (.bool (x != y))
  | .lss => some (.bool (decide (x < y)))
  | .leq => some (.bool (decide (x ≤ y)))
  | .gtr => some (.bool (decide (x > y)))
  | .geq => some (.bool (decide (x ≥ y)))
  | _ => none
def shiftA (op : BinOp) (k : IntKind) (x y : Int) : Option AV := do
  let n ← natOf y
  match op with
  | .shl => some (.int k (wrapA k (x * ((2 ^ (min n k.bits) : Nat) : Int))))
  | .shr => some (.int k (x.fdiv ((2 ^ (min n k.bits) : Nat) : Int)))
  | _ => none
def strA (op : BinOp) (x y : List UInt8) : Option AV :=
  match op with
  | .add => bif Nat.ble (x.length + y.length) 9223372036854775807 then some (.str (x ++ y)) else none
  | .eql => some (.bool (x == y))
  | .neq => some (.bool !(x == y))
  | .lss => some (.bool (Op.bytesLess x y))
  | .leq => some (.bool (Op.bytesLess x y || x == y))
  | .gtr => some (.bool !(Op.bytesLess x y || x == y))
  | .geq => some (.bool !(Op.bytesLess x y))
  | _ => none
def eqScalar : TD → AV → AV → Option Bool
  | .int _, .int j a, .int k b => bif decide (j = k) then some (a == b) else none
  | .bool, .bool a, .bool b => some (a == b)
  | .str, .str a, .str b => some (a == b)
  | .ptr _, .ptr none, .ptr p => some p.isNone
  | .ptr _, .ptr (some _), .ptr none => some false
  | .slice _, .slc none _ _, .slc p _ _ => some p.isNone
  | .slice _, .slc (some _) _ _, .slc none _ _ => some false
  | .map .., .map none, .map p => some p.isNone
  | .map .., .map (some _), .map none => some false
  | _, _, _ => none
def eqK : EK → AV → AV → Option Bool
  | .i q, .int j a, .int k b => bif decide (j = q) && decide (k = q) then some (a == b) else none
  | .b, .bool a, .bool b => some (a == b)
  | .s, .str a, .str b => some (a == b)
  | _, _, _ => none
def eqCells : List EK → List AV → List AV → Option Bool
  | [], [], [] => some true
  | k :: ks, a :: as, b :: bs => match eqK k a b, eqCells ks as bs with
    | some x, some y => some (x && y)
    | _, _ => none
  | _, _, _ => none
/-- '==' of two values of a type -/
def eqv (i : TI) (x y : AV) : Option Bool :=
  match x, y with
  | .agg xs, .agg ys => match i.eqk with
    | [] => none
    | k :: ks => eqCells (k :: ks) xs ys
  | x, y => eqScalar i.d x y
def bin (C : Ctx) (op : BinOp) (t : TypeId) (x y : AV) : Option AV :=
  match x, y with
  | .int k a, .int k' b => match op with
    | .shl | .shr => shiftA op k a b
    | _ => bif decide (k = k') then arith op k a b else none
  | .str a, .str b => strA op a b
  | _, _ => match op with
    | .eql => do let i ← C.ty t; let b ← eqv i x y; some (.bool b)
    | .neq => do let i ← C.ty t; let b ← eqv i x y; some (.bool !b)
    | _ => none
def un (op : UnOp) (x : AV) : Option AV :=
  match op, x with
  | .neg, .int k n => some (.int k (wrapA k (0 - n)))
  | .xor, .int k n => some (.int k (wrapA k (BitVec.ofInt k.bits (if k.signed then -1 else k.max) ^^^ BitVec.ofInt k.bits n).toNat))
  | .not, .bool b => some (.bool !b)
  | _, _ => none

/-! ### Memory -/
def rowOf (H : Hp) (id : Nat) : Option (List AV) :=
  match H.get id with
  | some (.row _ cs) => some cs
  | _ => none
def rowW (H : Hp) (id : Nat) : Option (List AV) :=
  match H.get id with
  | some (.row false cs) => some cs
  | _ => none
def mapOf (H : Hp) (id : Nat) : Option (List (AV × AV) × Nat) :=
  match H.get id with
  | some (.map es clk) => some (es, clk)
  | _ => none
def sub (cs : List AV) (off n : Nat) : Option (List AV) := bif Nat.ble (off + n) cs.length then some ((cs.drop off).take n) else none
def splice (cs : List AV) (off : Nat) (vs : List AV) : Option (List AV) :=
  bif Nat.ble (off + vs.length) cs.length then some (cs.take off ++ (vs ++ cs.drop (off + vs.length))) else none
def putCells (cs : List AV) (off : Nat) (vs : List AV) : Option (List AV) := bif vs.all AV.one then splice cs off vs else none
def zerosOf (z : List AV) : Nat → List AV
  | 0 => []
  | n + 1 => z ++ zerosOf z n
def fillA (place : Nat → Option (Nat × Nat)) (cells : List AV) : List (Nat × AV) → Option (List AV)
  | [] => some cells
  | (i, v) :: rest => do
    let (off, size) ← place i
    chk (Nat.beq v.cells.length size)
    let c ← splice cells off v.cells
    fillA place c rest
def fieldOf (C : Ctx) (t f : Nat) : Option (Nat × TI) := do
  let i ← C.ty t
  let fs ← i.structT
  let (o, ft) ← nth fs f
  let j ← C.ty ft
  some (o, j)
def elemS (C : Ctx) (t : Nat) : Option TI := do
  let i ← C.ty t
  let e ← i.sliceT
  C.ty e
def elemA (C : Ctx) (t : Nat) : Option (Nat × TI) := do
  let i ← C.ty t
  let (n, e) ← i.arrayT
  let j ← C.ty e
  some (n, j)
def partA (i : TI) (cs : List AV) (off : Nat) : Option AV := bif i.d.isAgg then (sub cs off i.size).map .agg else nth cs off
def buildA (C : Ctx) (t : TypeId) (parts : List (Nat × AV)) : Option AV := do
  let i ← C.ty t
  let z ← i.zero
  match i.d with
  | .struct fs => do
    let c ← fillA (fun n => do let (o, ft) ← nth fs n; let j ← C.ty ft; some (o, j.size)) z.cells parts
    some (.agg c)
  | .array _ e => do
    let j ← C.ty e
    let c ← fillA (fun n => some (n * j.size, j.size)) z.cells parts
    some (.agg c)
  | _ => none
def buildSliceA (C : Ctx) (H : Hp) (t : TypeId) (len : Nat) (parts : List (Nat × AV)) : Option (AV × Hp) := do
  let j ← elemS C t
  let z ← j.zero
  chk (Nat.ble (len * j.size) 16777216 && (Nat.ble len 16777216 && Nat.beq z.cells.length j.size))
  let cs ← fillA (fun i => some (i * j.size, j.size)) (zerosOf z.cells len) parts
  some (.slc (some (H.next, 0)) len j.size, H.new (.row false cs))
def loadA (C : Ctx) (H : Hp) (t : TypeId) (a : AV) : Option AV := do
  let (id, off) ← asPtr a
  let cs ← rowOf H id
  let i ← C.ty t
  partA i cs off
def storeA (C : Ctx) (H : Hp) (t : TypeId) (a v : AV) : Option Hp := do
  let (id, off) ← asPtr a
  let cs ← rowW H id
  let i ← C.ty t
  chk (Nat.beq v.cells.length i.size)
  let cs' ← putCells cs off v.cells
  H.wr id (some (.row false cs'))
def fieldAddrA (C : Ctx) (t : TypeId) (f : Nat) (a : AV) : Option AV := do
  let (id, off) ← asPtr a
  let (o, j) ← fieldOf C t f
  chk (Nat.blt 0 j.size)
  some (.ptr (some (id, off + o)))
def fieldA (C : Ctx) (t : TypeId) (f : Nat) (x : AV) : Option AV := do
  let cs ← asAgg x
  let (o, j) ← fieldOf C t f
  partA j cs o
def indexAddrA (C : Ctx) (t : TypeId) (x ix : AV) : Option AV :=
  match x with
  | .ptr (some (id, off)) => do
    let (n, j) ← elemA C t
    let i ← asInt ix
    let i ← natOf i
    chk (Nat.blt i n)
    some (.ptr (some (id, off + i * j.size)))
  | .slc (some (id, off)) len size => do
    let j ← elemS C t
    let i ← asInt ix
    let i ← natOf i
    chk (Nat.blt i len && Nat.beq j.size size)
    some (.ptr (some (id, off + i * size)))
  | _ => none
def indexA (C : Ctx) (t : TypeId) (x ix : AV) : Option AV :=
  match x with
  | .agg cs => do
    let (n, j) ← elemA C t
    let i ← asInt ix
    let i ← natOf i
    chk (Nat.blt i n)
    partA j cs (i * j.size)
  | .str s => do
    let ti ← C.ty t
    chk (match ti.d with | .str => true | _ => false)
    let i ← asInt ix
    let i ← natOf i
    let b ← nth s i
    some (.int .u8 b.toNat)
  | _ => none
def bound (x : Option AV) (y d : Nat) : Option Nat :=
  match x with
  | none => some d
  | some v => do
    let i ← asInt v
    let i ← natOf i
    chk (Nat.ble i y)
    some i
def sliceA (C : Ctx) (H : Hp) (t : TypeId) (x : AV) (lo hi mx : Option AV) : Option AV :=
  match x with
  | .str s => do
    let ti ← C.ty t
    chk (match ti.d with | .str => true | _ => false)
    chk mx.isNone
    let h ← bound hi s.length s.length
    let l ← bound lo h 0
    some (.str ((s.drop l).take (h - l)))
  | .slc p len size => do
    let j ← elemS C t
    chk (p.isNone || Nat.beq j.size size)
    chk (mx.isNone || hi.isSome)
    let m ← bound mx len len
    let h ← bound hi m len
    let l ← bound lo h 0
    some (.slc (p.map fun (id, o) => (id, o + l * size)) (h - l) size)
  | .ptr (some (id, o)) => do
    let (n, j) ← elemA C t
    chk mx.isNone
    let cs ← rowOf H id
    chk (Nat.ble (o + n * j.size) cs.length && Nat.ble n 1000000)
    let h ← bound hi n n
    let l ← bound lo h 0
    some (.slc (some (id, o + l * j.size)) (h - l) j.size)
  | _ => none

/-! ### Maps -/
/-- what keys may be: numbers, truth values, texts, and structs of these -/
def AV.atom : AV → Bool
  | .int .. | .bool _ | .str _ => true
  | _ => false
def AV.key : AV → Bool
  | .agg as => as.all AV.atom
  | a => a.atom

def look (k : AV) (i : TI) : List (AV × AV) → Option (Option AV)
  | [] => some none
  | (a, v) :: es => do
    let b ← eqv i k a
    bif b then some (some v) else look k i es
def keyLe : AV → AV → Bool
  | .int _ a, .int _ b => decide (a ≤ b)
  | _, _ => false
/-- the entries behind 'm[k] = v'; is there one more? -/
def upd (k v : AV) (i : TI) : List (AV × AV) → Option (List (AV × AV) × Bool)
  | [] => some ([(k, v)], true)
  | (a, u) :: es => do
    let b ← eqv i k a
    bif b then some ((a, v) :: es, false) else do
      let (l, n) ← upd k v i es
      bif n && keyLe k a then some ((k, v) :: (a, u) :: es, true) else some ((a, u) :: l, n)
def lookupA (C : Ctx) (H : Hp) (t : TypeId) (m k : AV) (ok : Bool) : Option AV := do
  let i ← C.ty t
  let (kt, et) ← i.mapT
  let ki ← C.ty kt
  chk k.key
  let _ ← eqv ki k k
  let ei ← C.ty et
  let r ← (match m with
    | .map none => some none
    | .map (some id) => do let (es, _) ← mapOf H id; look k ki es
    | _ => none : Option (Option AV))
  match r with
  | some v => some (bif ok then .tup [v, .bool true] else v)
  | none => do
    let z ← ei.zero
    some (bif ok then .tup [z, .bool false] else z)
def updateA (C : Ctx) (H : Hp) (t : TypeId) (m k v : AV) : Option Hp := do
  let i ← C.ty t
  let (kt, _) ← i.mapT
  let ki ← C.ty kt
  chk k.key
  let _ ← eqv ki k k
  let id ← asMap m
  let (es, clk) ← mapOf H id
  let (es', n) ← upd k v ki es
  H.wr id (some (.map es' (bif n then clk + 1 else clk)))
def rangeA (C : Ctx) (H : Hp) (t : TypeId) (x : AV) : Option (AV × Hp) := do
  let i ← C.ty t
  let _ ← i.mapT
  match x with
  | .map none => some (.ptr (some (H.next, 0)), H.new (.iter none 0 [] none))
  | .map (some m) => do
    let (es, clk) ← mapOf H m
    some (.ptr (some (H.next, 0)), H.new (.iter (some m) clk (es.map (·.1)) none))
  | _ => none
/-- each element, and the others -/
def picks {α : Type} : List α → List (α × List α)
  | [] => []
  | x :: xs => (x, xs) :: (picks xs).map fun y => (y.1, x :: y.2)
def iterOf (H : Hp) (r : Nat) : Option (Option Nat × Nat × List AV × Option AV) :=
  match H.get r with
  | some (.iter m s l c) => some (m, s, l, c)
  | _ => none
def mapL {α β : Type} (f : α → Option β) : List α → Option (List β)
  | [] => some []
  | x :: xs => match f x, mapL f xs with
    | some y, some ys => some (y :: ys)
    | _, _ => none
def findKeyA (k : AV) : List (AV × AV) → Option AV
  | [] => none
  | (a, v) :: es => bif AV.beq k a then some v else findKeyA k es
def nextA (H : Hp) (it : AV) : Option (List (AV × Hp)) := do
  let (r, off) ← asPtr it
  chk (Nat.beq off 0)
  let (m, since, left, _) ← iterOf H r
  match m with
  | none => do
    let H ← H.wr r (some (.iter none since [] none))
    some [(.tup [.bool false], H)]
  | some id => do
    let (es, clk) ← mapOf H id
    chk (Nat.beq clk since)
    match left with
    | [] => do
      let H ← H.wr r (some (.iter (some id) since [] none))
      some [(.tup [.bool false], H)]
    | _ :: _ => mapL (fun y => do
      let v ← findKeyA y.1 es
      let H ← H.wr r (some (.iter (some id) since y.2 (some y.1)))
      some (.tup [.bool true, y.1, v], H)) (picks left)
def entryA (H : Hp) (it : AV) : Option AV := do
  let (r, off) ← asPtr it
  chk (Nat.beq off 0)
  let (m, since, _, cur) ← iterOf H r
  let k ← cur
  let id ← m
  let (es, clk) ← mapOf H id
  chk (Nat.beq clk since)
  let v ← findKeyA k es
  some (.tup [k, v])

/-! ### Builtins -/
def sliceCells (H : Hp) (len size : Nat) : Option (Nat × Nat) → Option (List AV)
  | none => some []
  | some (id, off) => do let cs ← rowOf H id; sub cs off (len * size)
def bytesCells (s : List UInt8) : List AV := s.map fun b => .int .u8 b.toNat
/-- what is appended, or copied: how many elements, and their cells -/
def newsOf (H : Hp) (size : Nat) (x : AV) : Option (Nat × List AV) :=
  match x with
  | .slc q m sz => do
    chk (q.isNone || Nat.beq sz size)
    let c ← sliceCells H m size q
    some (m, c)
  | .str b => do
    chk (Nat.beq size 1)
    some (b.length, bytesCells b)
  | _ => none
def growOk (n bytes : Nat) : Bool := Nat.ble (n * bytes) 140737488355328 && Nat.ble n 9223372036854775806
def appendA (C : Ctx) (H : Hp) (t t2 : TypeId) (s x : AV) : Option (AV × Hp) := do
  let j ← elemS C t
  let _ ← j.zero
  let j2 ← C.ty t2
  chk (match j2.d with | .slice _ | .str => true | _ => false)
  let (p, len, size) ← asSlc s
  chk ((p.isNone || Nat.beq size j.size) && Nat.blt 0 j.size)
  let (m, news) ← newsOf H j.size x
  bif Nat.beq m 0 then some (s, H) else do
    chk (growOk (len + m) j.bytes && (news.all AV.one && Nat.beq news.length (m * j.size)))
    let old ← sliceCells H len j.size p
    let H' ← (match p with | none => some H | some (id, _) => do let _ ← rowW H id; H.wr id none : Option Hp)
    some (.slc (some (H'.next, 0)) (len + m) j.size, H'.new (.row false (old ++ news)))
def cutNews (n size : Nat) (c : List AV) : List AV := c.take (n * size)
def copyA (C : Ctx) (H : Hp) (t : TypeId) (d s : AV) : Option (AV × Hp) := do
  let j ← elemS C t
  let (p, len, size) ← asSlc d
  let (m, news) ← newsOf H j.size s
  let n := min m len
  match p with
  | none => some (.int .i64 n, H)
  | some (id, off) => do
    chk (Nat.beq size j.size)
    let old ← rowW H id
    let cs ← putCells old off (cutNews n j.size news)
    let H ← H.wr id (some (.row false cs))
    some (.int .i64 n, H)
def clearA (C : Ctx) (H : Hp) (t : TypeId) (x : AV) : Option Hp := do
  let j ← elemS C t
  let z ← j.zero
  let (p, n, size) ← asSlc x
  match p with
  | none => some H
  | some (id, off) => do
    chk (Nat.beq size j.size && Nat.beq z.cells.length j.size)
    let old ← rowW H id
    let cs ← putCells old off (zerosOf z.cells n)
    H.wr id (some (.row false cs))
def makeSliceA (C : Ctx) (H : Hp) (t : TypeId) (l c : AV) : Option (AV × Hp) := do
  let j ← elemS C t
  let z ← j.zero
  let l ← asInt l
  let l ← natOf l
  let c ← asInt c
  let c ← natOf c
  chk (Nat.ble l c && (Nat.ble c 9223372036854775807 && (Nat.ble (j.bytes * c) 140737488355328 && Nat.beq z.cells.length j.size)))
  some (.slc (some (H.next, 0)) l j.size, H.new (.row false (zerosOf z.cells l)))
def lenA (C : Ctx) (H : Hp) (t : TypeId) (x : AV) : Option AV := do
  let i ← C.ty t
  match i.d, x with
  | .str, .str s => some (.int .i64 s.length)
  | .array n _, _ => some (.int .i64 n)
  | .slice _, .slc _ n _ => some (.int .i64 n)
  | .map .., .map none => some (.int .i64 0)
  | .map .., .map (some id) => do let (es, _) ← mapOf H id; some (.int .i64 es.length)
  | _, _ => none
def min2A : AV → AV → Option AV
  | .int k x, .int _ y => some (.int k (if y < x then y else x))
  | _, _ => none
def max2A : AV → AV → Option AV
  | .int k x, .int _ y => some (.int k (if y > x then y else x))
  | _, _ => none
def foldA (f : AV → AV → Option AV) : AV → List AV → Option AV
  | a, [] => some a
  | a, b :: bs => match f a b with
    | some c => foldA f c bs
    | none => none
def bytesOfCells : List AV → Option (List UInt8)
  | [] => some []
  | .int .u8 n :: cs => (bytesOfCells cs).map (UInt8.ofNat n.toNat :: ·)
  | _ => none
def convertA (C : Ctx) (H : Hp) (src dst : TypeId) (x : AV) : Option AV := do
  let i ← C.ty src
  let j ← C.ty dst
  match x, j.d with
  | .int _ n, .int k => some (.int k (wrapA k n))
  | .str s, .str => some (.str s)
  | .slc p len size, .str => do
    let e ← i.sliceT
    let ei ← C.ty e
    chk (match ei.d with | .int .u8 => true | _ => false)
    match p with
    | none => some (.str [])
    | some _ => do
      chk (Nat.beq size 1)
      let cs ← sliceCells H len 1 p
      let b ← bytesOfCells cs
      some (.str b)
  | _, _ => none

/-! ### What comes of an operation: a value, or a call that is to be made -/
inductive Nx where
  | val (v : AV) (H : Hp)
  | call (f : FuncId) (args : List AV)
def val1 (H : Hp) : Option AV → M Nx
  | some v => some [.val v H]
  | none => none
def val2 : Option (AV × Hp) → M Nx
  | some r => some [.val r.1 r.2]
  | none => none
def skip1 : Option Hp → M Nx
  | some H => some [.val undefA H]
  | none => none
def builtinA (C : Ctx) (H : Hp) (b : Builtin) (ts : List TypeId) (args : List AV) : M Nx :=
  match b, ts, args with
  | .len, t :: _, [x] => val1 H (lenA C H t x)
  | .append, [t, t2], [s, x] => val2 (appendA C H t t2 s x)
  | .copy, t :: _, [d, s] => val2 (copyA C H t d s)
  | .min, _, x :: xs => val1 H (foldA min2A x xs)
  | .max, _, x :: xs => val1 H (foldA max2A x xs)
  | .clear, t :: _, [x] => skip1 (clearA C H t x)
  | _, _, _ => none
def nilCheckA : AV → Option AV
  | .ptr (some p) => some (.ptr (some p))
  | .fn f a => some (.fn f a)
  | _ => none
def pickA (c a b : AV) : Option AV := do
  let t ← asBool c
  some (bif t then a else b)
def oPick (E : T AV) (H : Hp) (c a b : Operand) : M Nx := val1 H (do let c ← ev E c; let a ← ev E a; let b ← ev E b; pickA c a b)
def oAlloc (C : Ctx) (H : Hp) (e : TypeId) : M Nx := val2 (do let i ← C.ty e; let z ← i.zero; some (.ptr (some (H.next, 0)), H.new (.row false z.cells)))
def oBox (E : T AV) (H : Hp) (x : Operand) : M Nx := val2 (do let v ← ev E x; some (.ptr (some (H.next, 0)), H.new (.row false v.cells)))
def oBuild (C : Ctx) (E : T AV) (H : Hp) (t : TypeId) (ps : Array (Nat × Operand)) : M Nx := val1 H (do let ps ← evParts E ps.toList; buildA C t ps)
def oBuildSlice (C : Ctx) (E : T AV) (H : Hp) (t : TypeId) (len : Nat) (ps : Array (Nat × Operand)) : M Nx := val2 (do let ps ← evParts E ps.toList; buildSliceA C H t len ps)
def oLoad (C : Ctx) (E : T AV) (H : Hp) (t : TypeId) (a : Operand) : M Nx := val1 H (do let a ← ev E a; loadA C H t a)
def oStore (C : Ctx) (E : T AV) (H : Hp) (t : TypeId) (a v : Operand) : M Nx := skip1 (do let a ← ev E a; let v ← ev E v; storeA C H t a v)
def oNil (E : T AV) (H : Hp) (x : Operand) : M Nx := val1 H (do let x ← ev E x; nilCheckA x)
def oBin (C : Ctx) (E : T AV) (H : Hp) (op : BinOp) (t : TypeId) (x y : Operand) : M Nx := val1 H (do let x ← ev E x; let y ← ev E y; bin C op t x y)
def oUn (E : T AV) (H : Hp) (op : UnOp) (x : Operand) : M Nx := val1 H (do let x ← ev E x; un op x)
def oConvert (C : Ctx) (E : T AV) (H : Hp) (s d : TypeId) (x : Operand) : M Nx := val1 H (do let x ← ev E x; convertA C H s d x)
def oFunc (E : T AV) (H : Hp) (f : Fn) (first cap : Array Operand) : M Nx :=
  match f with
  | .func f => val1 H (do chk first.isEmpty; let b ← evs E cap.toList; some (.fn f b))
  | _ => none
def oMakeMap (H : Hp) (r : Option Operand) : M Nx :=
  match r with
  | none => val2 (some (.map (some H.next), H.new (.map [] 0)))
  | some _ => none
def oMakeSlice (C : Ctx) (E : T AV) (H : Hp) (t : TypeId) (l c : Operand) : M Nx := val2 (do let l ← ev E l; let c ← ev E c; makeSliceA C H t l c)
def oSlice (C : Ctx) (E : T AV) (H : Hp) (t : TypeId) (x : Operand) (lo hi mx : Option Operand) : M Nx :=
  val1 H (do let x ← ev E x; let lo ← optEv E lo; let hi ← optEv E hi; let mx ← optEv E mx; sliceA C H t x lo hi mx)
def oFieldAddr (C : Ctx) (E : T AV) (H : Hp) (t : TypeId) (x : Operand) (f : Nat) : M Nx := val1 H (do let x ← ev E x; fieldAddrA C t f x)
def oField (C : Ctx) (E : T AV) (H : Hp) (t : TypeId) (x : Operand) (f : Nat) : M Nx := val1 H (do let x ← ev E x; fieldA C t f x)
def oIndexAddr (C : Ctx) (E : T AV) (H : Hp) (t : TypeId) (x i : Operand) : M Nx := val1 H (do let x ← ev E x; let i ← ev E i; indexAddrA C t x i)
def oIndex (C : Ctx) (E : T AV) (H : Hp) (t : TypeId) (x i : Operand) : M Nx := val1 H (do let x ← ev E x; let i ← ev E i; indexA C t x i)
def oLookup (C : Ctx) (E : T AV) (H : Hp) (t : TypeId) (m k : Operand) (ok : Bool) : M Nx := val1 H (do let m ← ev E m; let k ← ev E k; lookupA C H t m k ok)
def oUpdate (C : Ctx) (E : T AV) (H : Hp) (t : TypeId) (m k v : Operand) : M Nx := skip1 (do let m ← ev E m; let k ← ev E k; let v ← ev E v; updateA C H t m k v)
def oRange (C : Ctx) (E : T AV) (H : Hp) (t : TypeId) (x : Operand) : M Nx := val2 (do let x ← ev E x; rangeA C H t x)
def oNext (E : T AV) (H : Hp) (it : Operand) (str : Bool) : M Nx :=
  bif str then none else ((do let it ← ev E it; nextA H it) : Option (List (AV × Hp))).map fun l => l.map fun r => Nx.val r.1 r.2
def oEntry (E : T AV) (H : Hp) (it : Operand) : M Nx := val1 H (do let it ← ev E it; entryA H it)
def oExtract (E : T AV) (H : Hp) (x : Operand) (i : Nat) : M Nx := val1 H (do let x ← ev E x; let vs ← asTup x; nth vs i)
def oCall (C : Ctx) (E : T AV) (H : Hp) (c : Call) : M Nx :=
  match evs E c.args.toList with
  | none => none
  | some args => match c.callee with
    | .builtin b => builtinA C H b c.argTypes.toList args
    | .value f => match ev E f with
      | some (.fn f cap) => some [.call f (args ++ cap)]
      | _ => none
    | _ => none
def opB (C : Ctx) (E : T AV) (H : Hp) (o : Op) : M Nx :=
  match o with
  | .pick c a b => oPick E H c a b
  | .alloc e => oAlloc C H e
  | .build t ps => oBuild C E H t ps
  | .buildSlice t len ps => oBuildSlice C E H t len ps
  | .unOp op _ x => oUn E H op x
  | .convert s d x => oConvert C E H s d x
  | .makeFunc f first cap => oFunc E H f first cap
  | .makeMap _ r => oMakeMap H r
  | .makeSlice t l c => oMakeSlice C E H t l c
  | .slice t x lo hi mx => oSlice C E H t x lo hi mx
  | .field t x f => oField C E H t x f
  | .index t x i => oIndex C E H t x i
  | .lookup t m k ok => oLookup C E H t m k ok
  | .mapUpdate t m k v | .insert t m k v => oUpdate C E H t m k v
  | .range t x => oRange C E H t x
  | .next it s => oNext E H it s
  | .entry it => oEntry E H it
  | _ => none
def opA (C : Ctx) (E : T AV) (H : Hp) (o : Op) : M Nx :=
  match o with
  | .move x | .assign x => val1 H (ev E x)
  | .box _ x => oBox E H x
  | .load t a => oLoad C E H t a
  | .store t a v => oStore C E H t a v
  | .nilCheck x => oNil E H x
  | .binOp op t x y _ => oBin C E H op t x y
  | .fieldAddr t x f => oFieldAddr C E H t x f
  | .indexAddr t x i => oIndexAddr C E H t x i
  | .extract x i => oExtract E H x i
  | .call c => oCall C E H c
  | o => opB C E H o

/-! ### What is new, and isn't needed -/
mutual
/-- no memory from a number on -/
def AV.und (n : Nat) : AV → Bool
  | .ptr (some (i, _)) => Nat.blt i n
  | .slc (some (i, _)) _ _ => Nat.blt i n
  | .map (some i) => Nat.blt i n
  | .fn _ as => AV.unds n as
  | .agg as => AV.unds n as
  | .tup as => AV.unds n as
  | _ => true
def AV.unds (n : Nat) : List AV → Bool
  | [] => true
  | a :: as => AV.und n a && AV.unds n as
end
/-- is it a slice of a new row of what isn't new? -/
def freshRow (n : Nat) (G : Hp) : AV → Option (Nat × List AV × Nat × Nat)
  | .slc (some (i, 0)) len k => bif Nat.ble n i then (match G.get i with
    | some (.row false cs) => bif AV.unds n cs then some (i, cs, len, k) else none
    | _ => none) else none
  | _ => none
def hasN (i : Nat) : List Nat → Bool
  | [] => false
  | j :: js => Nat.beq i j || hasN i js
/-- results, of which new rows are numbered anew: n: what is new; G: the heap behind the call; H: the heap so far -/
def tidyL (n : Nat) (G : Hp) : List AV → List Nat → Hp → Option (List AV × Hp)
  | [], _, H => some ([], H)
  | v :: vs, met, H => bif AV.und n v then (match tidyL n G vs met H with
      | some (us, H') => some (v :: us, H')
      | none => none)
    else match freshRow n G v with
      | some (i, cs, len, k) => bif hasN i met then none else
        match tidyL n G vs (i :: met) (H.new (.row false cs)) with
        | some (us, H') => some (.slc (some (H.next, 0)) len k :: us, H')
        | none => none
      | none => none
def listOf : AV → List AV
  | .tup vs => vs
  | v => [v]
def likeOf (v : AV) (us : List AV) : AV :=
  match v, us with
  | .tup _, us => .tup us
  | _, u :: _ => u
  | v, [] => v
/-- behind a call that writes to no memory that was there: what it has made and doesn't hand out is dropped -/
def tidy (H : Hp) (r : AV × Hp) : AV × Hp :=
  match tidyL H.next r.2 (listOf r.1) [] H with
  | some (us, H') => (likeOf r.1 us, H')
  | none => (r.1, ⟨r.2.h, r.2.next, H.prot⟩)

/-! ### Code -/
inductive Ex where
  | norm | exit (id : Nat) | ret
structure Out where
  ex : Ex
  E : T AV
  H : Hp
def putE (E : T AV) (dst : Option Tmp) (v : AV) : T AV :=
  match dst with
  | some d => E.set d (some v)
  | none => E
def wantedA (ops : List Oper) (E : T AV) (o : Oper) : Option Bool :=
  match o.guard with
  | none => some true
  | some (j, want) => do
    let oj ← nth ops j
    let d ← oj.dst
    match (E.get d).getD undefA with
    | .bool b => some (b == want)
    | _ => some false
def resultsA (C : Ctx) (E : T AV) (H : Hp) : List ResultVar → Option (List AV)
  | [] => some []
  | .tmp t :: rs => do
    let vs ← resultsA C E H rs
    some ((E.get t).getD undefA :: vs)
  | .cell a t :: rs => do
    let v ← loadA C H t ((E.get a).getD undefA)
    let vs ← resultsA C E H rs
    some (v :: vs)
def packA : List AV → AV
  | [v] => v
  | vs => .tup vs
def envOf : List AV → Nat → T AV
  | [], _ => .nil
  | v :: vs, i => (envOf vs (i + 1)).set i (some v)
def single {α : Type} : List α → Option α
  | [x] => some x
  | _ => none
/-- what a load reads -/
def idAt (E : T AV) : Option Oper → Option Nat
  | some o => match o.op with
    | .load _ a => match ev E a with
      | some (.ptr (some p)) => some p.1
      | _ => none
    | _ => none
  | none => none
/-- a region whose order is open: of each of these pairs (a load; something that writes) the one leaves alone what the other reads -/
def oddOk (ops : List Oper) (snap : List (T AV × Hp × Hp)) : List (Nat × Nat) → Bool
  | [] => true
  | (i, j) :: l => match nth snap i, nth snap j with
    | some (E, _, _), some (_, G, H) => (match idAt E (nth ops i) with
      | some a => bif beqOO (G.get a) (H.get a) then oddOk ops snap l else false
      | none => false)
    | _, _ => false
def oddOf (id : Nat) : List (Nat × List (Nat × Nat)) → List (Nat × Nat)
  | [] => []
  | (i, l) :: r => bif Nat.beq i id then l else oddOf id r

/-- what a call comes to, when its code has ended -/
def endA (C : Ctx) (rs : List ResultVar) (o : Out) : M (AV × Hp) :=
  match o.ex with
  | .exit _ => none
  | _ => match resultsA C o.E o.H rs with
    | some vs => some [(packA vs, o.H)]
    | none => none
mutual
def callA (C : Ctx) : Nat → FuncId → List AV → Hp → M (AV × Hp)
  | 0, _, _, _ => none
  | n + 1, f, args, H =>
    match C.prim f with
    | some p => p args H
    | none => match C.fn f with
      | none => none
      | some a => bif C.quiet f then (M.bind (codeA C n a.odd a.code (envOf args 0) ⟨H.h, H.next, H.next⟩) (endA C a.results)).map fun l => merge (l.map (tidy H))
        else (M.bind (codeA C n a.odd a.code (envOf args 0) H) (endA C a.results)).map merge
/-- operations in their order -/
def opsA (C : Ctx) : Nat → List Oper → List Oper → T AV → Hp → M (T AV × Hp)
  | 0, _, _, _, _ => none
  | _ + 1, _, [], E, H => some [(E, H)]
  | n + 1, all, o :: rest, E, H =>
    match wantedA all E o with
    | none => none
    | some false => opsA C n all rest (putE E o.dst undefA) H
    | some true => M.bind (opA C E H o.op) fun x =>
      match x with
      | .val v H => opsA C n all rest (putE E o.dst v) H
      | .call f args => M.bind (callA C n f args H) fun r => opsA C n all rest (putE E o.dst r.1) r.2
/-- operations whose order is open: one outcome each; and the heaps ahead of each, and behind it -/
def drawA (C : Ctx) : Nat → List Oper → List Oper → T AV → Hp → Option (T AV × Hp × List (T AV × Hp × Hp))
  | 0, _, _, _, _ => none
  | _ + 1, _, [], E, H => some (E, H, [])
  | n + 1, all, o :: rest, E, H =>
    match wantedA all E o with
    | none => none
    | some false => match drawA C n all rest (putE E o.dst undefA) H with
      | some (E', H', l) => some (E', H', (E, H, H) :: l)
      | none => none
    | some true => match opA C E H o.op with
      | some [.val v G] => match drawA C n all rest (putE E o.dst v) G with
        | some (E', H', l) => some (E', H', (E, H, G) :: l)
        | none => none
      | some [.call f args] =>
        match callA C n f args H with
        | some [r] => match drawA C n all rest (putE E o.dst r.1) r.2 with
          | some (E', H', l) => some (E', H', (E, H, r.2) :: l)
          | none => none
        | _ => none
      | _ => none
def codeA (C : Ctx) : Nat → List (Nat × List (Nat × Nat)) → Code → T AV → Hp → M Out
  | 0, _, _, _, _ => none
  | n + 1, od, c, E, H =>
    match c with
    | .skip => some [⟨.norm, E, H⟩]
    | .region id ops draw => match draw with
      | false => M.bind (opsA C n ops.toList ops.toList E H) fun r => some [⟨.norm, r.1, r.2⟩]
      | true => match drawA C n ops.toList ops.toList E H with
        | some (E', H', snap) => bif oddOk ops.toList snap (oddOf id od) then some [⟨.norm, E', H'⟩] else none
        | none => none
    | .seq a b => M.bind (codeA C n od a E H) fun o => match o.ex with
      | .norm => codeA C n od b o.E o.H
      | _ => some [o]
    | .cond c a b => match ev E c with
      | some (.bool t) => bif t then codeA C n od a E H else codeA C n od b E H
      | _ => none
    | .block id c => M.bind (codeA C n od c E H) fun o => match o.ex with
      | .exit j => bif Nat.beq j id then some [⟨.norm, o.E, o.H⟩] else some [o]
      | _ => some [o]
    | .loop c => M.bind (codeA C n od c E H) fun o => match o.ex with
      | .norm => codeA C n od (.loop c) o.E o.H
      | _ => some [o]
    | .exit id => some [⟨.exit id, E, H⟩]
    | .ret => some [⟨.ret, E, H⟩]
    | _ => none
end
end
end Go.Av
/- How the evaluator's values and heap stand to the machine's memory; what is known of tables and types. Conditions: none (definitions and small lemmas). -/
namespace Go.Av

theorem nbeq {a b : Nat} (h : a ≠ b) : Nat.beq a b = false := by
  cases h' : Nat.beq a b with
  | false => rfl
  | true => exact absurd (Nat.eq_of_beq_eq_true h') h
theorem ybeq {a b : Nat} (h : a = b) : Nat.beq a b = true := by subst h; exact Nat.beq_refl a

/-! ### Tries -/
namespace T
variable {α : Type}
theorem get_setF : ∀ (f : Nat) (t : T α) (n : Nat) (v : Option α) (m : Nat), n < f → (setF f t n v).get m = if m = n then v else t.get m
  | 0, _, _, _, _, h => absurd h (Nat.not_lt_zero _)
  | f + 1, t, n, v, m, h => by
    have hh : n ≠ 0 → (n - 1) / 2 < f := fun h0 => by omega
    have key : ∀ (a : T α) (b : Option α) (c : T α), ((bif Nat.beq n 0 then node a v c else bif Nat.beq (n % 2) 1 then node (setF f a ((n - 1) / 2) v) b c else node a b (setF f c ((n - 1) / 2) v)) : T α).get m = if m = n then v else (node a b c).get m := by
      intro a b c
      by_cases hn : n = 0
      · subst hn
        by_cases hm : m = 0
        · subst hm; simp [get_node]
        · have : Nat.beq m 0 = false := nbeq hm
          simp [get_node, hm, this]
      · have hb : Nat.beq n 0 = false := nbeq hn
        rw [hb, cond_false]
        by_cases ho : n % 2 = 1
        · have : Nat.beq (n % 2) 1 = true := ybeq ho
          rw [this, cond_true]
          simp only [get_node]
          by_cases hm : m = 0
          · subst hm; simp; omega
          · have hmb : Nat.beq m 0 = false := nbeq hm
            rw [hmb, cond_false, cond_false]
            by_cases hmo : m % 2 = 1
            · have : Nat.beq (m % 2) 1 = true := ybeq hmo
              rw [this, cond_true, cond_true, get_setF f a _ v _ (hh hn)]
              by_cases e : m = n
              · subst e; simp
              · rw [if_neg e, if_neg (by omega)]
            · have : Nat.beq (m % 2) 1 = false := nbeq hmo
              rw [this, cond_false, cond_false, if_neg (by omega)]
        · have : Nat.beq (n % 2) 1 = false := nbeq ho
          rw [this, cond_false]
          simp only [get_node]
          by_cases hm : m = 0
          · subst hm; simp; omega
          · have hmb : Nat.beq m 0 = false := nbeq hm
            rw [hmb, cond_false, cond_false]
            by_cases hmo : m % 2 = 1
            · have : Nat.beq (m % 2) 1 = true := ybeq hmo
              rw [this, cond_true, cond_true, if_neg (by omega)]
            · have : Nat.beq (m % 2) 1 = false := nbeq hmo
              rw [this, cond_false, cond_false, get_setF f c _ v _ (hh hn)]
              by_cases e : m = n
              · subst e; simp
              · rw [if_neg e, if_neg (by omega)]
    cases t with
    | node a b c => rw [setF_node]; exact key a b c
    | nil =>
      have := key nil none nil
      have hg : (node nil none nil : T α).get m = none := by
        simp only [get_node]; cases Nat.beq m 0 <;> cases Nat.beq (m % 2) 1 <;> rfl
      rw [hg] at this
      rw [setF_nil]
      exact this
theorem get_set (t : T α) (n : Nat) (v : Option α) (m : Nat) : (t.set n v).get m = if m = n then v else t.get m := get_setF _ t n v m (Nat.lt_succ_self n)
theorem get_nil (m : Nat) : (nil : T α).get m = none := rfl
end T

theorem nth_eq {α : Type} : ∀ (l : List α) (n : Nat), nth l n = l[n]?
  | [], _ => by simp [nth]
  | _ :: _, 0 => by simp [nth]
  | _ :: l, n + 1 => by simp [nth, nth_eq l n]

namespace Hp
theorem get_put (H : Hp) (i : Nat) (o : Option Obj) (j : Nat) : (H.put i o).get j = if j = i then o else H.get j := T.get_set ..
theorem get_new (H : Hp) (o : Obj) (j : Nat) : (H.new o).get j = if j = H.next then some o else H.get j := T.get_set ..
theorem next_put (H : Hp) (i : Nat) (o : Option Obj) : (H.put i o).next = H.next := rfl
theorem next_new (H : Hp) (o : Obj) : (H.new o).next = H.next + 1 := rfl
theorem prot_put (H : Hp) (i : Nat) (o : Option Obj) : (H.put i o).prot = H.prot := rfl
theorem prot_new (H : Hp) (o : Obj) : (H.new o).prot = H.prot := rfl
theorem wr_eq {H G : Hp} {i : Nat} {o : Option Obj} (h : H.wr i o = some G) : H.prot ≤ i ∧ G = H.put i o := by
  unfold wr at h
  cases hb : Nat.ble H.prot i with
  | true => rw [hb, cond_true] at h; exact ⟨Nat.le_of_ble_eq_true hb, by injection h with h; exact h.symm⟩
  | false => rw [hb, cond_false] at h; cases h
end Hp
theorem chk_eq {b : Bool} {u : Unit} (h : chk b = some u) : b = true := by cases b <;> simp [chk] at h ⊢

def Obj.isRo : Obj → Bool
  | .row ro _ => ro
  | _ => false

/-! ### Values -/
abbrev Emb := Nat → Option (Nat × Nat)
mutual
def VR (ι : Emb) (w : World) : AV → Value → Prop
  | .int k n, v => v = .int k n
  | .bool b, v => v = .bool b
  | .str s, v => v = .string ⟨⟨s⟩⟩
  | .ptr none, v => v = .pointer none
  | .ptr (some p), v => ∃ b s, ι p.1 = some (b, s) ∧ v = .pointer (some ⟨b, s + p.2, none⟩)
  | .slc none len _, v => len = 0 ∧ v = .slice none 0 0
  | .slc (some p) len k, v => ∃ b s o cap e n, ι p.1 = some (b, s) ∧ w.shape? b = some (e, n) ∧ (cap ≠ 0 → o = s + p.2) ∧ o + cap * k ≤ n ∧ len ≤ cap ∧ cap ≤ maxLen ∧ v = .slice (some ⟨b, o, none⟩) len cap
  | .map none, v => v = .map none
  | .map (some m), v => ∃ b s, ι m = some (b, s) ∧ v = .map (some b)
  | .fn f as, v => ∃ vs, v = .func (.func f) #[] ⟨vs⟩ ∧ VRs ι w as vs
  | .nilfn, v => v = .nilFunc
  | .niliface, v => v = .nilIface
  | .agg as, v => ∃ vs, v = .agg ⟨vs⟩ ∧ VRs ι w as vs
  | .tup as, v => ∃ vs, v = .tuple ⟨vs⟩ ∧ VRs ι w as vs
def VRs (ι : Emb) (w : World) : List AV → List Value → Prop
  | [], vs => vs = []
  | a :: as, vs => ∃ u us, vs = u :: us ∧ VR ι w a u ∧ VRs ι w as us
end

/-- w' holds all blocks of w, of the same shapes -/
structure Keeps (w w' : World) : Prop where
  size : w.heap.size ≤ w'.heap.size
  shape : ∀ b x, w.shape? b = some x → w'.shape? b = some x
def SubE (ι ι' : Emb) : Prop := ∀ i x, ι i = some x → ι' i = some x
theorem Keeps.refl (w : World) : Keeps w w := ⟨Nat.le_refl _, fun _ _ h => h⟩
theorem Keeps.trans {a b c : World} (h : Keeps a b) (k : Keeps b c) : Keeps a c := ⟨Nat.le_trans h.size k.size, fun b x hx => k.shape b x (h.shape b x hx)⟩
theorem SubE.refl (ι : Emb) : SubE ι ι := fun _ _ h => h
theorem SubE.trans {a b c : Emb} (h : SubE a b) (k : SubE b c) : SubE a c := fun i x hx => k i x (h i x hx)

mutual
theorem VR.mono {ι ι' : Emb} {w w' : World} (hs : SubE ι ι') (hk : Keeps w w') : ∀ (a : AV) (v : Value), VR ι w a v → VR ι' w' a v
  | .int .., _, h => h
  | .bool _, _, h => h
  | .str _, _, h => h
  | .ptr none, _, h => h
  | .ptr (some p), _, ⟨b, s, h1, h2⟩ => ⟨b, s, hs _ _ h1, h2⟩
  | .slc none _ _, _, h => h
  | .slc (some p) _ _, _, ⟨b, s, o, cap, e, n, h1, h2, h3⟩ => ⟨b, s, o, cap, e, n, hs _ _ h1, hk.shape _ _ h2, h3⟩
  | .map none, _, h => h
  | .map (some m), _, ⟨b, s, h1, h2⟩ => ⟨b, s, hs _ _ h1, h2⟩
  | .fn f as, _, ⟨vs, h1, h2⟩ => ⟨vs, h1, VRs.mono hs hk as vs h2⟩
  | .nilfn, _, h => h
  | .niliface, _, h => h
  | .agg as, _, ⟨vs, h1, h2⟩ => ⟨vs, h1, VRs.mono hs hk as vs h2⟩
  | .tup as, _, ⟨vs, h1, h2⟩ => ⟨vs, h1, VRs.mono hs hk as vs h2⟩
theorem VRs.mono {ι ι' : Emb} {w w' : World} (hs : SubE ι ι') (hk : Keeps w w') : ∀ (as : List AV) (vs : List Value), VRs ι w as vs → VRs ι' w' as vs
  | [], _, h => h
  | a :: as, _, ⟨u, us, h1, h2, h3⟩ => ⟨u, us, h1, VR.mono hs hk a u h2, VRs.mono hs hk as us h3⟩
end

theorem VRs.length {ι : Emb} {w : World} : ∀ {as : List AV} {vs : List Value}, VRs ι w as vs → vs.length = as.length
  | [], _, h => by simp only [VRs] at h; simp [h]
  | a :: as, _, ⟨u, us, h1, h2, h3⟩ => by subst h1; simp [VRs.length h3]
theorem VRs.nth {ι : Emb} {w : World} : ∀ {as : List AV} {vs : List Value}, VRs ι w as vs → ∀ {j : Nat} {a : AV}, as[j]? = some a → ∃ v, vs[j]? = some v ∧ VR ι w a v
  | [], _, _, _, _, h => by simp at h
  | a :: as, _, ⟨u, us, h1, h2, h3⟩, 0, b, h => by subst h1; simp at h; subst h; exact ⟨u, rfl, h2⟩
  | a :: as, _, ⟨u, us, h1, h2, h3⟩, j + 1, b, h => by subst h1; simpa using VRs.nth h3 (j := j) (by simpa using h)
theorem VRs.of_nth {ι : Emb} {w : World} : ∀ {as : List AV} {vs : List Value}, vs.length = as.length → (∀ (j : Nat) (a : AV) (v : Value), as[j]? = some a → vs[j]? = some v → VR ι w a v) → VRs ι w as vs
  | [], vs, h, _ => by simp only [VRs]; exact List.eq_nil_of_length_eq_zero (by simpa using h)
  | a :: as, [], h, _ => by simp at h
  | a :: as, v :: vs, h, k => ⟨v, vs, rfl, k 0 a v rfl rfl, VRs.of_nth (by simpa using h) fun j b u h1 h2 => k (j + 1) b u (by simpa using h1) (by simpa using h2)⟩
theorem VRs.append {ι : Emb} {w : World} : ∀ {as : List AV} {vs : List Value} {bs : List AV} {us : List Value}, VRs ι w as vs → VRs ι w bs us → VRs ι w (as ++ bs) (vs ++ us)
  | [], _, _, _, h, k => by simp only [VRs] at h; subst h; exact k
  | a :: as, _, _, _, ⟨u, us, h1, h2, h3⟩, k => by subst h1; exact ⟨u, _, rfl, h2, VRs.append h3 k⟩
theorem VRs.take {ι : Emb} {w : World} : ∀ {as : List AV} {vs : List Value} (n : Nat), VRs ι w as vs → VRs ι w (as.take n) (vs.take n)
  | _, _, 0, _ => by simp [VRs]
  | [], _, n + 1, h => by simp only [VRs] at h; subst h; simp [VRs]
  | a :: as, _, n + 1, ⟨u, us, h1, h2, h3⟩ => by subst h1; exact ⟨u, _, rfl, h2, VRs.take n h3⟩
theorem VRs.drop {ι : Emb} {w : World} : ∀ {as : List AV} {vs : List Value} (n : Nat), VRs ι w as vs → VRs ι w (as.drop n) (vs.drop n)
  | _, _, 0, h => by simpa using h
  | [], _, n + 1, h => by simp only [VRs] at h; subst h; simp [VRs]
  | a :: as, _, n + 1, ⟨u, us, h1, h2, h3⟩ => by subst h1; exact VRs.drop n h3

/-- cells of a value, cells of the machine's -/
theorem VR.cells {ι : Emb} {w : World} {a : AV} {v : Value} (h : VR ι w a v) : VRs ι w a.cells v.cells.toList := by
  cases a with
  | agg as => obtain ⟨vs, rfl, h⟩ := h; simpa [AV.cells, Value.cells] using h
  | int k n => cases h; exact ⟨_, _, rfl, rfl, rfl⟩
  | bool b => cases h; exact ⟨_, _, rfl, rfl, rfl⟩
  | str s => cases h; exact ⟨_, _, rfl, rfl, rfl⟩
  | ptr p => cases p with
    | none => cases h; exact ⟨_, _, rfl, rfl, rfl⟩
    | some p => obtain ⟨b, s, h1, rfl⟩ := h; exact ⟨_, _, rfl, ⟨b, s, h1, rfl⟩, rfl⟩
  | slc p l k => cases p with
    | none => obtain ⟨h1, rfl⟩ := h; exact ⟨_, _, rfl, ⟨h1, rfl⟩, rfl⟩
    | some p => obtain ⟨b, s, o, cap, e, n, h1, h2, h3, h4, h5, h6, rfl⟩ := h; exact ⟨_, _, rfl, ⟨b, s, o, cap, e, n, h1, h2, h3, h4, h5, h6, rfl⟩, rfl⟩
  | map m => cases m with
    | none => cases h; exact ⟨_, _, rfl, rfl, rfl⟩
    | some m => obtain ⟨b, s, h1, rfl⟩ := h; exact ⟨_, _, rfl, ⟨b, s, h1, rfl⟩, rfl⟩
  | fn f as => obtain ⟨vs, rfl, h⟩ := h; exact ⟨_, _, rfl, ⟨vs, rfl, h⟩, rfl⟩
  | nilfn => cases h; exact ⟨_, _, rfl, rfl, rfl⟩
  | niliface => cases h; exact ⟨_, _, rfl, rfl, rfl⟩
  | tup as => obtain ⟨vs, rfl, h⟩ := h; exact ⟨_, _, rfl, ⟨vs, rfl, h⟩, rfl⟩
theorem VR.one {ι : Emb} {w : World} {a : AV} {v : Value} (h : VR ι w a v) : v.oneCell' = a.one := by
  cases a with
  | agg as => obtain ⟨vs, rfl, h⟩ := h; rfl
  | int k n => cases h; rfl
  | bool b => cases h; rfl
  | str s => cases h; rfl
  | ptr p => cases p with
    | none => cases h; rfl
    | some p => obtain ⟨b, s, h1, rfl⟩ := h; rfl
  | slc p l k => cases p with
    | none => obtain ⟨h1, rfl⟩ := h; rfl
    | some p => obtain ⟨b, s, o, cap, e, n, h1, h2, h3, h4, h5, h6, rfl⟩ := h; rfl
  | map m => cases m with
    | none => cases h; rfl
    | some m => obtain ⟨b, s, h1, rfl⟩ := h; rfl
  | fn f as => obtain ⟨vs, rfl, h⟩ := h; rfl
  | nilfn => cases h; rfl
  | niliface => cases h; rfl
  | tup as => obtain ⟨vs, rfl, h⟩ := h; rfl

/-! ### Values without memory -/
mutual
def AV.pure : AV → Bool
  | .ptr (some _) => false
  | .slc (some _) _ _ => false
  | .map (some _) => false
  | .fn _ as => AV.pures as
  | .agg as => AV.pures as
  | .tup as => AV.pures as
  | _ => true
def AV.pures : List AV → Bool
  | [] => true
  | a :: as => AV.pure a && AV.pures as
end
mutual
def emb : AV → Value
  | .int k n => .int k n
  | .bool b => .bool b
  | .str s => .string ⟨⟨s⟩⟩
  | .ptr _ => .pointer none
  | .slc _ _ _ => .slice none 0 0
  | .map _ => .map none
  | .fn f as => .func (.func f) #[] ⟨embs as⟩
  | .nilfn => .nilFunc
  | .niliface => .nilIface
  | .agg as => .agg ⟨embs as⟩
  | .tup as => .tuple ⟨embs as⟩
def embs : List AV → List Value
  | [] => []
  | a :: as => emb a :: embs as
end
mutual
theorem VR.pure {ι : Emb} {w : World} : ∀ (a : AV) (v : Value), a.pure = true → VR ι w a v → v = emb a
  | .int .., _, _, h => h
  | .bool _, _, _, h => h
  | .str _, _, _, h => h
  | .ptr none, _, _, h => h
  | .ptr (some p), _, hp, _ => by simp [AV.pure] at hp
  | .slc none _ _, _, _, h => h.2
  | .slc (some p) _ _, _, hp, _ => by simp [AV.pure] at hp
  | .map none, _, _, h => h
  | .map (some m), _, hp, _ => by simp [AV.pure] at hp
  | .fn f as, _, hp, ⟨vs, h1, h2⟩ => by rw [h1, VRs.pure as vs (by simpa [AV.pure] using hp) h2]; rfl
  | .nilfn, _, _, h => h
  | .niliface, _, _, h => h
  | .agg as, _, hp, ⟨vs, h1, h2⟩ => by rw [h1, VRs.pure as vs (by simpa [AV.pure] using hp) h2]; rfl
  | .tup as, _, hp, ⟨vs, h1, h2⟩ => by rw [h1, VRs.pure as vs (by simpa [AV.pure] using hp) h2]; rfl
theorem VRs.pure {ι : Emb} {w : World} : ∀ (as : List AV) (vs : List Value), AV.pures as = true → VRs ι w as vs → vs = embs as
  | [], _, _, h => h
  | a :: as, _, hp, ⟨u, us, h1, h2, h3⟩ => by
    have hp : a.pure = true ∧ AV.pures as = true := by simpa [AV.pures] using hp
    rw [h1, VR.pure a u hp.1 h2, VRs.pure as us hp.2 h3]; rfl
end
-- slices of no elements alone are nil ones: as zero values are
mutual
def AV.okNil : AV → Bool
  | .slc none n _ => Nat.beq n 0
  | .fn _ as => AV.okNils as
  | .agg as => AV.okNils as
  | .tup as => AV.okNils as
  | _ => true
def AV.okNils : List AV → Bool
  | [] => true
  | a :: as => AV.okNil a && AV.okNils as
end
mutual
theorem VR.of_pure {ι : Emb} {w : World} : ∀ (a : AV), a.pure = true → a.okNil = true → VR ι w a (emb a)
  | .int .., _, _ => rfl
  | .bool _, _, _ => rfl
  | .str _, _, _ => rfl
  | .ptr none, _, _ => rfl
  | .ptr (some p), hp, _ => by simp [AV.pure] at hp
  | .slc none n _, _, hn => ⟨by simpa [AV.okNil] using hn, rfl⟩
  | .slc (some p) _ _, hp, _ => by simp [AV.pure] at hp
  | .map none, _, _ => rfl
  | .map (some m), hp, _ => by simp [AV.pure] at hp
  | .fn f as, hp, hn => ⟨_, rfl, VRs.of_pure as (by simpa [AV.pure] using hp) (by simpa [AV.okNil] using hn)⟩
  | .nilfn, _, _ => rfl
  | .niliface, _, _ => rfl
  | .agg as, hp, hn => ⟨_, rfl, VRs.of_pure as (by simpa [AV.pure] using hp) (by simpa [AV.okNil] using hn)⟩
  | .tup as, hp, hn => ⟨_, rfl, VRs.of_pure as (by simpa [AV.pure] using hp) (by simpa [AV.okNil] using hn)⟩
theorem VRs.of_pure {ι : Emb} {w : World} : ∀ (as : List AV), AV.pures as = true → AV.okNils as = true → VRs ι w as (embs as)
  | [], _, _ => rfl
  | a :: as, hp, hn => by
    have hp : a.pure = true ∧ AV.pures as = true := by simpa [AV.pures] using hp
    have hn : a.okNil = true ∧ AV.okNils as = true := by simpa [AV.okNils] using hn
    exact ⟨_, _, rfl, VR.of_pure a hp.1 hn.1, VRs.of_pure as hp.2 hn.2⟩
end

/-! ### What values lead to -/
mutual
theorem VR.und {ι ι' : Emb} {w : World} {n : Nat} (h' : ∀ i x, i < n → ι i = some x → ι' i = some x) : ∀ (a : AV) (v : Value), a.und n = true → VR ι w a v → VR ι' w a v
  | .int .., _, _, h => h
  | .bool _, _, _, h => h
  | .str _, _, _, h => h
  | .ptr none, _, _, h => h
  | .ptr (some p), _, hu, ⟨b, s, h1, h2⟩ => ⟨b, s, h' _ _ (by simpa [AV.und, Nat.blt_eq] using hu) h1, h2⟩
  | .slc none _ _, _, _, h => h
  | .slc (some p) _ _, _, hu, ⟨b, s, o, cap, e, n', h1, h2⟩ => ⟨b, s, o, cap, e, n', h' _ _ (by simpa [AV.und, Nat.blt_eq] using hu) h1, h2⟩
  | .map none, _, _, h => h
  | .map (some m), _, hu, ⟨b, s, h1, h2⟩ => ⟨b, s, h' _ _ (by simpa [AV.und, Nat.blt_eq] using hu) h1, h2⟩
  | .fn f as, _, hu, ⟨vs, h1, h2⟩ => ⟨vs, h1, VRs.und h' as vs (by simpa [AV.und] using hu) h2⟩
  | .nilfn, _, _, h => h
  | .niliface, _, _, h => h
  | .agg as, _, hu, ⟨vs, h1, h2⟩ => ⟨vs, h1, VRs.und h' as vs (by simpa [AV.und] using hu) h2⟩
  | .tup as, _, hu, ⟨vs, h1, h2⟩ => ⟨vs, h1, VRs.und h' as vs (by simpa [AV.und] using hu) h2⟩
theorem VRs.und {ι ι' : Emb} {w : World} {n : Nat} (h' : ∀ i x, i < n → ι i = some x → ι' i = some x) : ∀ (as : List AV) (vs : List Value), AV.unds n as = true → VRs ι w as vs → VRs ι' w as vs
  | [], _, _, h => h
  | a :: as, _, hu, ⟨u, us, h1, h2, h3⟩ => by
    have hu : a.und n = true ∧ AV.unds n as = true := by simpa [AV.unds] using hu
    exact ⟨u, us, h1, VR.und h' a u hu.1 h2, VRs.und h' as us hu.2 h3⟩
end
mutual
theorem VR.lt {ι : Emb} {w : World} {n : Nat} (h' : ∀ i x, ι i = some x → i < n) : ∀ (a : AV) (v : Value), VR ι w a v → a.und n = true
  | .int .., _, _ => rfl
  | .bool _, _, _ => rfl
  | .str _, _, _ => rfl
  | .ptr none, _, _ => rfl
  | .ptr (some p), _, ⟨b, s, h1, h2⟩ => by simpa [AV.und, Nat.blt_eq] using h' _ _ h1
  | .slc none _ _, _, _ => rfl
  | .slc (some p) _ _, _, ⟨b, s, o, cap, e, n', h1, h2⟩ => by simpa [AV.und, Nat.blt_eq] using h' _ _ h1
  | .map none, _, _ => rfl
  | .map (some m), _, ⟨b, s, h1, h2⟩ => by simpa [AV.und, Nat.blt_eq] using h' _ _ h1
  | .fn f as, _, ⟨vs, h1, h2⟩ => by simpa [AV.und] using VRs.lt h' as vs h2
  | .nilfn, _, _ => rfl
  | .niliface, _, _ => rfl
  | .agg as, _, ⟨vs, h1, h2⟩ => by simpa [AV.und] using VRs.lt h' as vs h2
  | .tup as, _, ⟨vs, h1, h2⟩ => by simpa [AV.und] using VRs.lt h' as vs h2
theorem VRs.lt {ι : Emb} {w : World} {n : Nat} (h' : ∀ i x, ι i = some x → i < n) : ∀ (as : List AV) (vs : List Value), VRs ι w as vs → AV.unds n as = true
  | [], _, _ => rfl
  | a :: as, _, ⟨u, us, h1, h2, h3⟩ => by simp [AV.unds, VR.lt h' a u h2, VRs.lt h' as us h3]
end
end Go.Av
/- How the evaluator's heap stands to the machine's, and what a step may change. Conditions: none (definitions and small lemmas). -/
namespace Go.Av

/-- of which sorts a key's cells are -/
def ekA : AV → Option EK
  | .int k _ => some (.i k)
  | .bool _ => some .b
  | .str _ => some .s
  | _ => none
def shapeK : AV → Bool × List (Option EK)
  | .agg as => (true, as.map ekA)
  | a => (false, [ekA a])

/-- the entries of a map, one for one -/
def MR (ι : Emb) (w : World) : List (AV × AV) → List MapEntry → Prop
  | [], l => l = []
  | (k, v) :: es, l => ∃ e l', l = e :: l' ∧ k.key = true ∧ e.key = emb k ∧ VR ι w v e.val ∧ MR ι w es l'

def MapO (ι : Emb) (w : World) (es : List (AV × AV)) (clk : Nat) (ents : Array MapEntry) : Prop :=
  ∃ l, l.Perm ents.toList ∧ MR ι w es l ∧ (es.map (·.1)).Nodup ∧ (ents.toList.map (·.born)).Nodup ∧ (∀ e ∈ ents.toList, e.born < clk) ∧ ∃ sh, ∀ x ∈ es, shapeK x.1 = sh

/-- a map that is gone through, at hand as it was when that began -/
def ItO (left : List AV) (cur : Option AV) (ents : Array MapEntry) (seen : Array Nat) : Prop :=
  left.Nodup ∧ (∀ k ∈ left, k.key = true ∧ ∃ e ∈ ents.toList, e.key = emb k ∧ e.born ∉ seen.toList) ∧
  (∀ e ∈ ents.toList, e.born ∉ seen.toList → ∃ k ∈ left, e.key = emb k) ∧
  (∀ k, cur = some k → k.key = true ∧ ∃ e ∈ ents.toList, e.key = emb k ∧ seen.back? = some e.born)

def OR (ι : Emb) (w : World) (b s : Nat) : Obj → Prop
  | .row ro cs => ∃ cur e fr, w.heap[b]? = some (Go.Obj.cells cur e fr) ∧ (ro = false → fr = (0, 0)) ∧ s + cs.length ≤ cur.size ∧ VRs ι w cs ((cur.toList.drop s).take cs.length)
  | .map es clk => ∃ ents, w.heap[b]? = some (Go.Obj.map ents clk) ∧ MapO ι w es clk ents
  | .iter none since left cur => left = [] ∧ ∃ seen st, w.heap[b]? = some (Go.Obj.mapIter none since seen st) ∧ s = 0
  | .iter (some m) since left cur => ∃ b' s' ents clk seen, w.heap[b]? = some (Go.Obj.mapIter (some b') since seen since) ∧ ι m = some (b', s') ∧ w.heap[b']? = some (Go.Obj.map ents clk) ∧
      since ≤ clk ∧ (clk = since → ItO left cur ents seen) ∧ s = 0

structure R (ι : Emb) (H : Hp) (w : World) : Prop where
  dom : ∀ i b s, ι i = some (b, s) → i < H.next ∧ b < w.heap.size
  inj : ∀ i j b s s' o o', i ≠ j → ι i = some (b, s) → ι j = some (b, s') → H.get i = some o → H.get j = some o' → o.isRo = true ∧ o'.isRo = true
  injm : ∀ i j b s s' ents clk, ι i = some (b, s) → ι j = some (b, s') → w.heap[b]? = some (Go.Obj.map ents clk) → i = j
  obj : ∀ i b s o, ι i = some (b, s) → H.get i = some o → OR ι w b s o

structure Post (ι ι' : Emb) (H H' : Hp) (w w' : World) : Prop where
  sub : SubE ι ι'
  keeps : Keeps w w'
  os : w'.os = w.os
  tape : w'.tape = w.tape
  output : w'.output = w.output
  next : H.next ≤ H'.next
  prot : H'.prot = H.prot
  old : ∀ i o', i < H.next → H'.get i = some o' → ∃ o, H.get i = some o ∧ o.isRo = o'.isRo
  fresh : ∀ i b s, ι i = none → ι' i = some (b, s) → H.next ≤ i ∧ (w.heap.size ≤ b ∨ ∃ j s' o, ι j = some (b, s') ∧ H.get j = some o ∧ o.isRo = false)
  frame : ∀ b, b < w.heap.size → (∀ j s o, ι j = some (b, s) → H.get j = some o → o.isRo = true) → w'.heap[b]? = w.heap[b]?
  kp : ∀ i, i < H.prot → i < H.next → H'.get i = H.get i
  pf : ∀ i b s o, i < H.prot → ι i = some (b, s) → H.get i = some o → w'.heap[b]? = w.heap[b]?

theorem Post.refl (ι : Emb) (H : Hp) (w : World) : Post ι ι H H w w :=
  ⟨SubE.refl _, Keeps.refl _, rfl, rfl, rfl, Nat.le_refl _, rfl, fun _ o _ h => ⟨o, h, rfl⟩, fun _ _ _ h h' => (by rw [h] at h'; cases h'), fun _ _ _ => rfl, fun _ _ _ => rfl, fun _ _ _ _ _ _ _ => rfl⟩

theorem Post.trans {ι0 ι1 ι2 : Emb} {H0 H1 H2 : Hp} {w0 w1 w2 : World} (hd : ∀ i b s, ι0 i = some (b, s) → i < H0.next) (p : Post ι0 ι1 H0 H1 w0 w1) (q : Post ι1 ι2 H1 H2 w1 w2) : Post ι0 ι2 H0 H2 w0 w2 := by
  refine ⟨p.sub.trans q.sub, p.keeps.trans q.keeps, q.os.trans p.os, q.tape.trans p.tape, q.output.trans p.output, Nat.le_trans p.next q.next, q.prot.trans p.prot, ?_, ?_, ?_,
    fun i h1 h2 => (q.kp i (by rw [p.prot]; exact h1) (Nat.lt_of_lt_of_le h2 p.next)).trans (p.kp i h1 h2),
    fun i b s o h1 h2 h3 => (q.pf i b s o (by rw [p.prot]; exact h1) (p.sub _ _ h2) (by rw [p.kp i h1 (hd i b s h2)]; exact h3)).trans (p.pf i b s o h1 h2 h3)⟩
  · intro i o' hi h
    obtain ⟨o1, h1, e1⟩ := q.old i o' (Nat.lt_of_lt_of_le hi p.next) h
    obtain ⟨o, h0, e0⟩ := p.old i o1 hi h1
    exact ⟨o, h0, e0.trans e1⟩
  · intro i b s h0 h2
    cases h1 : ι1 i with
    | some x =>
      obtain ⟨b', s'⟩ := x
      have := q.sub _ _ h1
      rw [h2] at this; cases this
      exact p.fresh i b s h0 h1
    | none =>
      obtain ⟨hi, hb⟩ := q.fresh i b s h1 h2
      refine ⟨Nat.le_trans p.next hi, ?_⟩
      rcases hb with hb | ⟨j, s', o, hj, ho, hr⟩
      · exact .inl (Nat.le_trans p.keeps.size hb)
      · cases hj0 : ι0 j with
        | none => exact (p.fresh j b s' hj0 hj).2
        | some x =>
          obtain ⟨b', s''⟩ := x
          have := p.sub _ _ hj0
          rw [hj] at this; cases this
          obtain ⟨o0, h00, e0⟩ := p.old j o (hd j _ _ hj0) ho
          exact .inr ⟨j, s', o0, hj0, h00, e0.trans hr⟩
  · intro b hb hl
    have hp := p.frame b hb hl
    rw [q.frame b (Nat.lt_of_lt_of_le hb p.keeps.size) ?_, hp]
    intro j s o hj ho
    cases hj0 : ι0 j with
    | none =>
      rcases (p.fresh j b s hj0 hj).2 with h | ⟨j', s', o', h1, h2, h3⟩
      · omega
      · have := hl j' s' o' h1 h2; rw [h3] at this; cases this
    | some x =>
      obtain ⟨b', s''⟩ := x
      have := p.sub _ _ hj0
      rw [hj] at this; cases this
      obtain ⟨o0, h00, e0⟩ := p.old j o (hd j _ _ hj0) ho
      rw [← e0]; exact hl j s o0 hj0 h00

theorem Post.drew {ι ι' : Emb} {H H' : Hp} {w w' : World} (p : Post ι ι' H H' w w') (n : Nat) : Post ι ι' H H' w { w' with drawn := n } :=
  ⟨p.sub, ⟨p.keeps.size, p.keeps.shape⟩, p.os, p.tape, p.output, p.next, p.prot, p.old, p.fresh, p.frame, p.kp, p.pf⟩
theorem Keeps.drawn (w : World) (n : Nat) : Keeps w { w with drawn := n } := ⟨Nat.le_refl _, fun _ _ h => h⟩
theorem Keeps.drawn' (w : World) (n : Nat) : Keeps { w with drawn := n } w := ⟨Nat.le_refl _, fun _ _ h => h⟩

theorem MR.mono {ι ι' : Emb} {w w' : World} (hs : SubE ι ι') (hk : Keeps w w') : ∀ {es : List (AV × AV)} {l : List MapEntry}, MR ι w es l → MR ι' w' es l
  | [], _, h => h
  | (k, v) :: es, _, ⟨e, l', h1, h2, h3, h4, h5⟩ => ⟨e, l', h1, h2, h3, VR.mono hs hk v _ h4, MR.mono hs hk h5⟩
theorem MapO.mono {ι ι' : Emb} {w w' : World} (hs : SubE ι ι') (hk : Keeps w w') {es : List (AV × AV)} {clk : Nat} {ents : Array MapEntry} (h : MapO ι w es clk ents) : MapO ι' w' es clk ents := by
  obtain ⟨l, h1, h2, h3⟩ := h
  exact ⟨l, h1, h2.mono hs hk, h3⟩

/-- an object stays what it is, while its block, and all maps, stay -/
theorem OR.mono {ι ι' : Emb} {w w' : World} (hs : SubE ι ι') (hk : Keeps w w') (hm : ∀ (b' : Nat) (ents : Array MapEntry) (clk : Nat), w.heap[b']? = some (Go.Obj.map ents clk) → w'.heap[b']? = w.heap[b']?)
    {b s : Nat} (hb : w'.heap[b]? = w.heap[b]?) : ∀ {o : Obj}, OR ι w b s o → OR ι' w' b s o
  | .row ro cs, ⟨cur, e, fr, h1, h2, h0, h3⟩ => ⟨cur, e, fr, hb.trans h1, h2, h0, VRs.mono hs hk _ _ h3⟩
  | .map es clk, ⟨ents, h1, h2⟩ => ⟨ents, hb.trans h1, h2.mono hs hk⟩
  | .iter none since left cur, ⟨h1, seen, st, h2, h3⟩ => ⟨h1, seen, st, hb.trans h2, h3⟩
  | .iter (some m) since left cur, ⟨b', s', ents, clk, seen, h1, h2, h3, h4⟩ => ⟨b', s', ents, clk, seen, hb.trans h1, hs _ _ h2, (hm _ _ _ h3).trans h3, h4⟩

theorem OR.blk_lt {ι : Emb} {w : World} {b s : Nat} : ∀ {o : Obj}, OR ι w b s o → b < w.heap.size
  | .row _ _, ⟨cur, e, fr, h1, _⟩ => (Array.getElem?_eq_some_iff.1 h1).1
  | .map _ _, ⟨ents, h1, _⟩ => (Array.getElem?_eq_some_iff.1 h1).1
  | .iter none _ _ _, ⟨_, _, _, h1, _⟩ => (Array.getElem?_eq_some_iff.1 h1).1
  | .iter (some _) _ _ _, ⟨_, _, _, _, _, h1, _⟩ => (Array.getElem?_eq_some_iff.1 h1).1

/-- only the heap counts -/
theorem R.heap {ι : Emb} {H : Hp} {w w' : World} (r : R ι H w) (h : w'.heap = w.heap) : R ι H w' := by
  have hk : Keeps w w' := ⟨by rw [h]; exact Nat.le_refl _, fun b x hx => by simpa [World.shape?, h] using hx⟩
  refine ⟨fun i b s hi => by rw [h]; exact r.dom i b s hi, r.inj, fun i j b s s' ents clk hi hj hb => r.injm i j b s s' ents clk hi hj (by rw [← h]; exact hb), fun i b s o hi ho => ?_⟩
  exact OR.mono (SubE.refl _) hk (fun b' _ _ _ => by rw [h]) (by rw [h]) (r.obj i b s o hi ho)
theorem Post.heap {ι : Emb} {H : Hp} {w : World} (n : Nat) : Post ι ι H H w { w with drawn := n } := (Post.refl ι H w).drew n

/-- fewer are known -/
theorem R.of_sub {ι ι0 : Emb} {H : Hp} {w : World} (r : R ι H w) (h : SubE ι0 ι) (hv : ∀ i b s o, ι0 i = some (b, s) → H.get i = some o → OR ι0 w b s o) : R ι0 H w :=
  ⟨fun i b s hi => r.dom i b s (h _ _ hi), fun i j b s s' o o' hne hi hj => r.inj i j b s s' o o' hne (h _ _ hi) (h _ _ hj), fun i j b s s' ents clk hi hj hb => r.injm i j b s s' ents clk (h _ _ hi) (h _ _ hj) hb, hv⟩

/-! ### New memory -/
def Emb.add (ι : Emb) (i : Nat) (x : Nat × Nat) : Emb := fun j => if j = i then some x else ι j
theorem Emb.add_same (ι : Emb) (i : Nat) (x : Nat × Nat) : ι.add i x i = some x := by simp [Emb.add]
theorem R.new_none {ι : Emb} {H : Hp} {w : World} (r : R ι H w) {i : Nat} (h : H.next ≤ i) : ι i = none := by
  cases hi : ι i with
  | none => rfl
  | some x => obtain ⟨b, s⟩ := x; exact absurd (r.dom i b s hi).1 (by omega)
theorem R.sub_add {ι : Emb} {H : Hp} {w : World} (r : R ι H w) (x : Nat × Nat) : SubE ι (ι.add H.next x) := fun i y h => by
  have : i ≠ H.next := fun e => by rw [r.new_none (by omega)] at h; cases h
  simp [Emb.add, this, h]

theorem alloc_keeps (w : World) (O : Go.Obj) : Keeps w (w.alloc O) := by
  refine ⟨by simp, fun b x h => ?_⟩
  simp only [World.shape?, World.alloc] at h ⊢
  have hb : b < w.heap.size := by
    rcases Nat.lt_or_ge b w.heap.size with h' | h'
    · exact h'
    · rw [Array.getElem?_eq_none h'] at h; cases h
  rw [Array.getElem?_push, if_neg (by omega)]; exact h
theorem alloc_old (w : World) (O : Go.Obj) {b : Nat} (hb : b < w.heap.size) : (w.alloc O).heap[b]? = w.heap[b]? := by
  simp only [World.alloc]; rw [Array.getElem?_push, if_neg (by omega)]
theorem alloc_new (w : World) (O : Go.Obj) : (w.alloc O).heap[w.heap.size]? = some O := heap_alloc_new w O
theorem blk_lt {w : World} {b : Nat} {o : Go.Obj} (h : w.heap[b]? = some o) : b < w.heap.size := (Array.getElem?_eq_some_iff.1 h).1

/-- one object more -/
theorem R.alloc {ι : Emb} {H : Hp} {w : World} (r : R ι H w) (o : Obj) (O : Go.Obj) (s : Nat) (ho : OR (ι.add H.next (w.heap.size, s)) (w.alloc O) w.heap.size s o) :
    R (ι.add H.next (w.heap.size, s)) (H.new o) (w.alloc O) ∧ Post ι (ι.add H.next (w.heap.size, s)) H (H.new o) w (w.alloc O) := by
  have hs := r.sub_add (w.heap.size, s)
  have hk := alloc_keeps w O
  constructor
  · refine ⟨?_, ?_, ?_, ?_⟩
    · intro i b s' hi
      rw [Hp.next_new]
      by_cases e : i = H.next
      · subst e; simp [Emb.add] at hi; simp [← hi.1]
      · simp [Emb.add, e] at hi
        have := r.dom i b s' hi
        simp; omega
    · intro i j b s1 s2 o1 o2 hne hi hj h1 h2
      by_cases ei : i = H.next
      · subst ei
        have ej : j ≠ H.next := fun e => hne e.symm
        simp [Emb.add] at hi; simp [Emb.add, ej] at hj
        have := (r.dom j b s2 hj).2; omega
      · by_cases ej : j = H.next
        · subst ej; simp [Emb.add] at hj; simp [Emb.add, ei] at hi
          have := (r.dom i b s1 hi).2; omega
        · simp [Emb.add, ei] at hi; simp [Emb.add, ej] at hj
          rw [Hp.get_new, if_neg ei] at h1; rw [Hp.get_new, if_neg ej] at h2
          exact r.inj i j b s1 s2 o1 o2 hne hi hj h1 h2
    · intro i j b s1 s2 ents clk hi hj hb
      by_cases ei : i = H.next
      · by_cases ej : j = H.next
        · rw [ei, ej]
        · subst ei; simp [Emb.add] at hi; simp [Emb.add, ej] at hj
          have := (r.dom j b s2 hj).2; omega
      · by_cases ej : j = H.next
        · subst ej; simp [Emb.add] at hj; simp [Emb.add, ei] at hi
          have := (r.dom i b s1 hi).2; omega
        · simp [Emb.add, ei] at hi; simp [Emb.add, ej] at hj
          exact r.injm i j b s1 s2 ents clk hi hj (by rw [← alloc_old w O (r.dom i b s1 hi).2]; exact hb)
    · intro i b s' o' hi h
      by_cases e : i = H.next
      · subst e; simp [Emb.add] at hi; obtain ⟨rfl, rfl⟩ := hi
        rw [Hp.get_new, if_pos rfl] at h; cases h; exact ho
      · simp [Emb.add, e] at hi
        rw [Hp.get_new, if_neg e] at h
        exact OR.mono hs hk (fun b' ents clk h => alloc_old w O (blk_lt h)) (alloc_old w O (r.dom i b s' hi).2) (r.obj i b s' o' hi h)
  · refine ⟨hs, hk, rfl, rfl, rfl, by rw [Hp.next_new]; omega, rfl, ?_, ?_, ?_, fun i _ h => by rw [Hp.get_new, if_neg (by omega)], fun i b s o _ h _ => alloc_old w O (r.dom i b s h).2⟩
    · intro i o' hi h
      rw [Hp.get_new, if_neg (by omega)] at h
      exact ⟨o', h, rfl⟩
    · intro i b s' h0 h1
      by_cases e : i = H.next
      · subst e; simp [Emb.add] at h1; exact ⟨Nat.le_refl _, .inl (by omega)⟩
      · simp [Emb.add, e, h0] at h1
    · intro b hb _; exact alloc_old w O hb

/-! ### A row that is written -/
theorem setRow_keeps {w : World} {g : Nat} {cur cur' : Array Value} {e : TypeId} {fr : Nat × Nat} (hg : w.heap[g]? = some (Go.Obj.cells cur e fr)) (hs : cur'.size = cur.size) : Keeps w (w.setRow g cur') := by
  refine ⟨by simp [World.setRow], fun b x h => ?_⟩
  simp only [World.shape?, World.setRow] at h ⊢
  rw [Array.getElem?_modify]
  by_cases eb : g = b
  · subst eb; rw [if_pos rfl, hg] at *; simpa [hs] using h
  · rw [if_neg eb]; exact h
theorem setRow_other {w : World} {g b : Nat} (cur' : Array Value) (h : b ≠ g) : (w.setRow g cur').heap[b]? = w.heap[b]? := by
  simp only [World.setRow, Array.getElem?_modify]; rw [if_neg (fun e => h e.symm)]
theorem setRow_same {w : World} {g : Nat} {cur cur' : Array Value} {e : TypeId} {fr : Nat × Nat} (hg : w.heap[g]? = some (Go.Obj.cells cur e fr)) : (w.setRow g cur').heap[g]? = some (.cells cur' e fr) := by
  simp only [World.setRow, Array.getElem?_modify, if_true, hg]; rfl

/-- an object of a number is replaced, in the same block -/
theorem R.put {ι : Emb} {H : Hp} {w w' : World} (r : R ι H w) {i b s : Nat} {o o' : Obj} (hi : ι i = some (b, s)) (hg : H.get i = some o) (hro : o.isRo = false) (hro' : o'.isRo = false) (hp : H.prot ≤ i)
    (hk : Keeps w w') (hother : ∀ b', b' ≠ b → w'.heap[b']? = w.heap[b']?) (hold : w'.os = w.os ∧ w'.tape = w.tape ∧ w'.output = w.output)
    (hit : ∀ j b' s' since left cur, ι j = some (b', s') → H.get j = some (.iter (some i) since left cur) → j ≠ i → OR ι w' b' s' (.iter (some i) since left cur))
    (hkind : ∀ ents clk, w'.heap[b]? = some (Go.Obj.map ents clk) → ∃ ents' clk', w.heap[b]? = some (Go.Obj.map ents' clk')) (ho : OR ι w' b s o') :
    R ι (H.put i (some o')) w' ∧ Post ι ι H (H.put i (some o')) w w' := by
  constructor
  · refine ⟨?_, ?_, ?_, ?_⟩
    · intro j b1 s1 h; have := r.dom j b1 s1 h; have := hk.size; exact ⟨by rw [Hp.next_put]; omega, by omega⟩
    · intro j k b1 s1 s2 o1 o2 hne hj hk' h1 h2
      have hfind : ∀ x ox, (H.put i (some o')).get x = some ox → ∃ ox', H.get x = some ox' ∧ ox'.isRo = ox.isRo := by
        intro x ox hx
        rw [Hp.get_put] at hx
        by_cases e : x = i
        · subst e; rw [if_pos rfl] at hx; cases hx; exact ⟨o, hg, by rw [hro, hro']⟩
        · rw [if_neg e] at hx; exact ⟨ox, hx, rfl⟩
      obtain ⟨o1', h1', e1⟩ := hfind _ _ h1
      obtain ⟨o2', h2', e2⟩ := hfind _ _ h2
      have := r.inj j k b1 s1 s2 o1' o2' hne hj hk' h1' h2'
      rw [← e1, ← e2]; exact this
    · intro j k b1 s1 s2 ents clk hj hk' hb
      by_cases eb : b1 = b
      · subst eb
        obtain ⟨e', c', h'⟩ := hkind ents clk hb
        exact r.injm j k b1 s1 s2 e' c' hj hk' h'
      · exact r.injm j k b1 s1 s2 ents clk hj hk' (by rw [← hother _ eb]; exact hb)
    · intro j b1 s1 oj hj h
      rw [Hp.get_put] at h
      by_cases e : j = i
      · subst e; rw [if_pos rfl] at h; cases h; rw [hi] at hj; cases hj; exact ho
      · rw [if_neg e] at h
        have hold' := r.obj j b1 s1 oj hj h
        by_cases eb : b1 = b
        · subst eb
          have := (r.inj j i b1 s1 s oj o e hj hi h hg).2
          rw [hro] at this; cases this
        · cases oj with
          | row ro cs => obtain ⟨cur, e', fr, g1, g2, g0, g3⟩ := hold'; exact ⟨cur, e', fr, (hother _ eb).trans g1, g2, g0, VRs.mono (SubE.refl _) hk _ _ g3⟩
          | map es clk => obtain ⟨ents, g1, g2⟩ := hold'; exact ⟨ents, (hother _ eb).trans g1, g2.mono (SubE.refl _) hk⟩
          | iter m since left cur =>
            cases m with
            | none => obtain ⟨g1, seen, st, g2, g3⟩ := hold'; exact ⟨g1, seen, st, (hother _ eb).trans g2, g3⟩
            | some m =>
              by_cases em : m = i
              · subst em; exact hit j b1 s1 since left cur hj h e
              · obtain ⟨b', s', ents, clk, seen, g1, g2, g3, g4⟩ := hold'
                refine ⟨b', s', ents, clk, seen, (hother _ eb).trans g1, g2, ?_, g4⟩
                by_cases eb' : b' = b
                · subst eb'
                  exact absurd (r.injm m i b' s' s ents clk g2 hi g3) em
                · exact (hother _ eb').trans g3
  · refine ⟨SubE.refl _, hk, hold.1, hold.2.1, hold.2.2, Nat.le_refl _, rfl, ?_, fun j b1 s1 h0 h1 => (by rw [h0] at h1; cases h1), ?_, fun j h1 _ => by rw [Hp.get_put, if_neg (by omega)], ?_⟩
    · intro j oj _ h
      rw [Hp.get_put] at h
      by_cases e : j = i
      · subst e; rw [if_pos rfl] at h; cases h; exact ⟨o, hg, by rw [hro, hro']⟩
      · rw [if_neg e] at h; exact ⟨oj, h, rfl⟩
    · intro b1 _ hl
      refine hother _ fun e => ?_
      subst e
      have := hl i s o hi hg
      rw [hro] at this; cases this
    · intro j b1 s1 oj h1 h2 h3
      refine hother _ fun e => ?_
      subst e
      have := (r.inj j i b1 s1 s oj o (by omega) h2 hi h3 hg).2
      rw [hro] at this; cases this
end Go.Av
/- What the machine's operations do, held against the evaluator's: types, parts, loads, stores, addresses. Conditions: the tables of types say what the program's do. -/
namespace Go.Av

/-! ### Types -/
def tdOf : TypeDesc → TD
  | .bool => .bool
  | .int k => .int k
  | .string => .str
  | .pointer e => .ptr e
  | .slice e => .slice e
  | .array n e => .array n e
  | .map k e => .map k e
  | .struct fs => .struct (fs.toList.map fun f => (f.offset, f.type))
  | .func .. => .func
  | _ => .iface
/-- the sorts of fields' cells, one behind the other from a place on -/
def ekFields (g : TypeId → Option (List EK)) : List Field → Nat → Option (List EK)
  | [], _ => some []
  | f :: fs, off => if f.name ≠ "_" ∧ f.offset = off then
      match g f.type with
      | some y => (ekFields g fs (off + y.length)).map (y ++ ·)
      | none => none
    else none
def ekItems (l : List EK) : Nat → List EK
  | 0 => []
  | n + 1 => l ++ ekItems l n
/-- the sorts of a type's cells, if its values are compared cell by cell -/
def ekOf (P : Program) : Nat → TypeId → Option (List EK)
  | 0, _ => none
  | d + 1, t =>
    match (match P.underlying t with
      | some .bool => some [EK.b]
      | some (.int k) => some [EK.i k]
      | some .string => some [EK.s]
      | some (.array n e) => (ekOf P d e).map fun l => ekItems l n
      | some (.struct fs) => if P.stoodInHeld t then none else ekFields (ekOf P d) fs.toList 0
      | _ => none) with
    | some ks => if P.cellsOf t = ks.length ∧ ks ≠ [] then some ks else none
    | none => none
structure TyOK (P : Program) (t : Nat) (i : TI) : Prop where
  und : ∃ T, P.underlying t = some T ∧ tdOf T = i.d
  info : ∃ f, P.info? t = some f ∧ f.size = i.size ∧ f.bytes = i.bytes ∧ ∀ z, i.zero = some z → z.pure = true ∧ z.okNil = true ∧ f.zero = some (emb z)
  eq : i.eqk ≠ [] → i.d.isAgg = true ∧ ekOf P 8 t = some i.eqk
  flds : ∀ F, P.underlying t = some (.struct F) → ∀ f ∈ F.toList, (P.info? f.type).isSome = true
  zlen : ∀ z, i.zero = some z → z.cells.length = i.size

section
variable {P : Program} {w : World} {ι : Emb} {H : Hp} {t : Nat} {i : TI}
theorem TyOK.slice (h : TyOK P t i) {e : Nat} (hd : i.d = .slice e) : P.underlying t = some (.slice e) := by
  obtain ⟨T, h1, h2⟩ := h.und; rw [hd] at h2; cases T <;> simp [tdOf] at h2; rw [h1, h2]
theorem TyOK.array (h : TyOK P t i) {n e : Nat} (hd : i.d = .array n e) : P.underlying t = some (.array n e) := by
  obtain ⟨T, h1, h2⟩ := h.und; rw [hd] at h2; cases T <;> simp [tdOf] at h2; rw [h1, h2.1, h2.2]
theorem TyOK.map (h : TyOK P t i) {k e : Nat} (hd : i.d = .map k e) : P.underlying t = some (.map k e) := by
  obtain ⟨T, h1, h2⟩ := h.und; rw [hd] at h2; cases T <;> simp [tdOf] at h2; rw [h1, h2.1, h2.2]
theorem TyOK.str (h : TyOK P t i) (hd : i.d = .str) : P.underlying t = some .string := by
  obtain ⟨T, h1, h2⟩ := h.und; rw [hd] at h2; cases T <;> simp [tdOf] at h2; rw [h1]
theorem TyOK.bool (h : TyOK P t i) (hd : i.d = .bool) : P.underlying t = some .bool := by
  obtain ⟨T, h1, h2⟩ := h.und; rw [hd] at h2; cases T <;> simp [tdOf] at h2; rw [h1]
theorem TyOK.int (h : TyOK P t i) {k : IntKind} (hd : i.d = .int k) : P.underlying t = some (.int k) := by
  obtain ⟨T, h1, h2⟩ := h.und; rw [hd] at h2; cases T <;> simp [tdOf] at h2; rw [h1, h2]
theorem TyOK.ptr (h : TyOK P t i) {e : Nat} (hd : i.d = .ptr e) : P.underlying t = some (.pointer e) := by
  obtain ⟨T, h1, h2⟩ := h.und; rw [hd] at h2; cases T <;> simp [tdOf] at h2; rw [h1, h2]
theorem TyOK.struct (h : TyOK P t i) {fs : List (Nat × Nat)} (hd : i.d = .struct fs) : ∃ F, P.underlying t = some (.struct F) ∧ F.toList.map (fun f => (f.offset, f.type)) = fs := by
  obtain ⟨T, h1, h2⟩ := h.und; rw [hd] at h2; cases T <;> simp [tdOf] at h2; exact ⟨_, h1, by simpa using h2⟩
theorem TyOK.isAgg (h : TyOK P t i) : (isAgg t).run P w = .ok i.d.isAgg w := by
  obtain ⟨T, h1, h2⟩ := h.und
  rw [← h2]
  cases T <;> simp [Go.isAgg, run_underlying h1, tdOf, TD.isAgg]
theorem TyOK.sizeOf (h : TyOK P t i) : (sizeOf t).run P w = .ok i.size w := by
  obtain ⟨f, h1, h2, _⟩ := h.info
  simp [Go.sizeOf, typeInfo, h1, h2]
theorem TyOK.typeInfo (h : TyOK P t i) : ∃ f, (typeInfo t).run P w = .ok f w ∧ f.size = i.size ∧ f.bytes = i.bytes ∧ ∀ z, i.zero = some z → f.zero = some (emb z) := by
  obtain ⟨f, h1, h2, h3, h4⟩ := h.info
  exact ⟨f, by simp [Go.typeInfo, h1], h2, h3, fun z hz => (h4 z hz).2.2⟩
theorem TyOK.zeroVR (h : TyOK P t i) {z : AV} (hz : i.zero = some z) : VR ι w z (emb z) := by
  obtain ⟨f, h1, h2, h3, h4⟩ := h.info
  obtain ⟨a, b, _⟩ := h4 z hz
  exact VR.of_pure z a b
theorem TyOK.zeroValue (h : TyOK P t i) {z : AV} (hz : i.zero = some z) : (zeroValue t).run P w = .ok (emb z) w := by
  obtain ⟨f, h1, h2, h3, h4⟩ := h.info
  simp [Go.zeroValue, Go.typeInfo, h1, (h4 z hz).2.2]
end

/-- the tables say what the program's say -/
structure CtxOK (P : Program) (C : Ctx) : Prop where
  depth : 8 ≤ P.depth
  ty : ∀ t i, C.ty t = some i → TyOK P t i

section
variable {P : Program} {C : Ctx} (hC : CtxOK P C) {w : World} {ι : Emb} {H : Hp} (r : R ι H w)
include hC

theorem fieldOf_ok {t f o : Nat} {j : TI} (h : fieldOf C t f = some (o, j)) : ∃ F fd, P.underlying t = some (.struct F) ∧ F[f]? = some fd ∧ fd.offset = o ∧ TyOK P fd.type j := by
  simp only [fieldOf, Option.bind_eq_bind, Option.bind_eq_some_iff] at h
  obtain ⟨i, hi, fs, hfs, ⟨o', ft⟩, hn, j', hj, h⟩ := h
  simp at h; obtain ⟨rfl, rfl⟩ := h
  have hd : i.d = .struct fs := by
    unfold TI.structT at hfs; cases hx : i.d <;> simp [hx] at hfs; rw [hfs]
  obtain ⟨F, h1, h2⟩ := (hC.ty t i hi).struct hd
  rw [nth_eq, ← h2, List.getElem?_map] at hn
  cases hF : F.toList[f]? with
  | none => simp [hF] at hn
  | some fd =>
    simp [hF] at hn
    exact ⟨F, fd, h1, by simpa using hF, hn.1, by rw [hn.2]; exact hC.ty _ _ hj⟩
theorem elemS_ok {t : Nat} {j : TI} (h : elemS C t = some j) : ∃ e, P.underlying t = some (.slice e) ∧ TyOK P e j := by
  simp only [elemS, Option.bind_eq_bind, Option.bind_eq_some_iff] at h
  obtain ⟨i, hi, e, he, h⟩ := h
  have hd : i.d = .slice e := by unfold TI.sliceT at he; cases hx : i.d <;> simp [hx] at he; rw [he]
  exact ⟨e, (hC.ty t i hi).slice hd, hC.ty _ _ h⟩
theorem elemA_ok {t n : Nat} {j : TI} (h : elemA C t = some (n, j)) : ∃ e, P.underlying t = some (.array n e) ∧ TyOK P e j := by
  simp only [elemA, Option.bind_eq_bind, Option.bind_eq_some_iff] at h
  obtain ⟨i, hi, ⟨n', e⟩, he, j', hj, h⟩ := h
  simp at h; obtain ⟨rfl, rfl⟩ := h
  have hd : i.d = .array n' e := by unfold TI.arrayT at he; cases hx : i.d <;> simp [hx] at he; rw [he.1, he.2]
  exact ⟨e, (hC.ty t i hi).array hd, hC.ty _ _ hj⟩
omit hC

theorem part_ok {t : Nat} {i : TI} (ht : TyOK P t i) {cs : List AV} {off : Nat} {a : AV} (h : partA i cs off = some a) {vs : Array Value} (hv : VRs ι w cs vs.toList) :
    ∃ v, (part t vs off).run P w = .ok v w ∧ VR ι w a v := by
  unfold partA at h
  cases hd : i.d.isAgg with
  | true =>
    rw [hd, cond_true] at h
    unfold sub at h
    cases hb : Nat.ble (off + i.size) cs.length with
    | false => simp [hb] at h
    | true =>
      simp [hb] at h; subst h
      refine ⟨.agg (vs.extract off (off + i.size)), by simp [part, ht.isAgg, hd, ht.sizeOf], (vs.extract off (off + i.size)).toList, rfl, ?_⟩
      have := (hv.drop off).take i.size
      rwa [show (vs.toList.drop off).take i.size = (vs.extract off (off + i.size)).toList by simp [Array.toList_extract, List.extract_eq_take_drop]] at this
  | false =>
    rw [hd, cond_false, nth_eq] at h
    obtain ⟨v, h1, h2⟩ := hv.nth h
    have h1' : vs[off]? = some v := by simpa using h1
    exact ⟨v, by simp [part, ht.isAgg, hd, h1'], h2⟩

theorem seg_splice (cur vs : List Value) (s off n : Nat) (h : off + vs.length ≤ n) (h2 : s + n ≤ cur.length) :
    ((cur.take (s + off) ++ vs ++ cur.drop (s + off + vs.length)).drop s).take n = ((cur.drop s).take n).take off ++ (vs ++ ((cur.drop s).take n).drop (off + vs.length)) := by
  apply List.ext_getElem?
  intro j
  rw [List.getElem?_take]
  by_cases hn : j < n
  · rw [if_pos hn, List.getElem?_drop]
    by_cases hn1 : j < off
    · rw [List.append_assoc, List.getElem?_append_left (by simp; omega), List.getElem?_take, if_pos (by omega),
        List.getElem?_append_left (by simp; omega), List.getElem?_take, if_pos hn1, List.getElem?_take, if_pos hn, List.getElem?_drop]
    · by_cases hn2 : j < off + vs.length
      · rw [List.append_assoc, List.getElem?_append_right (by simp; omega), List.getElem?_append_left (by simp; omega),
          List.getElem?_append_right (by simp; omega), List.getElem?_append_left (by simp; omega)]
        congr 1; simp; omega
      · rw [List.getElem?_append_right (by simp; omega), List.getElem?_drop,
          List.getElem?_append_right (by simp; omega), List.getElem?_append_right (by simp; omega), List.getElem?_drop, List.getElem?_take, if_pos (by simp; omega), List.getElem?_drop]
        congr 1; simp; omega
  · rw [if_neg hn]; symm; apply List.getElem?_eq_none; simp; omega
theorem addr_add (b o j : Nat) : (⟨b, o, none⟩ : Addr).add j = ⟨b, o + j, none⟩ := by unfold Addr.add; split <;> simp_all

/-- a cell of a row -/
theorem row_cell {b s : Nat} {ro : Bool} {cs : List AV} (h : OR ι w b s (.row ro cs)) {off : Nat} {a : AV} (ha : cs[off]? = some a) : ∃ v, w.cell? ⟨b, s + off, none⟩ = some v ∧ VR ι w a v := by
  obtain ⟨cur, e, fr, h1, h2, h0, h3⟩ := h
  obtain ⟨v, hv, hr⟩ := h3.nth ha
  refine ⟨v, ?_, hr⟩
  rw [List.getElem?_take] at hv
  split at hv
  · rw [List.getElem?_drop] at hv
    simp [World.cell?, h1]; simpa using hv
  · cases hv
/-- cells of a row -/
theorem row_cells {b s : Nat} {ro : Bool} {cs : List AV} (h : OR ι w b s (.row ro cs)) {off n : Nat} {l : List AV} (hl : sub cs off n = some l) :
    ∃ vs, vs.length = n ∧ (loadCells ⟨b, s + off, none⟩ n).run P w = .ok vs.toArray w ∧ VRs ι w l vs ∧ (∀ j v, vs[j]? = some v → w.cell? ((⟨b, s + off, none⟩ : Addr).add j) = some v) := by
  unfold sub at hl
  cases hb : Nat.ble (off + n) cs.length with
  | false => simp [hb] at hl
  | true =>
    have hb := Nat.le_of_ble_eq_true hb
    rw [show Nat.ble (off + n) cs.length = true from Nat.ble_eq_true_of_le hb, cond_true] at hl
    cases hl
    obtain ⟨cur, e, fr, h1, h2, h0, h3⟩ := h
    let vs := (((cur.toList.drop s).take cs.length).drop off).take n
    have hvs : vs.length = n := by simp [vs]; omega
    have hcell : ∀ j v, vs[j]? = some v → w.cell? ((⟨b, s + off, none⟩ : Addr).add j) = some v := by
      intro j v hj
      simp only [vs] at hj
      rw [List.getElem?_take] at hj
      split at hj
      · rw [List.getElem?_drop, List.getElem?_take] at hj
        split at hj
        · rw [List.getElem?_drop] at hj
          rw [addr_add]
          simp [World.cell?, h1]
          rw [show s + off + j = s + (off + j) by omega]; simpa using hj
        · cases hj
      · cases hj
    refine ⟨vs, hvs, ?_, (h3.drop off).take n, hcell⟩
    have := run_loadCells_list (P := P) w ⟨b, s + off, none⟩ vs hcell
    rwa [hvs] at this

theorem rowOf_eq {H : Hp} {id : Nat} {cs : List AV} (h : rowOf H id = some cs) : ∃ ro, H.get id = some (.row ro cs) := by
  unfold rowOf at h; split at h
  · rename_i ro cs' hg; cases h; exact ⟨ro, hg⟩
  · cases h
theorem rowW_eq {H : Hp} {id : Nat} {cs : List AV} (h : rowW H id = some cs) : H.get id = some (.row false cs) := by
  unfold rowW at h; split at h
  · rename_i cs' hg; cases h; exact hg
  · cases h
theorem mapOf_eq {H : Hp} {id : Nat} {x : List (AV × AV) × Nat} (h : mapOf H id = some x) : H.get id = some (.map x.1 x.2) := by
  unfold mapOf at h; split at h
  · rename_i es clk hg; cases h; exact hg
  · cases h
theorem asPtr_eq {a : AV} {p : Nat × Nat} (h : asPtr a = some p) : a = .ptr (some p) := by
  unfold asPtr at h; split at h
  · rw [h]
  · cases h

include hC r
theorem load_ok {t : Nat} {a x : AV} {v : Value} (h : loadA C H t a = some x) (hv : VR ι w a v) : ∃ u, (Instr.loadAt t v).run P w = .ok u w ∧ VR ι w x u := by
  simp only [loadA, Option.bind_eq_bind, Option.bind_eq_some_iff] at h
  obtain ⟨⟨id, off⟩, ha, cs, hcs, i, hi, h⟩ := h
  rw [asPtr_eq ha] at hv
  obtain ⟨b, s, hι, rfl⟩ := hv
  obtain ⟨ro, hg⟩ := rowOf_eq hcs
  have ho := r.obj _ _ _ _ hι hg
  have ht := hC.ty t i hi
  simp only [Instr.loadAt, Instr.sureAddr, Sem.run_bind, Sem.run_pure, Result.andThen_ok, loadVar, ht.isAgg]
  unfold partA at h
  cases hd : i.d.isAgg with
  | true =>
    rw [hd, cond_true] at h
    cases hs : sub cs off i.size with
    | none => simp [hs] at h
    | some l =>
      simp [hs] at h; subst h
      obtain ⟨vs, h1, h2, h3, _⟩ := row_cells (P := P) ho hs
      exact ⟨.agg vs.toArray, by simp [ht.sizeOf, h2], vs, rfl, h3⟩
  | false =>
    rw [hd, cond_false, nth_eq] at h
    obtain ⟨u, h1, h2⟩ := row_cell ho h
    exact ⟨u, by simp [h1], h2⟩

omit hC in
/-- cells of a row are written -/
theorem rowWrite {id b s off : Nat} {cs : List AV} {cur : Array Value} {e : TypeId} {xs : List AV} {vs : List Value} (hι : ι id = some (b, s)) (hg : H.get id = some (.row false cs))
    (h1 : w.heap[b]? = some (Go.Obj.cells cur e (0, 0))) (h0 : s + cs.length ≤ cur.size) (h3 : VRs ι w cs ((cur.toList.drop s).take cs.length)) (hb : off + xs.length ≤ cs.length) (hv : VRs ι w xs vs)
    (h1c : ∀ v ∈ vs, v.oneCell' = true) (hp : H.prot ≤ id) :
    ∃ w', (storeCells ⟨b, s + off, none⟩ vs).run P w = .ok () w' ∧ R ι (H.put id (some (.row false (cs.take off ++ (xs ++ cs.drop (off + xs.length)))))) w' ∧ Post ι ι H (H.put id (some (.row false (cs.take off ++ (xs ++ cs.drop (off + xs.length)))))) w w' := by
  have hlen := hv.length
  have hst := run_storeCells_at (P := P) b (s + off) e vs 0 cur w h1 (by omega) h1c
  rw [Nat.add_zero] at hst
  refine ⟨_, hst, ?_⟩
  have hsize : (cur.toList.take (s + off) ++ vs ++ cur.toList.drop (s + off + vs.length)).toArray.size = cur.size := by simp; omega
  have hk := setRow_keeps (cur' := (cur.toList.take (s + off) ++ vs ++ cur.toList.drop (s + off + vs.length)).toArray) h1 hsize
  refine r.put hι hg rfl rfl hp hk (fun b' hb' => setRow_other _ hb') ⟨rfl, rfl, rfl⟩ ?_ ?_ ?_
  · intro j b' s' since left c hj hjg hne
    obtain ⟨b2, s2, ents, clk, seen, g1, g2, g3, g4⟩ := r.obj _ _ _ _ hj hjg
    refine ⟨b2, s2, ents, clk, seen, ?_, g2, ?_, g4⟩
    · rw [setRow_other _ (by intro e; subst e; rw [h1] at g1; cases g1)]; exact g1
    · rw [setRow_other _ (by intro e; subst e; rw [h1] at g3; cases g3)]; exact g3
  · intro ents clk hm; rw [setRow_same h1] at hm; cases hm
  · have hl : (cs.take off ++ (xs ++ cs.drop (off + xs.length))).length = cs.length := by simp; omega
    refine ⟨_, e, (0, 0), setRow_same h1, fun _ => rfl, by rw [hl, hsize]; exact h0, ?_⟩
    have hA := VRs.mono (SubE.refl ι) hk _ _ ((h3.take off).append (hv.append (h3.drop (off + xs.length))))
    rw [← hlen] at hA
    rw [hl, seg_splice _ _ _ _ _ (by omega) (by simpa using h0)]
    rw [← hlen]; exact hA

theorem store_ok {t : Nat} {a x : AV} {va vx : Value} {H' : Hp} (h : storeA C H t a x = some H') (hv : VR ι w a va) (hx : VR ι w x vx) :
    ∃ w', (Instr.storeAt t va vx).run P w = .ok () w' ∧ R ι H' w' ∧ Post ι ι H H' w w' := by
  simp only [storeA, Option.bind_eq_bind, Option.bind_eq_some_iff] at h
  obtain ⟨⟨id, off⟩, ha, cs, hcs, i, hi, u, hck, cs', hp, hw⟩ := h
  rw [asPtr_eq ha] at hv
  obtain ⟨b, s, hι, rfl⟩ := hv
  have hg := rowW_eq hcs
  have ho := r.obj _ _ _ _ hι hg
  have ht := hC.ty t i hi
  obtain ⟨hprot, rfl⟩ := Hp.wr_eq hw
  have hsz : x.cells.length = i.size := Nat.eq_of_beq_eq_true (chk_eq hck)
  have hvc := hx.cells
  have hlen := hvc.length
  unfold putCells at hp
  cases hone : x.cells.all AV.one with
  | false => simp [hone] at hp
  | true =>
    rw [hone, cond_true] at hp
    unfold splice at hp
    cases hb : Nat.ble (off + x.cells.length) cs.length with
    | false => simp [hb] at hp
    | true =>
      rw [hb, cond_true] at hp; cases hp
      have hb := Nat.le_of_ble_eq_true hb
      obtain ⟨cur, e, fr, h1, h2, h0, h3⟩ := ho
      obtain rfl := h2 rfl
      have h1c : ∀ v ∈ vx.cells.toList, v.oneCell' = true := by
        intro v hv
        obtain ⟨j, hj⟩ := List.getElem?_of_mem hv
        have hjl : j < x.cells.length := by have := (List.getElem?_eq_some_iff.1 hj).1; omega
        obtain ⟨v', hv', hr'⟩ := hvc.nth (List.getElem?_eq_getElem hjl)
        rw [hj] at hv'; cases hv'
        rw [hr'.one]; exact List.all_eq_true.1 hone _ (List.getElem_mem hjl)
      obtain ⟨w', hrun, hR⟩ := rowWrite (P := P) r hι hg h1 h0 h3 hb hvc h1c hprot
      exact ⟨w', by simp [Instr.storeAt, Instr.sureAddr, storeVar, ht.sizeOf, hrun, show vx.cells.size = i.size by simpa [hsz] using hlen], hR⟩
end
end Go.Av
/- What the machine's operations do, held against the evaluator's: numbers, texts, comparisons, addresses of parts, cuts, conversions. Conditions: the tables of types say what the program's do. -/
namespace Go.Av

theorem wrap_in (k : IntKind) (n : Int) (h : n < (limA k : Nat)) (h0 : 0 ≤ n ∨ (k.signed = true ∧ -(limA k : Nat) ≤ n)) : k.wrap n = n := by
  cases k <;> simp only [limA] at h h0
  case i8 => exact IntWalk.i8_in n (by rcases h0 with h0 | ⟨_, h0⟩ <;> omega)
  case i16 => exact IntWalk.i16_in n (by rcases h0 with h0 | ⟨_, h0⟩ <;> omega)
  case i32 => exact IntWalk.i32_in n (by rcases h0 with h0 | ⟨_, h0⟩ <;> omega)
  case i64 => exact IntWalk.i64_in n (by rcases h0 with h0 | ⟨_, h0⟩ <;> omega)
  case u8 => exact IntWalk.u8_in n (by rcases h0 with h0 | ⟨h1, h0⟩ <;> first | omega | cases h1)
  case u16 => exact IntWalk.u16_in n (by rcases h0 with h0 | ⟨h1, h0⟩ <;> first | omega | cases h1)
  case u32 => exact IntWalk.u32_in n (by rcases h0 with h0 | ⟨h1, h0⟩ <;> first | omega | cases h1)
  case u64 => exact IntWalk.u64_in n (by rcases h0 with h0 | ⟨h1, h0⟩ <;> first | omega | cases h1)
theorem wrapA_eq (k : IntKind) (n : Int) : wrapA k n = k.wrap n := by
  cases n with
  | ofNat m =>
    simp only [wrapA]
    cases h : Nat.blt m (limA k) with
    | false => rfl
    | true =>
      rw [cond_true]
      have hm : m < limA k := by simpa [Nat.blt_eq] using h
      exact (wrap_in k _ (by simpa using hm) (.inl (by simp))).symm
  | negSucc m =>
    simp only [wrapA]
    cases h : (k.signed && Nat.blt m (limA k)) with
    | false => rfl
    | true =>
      rw [cond_true]
      rw [Bool.and_eq_true] at h
      have hm : m < limA k := by simpa [Nat.blt_eq] using h.2
      exact (wrap_in k _ (by omega) (.inr ⟨h.1, by omega⟩)).symm

theorem natOf_eq {i : Int} {n : Nat} (h : natOf i = some n) : i = n := by cases i <;> simp [natOf] at h; subst h; rfl
theorem asInt_eq {a : AV} {n : Int} (h : asInt a = some n) : ∃ k, a = .int k n := by unfold asInt at h; split at h <;> simp at h; subst h; exact ⟨_, rfl⟩
theorem asBool_eq {a : AV} {n : Bool} (h : asBool a = some n) : a = .bool n := by unfold asBool at h; split at h <;> simp at h; subst h; rfl
theorem asAgg_eq {a : AV} {n : List AV} (h : asAgg a = some n) : a = .agg n := by unfold asAgg at h; split at h <;> simp at h; subst h; rfl
theorem asTup_eq {a : AV} {n : List AV} (h : asTup a = some n) : a = .tup n := by unfold asTup at h; split at h <;> simp at h; subst h; rfl
theorem asSlc_eq {a : AV} {x : Option (Nat × Nat) × Nat × Nat} (h : asSlc a = some x) : a = .slc x.1 x.2.1 x.2.2 := by unfold asSlc at h; split at h <;> simp at h; subst h; rfl
theorem asMap_eq {a : AV} {n : Nat} (h : asMap a = some n) : a = .map (some n) := by
  unfold asMap at h
  split at h
  · rw [h]
  · cases h
theorem natOf_int {a : AV} {n : Nat} (h : ∃ m, asInt a = some m ∧ natOf m = some n) : ∃ k, a = .int k n := by
  obtain ⟨m, h1, h2⟩ := h
  obtain ⟨k, rfl⟩ := asInt_eq h1
  exact ⟨k, by rw [natOf_eq h2]⟩

def OptVR (ι : Emb) (w : World) : Option AV → Option Value → Prop
  | none, none => True
  | some a, some v => VR ι w a v
  | _, _ => False

section
variable {P : Program} {w : World} {ι : Emb}

/-! ### Numbers and texts -/
theorem arith_ok {op : BinOp} {k : IntKind} {x y : Int} {a : AV} (h : arith op k x y = some a) (hsh : op ≠ .shl ∧ op ≠ .shr) (t : TypeId) (v1 v2 : Operand) :
    ∃ v, (do eqGuard op t v1 v2 (.int k x) (.int k y); binOp op t (.int k x) (.int k y) : Sem Value).run P w = .ok v w ∧ VR ι w a v := by
  cases op <;> simp [arith] at h hsh <;> first
    | (subst h; refine ⟨_, by simp [eqGuard, binOp, Op.intArith, Op.intBits, Op.intCmp]; rfl, ?_⟩; simp [VR, wrapA_eq]; done)
    | (by_cases hy : y = 0
       · simp [hy] at h
       · simp [hy] at h; subst h; refine ⟨_, by simp [eqGuard, binOp, Op.intDiv, hy]; rfl, ?_⟩; simp [VR, wrapA_eq])
theorem shift_ok {op : BinOp} {k k' : IntKind} {x y : Int} {a : AV} (h : shiftA op k x y = some a) (t : TypeId) (v1 v2 : Operand) :
    ∃ v, (do eqGuard op t v1 v2 (.int k x) (.int k' y); binOp op t (.int k x) (.int k' y) : Sem Value).run P w = .ok v w ∧ VR ι w a v := by
  simp only [shiftA, Option.bind_eq_bind, Option.bind_eq_some_iff] at h
  obtain ⟨n, hn, h⟩ := h
  obtain rfl := natOf_eq hn
  have hnn : ¬ ((n : Int) < 0) := by omega
  cases op <;> simp at h
  · subst h
    refine ⟨_, by simp [eqGuard, binOp, Op.shift, hnn]; rfl, ?_⟩
    simp [VR, wrapA_eq]
  · subst h
    refine ⟨_, by simp [eqGuard, binOp, Op.shift, hnn]; rfl, ?_⟩
    simp [VR]
theorem str_ok {op : BinOp} {x y : List UInt8} {a : AV} (h : strA op x y = some a) (t : TypeId) (v1 v2 : Operand) :
    ∃ v, (do eqGuard op t v1 v2 (.string ⟨⟨x⟩⟩) (.string ⟨⟨y⟩⟩); binOp op t (.string ⟨⟨x⟩⟩) (.string ⟨⟨y⟩⟩) : Sem Value).run P w = .ok v w ∧ VR ι w a v := by
  have hx : (ByteArray.mk ⟨x⟩).toList = x := ByteArray.toList_mk x
  have hy : (ByteArray.mk ⟨y⟩).toList = y := ByteArray.toList_mk y
  cases op <;> simp [strA] at h
  case add =>
    cases hb : Nat.ble (x.length + y.length) 9223372036854775807 with
    | false => simp [hb] at h
    | true =>
      have hb := Nat.le_of_ble_eq_true hb
      rw [show Nat.ble (x.length + y.length) 9223372036854775807 = true from Nat.ble_eq_true_of_le hb, cond_true] at h
      cases h
      refine ⟨.string (ByteArray.mk ⟨x⟩ ++ ByteArray.mk ⟨y⟩), ?_, ?_⟩
      · have hs : (ByteArray.mk ⟨x⟩).size + (ByteArray.mk ⟨y⟩).size ≤ 9223372036854775807 := hb
        simp [eqGuard, binOp, run_string_add_sum _ _ _ hs]
      · exact congrArg Value.string (ByteArray.mk_append_mk x y)
  all_goals
    subst h
    refine ⟨_, by simp [eqGuard, binOp, Op.stringOp, hx, hy]; rfl, ?_⟩
    simp [VR]
theorem un_ok {op : UnOp} {x a : AV} {v : Value} (h : un op x = some a) (hv : VR ι w x v) : ∃ u, (Op.unary op v).run P w = .ok u w ∧ VR ι w a u := by
  unfold un at h
  split at h <;> simp at h <;> subst h <;> simp only [VR] at hv <;> subst hv
  · exact ⟨_, by simp [Op.unary, Op.intArith]; rfl, by simp [VR, wrapA_eq]⟩
  · exact ⟨_, by simp [Op.unary, Op.intBits]; rfl, by simp [VR, wrapA_eq]⟩
  · exact ⟨_, by simp [Op.unary]; rfl, by simp [VR]⟩

theorem pick_ok {c a b x : AV} {vc va vb : Value} (h : pickA c a b = some x) (hc : VR ι w c vc) (ha : VR ι w a va) (hb : VR ι w b vb) :
    ∃ v, (do pure (if ← Go.asBool vc then va else vb) : Sem Value).run P w = .ok v w ∧ VR ι w x v := by
  simp only [pickA, Option.bind_eq_bind, Option.bind_eq_some_iff] at h
  obtain ⟨t, ht, h⟩ := h
  rw [asBool_eq ht] at hc
  simp only [VR] at hc; subst hc
  cases t <;> simp at h <;> subst h
  · exact ⟨vb, by simp [Go.asBool], hb⟩
  · exact ⟨va, by simp [Go.asBool], ha⟩

theorem nilCheck_ok {x a : AV} {v : Value} (h : nilCheckA x = some a) (hv : VR ι w x v) {o : Oper} {ρ : Operand → Value} {y : Operand} (ho : o.op = .nilCheck y) (hy : ρ y = v) :
    (execOp ρ o).run P w = .ok (.value v) w ∧ VR ι w a v := by
  unfold nilCheckA at h
  split at h <;> simp at h <;> subst h
  · obtain ⟨b, s, h1, rfl⟩ := hv
    exact ⟨by simp [execOp, ho, hy], ⟨b, s, h1, rfl⟩⟩
  · obtain ⟨vs, rfl, h1⟩ := hv
    exact ⟨by simp [execOp, ho, hy], ⟨vs, rfl, h1⟩⟩

theorem extract_ok {x a : AV} {v : Value} {i : Nat} {vs : List AV} (h1 : asTup x = some vs) (h2 : nth vs i = some a) (hv : VR ι w x v) :
    ∃ u, (Instr.extract v i).run P w = .ok u w ∧ VR ι w a u := by
  rw [asTup_eq h1] at hv
  obtain ⟨us, rfl, hu⟩ := hv
  rw [nth_eq] at h2
  obtain ⟨u, g1, g2⟩ := hu.nth h2
  have : (Array.mk us)[i]? = some u := by simpa using g1
  exact ⟨u, by simp [Instr.extract, this], g2⟩
end

section
variable {P : Program} {C : Ctx} (hC : CtxOK P C) {w : World} {ι : Emb} {H : Hp}
include hC

theorem fieldAddr_ok {t f : Nat} {x a : AV} {v : Value} (h : fieldAddrA C t f x = some a) (hv : VR ι w x v) : ∃ u, (Instr.fieldAt t v f).run P w = .ok u w ∧ VR ι w a u := by
  simp only [fieldAddrA, Option.bind_eq_bind, Option.bind_eq_some_iff] at h
  obtain ⟨⟨id, off⟩, hx, ⟨o, j⟩, hf, u, hck, h⟩ := h
  rw [asPtr_eq hx] at hv
  obtain ⟨b, s, h1, rfl⟩ := hv
  obtain ⟨F, fd, hF, hfd, ho, hj⟩ := fieldOf_ok hC hf
  simp at h; subst h
  have hsz : j.size ≠ 0 := by have := chk_eq hck; simp [Nat.blt_eq] at this; omega
  refine ⟨.pointer (some ⟨b, s + (off + o), none⟩), ?_, b, s, h1, rfl⟩
  simp [Instr.fieldAt, run_underlying hF, hfd, Instr.sureAddr, fieldPlace, hj.sizeOf, hsz, addr_add, ho, Nat.add_assoc]
theorem field_ok {t f : Nat} {x a : AV} {v : Value} (h : fieldA C t f x = some a) (hv : VR ι w x v) : ∃ u, (Instr.field t v f).run P w = .ok u w ∧ VR ι w a u := by
  simp only [fieldA, Option.bind_eq_bind, Option.bind_eq_some_iff] at h
  obtain ⟨cs, hx, ⟨o, j⟩, hf, h⟩ := h
  rw [asAgg_eq hx] at hv
  obtain ⟨vs, rfl, hvs⟩ := hv
  obtain ⟨F, fd, hF, hfd, ho, hj⟩ := fieldOf_ok hC hf
  obtain ⟨u, g1, g2⟩ := part_ok (P := P) hj h (vs := ⟨vs⟩) hvs
  exact ⟨u, by simp [Instr.field, run_underlying hF, hfd, Go.asAgg, ho, g1], g2⟩
theorem indexAddr_ok {t : Nat} {x ix a : AV} {v vi : Value} (h : indexAddrA C t x ix = some a) (hv : VR ι w x v) (hi : VR ι w ix vi) : ∃ u, (Instr.indexAt t v vi).run P w = .ok u w ∧ VR ι w a u := by
  unfold indexAddrA at h
  split at h
  · rename_i id off
    simp only [Option.bind_eq_bind, Option.bind_eq_some_iff] at h
    obtain ⟨⟨n, j⟩, he, m, hm, i, hn, u, hck, h⟩ := h
    obtain ⟨k, rfl⟩ := natOf_int ⟨m, hm, hn⟩
    simp only [VR] at hi; subst hi
    obtain ⟨b, s, h1, rfl⟩ := hv
    obtain ⟨e, hu, hj⟩ := elemA_ok hC he
    simp at h; subst h
    have hlt : i < n := by simpa [Nat.blt_eq] using chk_eq hck
    refine ⟨.pointer (some ⟨b, s + (off + i * j.size), none⟩), ?_, b, s, h1, rfl⟩
    simp [Instr.indexAt, run_underlying hu, asIntOf, Instr.sureAddr, hj.sizeOf, addr_add, hlt, Nat.add_assoc]
  · rename_i id off len size
    simp only [Option.bind_eq_bind, Option.bind_eq_some_iff] at h
    obtain ⟨j, he, m, hm, i, hn, u, hck, h⟩ := h
    obtain ⟨k, rfl⟩ := natOf_int ⟨m, hm, hn⟩
    simp only [VR] at hi; subst hi
    obtain ⟨b, s, o, cap, e', n', h1, h2, h3, h4, h5, h6, rfl⟩ := hv
    obtain ⟨e, hu, hj⟩ := elemS_ok hC he
    simp at h; subst h
    have hck := chk_eq hck
    rw [Bool.and_eq_true] at hck
    have hlt : i < len := by simpa [Nat.blt_eq] using hck.1
    have hsz : j.size = size := Nat.eq_of_beq_eq_true hck.2
    have ho := h3 (by omega)
    refine ⟨.pointer (some ⟨b, s + (off + i * size), none⟩), ?_, b, s, h1, rfl⟩
    simp [Instr.indexAt, run_underlying hu, asIntOf, hj.sizeOf, addr_add, hlt, ho, hsz, Nat.add_assoc]
  · cases h
theorem index_ok {t : Nat} {x ix a : AV} {v vi : Value} (h : indexA C t x ix = some a) (hv : VR ι w x v) (hi : VR ι w ix vi) : ∃ u, (Instr.index t v vi).run P w = .ok u w ∧ VR ι w a u := by
  unfold indexA at h
  split at h
  · rename_i cs
    simp only [Option.bind_eq_bind, Option.bind_eq_some_iff] at h
    obtain ⟨⟨n, j⟩, he, m, hm, i, hn, u, hck, h⟩ := h
    obtain ⟨k, rfl⟩ := natOf_int ⟨m, hm, hn⟩
    simp only [VR] at hi; subst hi
    obtain ⟨vs, rfl, hvs⟩ := hv
    obtain ⟨e, hu, hj⟩ := elemA_ok hC he
    have hlt : i < n := by simpa [Nat.blt_eq] using chk_eq hck
    obtain ⟨u', g1, g2⟩ := part_ok (P := P) hj h (vs := ⟨vs⟩) hvs
    exact ⟨u', by simp [Instr.index, run_underlying hu, asIntOf, hlt, hj.sizeOf, g1], g2⟩
  · rename_i s
    simp only [Option.bind_eq_bind, Option.bind_eq_some_iff] at h
    obtain ⟨ti, hti, u, hck, m, hm, i, hn, b, hb, h⟩ := h
    obtain ⟨k, rfl⟩ := natOf_int ⟨m, hm, hn⟩
    obtain rfl : vi = .int k i := hi
    obtain rfl : v = .string ⟨⟨s⟩⟩ := hv
    have hd : ti.d = .str := by have := chk_eq hck; cases hx : ti.d <;> simp [hx] at this; rfl
    have hu := (hC.ty t ti hti).str hd
    simp at h; subst h
    rw [nth_eq] at hb
    have hlt : i < s.length := (List.getElem?_eq_some_iff.1 hb).1
    have hb' : (ByteArray.mk ⟨s⟩)[i]? = some b := by
      have hsz : i < (ByteArray.mk ⟨s⟩).size := hlt
      rw [ByteArray.getElem?_lt' _ _ hsz]
      have : s[i] = b := by rw [List.getElem?_eq_getElem hlt] at hb; simpa using hb
      rw [← this]; rfl
    exact ⟨_, by simp [Instr.index, run_underlying hu, asIntOf, hb'], rfl⟩
  · cases h

omit hC in
/-- what may be left out -/
theorem bound_ok {x : Option AV} {vx : Option Value} {y d n : Nat} (h : bound x y d = some n) (hx : OptVR ι w x vx) (code : BoundsCode) :
    (x = none ∧ vx = none ∧ n = d) ∨ ∃ v, vx = some v ∧ x.isSome = true ∧ n ≤ y ∧ (Instr.sliceBound v y code).run P w = .ok n w := by
  cases x with
  | none => cases vx with
    | none => simp [bound] at h; exact .inl ⟨rfl, rfl, h.symm⟩
    | some v => exact hx.elim
  | some a => cases vx with
    | none => exact hx.elim
    | some v =>
      simp only [bound, Option.bind_eq_bind, Option.bind_eq_some_iff] at h
      obtain ⟨m, hm, i, hn, u, hck, he⟩ := h
      obtain ⟨k, rfl⟩ := natOf_int ⟨m, hm, hn⟩
      obtain rfl : v = .int k i := hx
      obtain rfl : i = n := by injection he
      have hle : i ≤ y := Nat.le_of_ble_eq_true (chk_eq hck)
      exact .inr ⟨_, rfl, rfl, hle, by simp [Instr.sliceBound, asIntOf, hle]⟩
end
end Go.Av
/- What the machine's comparisons do, held against the evaluator's. Conditions: the tables of types say what the program's do. -/
namespace Go.Av

/-- cells of sorts -/
def Typed : List EK → List Value → Prop
  | [], vs => vs = []
  | .i k :: ks, vs => ∃ n us, vs = .int k n :: us ∧ Typed ks us
  | .b :: ks, vs => ∃ b us, vs = .bool b :: us ∧ Typed ks us
  | .s :: ks, vs => ∃ l us, vs = .string ⟨⟨l⟩⟩ :: us ∧ Typed ks us
theorem Typed.length : ∀ {ks : List EK} {vs : List Value}, Typed ks vs → vs.length = ks.length
  | [], _, h => by simp only [Typed] at h; simp [h]
  | .i k :: ks, _, ⟨n, us, h1, h2⟩ => by subst h1; simp [Typed.length h2]
  | .b :: ks, _, ⟨b, us, h1, h2⟩ => by subst h1; simp [Typed.length h2]
  | .s :: ks, _, ⟨l, us, h1, h2⟩ => by subst h1; simp [Typed.length h2]
theorem Typed.split : ∀ {ks ls : List EK} {vs : List Value}, Typed (ks ++ ls) vs → Typed ks (vs.take ks.length) ∧ Typed ls (vs.drop ks.length)
  | [], _, _, h => by simpa [Typed] using h
  | .i k :: ks, _, _, ⟨n, us, h1, h2⟩ => by subst h1; have := Typed.split h2; exact ⟨⟨n, _, rfl, this.1⟩, this.2⟩
  | .b :: ks, _, _, ⟨b, us, h1, h2⟩ => by subst h1; have := Typed.split h2; exact ⟨⟨b, _, rfl, this.1⟩, this.2⟩
  | .s :: ks, _, _, ⟨l, us, h1, h2⟩ => by subst h1; have := Typed.split h2; exact ⟨⟨l, _, rfl, this.1⟩, this.2⟩

theorem eqCells_typed {ι : Emb} {w : World} : ∀ {ks : List EK} {as bs : List AV} {r : Bool} {xs ys : List Value}, eqCells ks as bs = some r → VRs ι w as xs → VRs ι w bs ys →
    Typed ks xs ∧ Typed ks ys ∧ (r = true ↔ xs = ys)
  | [], [], [], r, _, _, h, hx, hy => by
    simp [eqCells] at h; simp only [VRs] at hx hy; subst hx; subst hy; subst h; exact ⟨rfl, rfl, by simp⟩
  | [], [], _ :: _, _, _, _, h, _, _ => by simp [eqCells] at h
  | [], _ :: _, _, _, _, _, h, _, _ => by simp [eqCells] at h
  | _ :: _, [], _, _, _, _, h, _, _ => by simp [eqCells] at h
  | _ :: _, _ :: _, [], _, _, _, h, _, _ => by simp [eqCells] at h
  | k :: ks, a :: as, b :: bs, r, _, _, h, ⟨u, us, h1, h2, h3⟩, ⟨v, vs, g1, g2, g3⟩ => by
    subst h1; subst g1
    simp only [eqCells] at h
    cases hk : eqK k a b with
    | none => simp [hk] at h
    | some x =>
      cases ht : eqCells ks as bs with
      | none => simp [hk, ht] at h
      | some y =>
        simp [hk, ht] at h
        subst h
        obtain ⟨t1, t2, t3⟩ := eqCells_typed ht h3 g3
        have key : Typed [k] [u] ∧ Typed [k] [v] ∧ (x = true ↔ u = v) := by
          cases k <;> cases a <;> cases b <;> simp only [eqK] at hk <;> first | cases hk | skip
          all_goals simp only [VR] at h2 g2; subst h2; subst g2
          · rename_i q k1 n1 k2 n2
            by_cases e : k1 = q
            · by_cases e' : k2 = q
              · simp [e, e'] at hk; subst hk; subst e; subst e'; exact ⟨⟨_, _, rfl, rfl⟩, ⟨_, _, rfl, rfl⟩, by simp⟩
              · simp [e'] at hk
            · simp [e] at hk
          · exact ⟨⟨_, _, rfl, rfl⟩, ⟨_, _, rfl, rfl⟩, by simp⟩
          · exact ⟨⟨_, _, rfl, rfl⟩, ⟨_, _, rfl, rfl⟩, by simp⟩
        obtain ⟨k1, k2, k3⟩ := key
        refine ⟨?_, ?_, by simp [k3, t3]⟩
        · cases k
          · obtain ⟨a1, a3, e, _⟩ := k1; cases e; exact ⟨_, _, rfl, t1⟩
          · obtain ⟨a1, a3, e, _⟩ := k1; cases e; exact ⟨_, _, rfl, t1⟩
          · obtain ⟨a1, a3, e, _⟩ := k1; cases e; exact ⟨_, _, rfl, t1⟩
        · cases k
          · obtain ⟨a1, a3, e, _⟩ := k2; cases e; exact ⟨_, _, rfl, t2⟩
          · obtain ⟨a1, a3, e, _⟩ := k2; cases e; exact ⟨_, _, rfl, t2⟩
          · obtain ⟨a1, a3, e, _⟩ := k2; cases e; exact ⟨_, _, rfl, t2⟩

def aggT (P : Program) (t : TypeId) : Bool := match P.underlying t with
  | some (.struct _) | some (.array ..) => true
  | _ => false
def valOf (P : Program) (t : TypeId) (xs : List Value) : Value := if aggT P t then .agg ⟨xs⟩ else xs.headD undef

theorem part_val {P : Program} {w : World} {e : TypeId} {d : TypeDesc} {n off : Nat} {l : List Value} (hu : P.underlying e = some d) (hn : P.cellsOf e = n) (h0 : 0 < n) (hl : off + n ≤ l.length) :
    (part e ⟨l⟩ off).run P w = .ok (valOf P e ((l.drop off).take n)) w := by
  have hi : ∃ i, P.info? e = some i ∧ i.size = n := by
    unfold Program.cellsOf at hn
    cases h : P.info? e with
    | none => simp [h] at hn; omega
    | some i => exact ⟨i, rfl, by simpa [h] using hn⟩
  obtain ⟨i, hi1, hi2⟩ := hi
  by_cases ha : aggT P e = true
  · have : (isAgg e).run P w = .ok true w := by
      unfold aggT at ha; rw [hu] at ha
      cases d <;> simp at ha <;> simp [isAgg, run_underlying hu]
    simp [part, this, sizeOf, typeInfo, hi1, hi2, valOf, ha, List.extract_eq_take_drop]
  · have hf : aggT P e = false := by simpa using ha
    have : (isAgg e).run P w = .ok false w := by
      unfold aggT at hf; rw [hu] at hf
      cases d <;> simp at hf <;> simp [isAgg, run_underlying hu]
    have hx : l[off]? = some (((l.drop off).take n).headD undef) := by
      have : off < l.length := by omega
      obtain ⟨m, rfl⟩ : ∃ m, n = m + 1 := ⟨n - 1, by omega⟩
      rw [List.drop_eq_getElem_cons this, List.take_succ_cons, List.headD_cons, List.getElem?_eq_getElem this]
    simp [part, this, hx, valOf, hf]

def EqP (P : Program) (D : Nat) (t : TypeId) (ks : List EK) : Prop :=
  P.cellsOf t = ks.length ∧ ks ≠ [] ∧ (∃ d, P.underlying t = some d) ∧
  ∀ (w : World) (xs ys : List Value), Typed ks xs → Typed ks ys → ∃ r : Bool, (Op.equalIn D t (valOf P t xs) (valOf P t ys)).run P w = .ok r w ∧ (r = true ↔ xs = ys)

theorem take_drop_eq {xs ys : List Value} {n : Nat} : xs = ys ↔ xs.take n = ys.take n ∧ xs.drop n = ys.drop n := by
  constructor
  · rintro rfl; exact ⟨rfl, rfl⟩
  · rintro ⟨h1, h2⟩; rw [← List.take_append_drop n xs, ← List.take_append_drop n ys, h1, h2]

theorem eqFields_ok {P : Program} {D : Nat} {g : TypeId → Option (List EK)} (hg : ∀ t ks, g t = some ks → EqP P D t ks) (w : World) (X Y : List Value) :
    ∀ (fs : List Field) (off : Nat) (ks : List EK), ekFields g fs off = some ks → Typed ks (X.drop off) → Typed ks (Y.drop off) →
    ∃ r : Bool, (Op.eqFields D ⟨X⟩ ⟨Y⟩ fs).run P w = .ok r w ∧ (r = true ↔ X.drop off = Y.drop off)
  | [], off, ks, h, hx, hy => by
    simp [ekFields] at h; subst h
    simp only [Typed] at hx hy
    exact ⟨true, by simp [Op.eqFields], by simp [hx, hy]⟩
  | f :: fs, off, ks, h, hx, hy => by
    simp only [ekFields] at h
    split at h
    · rename_i hf
      obtain ⟨hf1, hf2⟩ := hf
      cases hgt : g f.type with
      | none => simp [hgt] at h
      | some y =>
        simp only [hgt] at h
        cases hr : ekFields g fs (off + y.length) with
        | none => simp [hr] at h
        | some z =>
          simp [hr] at h; subst h
          obtain ⟨c1, c2, ⟨d, c3⟩, c4⟩ := hg _ _ hgt
          obtain ⟨x1, x2⟩ := hx.split
          obtain ⟨y1, y2⟩ := hy.split
          have hlx := hx.length; have hly := hy.length
          simp at hlx hly
          have h0 : 0 < y.length := List.length_pos_iff.2 c2
          have px := part_val (P := P) (w := w) (l := X) (off := off) c3 c1 h0 (by omega)
          have py := part_val (P := P) (w := w) (l := Y) (off := off) c3 c1 h0 (by omega)
          obtain ⟨r1, e1, q1⟩ := c4 w _ _ x1 y1
          rw [List.drop_drop] at x2 y2
          obtain ⟨r2, e2, q2⟩ := eqFields_ok hg w X Y fs (off + y.length) z hr x2 y2
          simp only [Op.eqFields, hf1, ne_eq, not_false_eq_true, if_true, Sem.run_bind, hf2, px, py, e1, Result.andThen_ok]
          have key : X.drop off = Y.drop off ↔ (X.drop off).take y.length = (Y.drop off).take y.length ∧ X.drop (off + y.length) = Y.drop (off + y.length) := by
            rw [take_drop_eq (n := y.length), List.drop_drop, List.drop_drop]
          cases r1 with
          | false => exact ⟨false, by simp, by rw [key, ← q1]; simp⟩
          | true => exact ⟨r2, by simpa using e2, by rw [key, ← q1, ← q2]; simp⟩
    · cases h

theorem ekItems_length (l : List EK) : ∀ n, (ekItems l n).length = n * l.length
  | 0 => by simp [ekItems]
  | n + 1 => by simp [ekItems, ekItems_length l n, Nat.add_mul, Nat.add_comm]
theorem eqItems_ok {P : Program} {D : Nat} {e : TypeId} {l : List EK} (hg : EqP P D e l) (w : World) (X Y : List Value) :
    ∀ (n i : Nat), Typed (ekItems l n) (X.drop (i * l.length)) → Typed (ekItems l n) (Y.drop (i * l.length)) →
    ∃ r : Bool, (Op.eqItems D e (P.cellsOf e) ⟨X⟩ ⟨Y⟩ (List.range' i n)).run P w = .ok r w ∧ (r = true ↔ X.drop (i * l.length) = Y.drop (i * l.length))
  | 0, i, hx, hy => by
    simp only [ekItems, Typed] at hx hy
    exact ⟨true, by simp [Op.eqItems], by simp [hx, hy]⟩
  | n + 1, i, hx, hy => by
    obtain ⟨c1, c2, ⟨d, c3⟩, c4⟩ := hg
    simp only [ekItems] at hx hy
    obtain ⟨x1, x2⟩ := hx.split
    obtain ⟨y1, y2⟩ := hy.split
    have hlx := hx.length; have hly := hy.length
    simp at hlx hly
    have h0 : 0 < l.length := List.length_pos_iff.2 c2
    have px := part_val (P := P) (w := w) (l := X) (off := i * l.length) c3 c1 h0 (by omega)
    have py := part_val (P := P) (w := w) (l := Y) (off := i * l.length) c3 c1 h0 (by omega)
    obtain ⟨r1, e1, q1⟩ := c4 w _ _ x1 y1
    rw [List.drop_drop] at x2 y2
    have hm : i * l.length + l.length = (i + 1) * l.length := by rw [Nat.add_mul, Nat.one_mul]
    rw [hm] at x2 y2
    obtain ⟨r2, e2, q2⟩ := eqItems_ok ⟨c1, c2, ⟨d, c3⟩, c4⟩ w X Y n (i + 1) x2 y2
    rw [List.range'_succ]
    simp only [Op.eqItems, Sem.run_bind, c1, px, py, e1, Result.andThen_ok]
    have key : X.drop (i * l.length) = Y.drop (i * l.length) ↔ (X.drop (i * l.length)).take l.length = (Y.drop (i * l.length)).take l.length ∧ X.drop ((i + 1) * l.length) = Y.drop ((i + 1) * l.length) := by
      rw [take_drop_eq (n := l.length), List.drop_drop, List.drop_drop, hm]
    rw [c1] at e2
    cases r1 with
    | false => exact ⟨false, by simp, by rw [key, ← q1]; simp⟩
    | true => exact ⟨r2, by simpa using e2, by rw [key, ← q1, ← q2]; simp⟩

theorem fieldsOf_eq {P : Program} {t : TypeId} {fs : Array Field} (h : P.underlying t = some (.struct fs)) : P.fieldsOf t = fs := by simp [Program.fieldsOf, h]

theorem ek_ok {P : Program} : ∀ (d : Nat) (t : TypeId) (ks : List EK) (D : Nat), d ≤ D → ekOf P d t = some ks → EqP P D t ks
  | 0, _, _, _, _, h => by simp [ekOf] at h
  | d + 1, t, ks, D, hD, h => by
    obtain ⟨D, rfl⟩ : ∃ m, D = m + 1 := ⟨D - 1, by omega⟩
    unfold ekOf at h
    cases hu : P.underlying t with
    | none => simp [hu] at h
    | some td =>
      simp only [hu] at h
      have fin : ∀ {x : Option (List EK)}, (match x with | some ks' => if P.cellsOf t = ks'.length ∧ ks' ≠ [] then some ks' else none | none => none) = some ks → x = some ks ∧ P.cellsOf t = ks.length ∧ ks ≠ [] := by
        intro x hx
        cases x with
        | none => cases hx
        | some y =>
          simp only at hx
          split at hx
          · rename_i hc; cases hx; exact ⟨rfl, hc⟩
          · cases hx
      have h3 := fin h
      clear h fin
      obtain ⟨h, hc, hne⟩ := h3
      refine ⟨hc, hne, ⟨td, hu⟩, fun w xs ys hx hy => ?_⟩
      cases td <;> simp at h
      case bool =>
        subst h
        obtain ⟨a, _, rfl, e⟩ := hx; simp only [Typed] at e; subst e
        obtain ⟨b, _, rfl, e⟩ := hy; simp only [Typed] at e; subst e
        exact ⟨a == b, by simp [valOf, aggT, hu, run_equalIn_bool' w D t a b hu], by simp⟩
      case int k =>
        subst h
        obtain ⟨a, _, rfl, e⟩ := hx; simp only [Typed] at e; subst e
        obtain ⟨b, _, rfl, e⟩ := hy; simp only [Typed] at e; subst e
        exact ⟨a == b, by simp [valOf, aggT, hu, run_equalIn_int w D t k k a b hu], by simp⟩
      case string =>
        subst h
        obtain ⟨a, _, rfl, e⟩ := hx; simp only [Typed] at e; subst e
        obtain ⟨b, _, rfl, e⟩ := hy; simp only [Typed] at e; subst e
        exact ⟨(ByteArray.mk ⟨a⟩) == ⟨⟨b⟩⟩, by simp [valOf, aggT, hu, Op.equalIn, run_underlying hu], by simp [beq_toListBytes, ByteArray.toList_mk]⟩
      case array n e =>
        obtain ⟨l, hl, rfl⟩ := h
        have ih := ek_ok d e l D (by omega) hl
        obtain ⟨i, hi⟩ : ∃ i, P.info? e = some i := by
          obtain ⟨_, _, ⟨d', h'⟩, _⟩ := ih
          unfold Program.underlying at h'; split at h' <;> first | exact ⟨_, by assumption⟩ | cases h'
        obtain ⟨r, e1, e2⟩ := eqItems_ok ih w xs ys n 0 (by simpa using hx) (by simpa using hy)
        refine ⟨r, ?_, by simpa using e2⟩
        have := run_equalIn_array w D ⟨xs⟩ ⟨ys⟩ hu hi
        simp only [valOf, aggT, hu, if_true]
        rw [this, List.range_eq_range']; exact e1
      case struct fs =>
        obtain ⟨hs, h⟩ := h
        obtain ⟨r, e1, e2⟩ := eqFields_ok (g := ekOf P d) (fun t' ks' h' => ek_ok d t' ks' D (by omega) h') w xs ys fs.toList 0 ks h (by simpa using hx) (by simpa using hy)
        refine ⟨r, ?_, by simpa using e2⟩
        have := run_equalIn_struct w D t ⟨xs⟩ ⟨ys⟩ (by rw [fieldsOf_eq hu]; exact hu) hs
        simp only [valOf, aggT, hu, if_true]
        rw [this, fieldsOf_eq hu]; exact e1
end Go.Av
/- What the machine's operations do, held against the evaluator's: comparisons, cuts, conversions, what is put together, new memory. Conditions: the tables of types say what the program's do. -/
namespace Go.Av

theorem guard_fields {P : Program} {n : Nat} {g : TypeId → Option (List EK)} (hg : ∀ t ks, g t = some ks → P.eqGuardType n t = false) : ∀ (fs : List Field) (off : Nat) (ks : List EK), ekFields g fs off = some ks →
    (fs.any fun f => f.name != "_" && P.eqGuardType n f.type) = false
  | [], _, _, _ => rfl
  | f :: fs, off, ks, h => by
    simp only [ekFields] at h
    split at h
    · cases hgt : g f.type with
      | none => simp [hgt] at h
      | some y =>
        simp only [hgt] at h
        cases hr : ekFields g fs (off + y.length) with
        | none => simp [hr] at h
        | some z => simp [List.any_cons, hg _ _ hgt, guard_fields hg fs _ _ hr]
    · cases h
theorem guard_ek {P : Program} : ∀ (d n : Nat) (t : TypeId) (ks : List EK), d ≤ n → ekOf P d t = some ks → P.eqGuardType n t = false
  | 0, _, _, _, _, h => by simp [ekOf] at h
  | d + 1, n, t, ks, hn, h => by
    obtain ⟨n, rfl⟩ : ∃ m, n = m + 1 := ⟨n - 1, by omega⟩
    unfold ekOf at h
    unfold Program.eqGuardType
    cases hu : P.underlying t with
    | none => rfl
    | some td =>
      simp only [hu] at h ⊢
      cases td <;> try rfl
      case array n' e =>
        cases he : ekOf P d e with
        | none => simp [he] at h
        | some l => exact guard_ek d n e l (by omega) he
      case struct fs =>
        simp only at h ⊢
        split at h
        · rename_i hs
          split at hs
          · cases hs
          · rw [← Array.any_toList]
            exact guard_fields (fun t' ks' h' => guard_ek d n t' ks' (by omega) h') _ _ _ hs
        · cases h
      all_goals simp at h

section
variable {P : Program} {C : Ctx} (hC : CtxOK P C) {w : World} {ι : Emb} {H : Hp}

theorem TyOK.agg {t : Nat} {i : TI} (h : TyOK P t i) (ha : i.d.isAgg = true) : aggT P t = true := by
  obtain ⟨T, h1, h2⟩ := h.und
  rw [← h2] at ha
  unfold aggT; rw [h1]
  cases T <;> simp [tdOf, TD.isAgg] at ha ⊢

theorem eqv_ok {t : Nat} {i : TI} (ht : TyOK P t i) {x y : AV} {vx vy : Value} {r : Bool} (h : eqv i x y = some r) (hx : VR ι w x vx) (hy : VR ι w y vy) : (Op.equal t vx vy).run P w = .ok r w := by
  unfold eqv at h
  split at h
  · rename_i xs ys
    obtain ⟨us, rfl, hus⟩ := hx
    obtain ⟨vs, rfl, hvs⟩ := hy
    cases hk : i.eqk with
    | nil => simp [hk] at h
    | cons k ks =>
      simp only [hk] at h
      obtain ⟨t1, t2, t3⟩ := eqCells_typed h hus hvs
      obtain ⟨ha, he⟩ := ht.eq (by rw [hk]; simp)
      obtain ⟨_, _, _, q⟩ := ek_ok 8 t _ 10000 (by omega) he
      rw [hk] at q
      obtain ⟨r', e1, e2⟩ := q w us vs t1 t2
      have : r = r' := by rw [Bool.eq_iff_iff, t3, e2]
      subst this
      simpa [Op.equal, Op.maxDepth, valOf, ht.agg ha] using e1
  · rename_i hna
    have fin : ∀ D d, i.d = d → eqScalar d x y = some r → (Op.equalIn (D + 1) t vx vy).run P w = .ok r w := by
      intro D d hd he
      unfold eqScalar at he
      split at he
      · rename_i q j a k b
        have hu := ht.int hd
        simp only [VR] at hx hy; subst hx; subst hy
        by_cases e : j = k
        · subst e; simp at he; subst he; simp [Op.equalIn, run_underlying hu]
        · simp [e] at he
      · have hu := ht.bool hd
        simp only [VR] at hx hy; subst hx; subst hy
        simp at he; subst he; simp [Op.equalIn, run_underlying hu]
      · have hu := ht.str hd
        simp only [VR] at hx hy; subst hx; subst hy
        simp at he; subst he; simp [Op.equalIn, run_underlying hu, beq_toListBytes, ByteArray.toList_mk]
      · rename_i e p
        have hu := ht.ptr hd
        simp only [VR] at hx; subst hx
        simp at he; subst he
        cases p with
        | none => simp only [VR] at hy; subst hy; simp [Op.equalIn, run_underlying hu]
        | some p => obtain ⟨b, s, _, rfl⟩ := hy; simp [Op.equalIn, run_underlying hu]
      · have hu := ht.ptr hd
        obtain ⟨b, s, _, rfl⟩ := hx
        simp only [VR] at hy; subst hy
        simp at he; subst he; simp [Op.equalIn, run_underlying hu]
      · rename_i e p _ _
        have hu := ht.slice hd
        obtain ⟨_, rfl⟩ := hx
        simp at he; subst he
        cases p with
        | none => obtain ⟨_, rfl⟩ := hy; simp [Op.equalIn, run_underlying hu]
        | some p => obtain ⟨b, s, o, cap, e, n, _, _, _, _, _, _, rfl⟩ := hy; simp [Op.equalIn, run_underlying hu]
      · have hu := ht.slice hd
        obtain ⟨b, s, o, cap, e, n, _, _, _, _, _, _, rfl⟩ := hx
        obtain ⟨_, rfl⟩ := hy
        simp at he; subst he; simp [Op.equalIn, run_underlying hu]
      · rename_i k e p
        have hu := ht.map hd
        simp only [VR] at hx; subst hx
        simp at he; subst he
        cases p with
        | none => simp only [VR] at hy; subst hy; simp [Op.equalIn, run_underlying hu]
        | some p => obtain ⟨b, s, _, rfl⟩ := hy; simp [Op.equalIn, run_underlying hu]
      · have hu := ht.map hd
        obtain ⟨b, s, _, rfl⟩ := hx
        simp only [VR] at hy; subst hy
        simp at he; subst he; simp [Op.equalIn, run_underlying hu]
      · cases he
    exact fin 9999 _ rfl h

theorem VR.noIface {x : AV} {v : Value} (h : VR ι w x v) (h1 : ∀ xs, x ≠ .agg xs) (h2 : x ≠ .niliface) : v ≠ .nilIface ∧ ∀ c, v ≠ .agg c := by
  cases x with
  | agg as => exact absurd rfl (h1 as)
  | niliface => exact absurd rfl h2
  | int k n => cases h; simp
  | bool b => cases h; simp
  | str s => cases h; simp
  | ptr p => cases p with
    | none => cases h; simp
    | some p => obtain ⟨b, s, _, rfl⟩ := h; simp
  | slc p l k => cases p with
    | none => obtain ⟨_, rfl⟩ := h; simp
    | some p => obtain ⟨b, s, o, cap, e, n, _, _, _, _, _, _, rfl⟩ := h; simp
  | map m => cases m with
    | none => cases h; simp
    | some m => obtain ⟨b, s, _, rfl⟩ := h; simp
  | fn f as => obtain ⟨vs, rfl, _⟩ := h; simp
  | nilfn => cases h; simp
  | tup as => obtain ⟨vs, rfl, _⟩ := h; simp
/-- what is compared by '==' isn't guarded -/
theorem eqGuard_ok (hC : CtxOK P C) {t : Nat} {i : TI} (ht : TyOK P t i) {x y : AV} {vx vy : Value} {r : Bool} (h : eqv i x y = some r) (hx : VR ι w x vx) (hy : VR ι w y vy) (op : BinOp) (X Y : Operand) :
    (eqGuard op t X Y vx vy).run P w = .ok () w := by
  unfold eqGuard
  cases op <;> try rfl
  all_goals
    unfold eqv at h
    split at h
    · rename_i xs ys
      obtain ⟨us, rfl, hus⟩ := hx
      obtain ⟨vs, rfl, hvs⟩ := hy
      cases hk : i.eqk with
      | nil => simp [hk] at h
      | cons k ks =>
        obtain ⟨ha, he⟩ := ht.eq (by rw [hk]; simp)
        have := guard_ek 8 P.depth t _ hC.depth he
        simp [this]
    · obtain ⟨h1, h2⟩ := hx.noIface (fun xs e => by subst e; cases hd : i.d <;> simp [eqScalar, hd] at h) (fun e => by subst e; cases hd : i.d <;> simp [eqScalar, hd] at h)
      cases vx <;> first | rfl | exact absurd rfl h1 | exact absurd rfl (h2 _)
end
end Go.Av
/- What the machine's operations do, held against the evaluator's: all binary ones, cuts, conversions, lengths, what is put together, new memory. Conditions: the tables of types say what the program's do. -/
namespace Go.Av

section
variable {P : Program} {C : Ctx} (hC : CtxOK P C) {w : World} {ι : Emb} {H : Hp}
include hC

theorem bin_ok {op : BinOp} {t : TypeId} {x y a : AV} {vx vy : Value} (h : bin C op t x y = some a) (hx : VR ι w x vx) (hy : VR ι w y vy) (X Y : Operand) :
    ∃ v, (do eqGuard op t X Y vx vy; binOp op t vx vy : Sem Value).run P w = .ok v w ∧ VR ι w a v := by
  unfold bin at h
  split at h
  · rename_i k m k' n
    obtain rfl : vx = .int k m := hx
    obtain rfl : vy = .int k' n := hy
    split at h
    · exact shift_ok h t X Y
    · exact shift_ok h t X Y
    · rename_i h1 h2
      by_cases e : k = k'
      · subst e; simp at h; exact arith_ok h ⟨h1, h2⟩ t X Y
      · simp [e] at h
  · rename_i l m
    obtain rfl : vx = .string ⟨⟨l⟩⟩ := hx
    obtain rfl : vy = .string ⟨⟨m⟩⟩ := hy
    exact str_ok h t X Y
  · rename_i hni hns
    have key : ∀ (neg : Bool), op = (if neg then .neq else .eql) → (do let i ← C.ty t; let b ← eqv i x y; some (.bool (b != neg)) : Option AV) = some a →
        ∃ v, (do eqGuard op t X Y vx vy; binOp op t vx vy : Sem Value).run P w = .ok v w ∧ VR ι w a v := by
      intro neg hop h
      simp only [Option.bind_eq_bind, Option.bind_eq_some_iff] at h
      obtain ⟨i, hi, b, hb, h⟩ := h
      simp at h; subst h
      have ht := hC.ty t i hi
      have h1 := eqGuard_ok hC ht hb hx hy op X Y
      have h2 := eqv_ok ht hb hx hy
      refine ⟨.bool (b != neg), ?_, rfl⟩
      have hb2 : (binOp op t vx vy).run P w = .ok (.bool (b != neg)) w := by
        have e1 : ∀ (z : Sem Value), (vx.oneCell' = true ∨ True) → z = z := fun _ _ => rfl
        subst hop
        cases x <;> first
          | (rename_i k m; obtain rfl : vx = .int k m := hx
             cases y <;> first
               | exact absurd rfl (hni _ _ _ _ rfl)
               | (cases hd : i.d <;> simp [eqv, eqScalar, hd] at hb))
          | (rename_i l; obtain rfl : vx = .string ⟨⟨l⟩⟩ := hx
             cases y <;> first
               | exact absurd rfl (hns _ _ rfl)
               | (cases hd : i.d <;> simp [eqv, eqScalar, hd] at hb))
          | skip
        all_goals
          have hnum : ∀ u : Value, (∀ k n, u ≠ .int k n) ∧ (∀ k n, u ≠ .float k n) ∧ (∀ k n m, u ≠ .complex k n m) ∧ (∀ s, u ≠ .string s) → ∀ v : Value, (binOp (if neg then BinOp.neq else BinOp.eql) t u v).run P w = ((Op.equal t u v).run P w).andThen fun r w' => .ok (.bool (r != neg)) w' := by
            intro u ⟨q1, q2, q3, q4⟩ v
            cases neg <;> (cases u <;> first
              | exact absurd rfl (q1 _ _)
              | exact absurd rfl (q2 _ _)
              | exact absurd rfl (q3 _ _ _)
              | exact absurd rfl (q4 _)
              | simp [binOp])
          rw [hnum vx ?_ vy, h2]; rfl
        · obtain rfl := (show vx = _ from hx); simp
        · rename_i p; cases p with
          | none => obtain rfl := (show vx = _ from hx); simp
          | some p => obtain ⟨b, s, _, rfl⟩ := hx; simp
        · rename_i p _ _; cases p with
          | none => obtain ⟨_, rfl⟩ := hx; simp
          | some p => obtain ⟨b, s, o, cap, e, n, _, _, _, _, _, _, rfl⟩ := hx; simp
        · rename_i p; cases p with
          | none => obtain rfl := (show vx = _ from hx); simp
          | some p => obtain ⟨b, s, _, rfl⟩ := hx; simp
        · obtain ⟨vs, rfl, _⟩ := hx; simp
        · obtain rfl := (show vx = _ from hx); simp
        · obtain rfl := (show vx = _ from hx); simp
        · obtain ⟨vs, rfl, _⟩ := hx; simp
        · obtain ⟨vs, rfl, _⟩ := hx; simp
      simp [h1, hb2]
    split at h
    · exact key false rfl (by simpa using h)
    · exact key true rfl (by simpa using h)
    · cases h

omit hC in
theorem bounds_ok {isS : Bool} {n c m h l : Nat} {lo hi mx : Option AV} {vlo vhi vmx : Option Value} (hm : bound mx c c = some m) (hmx : OptVR ι w mx vmx) (hmh : mx.isNone = true ∨ hi.isSome = true)
    (hh : bound hi m n = some h) (hhi : OptVR ι w hi vhi) (hl : bound lo h 0 = some l) (hlo : OptVR ι w lo vlo) :
    (Instr.sliceBounds isS n c vlo vhi vmx).run P w = .ok (l, h, m) w := by
  rcases bound_ok (P := P) hm hmx (if isS then .slice3Acap else .slice3Alen) with ⟨rfl, rfl, rfl⟩ | ⟨um, rfl, hs, _, rm⟩
  · rcases bound_ok (P := P) hh hhi (if isS then .sliceAcap else .sliceAlen) with ⟨rfl, rfl, rfl⟩ | ⟨uh, rfl, _, _, rh⟩
    · rcases bound_ok (P := P) hl hlo .sliceB with ⟨rfl, rfl, rfl⟩ | ⟨ul, rfl, _, _, rl⟩
      · simp [Instr.sliceBounds]
      · simp [Instr.sliceBounds, rl]
    · rcases bound_ok (P := P) hl hlo .sliceB with ⟨rfl, rfl, rfl⟩ | ⟨ul, rfl, _, _, rl⟩
      · simp [Instr.sliceBounds, rh]
      · simp [Instr.sliceBounds, rh, rl]
  · rcases bound_ok (P := P) hh hhi .slice3B with ⟨rfl, rfl, rfl⟩ | ⟨uh, rfl, _, _, rh⟩
    · cases mx <;> simp at hs hmh
    · rcases bound_ok (P := P) hl hlo .slice3C with ⟨rfl, rfl, rfl⟩ | ⟨ul, rfl, _, _, rl⟩
      · simp [Instr.sliceBounds, rm, rh]
      · simp [Instr.sliceBounds, rm, rh, rl]
omit hC in
theorem bound_le {x : Option AV} {y d n : Nat} (h : bound x y d = some n) (hd : d ≤ y) : n ≤ y := by
  cases x with
  | none => simp [bound] at h; omega
  | some a =>
    simp only [bound, Option.bind_eq_bind, Option.bind_eq_some_iff] at h
    obtain ⟨m, hm, i, hn, u, hck, h⟩ := h
    simp at h; subst h
    exact Nat.le_of_ble_eq_true (chk_eq hck)

theorem slice_ok (r : R ι H w) {t : TypeId} {x a : AV} {lo hi mx : Option AV} {v : Value} {vlo vhi vmx : Option Value} (h : sliceA C H t x lo hi mx = some a) (hv : VR ι w x v)
    (hlo : OptVR ι w lo vlo) (hhi : OptVR ι w hi vhi) (hmx : OptVR ι w mx vmx) :
    ∃ u, (Instr.sliceAt t v vlo vhi vmx).run P w = .ok u w ∧ VR ι w a u := by
  unfold sliceA at h
  split at h
  · rename_i s
    simp only [Option.bind_eq_bind, Option.bind_eq_some_iff] at h
    obtain ⟨ti, hti, _, hck, _, hm, hb, hbh, lb, hbl, h⟩ := h
    have hd : ti.d = .str := by have := chk_eq hck; cases hx : ti.d <;> simp [hx] at this; rfl
    have hu := (hC.ty t ti hti).str hd
    obtain rfl : v = .string ⟨⟨s⟩⟩ := hv
    have hm := chk_eq hm
    cases mx with
    | some _ => simp at hm
    | none =>
      cases vmx with
      | some _ => exact hmx.elim
      | none =>
        simp at h; subst h
        refine ⟨.string ((ByteArray.mk ⟨s⟩).extract lb hb), ?_, ?_⟩
        · have hsz : (ByteArray.mk ⟨s⟩).size = s.length := rfl
          have hB := bounds_ok (P := P) (isS := false) (n := s.length) (c := s.length) (m := s.length) (mx := none) (vmx := none) rfl trivial (.inl rfl) hbh hhi hbl hlo
          simp [Instr.sliceAt, Instr.slice, run_underlying hu, hsz, hB]
        · exact congrArg Value.string (ByteArray.extract_mk s lb hb)
  · rename_i p len size
    simp only [Option.bind_eq_bind, Option.bind_eq_some_iff] at h
    obtain ⟨j, he, _, hck, _, hck2, m, hbm, hb, hbh, lb, hbl, h⟩ := h
    obtain ⟨e, hu, hj⟩ := elemS_ok hC he
    simp at h; subst h
    have hck := chk_eq hck
    have hck2 := chk_eq hck2
    have hmh : mx.isNone = true ∨ hi.isSome = true := by simpa using hck2
    have hm1 := bound_le hbm (Nat.le_refl _)
    have hb1 : hb ≤ len := by
      rcases hmh with h1 | h1
      · cases mx with
        | none => simp [bound] at hbm; subst hbm; exact bound_le hbh (Nat.le_refl _)
        | some _ => simp at h1
      · cases hi with
        | none => simp at h1
        | some a' =>
          simp only [bound, Option.bind_eq_bind, Option.bind_eq_some_iff] at hbh
          obtain ⟨_, _, i, _, _, hc, hbh⟩ := hbh
          simp at hbh; subst hbh
          exact Nat.le_trans (Nat.le_of_ble_eq_true (chk_eq hc)) hm1
    have hl1 : lb ≤ hb := bound_le hbl (Nat.zero_le _)
    cases p with
    | none =>
      obtain ⟨rfl, rfl⟩ := hv
      obtain rfl : hb = 0 := by omega
      obtain rfl : lb = 0 := by omega
      obtain rfl : m = 0 := by omega
      refine ⟨.slice none 0 0, ?_, rfl, rfl⟩
      have hB := bounds_ok (P := P) (isS := true) hbm hmx hmh hbh hhi hbl hlo
      simp [Instr.sliceAt, Instr.slice, run_underlying hu, hB, hj.sizeOf]
    | some p =>
      obtain ⟨b, s, o, cap, e', n, h1, h2, h3, h4, h5, h6, rfl⟩ := hv
      have hsz : j.size = size := Nat.eq_of_beq_eq_true (by simpa using hck)
      subst hsz
      -- the machine's capacity in the place of the length
      have hcap : ∃ M, bound mx cap cap = some M ∧ hb ≤ M ∧ M ≤ cap ∧ bound hi M len = some hb := by
        cases mx with
        | none =>
          refine ⟨cap, rfl, by omega, Nat.le_refl _, ?_⟩
          cases hi with
          | none => simpa [bound] using hbh
          | some a' =>
            simp only [bound, Option.bind_eq_bind, Option.bind_eq_some_iff] at hbh ⊢
            obtain ⟨x1, x2, i, x3, x4, hc, hbh⟩ := hbh
            refine ⟨x1, x2, i, x3, x4, ?_, hbh⟩
            have := Nat.le_of_ble_eq_true (chk_eq hc)
            simp only [bound] at hbm; cases hbm
            unfold chk; rw [Nat.ble_eq_true_of_le (show i ≤ cap by omega)]; rfl
        | some a' =>
          simp only [bound, Option.bind_eq_bind, Option.bind_eq_some_iff] at hbm
          obtain ⟨x1, x2, i, x3, x4, hc, hbm⟩ := hbm
          simp at hbm; subst hbm
          have hil := Nat.le_of_ble_eq_true (chk_eq hc)
          refine ⟨i, ?_, ?_, by omega, hbh⟩
          · simp only [bound, Option.bind_eq_bind, Option.bind_eq_some_iff]
            exact ⟨x1, x2, i, x3, (), by unfold chk; rw [Nat.ble_eq_true_of_le (show i ≤ cap by omega)]; rfl, rfl⟩
          · cases hi with
            | none => simp at hmh
            | some a'' =>
              simp only [bound, Option.bind_eq_bind, Option.bind_eq_some_iff] at hbh
              obtain ⟨_, _, i', _, _, hc, hbh⟩ := hbh
              simp at hbh; subst hbh
              exact Nat.le_of_ble_eq_true (chk_eq hc)
      obtain ⟨M, c1, c2, c3, c4⟩ := hcap
      have hB := bounds_ok (P := P) (isS := true) c1 hmx hmh c4 hhi hbl hlo
      refine ⟨.slice (some (if M = lb then ⟨b, o, none⟩ else (⟨b, o, none⟩ : Addr).add (lb * j.size))) (hb - lb) (M - lb), ?_, ?_⟩
      · simp [Instr.sliceAt, Instr.slice, run_underlying hu, hB, hj.sizeOf]
        split <;> rfl
      · by_cases hM : M = lb
        · rw [if_pos hM]
          exact ⟨b, s, o, M - lb, e', n, h1, h2, fun h => absurd (by omega) h, by rw [show M - lb = 0 by omega]; simp; omega, by omega, by omega, rfl⟩
        · rw [if_neg hM, addr_add]
          refine ⟨b, s, o + lb * j.size, M - lb, e', n, h1, h2, fun _ => ?_, ?_, by omega, by omega, rfl⟩
          · rw [h3 (by omega)]; simp only [Nat.add_assoc]
          · have : lb * j.size + (M - lb) * j.size = M * j.size := by rw [← Nat.add_mul]; congr 1; omega
            have h8 : M * j.size ≤ cap * j.size := Nat.mul_le_mul_right _ c3
            omega
  · rename_i id o
    simp only [Option.bind_eq_bind, Option.bind_eq_some_iff] at h
    obtain ⟨⟨n, j⟩, he, _, hm, cs, hcs, _, hck, hb, hbh, lb, hbl, h⟩ := h
    obtain ⟨e, hu, hj⟩ := elemA_ok hC he
    obtain ⟨b, s, h1, rfl⟩ := hv
    obtain ⟨ro, hg⟩ := rowOf_eq hcs
    obtain ⟨cur, e', fr, g1, g2, g3, g4⟩ := r.obj _ _ _ _ h1 hg
    have hck := chk_eq hck
    rw [Bool.and_eq_true] at hck
    have hc1 : o + n * j.size ≤ cs.length := Nat.le_of_ble_eq_true hck.1
    have hc2 := Nat.le_of_ble_eq_true hck.2
    have hm := chk_eq hm
    cases mx with
    | some _ => simp at hm
    | none =>
      cases vmx with
      | some _ => exact hmx.elim
      | none =>
        simp at h; subst h
        have hb1 := bound_le hbh (Nat.le_refl _)
        have hl1 := bound_le hbl (Nat.zero_le _)
        have hB := bounds_ok (P := P) (isS := false) (n := n) (c := n) (m := n) (mx := none) (vmx := none) rfl trivial (.inl rfl) hbh hhi hbl hlo
        refine ⟨.slice (some (if n = lb then ⟨b, s + o, none⟩ else (⟨b, s + o, none⟩ : Addr).add (lb * j.size))) (hb - lb) (n - lb), ?_, ?_⟩
        · simp [Instr.sliceAt, run_underlying hu, Instr.sureAddr, hB, hj.sizeOf]
        · have hsh : w.shape? b = some (e', cur.size) := by simp [World.shape?, g1]
          by_cases hM : n = lb
          · rw [if_pos hM]
            exact ⟨b, s, s + o, n - lb, e', cur.size, h1, hsh, fun h => absurd (by omega) h, by rw [show n - lb = 0 by omega]; simp; omega, by omega, by simp only [maxLen]; omega, rfl⟩
          · rw [if_neg hM, addr_add]
            refine ⟨b, s, s + o + lb * j.size, n - lb, e', cur.size, h1, hsh, fun _ => by simp only [Nat.add_assoc], ?_, by omega, by simp only [maxLen]; omega, rfl⟩
            have : lb * j.size + (n - lb) * j.size = n * j.size := by rw [← Nat.add_mul]; congr 1; omega
            omega
  · cases h
end
end Go.Av
/- What the machine's operations do, held against the evaluator's: lengths, least and greatest, conversions, what is put together, new memory. Conditions: the tables of types say what the program's do. -/
namespace Go.Av

section
variable {P : Program} {C : Ctx} (hC : CtxOK P C) {w : World} {ι : Emb} {H : Hp}

theorem foldMin_ok : ∀ (xs : List AV) (x a : AV) (vs : List Value) (v : Value), foldA min2A x xs = some a → VR ι w x v → VRs ι w xs vs → ∃ u, (vs.foldlM Builtin.min2 v).run P w = .ok u w ∧ VR ι w a u
  | [], x, a, vs, v, h, hx, hs => by
    simp only [VRs] at hs; subst hs; simp [foldA] at h; subst h; exact ⟨v, by simp, hx⟩
  | y :: ys, x, a, vs, v, h, hx, ⟨u, us, e, h1, h2⟩ => by
    subst e
    simp only [foldA] at h
    cases hm : min2A x y with
    | none => simp [hm] at h
    | some c =>
      simp only [hm] at h
      unfold min2A at hm
      split at hm
      · rename_i k m k' n
        obtain rfl : v = .int k m := hx
        obtain rfl : u = .int k' n := h1
        simp at hm; subst hm
        obtain ⟨u, e1, e2⟩ := foldMin_ok ys _ a us (.int k (if n < m then n else m)) h rfl h2
        exact ⟨u, by simp [Builtin.min2, e1], e2⟩
      · cases hm
theorem foldMax_ok : ∀ (xs : List AV) (x a : AV) (vs : List Value) (v : Value), foldA max2A x xs = some a → VR ι w x v → VRs ι w xs vs → ∃ u, (vs.foldlM Builtin.max2 v).run P w = .ok u w ∧ VR ι w a u
  | [], x, a, vs, v, h, hx, hs => by
    simp only [VRs] at hs; subst hs; simp [foldA] at h; subst h; exact ⟨v, by simp, hx⟩
  | y :: ys, x, a, vs, v, h, hx, ⟨u, us, e, h1, h2⟩ => by
    subst e
    simp only [foldA] at h
    cases hm : max2A x y with
    | none => simp [hm] at h
    | some c =>
      simp only [hm] at h
      unfold max2A at hm
      split at hm
      · rename_i k m k' n
        obtain rfl : v = .int k m := hx
        obtain rfl : u = .int k' n := h1
        simp at hm; subst hm
        obtain ⟨u, e1, e2⟩ := foldMax_ok ys _ a us (.int k (if n > m then n else m)) h rfl h2
        exact ⟨u, by simp [Builtin.max2, e1], e2⟩
      · cases hm

theorem MR.length {es : List (AV × AV)} : ∀ {l : List MapEntry}, MR ι w es l → l.length = es.length := by
  induction es with
  | nil => intro l h; simp only [MR] at h; simp [h]
  | cons e es ih => intro l h; obtain ⟨e', l', rfl, _, _, _, h5⟩ := h; simp [ih h5]

include hC
theorem len_ok (r : R ι H w) {t ty : TypeId} {x a : AV} {v : Value} {ts : Array TypeId} (h : lenA C H t x = some a) (hv : VR ι w x v) (hts : ts[0]? = some t) :
    ∃ u, (Builtin.len_ ts ty #[v]).run P w = .ok u w ∧ VR ι w a u := by
  simp only [lenA, Option.bind_eq_bind, Option.bind_eq_some_iff] at h
  obtain ⟨i, hi, h⟩ := h
  have ht := hC.ty t i hi
  split at h
  · rename_i s hd
    have hu := ht.str hd
    obtain rfl : v = .string ⟨⟨s⟩⟩ := hv
    simp at h; subst h
    exact ⟨_, by simp [Builtin.len_, hts, run_underlying hu]; rfl, rfl⟩
  · rename_i n e hd
    have hu := ht.array hd
    simp at h; subst h
    refine ⟨.int .i64 n, ?_, rfl⟩
    simp [Builtin.len_, hts, run_underlying hu, goInt]
  · rename_i e p n k hd
    have hu := ht.slice hd
    simp at h; subst h
    refine ⟨.int .i64 n, ?_, rfl⟩
    cases p with
    | none => obtain ⟨rfl, rfl⟩ := hv; simp [Builtin.len_, hts, run_underlying hu, goInt]
    | some p => obtain ⟨b, s, o, cap, e', n', _, _, _, _, _, _, rfl⟩ := hv; simp [Builtin.len_, hts, run_underlying hu, goInt]
  · rename_i k e hd
    have hu := ht.map hd
    obtain rfl : v = .map none := hv
    simp at h; subst h
    exact ⟨_, by simp [Builtin.len_, hts, run_underlying hu]; rfl, rfl⟩
  · rename_i k e id hd
    have hu := ht.map hd
    obtain ⟨b, s, h1, rfl⟩ := hv
    simp only [Option.bind_eq_bind, Option.bind_eq_some_iff] at h
    obtain ⟨⟨es, clk⟩, hm, h⟩ := h
    simp at h; subst h
    obtain ⟨ents, g1, l, g2, g3, _⟩ := r.obj _ _ _ _ h1 (mapOf_eq hm)
    have hl : ents.size = es.length := by have := g2.length_eq; simp at this; rw [← this]; exact g3.length
    have hobj : (getObj b).run P w = .ok (.map ents clk) w := by simp [getObj, Sem.run, g1]
    exact ⟨_, by simp [Builtin.len_, hts, run_underlying hu, hobj]; rfl, by simp [VR, goInt, hl]⟩
  · cases h

/-! ### What is put together -/
omit hC in
theorem fold_set : ∀ (l : List Value) (o k : Nat) (A : Array Value), o + k + l.length ≤ A.size →
    ((l.zipIdx k).foldl (fun cs (c, j) => cs.setIfInBounds (o + j) c) A).toList = A.toList.take (o + k) ++ (l ++ A.toList.drop (o + k + l.length))
  | [], o, k, A, _ => by simp
  | a :: l, o, k, A, h => by
    simp only [List.length_cons] at h
    rw [List.zipIdx_cons, List.foldl_cons, fold_set l o (k + 1) _ (by simp; omega)]
    have e := list_seg_step A.toList (o + k) a l (by simp; omega)
    simp only [Array.toList_setIfInBounds]
    simpa [Nat.add_assoc] using e
omit hC in
theorem fill_ok {place place' : Nat → Option (Nat × Nat)} (hp : ∀ i x, place i = some x → place' i = some x) : ∀ (parts : List (Nat × AV)) (vparts : List (Nat × Value)) (cells cs : List AV) (vcells : Array Value),
    fillA place cells parts = some cs → vparts.length = parts.length → (∀ (j : Nat) i a i' v, parts[j]? = some (i, a) → vparts[j]? = some (i', v) → i = i' ∧ VR ι w a v) → VRs ι w cells vcells.toList →
    ∃ vs, Instr.fill place' vcells vparts = some vs ∧ VRs ι w cs vs.toList
  | [], vp, cells, cs, vcells, h, hl, _, hc => by
    obtain rfl : vp = [] := List.eq_nil_of_length_eq_zero (by simpa using hl)
    simp [fillA] at h; subst h; exact ⟨vcells, by simp [Instr.fill], hc⟩
  | (i, a) :: ps, [], cells, cs, vcells, h, hl, _, hc => by simp at hl
  | (i, a) :: ps, (i', v) :: vps, cells, cs, vcells, h, hl, hj, hc => by
    obtain ⟨rfl, hav⟩ := hj 0 i a i' v rfl rfl
    simp only [fillA, Option.bind_eq_bind, Option.bind_eq_some_iff] at h
    obtain ⟨⟨off, size⟩, hpl, _, hck, c, hsp, h⟩ := h
    have hsz : a.cells.length = size := Nat.eq_of_beq_eq_true (chk_eq hck)
    have hvc := hav.cells
    have hlen := hvc.length
    simp at hlen
    unfold splice at hsp
    cases hb : Nat.ble (off + a.cells.length) cells.length with
    | false => simp [hb] at hsp
    | true =>
      rw [hb, cond_true] at hsp; cases hsp
      have hb := Nat.le_of_ble_eq_true hb
      have hcl := hc.length
      simp at hcl
      have hA : (v.cells.zipIdx.foldl (fun cs (c, j) => cs.setIfInBounds (off + j) c) vcells).toList = vcells.toList.take off ++ (v.cells.toList ++ vcells.toList.drop (off + v.cells.toList.length)) := by
        rw [← Array.foldl_toList, Array.toList_zipIdx]
        exact fold_set v.cells.toList off 0 vcells (by simp; omega)
      have hcs : VRs ι w (cells.take off ++ (a.cells ++ cells.drop (off + a.cells.length))) (v.cells.zipIdx.foldl (fun cs (c, j) => cs.setIfInBounds (off + j) c) vcells).toList := by
        rw [hA]
        have := (hc.take off).append (hvc.append (hc.drop (off + a.cells.length)))
        simpa [hlen] using this
      obtain ⟨vs, e1, e2⟩ := fill_ok hp ps vps _ cs _ h (by simpa using hl) (fun j i1 a1 i2 v2 h1 h2 => hj (j + 1) i1 a1 i2 v2 (by simpa using h1) (by simpa using h2)) hcs
      refine ⟨vs, ?_, e2⟩
      simp only [Instr.fill, hp _ _ hpl]
      rw [if_neg (by simp; omega)]
      exact e1
end
end Go.Av
/- What the machine's operations do, held against the evaluator's: what is put together, new memory, conversions. Conditions: the tables of types say what the program's do. -/
namespace Go.Av

theorem zeros_get : ∀ (z : List AV) (n j : Nat), (zerosOf z n)[j]? = if j < n * z.length then z[j % z.length]? else none
  | z, 0, j => by simp [zerosOf]
  | z, n + 1, j => by
    rw [zerosOf, List.getElem?_append]
    by_cases hj : j < z.length
    · rw [if_pos hj, if_pos (by rw [Nat.add_mul, Nat.one_mul]; omega), Nat.mod_eq_of_lt hj]
    · rw [if_neg hj, zeros_get z n (j - z.length)]
      by_cases h0 : z.length = 0
      · simp [h0]
      · have e : (j - z.length) % z.length = j % z.length := by
          conv => rhs; rw [show j = (j - z.length) + z.length by omega, Nat.add_mod_right]
        have : (j - z.length < n * z.length) ↔ (j < (n + 1) * z.length) := by rw [Nat.add_mul, Nat.one_mul]; omega
        simp only [this, e]
theorem zeros_length (z : List AV) : ∀ n, (zerosOf z n).length = n * z.length
  | 0 => by simp [zerosOf]
  | n + 1 => by simp [zerosOf, zeros_length z n, Nat.add_mul, Nat.add_comm]

section
variable {P : Program} {C : Ctx} (hC : CtxOK P C) {w : World} {ι : Emb} {H : Hp}

/-- zero cells, as the machine lays them -/
theorem zeros_ok {z : List AV} {zc : Array Value} (hz : VRs ι w z zc.toList) {n N size : Nat} (hs : z.length = size) (hN : n ≤ N) (hzc : N * size = 0 → True) :
    VRs ι w (zerosOf z n) (((Array.range (N * size)).map (zc[· % zc.size]!)).toList.take (n * size)) := by
  have hl := hz.length
  simp at hl
  have hle : n * size ≤ N * size := Nat.mul_le_mul_right _ hN
  refine VRs.of_nth (by simp [zeros_length, hs, Nat.min_eq_left hN]) fun j a v ha hv => ?_
  rw [zeros_get] at ha
  split at ha
  · rename_i hj
    obtain ⟨v', h1, h2⟩ := hz.nth ha
    rw [List.getElem?_take] at hv
    split at hv
    · rename_i hj2
      have hj3 : j < N * size := by omega
      have : v = zc[j % zc.size]! := by
        simp [List.getElem?_eq_getElem, hj3] at hv; exact hv.symm
      have h3 : zc[j % zc.size]? = some v' := by rw [hl]; simpa using h1
      have h4 : zc[j % zc.size]! = v' := by
        rw [getElem!_def, h3]
      rw [this, h4]; exact h2
    · cases hv
  · cases ha

/-- parts, one for one -/
def PR (ι : Emb) (w : World) (ps : List (Nat × AV)) (vs : List (Nat × Value)) : Prop :=
  vs.length = ps.length ∧ ∀ (j : Nat) i a i' v, ps[j]? = some (i, a) → vs[j]? = some (i', v) → i = i' ∧ VR ι w a v

theorem places_ok {P : Program} : ∀ (fs : List Field), (∀ f ∈ fs, (P.info? f.type).isSome = true) → ∃ pl, fs.mapM (fun f => (P.info? f.type).map fun i => (f.offset, i.size)) = some pl ∧
    ∀ (n : Nat) f i, fs[n]? = some f → P.info? f.type = some i → pl[n]? = some (f.offset, i.size)
  | [], _ => ⟨[], by simp, by simp⟩
  | f :: fs, h => by
    obtain ⟨pl, h1, h2⟩ := places_ok fs (fun g hg => h g (by simp [hg]))
    obtain ⟨i, hi⟩ := Option.isSome_iff_exists.1 (h f (by simp))
    refine ⟨(f.offset, i.size) :: pl, by simp [List.mapM_cons, hi, h1], ?_⟩
    intro n g j hg hj
    cases n with
    | zero => simp at hg; subst hg; rw [hi] at hj; cases hj; rfl
    | succ n => simpa using h2 n g j (by simpa using hg) hj

include hC in
theorem build_ok {t : TypeId} {ps : List (Nat × AV)} {vps : Array (Nat × Value)} {a : AV} (h : buildA C t ps = some a) (hp : PR ι w ps vps.toList) : ∃ v, (Instr.build t vps).run P w = .ok v w ∧ VR ι w a v := by
  simp only [buildA, Option.bind_eq_bind, Option.bind_eq_some_iff] at h
  obtain ⟨i, hi, z, hz, h⟩ := h
  have ht := hC.ty t i hi
  have hzv : VRs ι w z.cells (emb z).cells.toList := (ht.zeroVR hz).cells
  obtain ⟨f, hf1, hf2, hf3, hf4⟩ := ht.info
  have hfz := (hf4 z hz).2.2
  split at h
  · rename_i fs hd
    simp only [Option.bind_eq_bind, Option.bind_eq_some_iff] at h
    obtain ⟨cs, hf, h⟩ := h
    simp at h; subst h
    obtain ⟨F, hF, hfs⟩ := ht.struct hd
    obtain ⟨pl, hp1, hp2⟩ := places_ok F.toList (ht.flds F hF)
    have hpl : ∀ n x, (do let (o, ft) ← nth fs n; let j ← C.ty ft; some (o, j.size) : Option (Nat × Nat)) = some x → pl.toArray[n]? = some x := by
      intro n x hx
      simp only [Option.bind_eq_bind, Option.bind_eq_some_iff] at hx
      obtain ⟨⟨o, ft⟩, hn, j, hj, hx⟩ := hx
      simp at hx; subst hx
      rw [nth_eq, ← hfs, List.getElem?_map] at hn
      cases hF' : F.toList[n]? with
      | none => simp [hF'] at hn
      | some fd =>
        simp [hF'] at hn
        obtain ⟨g, hg1, hg2, _⟩ := (hC.ty ft j hj).info
        have := hp2 n fd g hF' (by rw [hn.2]; exact hg1)
        simp [this, hn.1, hg2]
    obtain ⟨vs, e1, e2⟩ := fill_ok (place' := (pl.toArray[·]?)) hpl ps vps.toList z.cells cs _ hf hp.1 hp.2 hzv
    exact ⟨.agg vs, run_build w t vps vs (by simp [Program.built, hf1, hF, hfz, hp1]; simpa using e1), vs.toList, rfl, e2⟩
  · rename_i n e hd
    simp only [Option.bind_eq_bind, Option.bind_eq_some_iff] at h
    obtain ⟨j, hj, cs, hf, h⟩ := h
    simp at h; subst h
    have hu := ht.array hd
    have hje := hC.ty _ _ hj
    obtain ⟨vs, e1, e2⟩ := fill_ok (place' := fun i => some (i * j.size, j.size)) (fun _ _ h => h) ps vps.toList z.cells cs _ hf hp.1 hp.2 hzv
    exact ⟨.agg vs, by simp [Instr.build, ht.zeroValue hz, run_underlying hu, hje.sizeOf, e1], vs.toList, rfl, e2⟩
  · cases h

/-! ### New memory -/
/-- a new row -/
theorem newRow_ok (r : R ι H w) {cs : List AV} {vs : Array Value} (hv : VRs ι w cs (vs.toList.take cs.length)) (e : TypeId) :
    ∃ ι', ι' H.next = some (w.heap.size, 0) ∧ R ι' (H.new (.row false cs)) (w.alloc (.cells vs e)) ∧ Post ι ι' H (H.new (.row false cs)) w (w.alloc (.cells vs e)) := by
  have hl := hv.length
  simp at hl
  have := r.alloc (.row false cs) (.cells vs e) 0 ⟨vs, e, (0, 0), alloc_new w _, fun _ => rfl, by omega, by simpa using VRs.mono (r.sub_add _) (alloc_keeps w _) _ _ hv⟩
  exact ⟨_, Emb.add_same .., this⟩

theorem box_ok (r : R ι H w) {x : AV} {v : Value} (hv : VR ι w x v) (e : TypeId) :
    ∃ u w' ι', (Instr.box e v).run P w = .ok u w' ∧ R ι' (H.new (.row false x.cells)) w' ∧ Post ι ι' H (H.new (.row false x.cells)) w w' ∧ VR ι' w' (.ptr (some (H.next, 0))) u := by
  have hc := hv.cells
  have hl := hc.length
  obtain ⟨ι', h1, h2, h3⟩ := newRow_ok r (vs := v.cells) (by rw [← hl, List.take_length]; exact hc) e
  exact ⟨.pointer (some ⟨w.heap.size, 0, none⟩), _, ι', by simp [Instr.box, newVar, newRow], h2, h3, _, _, h1, rfl⟩

include hC in
theorem alloc_ok (r : R ι H w) {e : TypeId} {i : TI} {z : AV} (hi : C.ty e = some i) (hz : i.zero = some z) :
    ∃ u w' ι', (Instr.alloc e true (.tuple #[])).run P w = .ok u w' ∧ R ι' (H.new (.row false z.cells)) w' ∧ Post ι ι' H (H.new (.row false z.cells)) w w' ∧ VR ι' w' (.ptr (some (H.next, 0))) u := by
  have ht := hC.ty e i hi
  obtain ⟨u, w', ι', h1, h2, h3, h4⟩ := box_ok (P := P) r (ht.zeroVR (ι := ι) (w := w) hz) e
  refine ⟨u, w', ι', ?_, h2, h3, h4⟩
  rw [← h1]
  simp [Instr.alloc, Instr.box, ht.zeroValue hz]

theorem makeMap_ok (r : R ι H w) (t : TypeId) :
    ∃ u w' ι', (Instr.makeMap t none).run P w = .ok u w' ∧ R ι' (H.new (.map [] 0)) w' ∧ Post ι ι' H (H.new (.map [] 0)) w w' ∧ VR ι' w' (.map (some H.next)) u := by
  have := r.alloc (.map [] 0) (.map #[] 0) 0 ⟨#[], alloc_new w _, [], by simp, rfl, by simp, by simp, by simp⟩
  exact ⟨.map (some w.heap.size), _, _, by simp [Instr.makeMap], this.1, this.2, _, _, Emb.add_same .., rfl⟩

theorem shape_new (w : World) (vs : Array Value) (e : TypeId) (fr : Nat × Nat) : (w.alloc (.cells vs e fr)).shape? w.heap.size = some (e, vs.size) := by
  simp only [World.shape?, alloc_new]
theorem slc_new {ι' : Emb} {w' : World} {vs : Array Value} {e : TypeId} {id b len size cap : Nat} (h1 : ι' id = some (b, 0)) (h2 : w'.shape? b = some (e, vs.size)) (h3 : cap * size ≤ vs.size) (h4 : len ≤ cap) (h5 : cap ≤ maxLen) :
    VR ι' w' (.slc (some (id, 0)) len size) (.slice (some ⟨b, 0, none⟩) len cap) := ⟨b, 0, 0, cap, e, vs.size, h1, h2, fun _ => rfl, by omega, h4, h5, rfl⟩

include hC in
theorem buildSlice_ok (r : R ι H w) {t : TypeId} {len : Nat} {ps : List (Nat × AV)} {vps : Array (Nat × Value)} {a : AV} {H' : Hp} (h : buildSliceA C H t len ps = some (a, H')) (hp : PR ι w ps vps.toList) :
    ∃ u w' ι', (Instr.buildSlice t len vps).run P w = .ok u w' ∧ R ι' H' w' ∧ Post ι ι' H H' w w' ∧ VR ι' w' a u := by
  simp only [buildSliceA, Option.bind_eq_bind, Option.bind_eq_some_iff] at h
  obtain ⟨j, he, z, hz, _, hck, cs, hf, h⟩ := h
  obtain ⟨e, hu, hj⟩ := elemS_ok hC he
  simp at h; obtain ⟨rfl, rfl⟩ := h
  have hck := chk_eq hck
  rw [Bool.and_eq_true] at hck
  have hlim := Nat.le_of_ble_eq_true hck.1
  have hck2 := hck.2
  rw [Bool.and_eq_true] at hck2
  have hlim2 := Nat.le_of_ble_eq_true hck2.1
  have hzl := Nat.eq_of_beq_eq_true hck2.2
  have hzv : VRs ι w z.cells (emb z).cells.toList := (hj.zeroVR hz).cells
  have hzl2 := hzv.length
  simp at hzl2
  have hz0 := zeros_ok hzv hzl (Nat.le_refl len) (fun _ => trivial)
  rw [List.take_of_length_le (by simp)] at hz0
  obtain ⟨vs, e1, e2⟩ := fill_ok (place' := fun i => some (i * j.size, j.size)) (fun _ _ h => h) ps vps.toList _ cs ((Array.range (len * j.size)).map ((emb z).cells[· % (emb z).cells.size]!)) hf hp.1 hp.2 hz0
  have hvl := e2.length
  have hcl : cs.length = len * j.size := by
    have : ∀ (ps : List (Nat × AV)) (c c' : List AV), fillA (fun i => some (i * j.size, j.size)) c ps = some c' → c'.length = c.length := by
      intro ps
      induction ps with
      | nil => intro c c' h; simp [fillA] at h; rw [h]
      | cons p ps ih =>
        intro c c' h
        simp only [fillA, Option.bind_eq_bind, Option.bind_eq_some_iff] at h
        obtain ⟨⟨off, size⟩, _, _, _, c2, hsp, h⟩ := h
        rw [ih _ _ h]
        unfold splice at hsp
        cases hb : Nat.ble (off + p.2.cells.length) c.length with
        | false => simp [hb] at hsp
        | true => rw [hb, cond_true] at hsp; cases hsp; have := Nat.le_of_ble_eq_true hb; simp; omega
    rw [this _ _ _ hf, zeros_length, hzl]
  obtain ⟨ι', h1, h2, h3⟩ := newRow_ok r (vs := vs) (cs := cs) (by rw [← hvl, List.take_length]; exact e2) e
  have hsz : vs.size = len * j.size := by simpa [hcl] using hvl
  refine ⟨.slice (some ⟨w.heap.size, 0, none⟩) len len, _, ι', ?_, h2, h3, slc_new h1 (shape_new w vs e (0, 0)) (by omega) (Nat.le_refl _) (by simp only [maxLen]; omega)⟩
  have hno : ¬ (2 ^ 24 < len * j.size) := by omega
  by_cases h0 : len * j.size = 0
  · have hr : ∀ f : Nat → Value, (Array.range 0).map f = #[] := fun f => by apply Array.ext'; simp
    rw [h0, hr] at e1
    simp [Instr.buildSlice, run_underlying hu, hj.sizeOf, h0, newRow, hr, e1]
  · simp [Instr.buildSlice, run_underlying hu, hj.sizeOf, hno, h0, hj.zeroValue hz, newRow, e1]
end
end Go.Av
/- What the machine's operations do, held against the evaluator's: slices that are made, appended to, copied, cleared; texts out of bytes. Conditions: the tables of types say what the program's do. -/
namespace Go.Av

section
variable {P : Program} {C : Ctx} (hC : CtxOK P C) {w : World} {ι : Emb} {H : Hp}

include hC in
theorem makeSlice_ok (r : R ι H w) {t : TypeId} {l c a : AV} {vl vc : Value} {H' : Hp} (h : makeSliceA C H t l c = some (a, H')) (hl : VR ι w l vl) (hc : VR ι w c vc) :
    ∃ u w' ι', (Instr.makeSlice t vl vc).run P w = .ok u w' ∧ R ι' H' w' ∧ Post ι ι' H H' w w' ∧ VR ι' w' a u := by
  simp only [makeSliceA, Option.bind_eq_bind, Option.bind_eq_some_iff] at h
  obtain ⟨j, he, z, hz, ml, h1, l', h2, mc, h3, c', h4, _, hck, h⟩ := h
  obtain ⟨kl, rfl⟩ := natOf_int ⟨ml, h1, h2⟩
  obtain ⟨kc, rfl⟩ := natOf_int ⟨mc, h3, h4⟩
  obtain rfl : vl = .int kl l' := hl
  obtain rfl : vc = .int kc c' := hc
  obtain ⟨e, hu, hj⟩ := elemS_ok hC he
  simp at h; obtain ⟨rfl, rfl⟩ := h
  have hck := chk_eq hck
  simp only [Bool.and_eq_true] at hck
  have k1 := Nat.le_of_ble_eq_true hck.1
  have k2 := Nat.le_of_ble_eq_true hck.2.1
  have k3 := Nat.le_of_ble_eq_true hck.2.2.1
  have k4 := Nat.eq_of_beq_eq_true hck.2.2.2
  have hzv : VRs ι w z.cells (emb z).cells.toList := (hj.zeroVR hz).cells
  obtain ⟨f, f1, f2, f3, f4⟩ := hj.typeInfo (w := w)
  have hlen : (zerosOf z.cells l').length = l' * j.size := by rw [zeros_length, k4]
  by_cases h0 : c' * j.size = 0
  · have hr : ∀ f : Nat → Value, (Array.range 0).map f = #[] := fun f => by apply Array.ext'; simp
    have hzl : zerosOf z.cells l' = [] := List.eq_nil_of_length_eq_zero (by
      rw [hlen]; have := Nat.mul_le_mul_right j.size k1; omega)
    obtain ⟨ι', g1, g2, g3⟩ := newRow_ok r (cs := zerosOf z.cells l') (vs := #[]) (by rw [hzl]; rfl) e
    refine ⟨.slice (some ⟨w.heap.size, 0, none⟩) l' c', _, ι', ?_, g2, g3, slc_new g1 (shape_new w #[] e (0, 0)) (by rw [h0]; exact Nat.zero_le _) k1 (by simp only [maxLen]; omega)⟩
    have w1 : IntKind.i64.wrap (l' : Int) = l' := IntWalk.i64_in _ (by omega)
    have w2 : IntKind.i64.wrap (c' : Int) = c' := IntWalk.i64_in _ (by omega)
    have w3 : ¬ ((281474976710656 : Int) < (f.bytes : Int) * (c' : Int)) := by
      have : ((j.bytes * c' : Nat) : Int) ≤ ((140737488355328 : Nat) : Int) := Int.ofNat_le.2 k3
      rw [Int.natCast_mul] at this
      rw [f3]; omega
    have w4 : ¬ ((c' : Int) < (l' : Int)) := by omega
    have w5 : ¬ ((c' : Int) < 0) := by omega
    have w6 : ¬ ((l' : Int) < 0) := by omega
    simp [Instr.makeSlice, run_underlying hu, Go.asInt, asIntOf, f1, w1, w2, w3, w4, w5, w6, hj.sizeOf, h0, newRow, hr]
  · have hz0 := zeros_ok hzv k4 k1 (fun _ => trivial)
    obtain ⟨ι', g1, g2, g3⟩ := newRow_ok r (cs := zerosOf z.cells l') (vs := (Array.range (c' * j.size)).map ((emb z).cells[· % (emb z).cells.size]!)) (by rw [hlen]; exact hz0) e
    refine ⟨.slice (some ⟨w.heap.size, 0, none⟩) l' c', _, ι', ?_, g2, g3, slc_new g1 (shape_new w _ e (0, 0)) (by simp) k1 (by simp only [maxLen]; omega)⟩
    have w1 : IntKind.i64.wrap (l' : Int) = l' := IntWalk.i64_in _ (by omega)
    have w2 : IntKind.i64.wrap (c' : Int) = c' := IntWalk.i64_in _ (by omega)
    have w3 : ¬ ((281474976710656 : Int) < (f.bytes : Int) * (c' : Int)) := by
      have : ((j.bytes * c' : Nat) : Int) ≤ ((140737488355328 : Nat) : Int) := Int.ofNat_le.2 k3
      rw [Int.natCast_mul] at this
      rw [f3]; omega
    have w4 : ¬ ((c' : Int) < (l' : Int)) := by omega
    have w5 : ¬ ((c' : Int) < 0) := by omega
    have w6 : ¬ ((l' : Int) < 0) := by omega
    simp [Instr.makeSlice, run_underlying hu, Go.asInt, asIntOf, f1, w1, w2, w3, w4, w5, w6, hj.sizeOf, h0, newRow, hj.zeroValue hz]

theorem bytesOf_ok : ∀ {cs : List AV} {b : List UInt8} {vs : List Value}, bytesOfCells cs = some b → VRs ι w cs vs → ∃ xs : List Int, vs = xs.map (Value.int .u8) ∧ b = xs.map fun n => UInt8.ofNat n.toNat
  | [], b, vs, h, hv => by simp [bytesOfCells] at h; simp only [VRs] at hv; subst h; subst hv; exact ⟨[], rfl, rfl⟩
  | .int .u8 n :: cs, b, _, h, ⟨u, us, e, h1, h2⟩ => by
    subst e
    simp only [bytesOfCells, Option.map_eq_some_iff] at h
    obtain ⟨b', h3, rfl⟩ := h
    obtain rfl : u = .int .u8 n := h1
    obtain ⟨xs, rfl, rfl⟩ := bytesOf_ok h3 h2
    exact ⟨n :: xs, rfl, rfl⟩
  | .int .i8 _ :: _, _, _, h, _ => by simp [bytesOfCells] at h
  | .int .i16 _ :: _, _, _, h, _ => by simp [bytesOfCells] at h
  | .int .i32 _ :: _, _, _, h, _ => by simp [bytesOfCells] at h
  | .int .i64 _ :: _, _, _, h, _ => by simp [bytesOfCells] at h
  | .int .u16 _ :: _, _, _, h, _ => by simp [bytesOfCells] at h
  | .int .u32 _ :: _, _, _, h, _ => by simp [bytesOfCells] at h
  | .int .u64 _ :: _, _, _, h, _ => by simp [bytesOfCells] at h
  | .bool _ :: _, _, _, h, _ => by simp [bytesOfCells] at h
  | .str _ :: _, _, _, h, _ => by simp [bytesOfCells] at h
  | .ptr _ :: _, _, _, h, _ => by simp [bytesOfCells] at h
  | .slc _ _ _ :: _, _, _, h, _ => by simp [bytesOfCells] at h
  | .map _ :: _, _, _, h, _ => by simp [bytesOfCells] at h
  | .fn _ _ :: _, _, _, h, _ => by simp [bytesOfCells] at h
  | .nilfn :: _, _, _, h, _ => by simp [bytesOfCells] at h
  | .niliface :: _, _, _, h, _ => by simp [bytesOfCells] at h
  | .agg _ :: _, _, _, h, _ => by simp [bytesOfCells] at h
  | .tup _ :: _, _, _, h, _ => by simp [bytesOfCells] at h

/-- cells of a slice -/
theorem sliceCells_ok (r : R ι H w) {p : Nat × Nat} {size n : Nat} {cs : List AV} (h : sliceCells H n size (some p) = some cs) {b s o : Nat} (h1 : ι p.1 = some (b, s)) (ho : n = 0 ∨ o = s + p.2) :
    ∃ vs, vs.length = n * size ∧ VRs ι w cs vs ∧ ∀ w2 : World, w2.heap = w.heap → (loadCells ⟨b, o, none⟩ (n * size)).run P w2 = .ok vs.toArray w2 := by
  simp only [sliceCells, Option.bind_eq_bind, Option.bind_eq_some_iff] at h
  obtain ⟨row, hr, h⟩ := h
  obtain ⟨ro, hg⟩ := rowOf_eq hr
  have hob := r.obj _ _ _ _ h1 hg
  obtain ⟨vs, e1, e2, e3, e4⟩ := row_cells (P := P) hob h
  refine ⟨vs, e1, e3, fun w2 hw => ?_⟩
  rcases ho with rfl | rfl
  · simp at e1; subst e1; simp [loadCells, loadCellsFrom]
  · rw [← e1]
    refine run_loadCells_list w2 _ vs fun j v hj => ?_
    have := e4 j v hj
    simpa [World.cell?, hw] using this

include hC in
theorem convert_ok (r : R ι H w) {src dst : TypeId} {x a : AV} {v : Value} (h : convertA C H src dst x = some a) (hv : VR ι w x v) : ∃ u, (convert src dst v).run P w = .ok u w ∧ VR ι w a u := by
  simp only [convertA, Option.bind_eq_bind, Option.bind_eq_some_iff] at h
  obtain ⟨i, hi, j, hj, h⟩ := h
  have hti := hC.ty _ _ hi
  have htj := hC.ty _ _ hj
  split at h
  · rename_i k' n k hd
    obtain rfl : v = .int k' n := hv
    have hu := htj.int hd
    obtain ⟨T, hT, _⟩ := hti.und
    simp at h; subst h
    refine ⟨.int k (k.wrap n), ?_, by simp [VR, wrapA_eq]⟩
    simp only [convert, Sem.run_bind, run_underlying hT, run_underlying hu, Result.andThen_ok]
    cases T <;> rfl
  · rename_i s hd
    obtain rfl : v = .string ⟨⟨s⟩⟩ := hv
    have hu := htj.str hd
    obtain ⟨T, hT, _⟩ := hti.und
    simp at h; subst h
    refine ⟨_, ?_, rfl⟩
    simp only [convert, Sem.run_bind, run_underlying hT, run_underlying hu, Result.andThen_ok]
    cases T <;> rfl
  · rename_i p len size hd
    simp only [Option.bind_eq_bind, Option.bind_eq_some_iff] at h
    obtain ⟨e, he, ei, hei, _, hck, h⟩ := h
    have hd2 : i.d = .slice e := by unfold TI.sliceT at he; cases hx : i.d <;> simp [hx] at he; rw [he]
    have hu := hti.slice hd2
    have hdst := htj.str hd
    have hte := hC.ty _ _ hei
    have hd3 : ei.d = .int .u8 := by
      have := chk_eq hck
      split at this
      · assumption
      · cases this
    have hue := hte.int hd3
    cases p with
    | none =>
      obtain ⟨rfl, rfl⟩ := hv
      simp at h; subst h
      exact ⟨_, run_convert_bytes_nil w src e hu hue 0 0 dst hdst, rfl⟩
    | some p =>
      simp only [Option.bind_eq_bind, Option.bind_eq_some_iff] at h
      obtain ⟨_, hck2, cs, hcs, b, hb, h⟩ := h
      simp at h; subst h
      have hs1 : size = 1 := Nat.eq_of_beq_eq_true (chk_eq hck2)
      obtain ⟨b', s, o, cap, e', n, g1, g2, g3, g4, g5, g6, rfl⟩ := hv
      by_cases h0 : len = 0
      · subst h0
        simp only [sliceCells, Option.bind_eq_bind, Option.bind_eq_some_iff] at hcs
        obtain ⟨row, hr, hsub⟩ := hcs
        have : cs = [] := by
          unfold sub at hsub
          cases hbb : Nat.ble (p.2 + 0 * 1) row.length with
          | false => rw [hbb, cond_false] at hsub; cases hsub
          | true => rw [hbb, cond_true] at hsub; injection hsub with hsub; rw [← hsub]; simp
        subst this
        simp [bytesOfCells] at hb; subst hb
        exact ⟨_, run_convert_bytes_arg w src e hu hue b' o 0 cap [] rfl (fun i hi => absurd hi (by omega)) dst hdst, rfl⟩
      · have ho := g3 (by omega)
        have hcs0 := hcs
        simp only [sliceCells, Option.bind_eq_bind, Option.bind_eq_some_iff] at hcs
        obtain ⟨row, hr, hsub⟩ := hcs
        obtain ⟨ro, hg⟩ := rowOf_eq hr
        obtain ⟨vs, e1, e2, e3, e4⟩ := row_cells (P := P) (r.obj _ _ _ _ g1 hg) hsub
        obtain ⟨xs, rfl, rfl⟩ := bytesOf_ok hb e3
        have hxl : xs.length = len := by simpa using e1
        refine ⟨_, run_convert_bytes_arg w src e hu hue b' o len cap xs hxl (fun i hi => ?_) dst hdst, rfl⟩
        have := e4 i (.int .u8 (xs.getD i 0)) (by simp [List.getElem?_eq_getElem (show i < xs.length by omega), List.getD_eq_getElem?_getD])
        rw [addr_add] at this
        rw [ho]; exact this
  · cases h
end
end Go.Av
/- What append, copy and clear do, held against the evaluator's. Conditions: the tables of types say what the program's do. -/
namespace Go.Av

section
variable {P : Program} {C : Ctx} (hC : CtxOK P C) {w : World} {ι : Emb} {H : Hp}

theorem firstCells_slice (size n : Nat) (a : Addr) (m c : Nat) : Builtin.firstCells size n (.slice (some a) m c) = loadCells a (n * size) := rfl

/-- what is appended, or copied -/
theorem news_ok (r : R ι H w) {size : Nat} {x : AV} {v : Value} {m : Nat} {news : List AV} (h : newsOf H size x = some (m, news)) (hv : VR ι w x v) :
    (∀ w2 : World, (Builtin.lenOf v).run P w2 = .ok m w2) ∧ ∃ vs : List Value, vs.length = m * size ∧ VRs ι w news vs ∧ (∀ n, n ≤ m → ∀ w2 : World, w2.heap = w.heap → (Builtin.firstCells size n v).run P w2 = .ok (vs.take (n * size)).toArray w2) := by
  unfold newsOf at h
  split at h
  · rename_i q m' sz
    simp only [Option.bind_eq_bind, Option.bind_eq_some_iff] at h
    obtain ⟨_, hck, c, hc, h⟩ := h
    simp at h; obtain ⟨rfl, rfl⟩ := h
    cases q with
    | none =>
      obtain ⟨rfl, rfl⟩ := hv
      simp [sliceCells] at hc; subst hc
      exact ⟨fun w2 => by simp [Builtin.lenOf], [], by simp, rfl, fun n hn w2 _ => by simp [Builtin.firstCells]⟩
    | some q =>
      have hsz : sz = size := Nat.eq_of_beq_eq_true (by simpa using chk_eq hck)
      subst hsz
      obtain ⟨b, s, o, cap, e, n, h1, h2, h3, h4, h5, h6, rfl⟩ := hv
      refine ⟨fun w2 => by simp [Builtin.lenOf], ?_⟩
      have ho : m' = 0 ∨ o = s + q.2 := by
        rcases Nat.eq_zero_or_pos m' with h | h
        · exact .inl h
        · exact .inr (h3 (by omega))
      rcases ho with rfl | ho
      · obtain ⟨vs, e1, e2, e3⟩ := sliceCells_ok (P := P) (o := o) r hc h1 (.inl rfl)
        refine ⟨vs, e1, e2, fun n hn w2 hw => ?_⟩
        obtain rfl : n = 0 := by omega
        simp [Builtin.firstCells, loadCells, loadCellsFrom]
      · simp only [sliceCells, Option.bind_eq_bind, Option.bind_eq_some_iff] at hc
        obtain ⟨row, hr, hsub⟩ := hc
        obtain ⟨ro, hg⟩ := rowOf_eq hr
        obtain ⟨vs, e1, e2, e3, e4⟩ := row_cells (P := P) (r.obj _ _ _ _ h1 hg) hsub
        refine ⟨vs, e1, e3, fun n hn w2 hw => ?_⟩
        rw [firstCells_slice, ho]
        have hle : n * sz ≤ m' * sz := Nat.mul_le_mul_right _ hn
        have := run_loadCells_list (P := P) w2 ⟨b, s + q.2, none⟩ (vs.take (n * sz)) (fun j v hj => by
          rw [List.getElem?_take] at hj
          split at hj
          · have := e4 j v hj; simpa [World.cell?, hw] using this
          · cases hj)
        rwa [List.length_take, show min (n * sz) vs.length = n * sz by omega] at this
  · rename_i b
    simp only [Option.bind_eq_bind, Option.bind_eq_some_iff] at h
    obtain ⟨_, hck, h⟩ := h
    simp at h; obtain ⟨rfl, rfl⟩ := h
    have hsz : size = 1 := Nat.eq_of_beq_eq_true (chk_eq hck)
    subst hsz
    obtain rfl : v = .string ⟨⟨b⟩⟩ := hv
    have hb : ∀ b : List UInt8, VRs ι w (bytesCells b) (b.map fun c => .int .u8 c.toNat) := by
      intro b
      induction b with
      | nil => rfl
      | cons c b ih => exact ⟨_, _, rfl, rfl, ih⟩
    refine ⟨fun w2 => by simp [Builtin.lenOf, ByteArray.size], b.map fun c => .int .u8 c.toNat, by simp, hb b, fun n hn w2 _ => ?_⟩
    simp only [Builtin.firstCells, Nat.mul_one]
    have : ((ByteArray.mk ⟨b⟩).extract 0 n) = ByteArray.mk (b.take n).toArray := by
      have := ByteArray.extract_mk b 0 n; simpa using this
    rw [this]
    simp [List.map_take]
  · cases h

/-- a row is forgotten -/
theorem R.kill (r : R ι H w) (id : Nat) (hid : id < H.next) (hp : H.prot ≤ id) : R ι (H.put id none) w ∧ Post ι ι H (H.put id none) w w := by
  have hfind : ∀ x o, (H.put id none).get x = some o → H.get x = some o := by
    intro x o hx; rw [Hp.get_put] at hx; split at hx
    · cases hx
    · exact hx
  refine ⟨⟨fun i b s h => r.dom i b s h, fun i j b s s' o o' hne hi hj h1 h2 => r.inj i j b s s' o o' hne hi hj (hfind _ _ h1) (hfind _ _ h2), r.injm, fun i b s o hi h => r.obj i b s o hi (hfind _ _ h)⟩,
    ⟨SubE.refl _, Keeps.refl _, rfl, rfl, rfl, Nat.le_refl _, rfl, fun i o _ h => ⟨o, hfind _ _ h, rfl⟩, fun i b s h0 h1 => (by rw [h0] at h1; cases h1), fun _ _ _ => rfl, fun i h1 _ => by rw [Hp.get_put, if_neg (by omega)], fun _ _ _ _ _ _ _ => rfl⟩⟩

/-- a row's block, under a new number: it has been written behind its cells -/
theorem R.reuse {w' : World} (r : R ι H w) {id b s s' : Nat} {cs : List AV} {cur cur' : Array Value} {e : TypeId} {o' : Obj} (hi : ι id = some (b, s)) (hg : H.get id = some (.row false cs))
    (h1 : w.heap[b]? = some (Go.Obj.cells cur e (0, 0))) (hs : cur'.size = cur.size) (hw : w' = w.setRow b cur') (ho : OR (ι.add H.next (b, s')) w' b s' o') (hro : o'.isRo = false) (hp : H.prot ≤ id) :
    R (ι.add H.next (b, s')) ((H.put id none).new o') w' ∧ Post ι (ι.add H.next (b, s')) H ((H.put id none).new o') w w' := by
  subst hw
  have hsub := r.sub_add (b, s')
  have hk := setRow_keeps h1 hs
  have hdi := r.dom id b s hi
  have hget : ∀ x o, ((H.put id none).new o').get x = some o → (x = H.next ∧ o = o') ∨ (x ≠ H.next ∧ x ≠ id ∧ H.get x = some o) := by
    intro x o hx
    rw [Hp.get_new] at hx
    by_cases e1 : x = (H.put id none).next
    · rw [if_pos e1] at hx; cases hx; exact .inl ⟨e1, rfl⟩
    · rw [if_neg e1, Hp.get_put] at hx
      by_cases e2 : x = id
      · rw [if_pos e2] at hx; cases hx
      · rw [if_neg e2] at hx; exact .inr ⟨e1, e2, hx⟩
  have hadd : ∀ x y, x ≠ H.next → (ι.add H.next (b, s')) x = some y → ι x = some y := by
    intro x y hx h; simpa [Emb.add, hx] using h
  have hnb : ∀ x b1 s1 o, x ≠ H.next → x ≠ id → ι x = some (b1, s1) → H.get x = some o → b1 ≠ b := by
    intro x b1 s1 o _ hx h2 h3 e1
    subst e1
    have := (r.inj x id b1 s1 s o _ hx h2 hi h3 hg).2
    simp [Obj.isRo] at this
  constructor
  · refine ⟨?_, ?_, ?_, ?_⟩
    · intro i b1 s1 h
      rw [Hp.next_new, Hp.next_put]
      have hsz := hk.size
      by_cases e1 : i = H.next
      · subst e1; simp [Emb.add] at h; omega
      · have := r.dom i b1 s1 (hadd _ _ e1 h); omega
    · intro i j b1 s1 s2 o1 o2 hne h2 h3 h4 h5
      rcases hget _ _ h4 with ⟨rfl, rfl⟩ | ⟨a1, a2, a3⟩
      · rcases hget _ _ h5 with ⟨rfl, rfl⟩ | ⟨c1, c2, c3⟩
        · exact absurd rfl hne
        · simp [Emb.add] at h2
          exact absurd h2.1.symm (hnb j b1 s2 o2 c1 c2 (hadd _ _ c1 h3) c3)
      · rcases hget _ _ h5 with ⟨rfl, rfl⟩ | ⟨c1, c2, c3⟩
        · simp [Emb.add] at h3
          exact absurd h3.1.symm (hnb i b1 s1 o1 a1 a2 (hadd _ _ a1 h2) a3)
        · exact r.inj i j b1 s1 s2 o1 o2 hne (hadd _ _ a1 h2) (hadd _ _ c1 h3) a3 c3
    · intro i j b1 s1 s2 ents clk h2 h3 h4
      by_cases eb : b1 = b
      · subst eb; rw [setRow_same h1] at h4; cases h4
      · rw [setRow_other _ eb] at h4
        have hi1 : i ≠ H.next := fun e1 => by subst e1; simp [Emb.add] at h2; exact eb h2.1.symm
        have hj1 : j ≠ H.next := fun e1 => by subst e1; simp [Emb.add] at h3; exact eb h3.1.symm
        exact r.injm i j b1 s1 s2 ents clk (hadd _ _ hi1 h2) (hadd _ _ hj1 h3) h4
    · intro i b1 s1 o h2 h3
      rcases hget _ _ h3 with ⟨rfl, rfl⟩ | ⟨a1, a2, a3⟩
      · simp [Emb.add] at h2; obtain ⟨rfl, rfl⟩ := h2; exact ho
      · have h2' := hadd _ _ a1 h2
        refine OR.mono hsub hk (fun b' ents clk hm => setRow_other _ (fun e1 => by subst e1; rw [h1] at hm; cases hm)) (setRow_other _ (hnb i b1 s1 o a1 a2 h2' a3)) (r.obj i b1 s1 o h2' a3)
  · refine ⟨hsub, hk, rfl, rfl, rfl, by rw [Hp.next_new, Hp.next_put]; omega, rfl, ?_, ?_, ?_, fun i h1 h2 => ?_, ?_⟩
    · intro i o hlt h3
      rcases hget _ _ h3 with ⟨rfl, rfl⟩ | ⟨a1, a2, a3⟩
      · omega
      · exact ⟨o, a3, rfl⟩
    · intro i b1 s1 h0 h2
      by_cases e1 : i = H.next
      · subst e1; simp [Emb.add] at h2; obtain ⟨rfl, rfl⟩ := h2
        exact ⟨Nat.le_refl _, .inr ⟨id, s, _, hi, hg, rfl⟩⟩
      · rw [hadd _ _ e1 h2] at h0; cases h0
    · intro b1 _ hl
      refine setRow_other _ fun e1 => ?_
      subst e1
      have := hl id s _ hi hg
      simp [Obj.isRo] at this
    · rw [Hp.get_new, if_neg (by rw [Hp.next_put]; omega), Hp.get_put, if_neg (by omega)]
    · intro j b1 s1 oj h2 h3 h4
      refine setRow_other _ fun e1 => ?_
      subst e1
      have := (r.inj j id b1 s1 s oj _ (by omega) h3 hi h4 hg).2
      simp [Obj.isRo] at this

theorem nextcap_le (need old : Nat) (h : old < need) : Builtin.nextslicecap need old ≤ 2 * need := by
  unfold Builtin.nextslicecap
  split
  · omega
  · split
    · omega
    · rename_i h1 h2
      have key : ∀ (k c : Nat), 256 ≤ c → c < need ∨ c ≤ 2 * need → Builtin.growBy need k c ≤ 2 * need := by
        intro k
        induction k with
        | zero => intro c _ hc; simp only [Builtin.growBy]; omega
        | succ k ih =>
          intro c h256 hc
          simp only [Builtin.growBy]
          split
          · omega
          · exact ih _ (by omega) (.inr (by omega))
      exact key 4 old (by omega) (.inl h)

theorem all_one {cs : List AV} {vs : List Value} (hv : VRs ι w cs vs) (h : cs.all AV.one = true) : ∀ v ∈ vs, v.oneCell' = true := by
  intro v hm
  obtain ⟨j, hj⟩ := List.getElem?_of_mem hm
  have hl := hv.length
  have hjl : j < cs.length := by have := (List.getElem?_eq_some_iff.1 hj).1; omega
  obtain ⟨v', hv', hr'⟩ := hv.nth (List.getElem?_eq_getElem hjl)
  rw [hj] at hv'; cases hv'
  rw [hr'.one]; exact List.all_eq_true.1 h _ (List.getElem_mem hjl)
theorem shape_row {b : Nat} {cur : Array Value} {e : TypeId} {fr : Nat × Nat} (h : w.heap[b]? = some (Go.Obj.cells cur e fr)) : w.shape? b = some (e, cur.size) := by
  simp [World.shape?, h]

theorem append_ok (hC : CtxOK P C) (r : R ι H w) {t t2 : TypeId} {s x a : AV} {vs vx : Value} {H' : Hp} (ty : TypeId) (h : appendA C H t t2 s x = some (a, H')) (hs : VR ι w s vs) (hx : VR ι w x vx) :
    ∃ u w' ι', (Builtin.append_ #[t, t2] ty #[vs, vx]).run P w = .ok u w' ∧ R ι' H' w' ∧ Post ι ι' H H' w w' ∧ VR ι' w' a u := by
  simp only [appendA, Option.bind_eq_bind, Option.bind_eq_some_iff] at h
  obtain ⟨j, he, z0, hz0, j2, hj2, _, hk, ⟨p, len, size⟩, hs1, _, hck, ⟨m, news⟩, hnews, h⟩ := h
  have hs1 := asSlc_eq hs1
  simp at hs1; subst hs1
  obtain ⟨e, hu, hj⟩ := elemS_ok hC he
  have htx := hC.ty _ _ hj2
  obtain ⟨f, f1, f2, f3, f4⟩ := hj.info
  have hkind : (∃ e', P.underlying t2 = some (.slice e')) ∨ P.underlying t2 = some .string := by
    have hk := chk_eq hk
    split at hk
    · rename_i e' hd; exact .inl ⟨_, htx.slice hd⟩
    · rename_i hd; exact .inr (htx.str hd)
    · cases hk
  have hck := chk_eq hck
  simp only [Bool.and_eq_true, Bool.or_eq_true] at hck
  have hpos : 0 < j.size := by simpa [Nat.blt_eq] using hck.2
  obtain ⟨n1, vsn, n2, n3, n4⟩ := news_ok (P := P) r hnews hx
  cases hm : Nat.beq m 0 with
  | true =>
    rw [hm, cond_true] at h
    simp at h; obtain ⟨rfl, rfl⟩ := h
    obtain rfl : m = 0 := Nat.eq_of_beq_eq_true hm
    refine ⟨vs, w, ι, ?_, r, Post.refl .., hs⟩
    have hc0 := n4 0 (Nat.le_refl _) w rfl
    simp at hc0
    cases p with
    | none =>
      obtain ⟨rfl, rfl⟩ := hs
      rcases hkind with ⟨e', hk⟩ | hk <;>
        simp [Builtin.append_, run_underlying hu, run_underlying hk, hj.sizeOf, n1, hc0]
    | some q =>
      obtain ⟨b, s, o, cap, e1, n, h1, h2, h3, h4, h5, h6, rfl⟩ := hs
      rcases hkind with ⟨e', hk⟩ | hk <;>
        simp [Builtin.append_, run_underlying hu, run_underlying hk, hj.sizeOf, n1, hc0, h5, storeCells]
  | false =>
    rw [hm, cond_false] at h
    have hm0 : 0 < m := by
      rcases Nat.eq_zero_or_pos m with h0 | h0
      · subst h0; simp at hm
      · exact h0
    simp only [Option.bind_eq_some_iff] at h
    obtain ⟨_, hck2, old, hold, H1, hH1, h⟩ := h
    simp at h; obtain ⟨rfl, rfl⟩ := h
    have hck2 := chk_eq hck2
    simp only [Bool.and_eq_true, growOk] at hck2
    have k1 := Nat.le_of_ble_eq_true hck2.1.1
    have k2 := Nat.le_of_ble_eq_true hck2.1.2
    have k3 := hck2.2.1
    have k4 := Nat.eq_of_beq_eq_true hck2.2.2
    have hone := all_one n3 k3
    have hsrc : Src P f.size t2 vx m vsn w := by
      rw [f2]
      have hfull : vsn.take (m * j.size) = vsn := List.take_of_length_le (by omega)
      refine ⟨hkind, fun w' => n1 w', ?_, ?_, n2, hone⟩
      · have := n4 m (Nat.le_refl _) w rfl; rwa [hfull] at this
      · have := n4 m (Nat.le_refl _) w.drew rfl; rwa [hfull] at this
    obtain ⟨z, hz⟩ : ∃ z, f.zero = some z := ⟨_, (f4 _ hz0).2.2⟩
    have k63 : ((len + m : Nat) : Int) ≤ 9223372036854775807 := by omega
    cases p with
    | none =>
      obtain ⟨rfl, rfl⟩ := hs
      simp at hH1; subst hH1
      simp [sliceCells] at hold; subst hold
      have hfit : Builtin.nextslicecap (0 + m) 0 * f.bytes ≤ 281474976710656 := by
        rw [f3]
        have := Nat.mul_le_mul_right j.bytes (nextcap_le (0 + m) 0 (by omega))
        rw [Nat.mul_assoc] at this; omega
      have hrun := run_append_grow_src (P := P) w t t2 ty e f z hu f1 hz none 0 0 [] (by simp [Builtin.firstCells]) vx m vsn hsrc (by omega) k63 hfit
      obtain ⟨ι', g1, g2, g3⟩ := newRow_ok (cs := [] ++ news) (r.heap (w' := w.drew) rfl) (vs := ([] ++ vsn).toArray ++ Builtin.zeroCells z.cells (grownCap w (0 + m) 0 e - (0 + m))) (by
        have hl := n3.length
        have : ([] ++ vsn).toArray.toList.take ([] ++ news).length = vsn := by
          simp; rw [← hl, List.take_length]
        rw [Array.toList_append, List.take_append_of_le_length (by simp; omega), this]
        exact VRs.mono (SubE.refl _) (Keeps.drawn w _) _ _ n3) e
      refine ⟨_, _, ι', hrun, g2, (Post.heap (w := w) _).trans (fun i b s h => (r.dom i b s h).1) g3, ?_⟩
      refine slc_new g1 (shape_new w.drew _ e (0, 0)) ?_ (grownCap_ge ..) (grownCap_le_maxLen _ _ _ _ (by simp only [maxLen]; omega))
      have hzl : z.cells.size = j.size := by
        have h1 := (f4 _ hz0).2.2
        rw [hz] at h1; cases h1
        have := (hj.zeroVR (w := w) (ι := ι) hz0).cells.length
        rw [hj.zlen _ hz0] at this; simpa using this
      have hge := grownCap_ge w (0 + m) 0 e
      rw [Array.size_append, size_zeroCells, hzl]
      simp only [List.nil_append, List.size_toArray, n2]
      rw [← Nat.add_mul, show m + (grownCap w (0 + m) 0 e - (0 + m)) = grownCap w (0 + m) 0 e by omega]
      exact Nat.le_refl _
    | some q =>
      obtain ⟨b, s, o, cap, e1, n, h1, h2, h3, h4, h5, h6, rfl⟩ := hs
      simp only [Option.bind_eq_some_iff] at hH1
      obtain ⟨row, hrow, hwr⟩ := hH1
      obtain ⟨hprot, rfl⟩ := Hp.wr_eq hwr
      have hg := rowW_eq hrow
      have hold' := hold
      simp only [sliceCells, Option.bind_eq_bind, Option.bind_eq_some_iff] at hold'
      obtain ⟨row', hrow', hsub⟩ := hold'
      obtain ⟨ro, hg'⟩ := rowOf_eq hrow'
      rw [hg] at hg'; cases hg'
      have hob := r.obj _ _ _ _ h1 hg
      have hoo : cap = 0 ∨ o = s + q.2 := by
        rcases Nat.eq_zero_or_pos cap with h | h
        · exact .inl h
        · exact .inr (h3 (by omega))
      obtain ⟨vo, o1, o2, o3⟩ := sliceCells_ok (P := P) (o := o) r hold h1 (by
        rcases hoo with h | h
        · exact .inl (by omega)
        · exact .inr h)
      by_cases hroom : len + m ≤ cap
      · have ho : o = s + q.2 := h3 (by omega)
        obtain ⟨cur, e2, fr, c1, c2, c3, c4⟩ := hob
        obtain rfl := c2 rfl
        have hsh := shape_row c1
        rw [hsh] at h2
        obtain ⟨he2, rfl⟩ := Prod.mk.inj (Option.some.inj h2)
        have hle : (len + m) * j.size ≤ cap * j.size := Nat.mul_le_mul_right _ hroom
        rw [Nat.add_mul] at hle
        have hsz : size = j.size := Nat.eq_of_beq_eq_true (by simpa using hck.1)
        subst hsz
        have hst := run_storeCells_at (P := P) b (o + len * j.size) e2 vsn 0 cur w c1 (by omega) hone
        rw [Nat.add_zero] at hst
        have hA : VRs ι w old ((cur.toList.drop o).take (len * j.size)) := by
          unfold sub at hsub
          cases hb : Nat.ble (q.2 + len * j.size) row.length with
          | false => rw [hb, cond_false] at hsub; cases hsub
          | true =>
            rw [hb, cond_true] at hsub; cases hsub
            have hb := Nat.le_of_ble_eq_true hb
            have := (c4.drop q.2).take (len * j.size)
            rwa [List.drop_take, List.take_take, Nat.min_eq_left (by omega), List.drop_drop, ← ho] at this
        have hAl : old.length = len * j.size := by rw [← o2.length, o1]
        have hBl := n3.length
        have hcurl : o + len * j.size ≤ cur.toList.length := by simp; omega
        have hsize : (cur.toList.take (o + len * j.size) ++ vsn ++ cur.toList.drop (o + len * j.size + vsn.length)).toArray.size = cur.size := by simp; omega
        have hlist : ((cur.toList.take (o + len * j.size) ++ vsn ++ cur.toList.drop (o + len * j.size + vsn.length)).drop o).take (old ++ news).length = (cur.toList.drop o).take (len * j.size) ++ vsn := by
          rw [List.append_assoc, List.drop_append_of_le_length (by simp; omega), List.drop_take, Nat.add_sub_cancel_left, ← List.append_assoc]
          exact List.take_left' (by simp; omega)
        have hk := setRow_keeps (cur' := (cur.toList.take (o + len * j.size) ++ vsn ++ cur.toList.drop (o + len * j.size + vsn.length)).toArray) c1 hsize
        obtain ⟨g1, g2⟩ := r.reuse (s' := o) (o' := .row false (old ++ news)) h1 hg c1 hsize rfl ⟨_, e2, (0, 0), setRow_same c1, fun _ => rfl, (by rw [hsize]; simp; omega), (by
          show VRs _ _ (old ++ news) (List.take (old ++ news).length (List.drop o _))
          rw [hlist]
          exact VRs.mono (r.sub_add _) hk _ _ (hA.append n3))⟩ rfl hprot
        refine ⟨.slice (some ⟨b, o, none⟩) (len + m) cap, _, _, ?_, g1, g2, b, o, o, cap, e2, _, Emb.add_same .., shape_row (setRow_same c1), fun _ => rfl, (by rw [hsize]; exact h4), hroom, h6, rfl⟩
        have hc := n4 m (Nat.le_refl _) w rfl
        rw [List.take_of_length_le (by omega)] at hc
        rcases hkind with ⟨e', hk⟩ | hk <;>
          simp [Builtin.append_, run_underlying hu, run_underlying hk, hj.sizeOf, n1, hc, hroom, addr_add, hst]
      · have hfit : Builtin.nextslicecap (len + m) cap * f.bytes ≤ 281474976710656 := by
          rw [f3]
          have := Nat.mul_le_mul_right j.bytes (nextcap_le (len + m) cap (by omega))
          rw [Nat.mul_assoc] at this; omega
        have hzl : z.cells.size = j.size := by
          have h1 := (f4 _ hz0).2.2
          rw [hz] at h1; cases h1
          have := (hj.zeroVR (w := w) (ι := ι) hz0).cells.length
          rw [hj.zlen _ hz0] at this; simpa using this
        have hrun := run_append_grow_src (P := P) w t t2 ty e f z hu f1 hz (some ⟨b, o, none⟩) len cap vo (by rw [f2]; exact o3 w.drew rfl) vx m vsn hsrc (by omega) k63 hfit
        obtain ⟨k1, k2⟩ := r.kill q.1 (r.dom _ _ _ h1).1 hprot
        have hl := n3.length
        have hlo := o2.length
        obtain ⟨ι', g1, g2, g3⟩ := newRow_ok (cs := old ++ news) (k1.heap (w' := w.drew) rfl) (vs := (vo ++ vsn).toArray ++ Builtin.zeroCells z.cells (grownCap w (len + m) cap e - (len + m))) (by
          rw [Array.toList_append, List.take_append_of_le_length (by simp; omega), List.take_of_length_le (by simp; omega)]
          exact VRs.mono (SubE.refl _) (Keeps.drawn w _) _ _ (o2.append n3)) e
        have hd := fun i b s h => (r.dom i b s h).1
        refine ⟨_, _, ι', hrun, g2, ((k2.trans hd (Post.heap (w := w) _)).trans hd g3), ?_⟩
        refine slc_new g1 (shape_new w.drew _ e (0, 0)) ?_ (grownCap_ge ..) (grownCap_le_maxLen _ _ _ _ (by simp only [maxLen]; omega))
        have hge := grownCap_ge w (len + m) cap e
        rw [Array.size_append, size_zeroCells, hzl, List.size_toArray, List.length_append, o1, n2, ← Nat.add_mul, ← Nat.add_mul, show len + m + (grownCap w (len + m) cap e - (len + m)) = grownCap w (len + m) cap e by omega]
        exact Nat.le_refl _
end
end Go.Av
/- What copy and clear do, held against the evaluator's. Conditions: the tables of types say what the program's do. -/
namespace Go.Av

section
variable {P : Program} {C : Ctx} {w : World} {ι : Emb} {H : Hp}

theorem rowPut (r : R ι H w) {id off b s o : Nat} {cs xs cs' : List AV} {vs : List Value} (hι : ι id = some (b, s)) (hg : H.get id = some (.row false cs)) (hp : putCells cs off xs = some cs') (hv : VRs ι w xs vs)
    (ho : xs = [] ∨ o = s + off) (hpr : H.prot ≤ id) : ∃ w', (storeCells ⟨b, o, none⟩ vs).run P w = .ok () w' ∧ R ι (H.put id (some (.row false cs'))) w' ∧ Post ι ι H (H.put id (some (.row false cs'))) w w' := by
  unfold putCells at hp
  cases hone : xs.all AV.one with
  | false => rw [hone, cond_false] at hp; cases hp
  | true =>
    rw [hone, cond_true] at hp
    unfold splice at hp
    cases hb : Nat.ble (off + xs.length) cs.length with
    | false => rw [hb, cond_false] at hp; cases hp
    | true =>
      rw [hb, cond_true] at hp; cases hp
      have hb := Nat.le_of_ble_eq_true hb
      obtain ⟨cur, e, fr, h1, h2, h0, h3⟩ := r.obj _ _ _ _ hι hg
      obtain rfl := h2 rfl
      obtain ⟨w', g1, g2, g3⟩ := rowWrite (P := P) r hι hg h1 h0 h3 hb hv (all_one hv hone) hpr
      refine ⟨w', ?_, g2, g3⟩
      rcases ho with rfl | rfl
      · obtain rfl : vs = [] := hv
        simpa [storeCells] using g1
      · exact g1

theorem copy_ok (hC : CtxOK P C) (r : R ι H w) {t t2 : TypeId} {ts : Array TypeId} (hts : ts[0]? = some t) {d s a : AV} {vd vs : Value} {H' : Hp} (ty : TypeId) (h : copyA C H t d s = some (a, H')) (hd : VR ι w d vd) (hs : VR ι w s vs) :
    ∃ u w' ι', (Builtin.copy_ ts ty #[vd, vs]).run P w = .ok u w' ∧ R ι' H' w' ∧ Post ι ι' H H' w w' ∧ VR ι' w' a u := by
  simp only [copyA, Option.bind_eq_bind, Option.bind_eq_some_iff] at h
  obtain ⟨j, he, ⟨p, len, size⟩, hs1, ⟨m, news⟩, hnews, h⟩ := h
  have hs1 := asSlc_eq hs1
  simp at hs1; subst hs1
  obtain ⟨e, hu, hj⟩ := elemS_ok hC he
  obtain ⟨n1, vsn, n2, n3, n4⟩ := news_ok (P := P) r hnews hs
  cases p with
  | none =>
    simp at h; obtain ⟨rfl, rfl⟩ := h
    obtain ⟨rfl, rfl⟩ := hd
    have := n4 0 (Nat.zero_le _) w rfl
    simp at this
    exact ⟨.int .i64 0, w, ι, by simp [Builtin.copy_, hts, run_underlying hu, n1, hj.sizeOf, this, goInt], r, Post.refl .., by simp [VR]⟩
  | some q =>
    obtain ⟨id, off⟩ := q
    simp only [Option.bind_eq_some_iff] at h
    obtain ⟨_, hck, old, hold, cs, hcs, H1, hwr, h⟩ := h
    simp at h; obtain ⟨rfl, rfl⟩ := h
    have hsz : size = j.size := Nat.eq_of_beq_eq_true (chk_eq hck)
    subst hsz
    obtain ⟨hprot, rfl⟩ := Hp.wr_eq hwr
    obtain ⟨b, s', o, cap, e1, n, h1, h2, h3, h4, h5, h6, rfl⟩ := hd
    have hc := n4 (min m len) (Nat.min_le_left ..) w rfl
    obtain ⟨w', g1, g2, g3⟩ := rowPut (P := P) r h1 (rowW_eq hold) hcs (n3.take _) (o := o) (by
      rcases Nat.eq_zero_or_pos cap with h | h
      · left
        have : min m len = 0 := by omega
        simp [this, cutNews]
      · exact .inr (h3 (by omega))) hprot
    exact ⟨goInt (min m len : Nat), w', ι, by simp [Builtin.copy_, hts, run_underlying hu, n1, hj.sizeOf, hc, g1, goInt], g2, g3, by simp [VR, goInt]⟩

theorem clear_ok (hC : CtxOK P C) (r : R ι H w) {t : TypeId} {ts : Array TypeId} (hts : ts[0]? = some t) {x : AV} {vx : Value} {H' : Hp} (ty : TypeId) (h : clearA C H t x = some H') (hx : VR ι w x vx) :
    ∃ w', (Builtin.clear_ ts ty #[vx]).run P w = .ok (.tuple #[]) w' ∧ R ι H' w' ∧ Post ι ι H H' w w' := by
  simp only [clearA, Option.bind_eq_bind, Option.bind_eq_some_iff] at h
  obtain ⟨j, he, z, hz, ⟨p, len, size⟩, hs1, h⟩ := h
  have hs1 := asSlc_eq hs1
  simp at hs1; subst hs1
  obtain ⟨e, hu, hj⟩ := elemS_ok hC he
  cases p with
  | none =>
    simp at h; subst h
    obtain ⟨rfl, rfl⟩ := hx
    exact ⟨w, by simp [Builtin.clear_, hts, run_underlying hu], r, Post.refl ..⟩
  | some q =>
    obtain ⟨id, off⟩ := q
    simp only [Option.bind_eq_some_iff] at h
    obtain ⟨_, hck, old, hold, cs, hcs, hwr⟩ := h
    have hck := chk_eq hck
    simp only [Bool.and_eq_true] at hck
    have hsz : size = j.size := Nat.eq_of_beq_eq_true hck.1
    have hzl : z.cells.length = j.size := Nat.eq_of_beq_eq_true hck.2
    subst hsz
    obtain ⟨hprot, rfl⟩ := Hp.wr_eq hwr
    obtain ⟨b, s', o, cap, e1, n, h1, h2, h3, h4, h5, h6, rfl⟩ := hx
    have hzv : VRs ι w z.cells (emb z).cells.toList := (hj.zeroVR hz).cells
    have hzs : (emb z).cells.size = j.size := by have := hzv.length; rw [hzl] at this; simpa using this
    have hz0 := zeros_ok hzv hzl (Nat.le_refl len) (fun _ => trivial)
    have hzc : ((Array.range (len * j.size)).map ((emb z).cells[· % (emb z).cells.size]!)).toList.take (len * j.size) = (Builtin.zeroCells (emb z).cells len).toList := by
      rw [List.take_of_length_le (by simp), Builtin.zeroCells, hzs]
    rw [hzc] at hz0
    obtain ⟨w', g1, g2, g3⟩ := rowPut (P := P) r h1 (rowW_eq hold) hcs hz0 (o := o) (by
      rcases Nat.eq_zero_or_pos cap with h | h
      · left; rw [show len = 0 by omega]; rfl
      · exact .inr (h3 (by omega))) hprot
    refine ⟨w', ?_, g2, g3⟩
    cases len with
    | zero =>
      have : (Builtin.zeroCells (emb z).cells 0).toList = [] := by simp [Builtin.zeroCells]
      rw [this] at g1
      simp [storeCells] at g1
      simp [Builtin.clear_, hts, run_underlying hu, g1]
    | succ l => simp [Builtin.clear_, hts, run_underlying hu, hj.zeroValue hz, g1]
end
end Go.Av
/- What the machine's maps do, held against the evaluator's: keys. Conditions: the tables of types say what the program's do. -/
namespace Go.Av

theorem all_cons {α : Type} {p : α → Bool} {x : α} {xs : List α} : (x :: xs).all p = true ↔ p x = true ∧ xs.all p = true := by simp

/-! ### Keys are their values -/
theorem atom_pure : ∀ {a : AV}, a.atom = true → a.pure = true ∧ a.okNil = true
  | .int .., _ => ⟨rfl, rfl⟩
  | .bool _, _ => ⟨rfl, rfl⟩
  | .str _, _ => ⟨rfl, rfl⟩
theorem atoms_pure : ∀ {as : List AV}, as.all AV.atom = true → AV.pures as = true ∧ AV.okNils as = true
  | [], _ => ⟨rfl, rfl⟩
  | a :: as, h => by
    obtain ⟨h1, h2⟩ := all_cons.1 h
    have := atom_pure h1; have := atoms_pure h2
    simp [AV.pures, AV.okNils, *]
theorem key_pure : ∀ {a : AV}, a.key = true → a.pure = true ∧ a.okNil = true
  | .agg as, h => by have := atoms_pure (as := as) h; simpa [AV.pure, AV.okNil] using this
  | .int .., _ => ⟨rfl, rfl⟩
  | .bool _, _ => ⟨rfl, rfl⟩
  | .str _, _ => ⟨rfl, rfl⟩
theorem key_VR {ι : Emb} {w : World} {a : AV} (h : a.key = true) : VR ι w a (emb a) := VR.of_pure a (key_pure h).1 (key_pure h).2
theorem key_emb {ι : Emb} {w : World} {a : AV} {v : Value} (h : a.key = true) (hv : VR ι w a v) : v = emb a := VR.pure a v (key_pure h).1 hv
theorem atom_inj : ∀ {a b : AV}, a.atom = true → b.atom = true → emb a = emb b → a = b
  | .int j m, .int k n, _, _, h => by simpa [emb] using h
  | .bool a, .bool b, _, _, h => by simpa [emb] using h
  | .str a, .str b, _, _, h => by simpa [emb] using h
  | .int .., .bool _, _, _, h => by simp [emb] at h
  | .int .., .str _, _, _, h => by simp [emb] at h
  | .bool _, .int .., _, _, h => by simp [emb] at h
  | .bool _, .str _, _, _, h => by simp [emb] at h
  | .str _, .int .., _, _, h => by simp [emb] at h
  | .str _, .bool _, _, _, h => by simp [emb] at h
theorem atoms_inj : ∀ {as bs : List AV}, as.all AV.atom = true → bs.all AV.atom = true → embs as = embs bs → as = bs
  | [], [], _, _, _ => rfl
  | [], _ :: _, _, _, h => by simp [embs] at h
  | _ :: _, [], _, _, h => by simp [embs] at h
  | a :: as, b :: bs, ha, hb, h => by
    simp only [embs, List.cons.injEq] at h
    obtain ⟨a1, a2⟩ := all_cons.1 ha
    obtain ⟨b1, b2⟩ := all_cons.1 hb
    rw [atom_inj a1 b1 h.1, atoms_inj a2 b2 h.2]
theorem key_inj {a b : AV} (ha : a.key = true) (hb : b.key = true) (h : emb a = emb b) : a = b := by
  cases a with
  | agg as =>
    cases b with
    | agg bs => simp only [emb, Value.agg.injEq, Array.mk.injEq] at h; rw [atoms_inj ha hb h]
    | int _ _ => simp [emb] at h
    | bool _ => simp [emb] at h
    | str _ => simp [emb] at h
    | _ => simp [AV.key, AV.atom] at hb
  | int _ _ => cases b <;> first | exact atom_inj ha hb h | (simp [emb] at h)
  | bool _ => cases b <;> first | exact atom_inj ha hb h | (simp [emb] at h)
  | str _ => cases b <;> first | exact atom_inj ha hb h | (simp [emb] at h)
  | _ => simp [AV.key, AV.atom] at ha

/-! ### Which keys can be compared -/
theorem eqK_ekA {k : EK} {a b : AV} {r : Bool} (h : eqK k a b = some r) : ekA a = some k ∧ ekA b = some k ∧ (r = true ↔ a = b) := by
  cases k <;> cases a <;> cases b <;> simp only [eqK] at h <;> first | cases h | skip
  · rename_i q j m k n
    by_cases e1 : j = q
    · by_cases e2 : k = q
      · subst e1; subst e2; simp at h; subst h; simp [ekA]
      · simp [e2] at h
    · simp [e1] at h
  · simp [ekA]
  · simp [ekA]
theorem eqCells_shape : ∀ {ks : List EK} {as bs : List AV} {r : Bool}, eqCells ks as bs = some r → as.map ekA = ks.map some ∧ bs.map ekA = ks.map some ∧ (r = true ↔ as = bs)
  | [], [], [], r, h => by simp [eqCells] at h; subst h; simp
  | [], [], _ :: _, _, h => by simp [eqCells] at h
  | [], _ :: _, _, _, h => by simp [eqCells] at h
  | _ :: _, [], _, _, h => by simp [eqCells] at h
  | _ :: _, _ :: _, [], _, h => by simp [eqCells] at h
  | k :: ks, a :: as, b :: bs, r, h => by
    simp only [eqCells] at h
    cases hk : eqK k a b with
    | none => simp [hk] at h
    | some x =>
      cases ht : eqCells ks as bs with
      | none => simp [hk, ht] at h
      | some y =>
        simp [hk, ht] at h; subst h
        obtain ⟨h1, h2, h3⟩ := eqK_ekA hk
        obtain ⟨g1, g2, g3⟩ := eqCells_shape ht
        simp [h1, h2, g1, g2, h3, g3]
theorem eqCells_some : ∀ {ks : List EK} {as bs : List AV}, as.map ekA = ks.map some → bs.map ekA = ks.map some → ∃ r, eqCells ks as bs = some r
  | [], [], [], _, _ => ⟨true, rfl⟩
  | [], _ :: _, _, h, _ => by simp at h
  | [], [], _ :: _, _, h => by simp at h
  | _ :: _, [], _, h, _ => by simp at h
  | _ :: _, _ :: _, [], _, h => by simp at h
  | k :: ks, a :: as, b :: bs, ha, hb => by
    simp only [List.map_cons, List.cons.injEq] at ha hb
    obtain ⟨r, hr⟩ := eqCells_some ha.2 hb.2
    have : ∃ x, eqK k a b = some x := by
      cases a <;> simp [ekA] at ha <;> cases b <;> simp [ekA] at hb <;> (obtain ⟨e1, _⟩ := ha; obtain ⟨e2, _⟩ := hb; subst e1; first | (cases e2; simp [eqK]) | cases e2)
    obtain ⟨x, hx⟩ := this
    exact ⟨x && r, by simp [eqCells, hx, hr]⟩

theorem eqv_key {i : TI} {k a : AV} {r : Bool} (hk : k.key = true) (ha : a.key = true) (h : eqv i k a = some r) : (r = true ↔ k = a) ∧ shapeK k = shapeK a := by
  unfold eqv at h
  split at h
  · cases hq : i.eqk with
    | nil => simp [hq] at h
    | cons q qs =>
      simp only [hq] at h
      obtain ⟨h1, h2, h3⟩ := eqCells_shape h
      exact ⟨by simp [h3], by simp [shapeK, h1, h2]⟩
  · unfold eqScalar at h
    split at h
    · rename_i j m k n _ _
      by_cases e : j = k
      · subst e; simp at h; subst h; simp [shapeK, ekA]
      · simp [e] at h
    · simp at h; subst h; simp [shapeK, ekA]
    · simp at h; subst h; simp [shapeK, ekA]
    all_goals first | (simp [AV.key, AV.atom] at hk; done) | cases h
theorem eqv_shape {i : TI} {k a : AV} {r : Bool} (hk : k.key = true) (ha : a.key = true) (h : eqv i k k = some r) (hs : shapeK a = shapeK k) : ∃ r', eqv i k a = some r' := by
  unfold eqv at h
  split at h
  · rename_i xs
    cases hq : i.eqk with
    | nil => simp [hq] at h
    | cons q qs =>
      simp only [hq] at h
      obtain ⟨h1, h2, h3⟩ := eqCells_shape h
      cases a with
      | agg as =>
        have hs : as.map ekA = xs.map ekA := by simpa [shapeK] using hs
        rw [h1] at hs
        obtain ⟨r', hr⟩ := eqCells_some h1 hs
        exact ⟨r', by simp [eqv, hq, hr]⟩
      | _ => simp [shapeK] at hs
  · rename_i hna
    cases k with
    | int j m =>
      cases a with
      | int j' n =>
        simp [shapeK, ekA] at hs; subst hs
        cases hd : i.d <;> simp [eqScalar, hd] at h
        exact ⟨m == n, by simp [eqv, eqScalar, hd]⟩
      | _ => simp [shapeK, ekA] at hs
    | bool m =>
      cases a with
      | bool n =>
        cases hd : i.d <;> simp [eqScalar, hd] at h
        exact ⟨m == n, by simp [eqv, eqScalar, hd]⟩
      | _ => simp [shapeK, ekA] at hs
    | str m =>
      cases a with
      | str n =>
        cases hd : i.d <;> simp [eqScalar, hd] at h
        exact ⟨m == n, by simp [eqv, eqScalar, hd]⟩
      | _ => simp [shapeK, ekA] at hs
    | agg as => exact absurd rfl (hna as as rfl)
    | _ => simp [AV.key, AV.atom] at hk

/-! ### The machine's search -/
section
variable {P : Program} {w : World}

theorem findAsking_ok {kt : TypeId} {kv : Value} : ∀ (l : List MapEntry) (i : Nat), (∀ e ∈ l, ∃ r, (Op.equal kt kv e.key).run P w = .ok r w ∧ (r = true ↔ e.key = kv)) →
    ((Instr.findAsking kt kv l i).run P w = .ok none w ∧ ∀ e ∈ l, e.key ≠ kv) ∨ ∃ j e, (Instr.findAsking kt kv l i).run P w = .ok (some (i + j, e.val)) w ∧ l[j]? = some e ∧ e.key = kv
  | [], i, _ => .inl ⟨by simp [Instr.findAsking], by simp⟩
  | e :: es, i, h => by
    obtain ⟨r, hr, hiff⟩ := h e (.head _)
    cases r with
    | true => exact .inr ⟨0, e, by simp [Instr.findAsking, hr], rfl, hiff.1 rfl⟩
    | false =>
      have hne : e.key ≠ kv := fun q => by have := hiff.2 q; cases this
      rcases findAsking_ok es (i + 1) (fun x hx => h x (.tail _ hx)) with ⟨h1, h2⟩ | ⟨j, e', h1, h2, h3⟩
      · refine .inl ⟨by simp [Instr.findAsking, hr, h1], fun x hx => ?_⟩
        cases hx with
        | head => exact hne
        | tail _ hx => exact h2 x hx
      · exact .inr ⟨j + 1, e', by simp [Instr.findAsking, hr, h1]; omega, by simpa using h2, h3⟩

theorem findNow_ok {d : TypeDesc} {kv : Value} : ∀ (l : List MapEntry) (i : Nat), (∀ e ∈ l, ∃ r, Instr.sameNow d kv e.key = some r ∧ (r = true ↔ e.key = kv)) →
    (Instr.findNow d kv l i = some none ∧ ∀ e ∈ l, e.key ≠ kv) ∨ ∃ j e, Instr.findNow d kv l i = some (some (i + j, e.val)) ∧ l[j]? = some e ∧ e.key = kv
  | [], i, _ => .inl ⟨by simp [Instr.findNow], by simp⟩
  | e :: es, i, h => by
    obtain ⟨r, hr, hiff⟩ := h e (.head _)
    cases r with
    | true => exact .inr ⟨0, e, by simp [Instr.findNow, hr], rfl, hiff.1 rfl⟩
    | false =>
      have hne : e.key ≠ kv := fun q => by have := hiff.2 q; cases this
      rcases findNow_ok es (i + 1) (fun x hx => h x (.tail _ hx)) with ⟨h1, h2⟩ | ⟨j, e', h1, h2, h3⟩
      · refine .inl ⟨by simp [Instr.findNow, hr, h1], fun x hx => ?_⟩
        cases hx with
        | head => exact hne
        | tail _ hx => exact h2 x hx
      · exact .inr ⟨j + 1, e', by simp [Instr.findNow, hr, h1]; omega, by simpa using h2, h3⟩

/-- the machine finds a key among keys that it can be compared with -/
theorem findKey_ok {kt : TypeId} {ki : TI} (ht : TyOK P kt ki) {k : AV} (hk : k.key = true) {r0 : Bool} (hs : eqv ki k k = some r0) (l : List MapEntry) (hl : ∀ e ∈ l, ∃ a : AV, a.key = true ∧ e.key = emb a ∧ shapeK a = shapeK k) :
    ((Instr.findKey kt (emb k) l).run P w = .ok none w ∧ ∀ e ∈ l, e.key ≠ emb k) ∨ ∃ j e, (Instr.findKey kt (emb k) l).run P w = .ok (some (j, e.val)) w ∧ l[j]? = some e ∧ e.key = emb k := by
  obtain ⟨T, hu, hT⟩ := ht.und
  have hask := findAsking_ok (P := P) (w := w) (kt := kt) (kv := emb k) l 0 (fun e he => by
    obtain ⟨a, h1, h2, h3⟩ := hl e he
    obtain ⟨r, hr⟩ := eqv_shape hk h1 hs h3
    have := eqv_ok (P := P) (w := w) (ι := fun _ => none) ht hr (key_VR hk) (key_VR h1)
    refine ⟨r, by rw [h2]; exact this, ?_⟩
    rw [(eqv_key hk h1 hr).1, h2]
    exact ⟨fun h => by rw [h], fun h => (key_inj h1 hk h).symm⟩)
  have hkind : (∀ e ∈ l, ∃ r, Instr.sameNow T (emb k) e.key = some r ∧ (r = true ↔ e.key = emb k)) ∨ ∀ x y, Instr.sameNow T x y = none := by
    unfold eqv at hs
    split at hs
    · rename_i xs ys e1
      cases hq : ki.eqk with
      | nil => simp [hq] at hs
      | cons q qs =>
        right
        have := (ht.eq (by rw [hq]; simp)).1
        rw [← hT] at this
        intro x y
        cases T <;> simp [tdOf, TD.isAgg] at this <;> simp [Instr.sameNow]
    · rename_i hna
      left
      intro e he
      obtain ⟨a, h1, h2, ha⟩ := hl e he
      rw [h2]
      cases k with
      | int j m =>
        cases hd : ki.d <;> simp [eqScalar, hd] at hs
        rw [hd] at hT
        cases T <;> simp [tdOf] at hT
        cases a <;> simp [shapeK, ekA] at ha
        subst ha
        rename_i n
        exact ⟨m == n, by simp [emb, Instr.sameNow], by simp [emb]; exact eq_comm⟩
      | bool m =>
        cases hd : ki.d <;> simp [eqScalar, hd] at hs
        rw [hd] at hT
        cases T <;> simp [tdOf] at hT
        cases a <;> simp [shapeK, ekA] at ha
        rename_i n
        exact ⟨m == n, by simp [emb, Instr.sameNow], by simp [emb]; exact eq_comm⟩
      | str m =>
        cases hd : ki.d <;> simp [eqScalar, hd] at hs
        rw [hd] at hT
        cases T <;> simp [tdOf] at hT
        cases a <;> simp [shapeK, ekA] at ha
        rename_i n
        exact ⟨(ByteArray.mk ⟨m⟩) == ⟨⟨n⟩⟩, by simp [emb, Instr.sameNow], by simp [emb, beq_toListBytes, ByteArray.toList_mk]; exact eq_comm⟩
      | agg as => exact absurd rfl (hna as as rfl)
      | _ => simp [AV.key, AV.atom] at hk
  rcases hkind with h1 | h
  · rcases findNow_ok l 0 h1 with ⟨g1, g2⟩ | ⟨j, e, g1, g2, g3⟩
    · exact .inl ⟨MapKept.run_findKey hu g1, g2⟩
    · exact .inr ⟨j, e, by rw [MapKept.run_findKey hu g1, Nat.zero_add], g2, g3⟩
  · cases l with
    | nil => exact .inl ⟨MapKept.run_findKey hu rfl, by simp⟩
    | cons e es =>
      have : Instr.findNow T (emb k) (e :: es) 0 = none := by simp [Instr.findNow, h]
      have hr : (Instr.findKey kt (emb k) (e :: es)).run P w = (Instr.findAsking kt (emb k) (e :: es)).run P w := by
        simp [Instr.findKey, run_underlying hu, Result.andThen, this]
      rw [hr]
      rcases hask with h | ⟨j, e', h1, h2⟩
      · exact .inl h
      · exact .inr ⟨j, e', by rw [h1, Nat.zero_add], h2⟩
end
end Go.Av
/- What the machine's maps do, held against the evaluator's: what keys must be. Conditions: the tables of types say what the program's do. -/
namespace Go.Av

/-- a key of a type whose cells are of sorts passes the machine's check -/
def ChkP (P : Program) (em : Bool) (D : Nat) (t : TypeId) (ks : List EK) : Prop :=
  P.cellsOf t = ks.length ∧ ks ≠ [] ∧ (∃ d, P.underlying t = some d) ∧ ∀ (w : World) (xs : List Value), Typed ks xs → (Instr.checkKey em D t (valOf P t xs)).run P w = .ok () w

theorem chkFields_ok {P : Program} {D : Nat} {em : Bool} {g : TypeId → Option (List EK)} (hg : ∀ t ks, g t = some ks → ChkP P em D t ks) (w : World) (X : List Value) :
    ∀ (fs : List Field) (off : Nat) (ks : List EK), ekFields g fs off = some ks → Typed ks (X.drop off) →
    (forIn fs PUnit.unit fun f _ => (if f.name ≠ "_" then do
        Instr.checkKey em D f.type (← part f.type ⟨X⟩ f.offset)
        pure (ForInStep.yield PUnit.unit) else pure (ForInStep.yield PUnit.unit) : Sem (ForInStep PUnit))).run P w = .ok PUnit.unit w
  | [], off, ks, h, hx => by simp
  | f :: fs, off, ks, h, hx => by
    simp only [ekFields] at h
    split at h
    · rename_i hf
      obtain ⟨hf1, hf2⟩ := hf
      cases hgt : g f.type with
      | none => simp [hgt] at h
      | some y =>
        simp only [hgt] at h
        cases hr : ekFields g fs (off + y.length) with
        | none => simp [hr] at h
        | some z =>
          simp [hr] at h; subst h
          obtain ⟨c1, c2, ⟨d, c3⟩, c4⟩ := hg _ _ hgt
          obtain ⟨x1, x2⟩ := hx.split
          have hlx := hx.length
          simp at hlx
          have h0 : 0 < y.length := List.length_pos_iff.2 c2
          have px := part_val (P := P) (w := w) (l := X) (off := off) c3 c1 h0 (by omega)
          have e1 := c4 w _ x1
          rw [List.drop_drop] at x2
          have e2 := chkFields_ok hg w X fs (off + y.length) z hr x2
          simp only [List.forIn_cons, Sem.run_bind, hf1, ne_eq, not_false_eq_true, if_true, hf2, px, e1, Result.andThen_ok, Sem.run_pure]
          exact e2
    · cases h

theorem chkItems_ok {P : Program} {D : Nat} {em : Bool} {e : TypeId} {l : List EK} (hg : ChkP P em D e l) (w : World) (X : List Value) :
    ∀ (n i : Nat), Typed (ekItems l n) (X.drop (i * l.length)) →
    (forIn (List.range' i n) PUnit.unit fun i _ => (do
        Instr.checkKey em D e (← part e ⟨X⟩ (i * (← sizeOf e)))
        pure (ForInStep.yield PUnit.unit) : Sem (ForInStep PUnit))).run P w = .ok PUnit.unit w
  | 0, i, hx => by simp
  | n + 1, i, hx => by
    obtain ⟨c1, c2, ⟨d, c3⟩, c4⟩ := hg
    simp only [ekItems] at hx
    obtain ⟨x1, x2⟩ := hx.split
    have hlx := hx.length
    simp at hlx
    have h0 : 0 < l.length := List.length_pos_iff.2 c2
    have px := part_val (P := P) (w := w) (l := X) (off := i * l.length) c3 c1 h0 (by omega)
    have e1 := c4 w _ x1
    rw [List.drop_drop] at x2
    have hm : i * l.length + l.length = (i + 1) * l.length := by rw [Nat.add_mul, Nat.one_mul]
    rw [hm] at x2
    have hsz : (sizeOf e).run P w = .ok l.length w := by
      unfold Program.cellsOf at c1
      cases h : P.info? e with
      | none => simp [h] at c1; omega
      | some i => simp [h] at c1; simp [sizeOf, typeInfo, h, c1]
    have e2 := chkItems_ok ⟨c1, c2, ⟨d, c3⟩, c4⟩ w X n (i + 1) x2
    rw [List.range'_succ]
    simp only [List.forIn_cons, Sem.run_bind, hsz, px, e1, Result.andThen_ok, Sem.run_pure]
    exact e2

theorem chk_ok {P : Program} {em : Bool} : ∀ (d : Nat) (t : TypeId) (ks : List EK) (D : Nat), d ≤ D → ekOf P d t = some ks → ChkP P em D t ks
  | 0, _, _, _, _, h => by simp [ekOf] at h
  | d + 1, t, ks, D, hD, h => by
    obtain ⟨D, rfl⟩ : ∃ m, D = m + 1 := ⟨D - 1, by omega⟩
    have hE := ek_ok (d + 1) t ks (D + 1) hD h
    refine ⟨hE.1, hE.2.1, hE.2.2.1, fun w xs hx => ?_⟩
    unfold ekOf at h
    cases hu : P.underlying t with
    | none => simp [hu] at h
    | some td =>
      simp only [hu] at h
      have fin : ∀ {x : Option (List EK)}, (match x with | some ks' => if P.cellsOf t = ks'.length ∧ ks' ≠ [] then some ks' else none | none => none) = some ks → x = some ks := by
        intro x hx
        cases x with
        | none => cases hx
        | some y =>
          simp only at hx
          split at hx
          · cases hx; rfl
          · cases hx
      have h3 := fin h
      clear h fin
      have h := h3
      clear h3
      cases td <;> simp at h
      case bool => unfold Instr.checkKey; simp [run_underlying hu, valOf, aggT, hu]
      case int k => unfold Instr.checkKey; simp [run_underlying hu, valOf, aggT, hu]
      case string => unfold Instr.checkKey; simp [run_underlying hu, valOf, aggT, hu]
      case array n e =>
        obtain ⟨l, hl, rfl⟩ := h
        have ih := chk_ok (em := em) d e l D (by omega) hl
        have := chkItems_ok ih w xs n 0 (by simpa using hx)
        unfold Instr.checkKey
        simp only [valOf, aggT, hu, if_true, Sem.run_bind, run_underlying hu, Result.andThen_ok]
        simp only [Std.Legacy.Range.forIn_eq_forIn_range', Std.Legacy.Range.size, Nat.sub_zero, Nat.add_one_sub_one, Nat.div_one]
        rw [this]; simp
      case struct fs =>
        obtain ⟨hs, h⟩ := h
        have := chkFields_ok (P := P) (g := ekOf P d) (em := em) (D := D) (fun t' ks' h' => chk_ok d t' ks' D (by omega) h') w xs fs.toList 0 ks h (by simpa using hx)
        unfold Instr.checkKey
        simp only [valOf, aggT, hu, if_true, Sem.run_bind, run_underlying hu, Result.andThen_ok]
        rw [← Array.forIn_toList]
        rw [this]; simp

theorem checkKey_ok {P : Program} {w : World} {kt : TypeId} {ki : TI} (ht : TyOK P kt ki) {k : AV} (hk : k.key = true) {r0 : Bool} (hs : eqv ki k k = some r0) (em : Bool) : (Instr.checkKey em 10000 kt (emb k)).run P w = .ok () w := by
  unfold eqv at hs
  split at hs
  · rename_i xs
    cases hq : ki.eqk with
    | nil => simp [hq] at hs
    | cons q qs =>
      simp only [hq] at hs
      obtain ⟨ha, he⟩ := ht.eq (by rw [hq]; simp)
      have hp : VRs (fun _ => none) w xs (embs xs) := by
        have := key_VR (ι := fun _ => none) (w := w) hk
        obtain ⟨vs, e1, e2⟩ := this
        simp [emb] at e1; subst e1; exact e2
      obtain ⟨t1, _, _⟩ := eqCells_typed hs hp hp
      have := (chk_ok (P := P) (em := em) 8 kt _ 10000 (by omega) he).2.2.2 w (embs xs) (by rw [hq]; exact t1)
      simpa [valOf, ht.agg ha, emb] using this
  · rename_i hna
    obtain ⟨T, hu, hT⟩ := ht.und
    unfold Instr.checkKey
    simp only [Sem.run_bind, run_underlying hu, Result.andThen_ok]
    cases k with
    | int j m => cases hd : ki.d <;> simp [eqScalar, hd] at hs; rw [hd] at hT; cases T <;> simp [tdOf] at hT; simp [emb]
    | bool m => cases hd : ki.d <;> simp [eqScalar, hd] at hs; rw [hd] at hT; cases T <;> simp [tdOf] at hT; simp [emb]
    | str m => cases hd : ki.d <;> simp [eqScalar, hd] at hs; rw [hd] at hT; cases T <;> simp [tdOf] at hT; simp [emb]
    | agg as => exact absurd rfl (hna as as rfl)
    | _ => simp [AV.key, AV.atom] at hk
end Go.Av
/- What the machine's maps do, held against the evaluator's: what is found, what is set. Conditions: the tables of types say what the program's do. -/
namespace Go.Av

/-! ### Equality -/
mutual
theorem beq_eq : ∀ (a b : AV), AV.beq a b = true → a = b
  | .int j m, b, h => by cases b <;> simp [AV.beq] at h; simp [h]
  | .bool x, b, h => by cases b <;> simp [AV.beq] at h; simp [h]
  | .str x, b, h => by cases b <;> simp [AV.beq] at h; simp [h]
  | .ptr x, b, h => by cases b <;> simp [AV.beq] at h; simp [h]
  | .slc x y z, b, h => by cases b <;> simp [AV.beq] at h; simp [h]
  | .map x, b, h => by cases b <;> simp [AV.beq] at h; simp [h]
  | .fn f as, b, h => by
    cases b <;> simp [AV.beq] at h
    rw [h.1, beqs_eq _ _ h.2]
  | .nilfn, b, h => by cases b <;> simp [AV.beq] at h; rfl
  | .niliface, b, h => by cases b <;> simp [AV.beq] at h; rfl
  | .agg as, b, h => by
    cases b <;> simp [AV.beq] at h
    rw [beqs_eq _ _ h]
  | .tup as, b, h => by
    cases b <;> simp [AV.beq] at h
    rw [beqs_eq _ _ h]
theorem beqs_eq : ∀ (as bs : List AV), AV.beqs as bs = true → as = bs
  | [], [], _ => rfl
  | [], _ :: _, h => by simp [AV.beqs] at h
  | _ :: _, [], h => by simp [AV.beqs] at h
  | a :: as, b :: bs, h => by
    simp [AV.beqs] at h
    rw [beq_eq _ _ h.1, beqs_eq _ _ h.2]
end

/-! ### Entries -/
section
variable {P : Program} {w : World} {ι : Emb}

theorem MR.mem : ∀ {es : List (AV × AV)} {l : List MapEntry} {e : MapEntry}, MR ι w es l → e ∈ l → ∃ k v, (k, v) ∈ es ∧ k.key = true ∧ e.key = emb k ∧ VR ι w v e.val
  | [], _, e, h, he => by simp only [MR] at h; subst h; cases he
  | (k, v) :: es, _, e, ⟨e', l', h1, h2, h3, h4, h5⟩, he => by
    subst h1
    cases he with
    | head => exact ⟨k, v, .head _, h2, h3, h4⟩
    | tail _ he => obtain ⟨k', v', g1, g2⟩ := MR.mem h5 he; exact ⟨k', v', .tail _ g1, g2⟩
theorem MR.of_mem : ∀ {es : List (AV × AV)} {l : List MapEntry} {k v : AV}, MR ι w es l → (k, v) ∈ es → k.key = true ∧ ∃ e ∈ l, e.key = emb k ∧ VR ι w v e.val
  | (k', v') :: es, _, k, v, ⟨e', l', h1, h2, h3, h4, h5⟩, he => by
    subst h1
    cases he with
    | head => exact ⟨h2, e', .head _, h3, h4⟩
    | tail _ he => obtain ⟨g1, e, g2, g3⟩ := MR.of_mem h5 he; exact ⟨g1, e, .tail _ g2, g3⟩
theorem nodup_fst {es : List (AV × AV)} (h : (es.map (·.1)).Nodup) {k u v : AV} (h1 : (k, u) ∈ es) (h2 : (k, v) ∈ es) : u = v := by
  induction es with
  | nil => cases h1
  | cons x es ih =>
    obtain ⟨a, b⟩ := x
    simp only [List.map_cons, List.nodup_cons] at h
    have hn : ∀ y, (a, y) ∉ es := fun y hy => h.1 (List.mem_map_of_mem (f := (·.1)) hy)
    cases h1 with
    | head => cases h2 with
      | head => rfl
      | tail _ h2 => exact absurd h2 (hn _)
    | tail _ h1 => cases h2 with
      | head => exact absurd h1 (hn _)
      | tail _ h2 => exact ih h.2 h1 h2
theorem MR.val {es : List (AV × AV)} {l : List MapEntry} (h : MR ι w es l) (hn : (es.map (·.1)).Nodup) {k v : AV} {e : MapEntry} (hk : (k, v) ∈ es) (he : e ∈ l) (hek : e.key = emb k) : VR ι w v e.val := by
  obtain ⟨k', v', g1, g2, g3, g4⟩ := h.mem he
  obtain ⟨hkk, _⟩ := h.of_mem hk
  have := key_inj hkk g2 (by rw [← hek, g3])
  subst this
  rw [nodup_fst hn hk g1]; exact g4
theorem MR.split : ∀ {es1 es2 : List (AV × AV)} {l : List MapEntry}, MR ι w (es1 ++ es2) l → ∃ l1 l2, l = l1 ++ l2 ∧ MR ι w es1 l1 ∧ MR ι w es2 l2
  | [], _, l, h => ⟨[], l, rfl, rfl, h⟩
  | (k, v) :: es1, es2, _, ⟨e, l', h1, h2, h3, h4, h5⟩ => by
    subst h1
    obtain ⟨l1, l2, g1, g2, g3⟩ := MR.split h5
    exact ⟨e :: l1, l2, by rw [g1]; rfl, ⟨e, l1, rfl, h2, h3, h4, g2⟩, g3⟩
theorem MR.join : ∀ {es1 es2 : List (AV × AV)} {l1 l2 : List MapEntry}, MR ι w es1 l1 → MR ι w es2 l2 → MR ι w (es1 ++ es2) (l1 ++ l2)
  | [], _, _, _, h, h2 => by simp only [MR] at h; subst h; exact h2
  | (k, v) :: es1, es2, _, _, ⟨e, l', h1, a2, a3, a4, a5⟩, h2 => by subst h1; exact ⟨e, _, rfl, a2, a3, a4, MR.join a5 h2⟩
/-- entries of one key are one -/
theorem MR.uniq : ∀ {es : List (AV × AV)} {l : List MapEntry}, MR ι w es l → (es.map (·.1)).Nodup → (l.map (·.key)).Nodup
  | [], _, h, _ => by simp only [MR] at h; subst h; simp
  | (k, v) :: es, _, ⟨e, l', h1, h2, h3, h4, h5⟩, hn => by
    subst h1
    simp only [List.map_cons, List.nodup_cons] at hn ⊢
    refine ⟨fun hm => ?_, MR.uniq h5 hn.2⟩
    obtain ⟨e', g1, g2⟩ := List.mem_map.1 hm
    obtain ⟨k', v', a1, a2, a3, a4⟩ := h5.mem g1
    have := key_inj h2 a2 (by rw [← h3, ← a3, g2])
    subst this
    exact hn.1 (List.mem_map_of_mem (f := (·.1)) a1)
theorem nodup_map_inj {α β : Type} (f : α → β) : ∀ {l : List α}, (l.map f).Nodup → ∀ {a b : α}, a ∈ l → b ∈ l → f a = f b → a = b
  | [], _, _, _, h, _, _ => by cases h
  | x :: xs, hn, a, b, ha, hb, he => by
    simp only [List.map_cons, List.nodup_cons] at hn
    cases ha with
    | head => cases hb with
      | head => rfl
      | tail _ hb => exact absurd (by rw [he]; exact List.mem_map_of_mem hb) hn.1
    | tail _ ha => cases hb with
      | head => exact absurd (by rw [← he]; exact List.mem_map_of_mem ha) hn.1
      | tail _ hb => exact nodup_map_inj f hn.2 ha hb he

/-! ### The evaluator's search -/
theorem look_spec {k : AV} {i : TI} (hk : k.key = true) : ∀ {es : List (AV × AV)} {r : Option AV}, (∀ x ∈ es, x.1.key = true) → look k i es = some r →
    (∀ v, r = some v → (k, v) ∈ es) ∧ (r = none → ∀ x ∈ es, x.1 ≠ k) ∧ ∀ x xs, es = x :: xs → shapeK x.1 = shapeK k
  | [], r, _, h => by simp [look] at h; subst h; simp
  | (a, v) :: es, r, hes, h => by
    simp only [look, Option.bind_eq_bind, Option.bind_eq_some_iff] at h
    obtain ⟨b, hb, h⟩ := h
    obtain ⟨e1, e2⟩ := eqv_key hk (hes (a, v) (.head _)) hb
    cases b with
    | true =>
      have : k = a := e1.1 rfl
      subst this
      simp at h; subst h
      exact ⟨fun v' h => by cases h; exact .head _, by simp, fun x xs h => by cases h; exact e2.symm⟩
    | false =>
      simp at h
      have hne : a ≠ k := fun h => by have := e1.2 h.symm; cases this
      obtain ⟨g1, g2, g3⟩ := look_spec hk (fun x hx => hes x (.tail _ hx)) h
      refine ⟨fun v' h => .tail _ (g1 v' h), fun h x hx => ?_, fun x xs h => by cases h; exact e2.symm⟩
      cases hx with
      | head => exact hne
      | tail _ hx => exact g2 h x hx
theorem upd_spec {k v : AV} {i : TI} (hk : k.key = true) : ∀ {es es' : List (AV × AV)} {n : Bool}, (∀ x ∈ es, x.1.key = true) → upd k v i es = some (es', n) →
    ((n = false ∧ ∃ es1 u es2, es = es1 ++ (k, u) :: es2 ∧ es' = es1 ++ (k, v) :: es2) ∨ (n = true ∧ (∀ x ∈ es, x.1 ≠ k) ∧ ∃ es1 es2, es = es1 ++ es2 ∧ es' = es1 ++ (k, v) :: es2)) ∧ ∀ x xs, es = x :: xs → shapeK x.1 = shapeK k
  | [], es', n, _, h => by
    simp [upd] at h; obtain ⟨rfl, rfl⟩ := h
    exact ⟨.inr ⟨rfl, by simp, [], [], rfl, rfl⟩, by simp⟩
  | (a, u) :: es, es', n, hes, h => by
    simp only [upd, Option.bind_eq_bind, Option.bind_eq_some_iff] at h
    obtain ⟨b, hb, h⟩ := h
    obtain ⟨e1, e2⟩ := eqv_key hk (hes (a, u) (.head _)) hb
    refine ⟨?_, fun x xs h => by cases h; exact e2.symm⟩
    cases b with
    | true =>
      have : k = a := e1.1 rfl
      subst this
      simp at h; obtain ⟨rfl, rfl⟩ := h
      exact .inl ⟨rfl, [], u, es, rfl, rfl⟩
    | false =>
      simp only [cond_false, Option.bind_eq_some_iff] at h
      obtain ⟨⟨l, n'⟩, h1, h⟩ := h
      have hne : a ≠ k := fun h => by have := e1.2 h.symm; cases this
      obtain ⟨g1, g2⟩ := upd_spec hk (fun x hx => hes x (.tail _ hx)) h1
      cases hc : n' && keyLe k a with
      | true =>
        simp [hc] at h; obtain ⟨rfl, rfl⟩ := h
        simp at hc
        rcases g1 with ⟨q, _⟩ | ⟨q, q2, _⟩
        · rw [q] at hc; simp at hc
        · refine .inr ⟨rfl, fun x hx => ?_, [], (a, u) :: es, rfl, rfl⟩
          cases hx with
          | head => exact hne
          | tail _ hx => exact q2 x hx
      | false =>
        simp [hc] at h; obtain ⟨rfl, rfl⟩ := h
        rcases g1 with ⟨q, es1, u', es2, a1, a2⟩ | ⟨q, q2, es1, es2, a1, a2⟩
        · exact .inl ⟨q, (a, u) :: es1, u', es2, by rw [a1]; rfl, by rw [a2]; rfl⟩
        · refine .inr ⟨q, fun x hx => ?_, (a, u) :: es1, es2, by rw [a1]; rfl, by rw [a2]; rfl⟩
          cases hx with
          | head => exact hne
          | tail _ hx => exact q2 x hx
theorem findKeyA_mem {k : AV} : ∀ {es : List (AV × AV)} {v : AV}, findKeyA k es = some v → (k, v) ∈ es
  | [], _, h => by cases h
  | (a, u) :: es, v, h => by
    simp only [findKeyA] at h
    cases hb : AV.beq k a with
    | true => rw [hb, cond_true] at h; cases h; rw [beq_eq _ _ hb]; exact .head _
    | false => rw [hb, cond_false] at h; exact .tail _ (findKeyA_mem h)

/-! ### lookup -/
variable {C : Ctx} {H : Hp}

theorem MapO.keys {es : List (AV × AV)} {clk : Nat} {ents : Array MapEntry} (h : MapO ι w es clk ents) : ∀ x ∈ es, x.1.key = true := by
  obtain ⟨l, h1, h2, _⟩ := h
  intro x hx
  exact (h2.of_mem (v := x.2) hx).1
theorem MapO.shape {es : List (AV × AV)} {clk : Nat} {ents : Array MapEntry} (h : MapO ι w es clk ents) {k : AV} (hh : ∀ x xs, es = x :: xs → shapeK x.1 = shapeK k) :
    ∀ e ∈ ents.toList, ∃ a : AV, a.key = true ∧ e.key = emb a ∧ shapeK a = shapeK k := by
  obtain ⟨l, h1, h2, h3, h4, h5, sh, h6⟩ := h
  intro e he
  obtain ⟨a, v, g1, g2, g3, _⟩ := h2.mem (h1.mem_iff.2 he)
  refine ⟨a, g2, g3, ?_⟩
  cases es with
  | nil => cases g1
  | cons x xs => rw [h6 _ g1, ← hh x xs rfl, h6 x (.head _)]

theorem lookup_ok (hC : CtxOK P C) (r : R ι H w) {t : TypeId} {m k a : AV} {vm vk : Value} {ok : Bool} (h : lookupA C H t m k ok = some a) (hm : VR ι w m vm) (hk : VR ι w k vk) :
    ∃ u, (Instr.lookup t vm vk ok).run P w = .ok u w ∧ VR ι w a u := by
  simp only [lookupA, Option.bind_eq_bind, Option.bind_eq_some_iff] at h
  obtain ⟨i, hi, ⟨kt, et⟩, hmt, ki, hki, _, hkey, r0, hs, ei, hei, res, hres, h⟩ := h
  have hkey := chk_eq hkey
  obtain rfl := key_emb hkey hk
  have hd : i.d = .map kt et := by
    unfold TI.mapT at hmt; split at hmt
    · rename_i k e hd; simp at hmt; rw [hd, hmt.1, hmt.2]
    · cases hmt
  have hu := (hC.ty _ _ hi).map hd
  have hkt := hC.ty _ _ hki
  have het := hC.ty _ _ hei
  have fin : ∀ es : Array MapEntry, ((∀ v, res = some v → ∀ e ∈ es.toList, e.key = emb k → VR ι w v e.val) ∧ (res = none → ∀ e ∈ es.toList, e.key ≠ emb k) ∧ (res.isSome = true → ∃ e ∈ es.toList, e.key = emb k)) →
      (∀ e ∈ es.toList, ∃ a : AV, a.key = true ∧ e.key = emb a ∧ shapeK a = shapeK k) →
      (∀ em, (Instr.checkKey em 10000 kt (emb k)).run P w = .ok () w) ∧ ∃ o, (Instr.findKey kt (emb k) es.toList).run P w = .ok o w ∧
        ((∃ j v, o = some (j, v) ∧ VR ι w a (if ok then .tuple #[v, .bool true] else v)) ∨ (o = none ∧ ∃ z, (zeroValue et).run P w = .ok z w ∧ VR ι w a (if ok then .tuple #[z, .bool false] else z))) := by
    intro es ⟨q1, q2, q3⟩ hsh
    have hf := findKey_ok (P := P) (w := w) hkt hkey hs es.toList hsh
    cases res with
    | some v =>
      rcases hf with ⟨f1, f2⟩ | ⟨j, e, f1, f2, f3⟩
      · obtain ⟨e, e1, e2⟩ := q3 rfl
        exact absurd e2 (f2 e e1)
      · have hv := q1 v rfl e (List.mem_of_getElem? f2) f3
        simp at h; subst h
        cases ok with
        | true => exact ⟨checkKey_ok hkt hkey hs, _, f1, .inl ⟨_, _, rfl, _, rfl, _, _, rfl, hv, _, _, rfl, rfl, rfl⟩⟩
        | false => exact ⟨checkKey_ok hkt hkey hs, _, f1, .inl ⟨_, _, rfl, hv⟩⟩
    | none =>
      simp only [Option.bind_eq_some_iff] at h
      obtain ⟨z, hz, h⟩ := h
      simp at h; subst h
      rcases hf with ⟨f1, f2⟩ | ⟨j, e, f1, f2, f3⟩
      · cases ok with
        | true => exact ⟨checkKey_ok hkt hkey hs, _, f1, .inr ⟨rfl, _, het.zeroValue hz, _, rfl, _, _, rfl, het.zeroVR hz, _, _, rfl, rfl, rfl⟩⟩
        | false => exact ⟨checkKey_ok hkt hkey hs, _, f1, .inr ⟨rfl, _, het.zeroValue hz, het.zeroVR hz⟩⟩
      · exact absurd f3 (q2 rfl e (List.mem_of_getElem? f2))
  cases m with
  | map mo =>
    cases mo with
    | none =>
      cases hm
      simp at hres; subst hres
      obtain ⟨c1, o, c2, c3⟩ := fin #[] (by simp) (by simp)
      rcases c3 with ⟨j, v, rfl, c4⟩ | ⟨rfl, z, c4, c5⟩
      · exact ⟨_, by simp at c2; simp [Instr.lookup, run_underlying hu, c1, c2], c4⟩
      · exact ⟨_, by simp at c2; simp [Instr.lookup, run_underlying hu, c1, c2, c4], c5⟩
    | some id =>
      obtain ⟨b, s, h1, rfl⟩ := hm
      simp only [Option.bind_eq_some_iff] at hres
      obtain ⟨⟨es, clk⟩, hmo, hlk⟩ := hres
      obtain ⟨ents, g1, g2⟩ := r.obj _ _ _ _ h1 (mapOf_eq hmo)
      obtain ⟨l1, l2, l3⟩ := look_spec hkey g2.keys hlk
      have hsh := g2.shape l3
      obtain ⟨l, p1, p2, p3, p4, p5, p6⟩ := g2
      obtain ⟨c1, o, c2, c3⟩ := fin ents ⟨fun v hv e he hek => p2.val p3 (l1 v hv) (p1.mem_iff.2 he) hek, fun hn e he hek => (by
        obtain ⟨k', v', q1, q2, q3, _⟩ := p2.mem (p1.mem_iff.2 he)
        have := key_inj q2 hkey (by rw [← q3, hek])
        exact l2 hn _ q1 this), fun hr => (by
        obtain ⟨v, hv⟩ := Option.isSome_iff_exists.1 hr
        obtain ⟨_, e, e1, e2, _⟩ := p2.of_mem (l1 v hv)
        exact ⟨e, p1.mem_iff.1 e1, e2⟩)⟩ hsh
      rcases c3 with ⟨j, v, rfl, c4⟩ | ⟨rfl, z, c4, c5⟩
      · exact ⟨_, by simp [Instr.lookup, run_underlying hu, MapKept.run_getObj_map g1, c1, c2], c4⟩
      · exact ⟨_, by simp [Instr.lookup, run_underlying hu, MapKept.run_getObj_map g1, c1, c2, c4], c5⟩
  | _ => simp at hres
end
end Go.Av
