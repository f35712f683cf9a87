/-
  What each operation does on abstract states. Conditions: none; a library text.
-/
import Derived.Test.YtllompejbfbabaaDoorPvB
set_option linter.all false
namespace Go.Pv
open Go.RowKit

inductive TK where
  | other
  | bad
  | int (k : IntKind)
  | bool
  | str
  | slice (e : TypeId)
  | struct (fs : List (Nat × TypeId × Nat))
  | array (n : Nat) (e : TypeId)

structure TI where
  kind : TK
  size : Nat
  bytes : Nat
  zero : List Value
  eq2 : Bool

def plainInt (P : Program) (t : TypeId) : Bool :=
  match P.underlying t with
  | some (.int _) => true
  | _ => false

/-- A struct of two numbers, that '==' takes as it stands. -/
def eq2Of (P : Program) (t : TypeId) (d : TypeDesc) : Bool :=
  match d with
  | .struct fs =>
    match fs.toList with
    | [f, g] => f.name != "_" && g.name != "_" && f.offset == 0 && g.offset == 1 && plainInt P f.type && plainInt P g.type && !P.stoodInHeld t && !P.eqGuardType P.depth t
    | _ => false
  | _ => false

/-- A type's row, as it is asked here. -/
def tiOf (P : Program) (t : TypeId) : Option TI :=
  match P.info? t, P.underlying t with
  | some i, some d =>
    match i.zero with
    | some z => some { kind := (match d with
        | .int k => .int k
        | .bool => .bool
        | .string => .str
        | .slice e => .slice e
        | .struct fs => bif fs.toList.all (fun f => (P.info? f.type).isSome) then .struct (fs.toList.map fun f => (f.offset, f.type, P.cellsOf f.type)) else .bad
        | .array n e => .array n e
        | _ => .other), size := i.size, bytes := i.bytes, zero := z.cells.toList, eq2 := eq2Of P t d }
    | none => none
  | _, _ => none

/-- What an operation comes to: what must hold; what it yields; the blocks behind it. -/
structure OV where
  vc : Prop
  av : AV
  H : Heap

def In64 (x : Int) : Prop := -9223372036854775808 ≤ x ∧ x ≤ 9223372036854775807

/-! ### Numbers, tests -/

def arith (f : Int → Int → Int) (k : IntKind) (a b : Int) : Prop × PV :=
  match k with
  | .i64 => (In64 (f a b), .int .i64 (f a b))
  | .u64 => (True, .int .u64 (IntKind.u64.wrap (f a b)))
  | k => (True, .int k (k.wrap (f a b)))

def bitsV (f : (n : Nat) → BitVec n → BitVec n → BitVec n) (k : IntKind) (a b : Int) : PV :=
  .int k (k.wrap (f k.bits (BitVec.ofInt k.bits a) (BitVec.ofInt k.bits b)).toNat)

def binInt (op : BinOp) (k : IntKind) (a b : Int) : Prop × PV :=
  match op with
  | .add => arith (· + ·) k a b
  | .sub => arith (· - ·) k a b
  | .mul => arith (· * ·) k a b
  | .quo => (b ≠ 0 ∧ (arith Int.tdiv k a b).1, (arith Int.tdiv k a b).2)
  | .rem => (b ≠ 0, .int k (a.tmod b))
  | .and => (True, bitsV (fun _ x y => x &&& y) k a b)
  | .or => (True, bitsV (fun _ x y => x ||| y) k a b)
  | .xor => (True, bitsV (fun _ x y => x ^^^ y) k a b)
  | .andNot => (True, bitsV (fun _ x y => x &&& ~~~y) k a b)
  | .shl => (0 ≤ b, .int k (k.wrap (a * 2 ^ (min b.toNat k.bits))))
  | .shr => (0 ≤ b, .int k (a.fdiv (2 ^ (min b.toNat k.bits))))
  | .eql => (True, .bool (a == b))
  | .neq => (True, .bool (a != b))
  | .lss => (True, .bool (decide (a < b)))
  | .leq => (True, .bool (decide (a ≤ b)))
  | .gtr => (True, .bool (decide (a > b)))
  | .geq => (True, .bool (decide (a ≥ b)))

def binA (T : TypeId → Option TI) (op : BinOp) (t : TypeId) (H : Heap) : AV → AV → Option OV
  | .p (.int k a), .p (.int k' b) =>
    match op with
    | .shl => some ⟨(binInt .shl k a b).1, .p (binInt .shl k a b).2, H⟩
    | .shr => some ⟨(binInt .shr k a b).1, .p (binInt .shr k a b).2, H⟩
    | op => some ⟨k = k' ∧ (binInt op k a b).1, .p (binInt op k a b).2, H⟩
  | .p (.bool a), .p (.bool b) =>
    match op, (T t).map TI.kind with
    | .eql, some .bool => some ⟨True, .p (.bool (a == b)), H⟩
    | .neq, some .bool => some ⟨True, .p (.bool (a != b)), H⟩
    | _, _ => none
  | .p (.str a), .p (.str b) =>
    match op with
    | .eql => some ⟨True, .p (.bool (a == b)), H⟩
    | .neq => some ⟨True, .p (.bool (a != b)), H⟩
    | _ => none
  | .p (.agg [.int .i64 a, .int .i64 b]), .p (.agg [.int .i64 c, .int .i64 d]) =>
    match op, (T t).map TI.eq2 with
    | .eql, some true => some ⟨True, .p (.bool (a == c && b == d)), H⟩
    | .neq, some true => some ⟨True, .p (.bool (!(a == c && b == d))), H⟩
    | _, _ => none
  | .p (.list l), .p .nil =>
    match op, (T t).map TI.kind with
    | .eql, some (.slice _) => some ⟨l ≠ [], .p (.bool false), H⟩
    | .neq, some (.slice _) => some ⟨l ≠ [], .p (.bool true), H⟩
    | _, _ => none
  | .p (.nn _), .p .nil =>
    match op, (T t).map TI.kind with
    | .eql, some (.slice _) => some ⟨True, .p (.bool false), H⟩
    | .neq, some (.slice _) => some ⟨True, .p (.bool true), H⟩
    | _, _ => none
  | .p .nz, .p .nil =>
    match op, (T t).map TI.kind with
    | .eql, some (.slice _) => some ⟨True, .p (.bool false), H⟩
    | .neq, some (.slice _) => some ⟨True, .p (.bool true), H⟩
    | _, _ => none
  | .p .nil, .p .nil =>
    match op, (T t).map TI.kind with
    | .eql, some (.slice _) => some ⟨True, .p (.bool true), H⟩
    | .neq, some (.slice _) => some ⟨True, .p (.bool false), H⟩
    | _, _ => none
  | _, _ => none

def unA (op : UnOp) (H : Heap) : AV → Option OV
  | .p (.int k a) =>
    match op with
    | .neg => some ⟨(arith (· - ·) k 0 a).1, .p (arith (· - ·) k 0 a).2, H⟩
    | .xor => some ⟨True, .p (bitsV (fun _ x y => x ^^^ y) k (if k.signed then -1 else k.max) a), H⟩
    | _ => none
  | .p (.bool a) =>
    match op with
    | .not => some ⟨True, .p (.bool (!a)), H⟩
    | _ => none
  | _ => none

def pickA (a b : AV) (H : Heap) : AV → Option OV
  | .p (.bool true) => some ⟨True, a, H⟩
  | .p (.bool false) => some ⟨True, b, H⟩
  | _ => none

def convA (T : TypeId → Option TI) (src dst : TypeId) (H : Heap) : AV → Option OV
  | .p (.int _ a) =>
    match (T src).map TI.kind, (T dst).map TI.kind with
    | some (.int _), some (.int k) => some ⟨True, .p (.int k (k.wrap a)), H⟩
    | _, _ => none
  | _ => none

/-! ### Memory -/

def AV.cells : AV → List AV
  | .p (.agg l) => l.map .p
  | .agg l => l
  | v => [v]

def allP : List AV → Option (List PV)
  | [] => some []
  | .p v :: r => (allP r).map (v :: ·)
  | _ :: _ => none

/-- A struct's value out of its cells. -/
def mkAgg (l : List AV) : AV :=
  match allP l with
  | some ps => .p (.agg ps)
  | none => .agg l

def hget : Heap → Nat → Blk
  | [], _ => .dead
  | b :: _, 0 => b
  | _ :: r, k + 1 => hget r k

def hset : Heap → Nat → Blk → Heap
  | [], _, _ => []
  | _ :: r, 0, b => b :: r
  | x :: r, k + 1, b => x :: hset r k b

def isRow : TK → Bool
  | .bad => true
  | .struct _ => true
  | .array _ _ => true
  | _ => false

def loadA (ti : TI) (H : Heap) : AV → Option OV
  | .ptr k i =>
    match hget H k with
    | .own c => bif isRow ti.kind then some ⟨i + ti.size ≤ c.length, mkAgg ((c.drop i).take ti.size), H⟩ else some ⟨i < c.length, c.getD i (.p default), H⟩
    | .fro c => bif isRow ti.kind then some ⟨i + ti.size ≤ c.length, .p (.agg ((c.drop i).take ti.size)), H⟩ else some ⟨i < c.length, .p (c.getD i default), H⟩
    | .dead => none
  | .p (.ptr c) => bif isRow ti.kind then some ⟨ti.size ≤ c.length, .p (.agg (c.take ti.size)), H⟩ else some ⟨0 < c.length, .p (c.headD default), H⟩
  | _ => none

/-- Cells that may be stored. -/
def cellOk : AV → Bool
  | .p v => v.one
  | .sl _ _ _ => true
  | .ptr _ _ => true
  | _ => false

def setC (c : List AV) (i : Nat) : List AV → List AV
  | [x] => c.set i x
  | xs => c.take i ++ xs ++ c.drop (i + xs.length)

def storeA (ti : TI) (H : Heap) (v : AV) : AV → Option OV
  | .ptr k i =>
    match hget H k with
    | .own c => some ⟨v.cells.length = ti.size ∧ v.cells.all cellOk = true ∧ i + v.cells.length ≤ c.length, .dead, hset H k (.own (setC c i v.cells))⟩
    | _ => none
  | _ => none

def fieldAddrA (ti : TI) (f : Nat) (H : Heap) (x : AV) : Option OV :=
  match ti.kind with
  | .struct fs =>
    match fs[f]? with
    | some (off, _, sz) =>
      match x with
      | .ptr k i => some ⟨sz ≠ 0, .ptr k (i + off), H⟩
      | .p (.ptr c) => some ⟨sz ≠ 0 ∧ off ≤ c.length, .p (.ptr (c.drop off)), H⟩
      | _ => none
    | none => none
  | _ => none

def fieldA (T : TypeId → Option TI) (ti : TI) (f : Nat) (H : Heap) (x : AV) : Option OV :=
  match ti.kind with
  | .struct fs =>
    match fs[f]? with
    | some (off, t, _) =>
      match T t with
      | some tf => bif isRow tf.kind then some ⟨off + tf.size ≤ x.cells.length, mkAgg ((x.cells.drop off).take tf.size), H⟩ else some ⟨off < x.cells.length, x.cells.getD off .dead, H⟩
      | none => none
    | none => none
  | _ => none

/-- Of a struct's value only: what has cells. -/
def AV.isAgg : AV → Bool
  | .p (.agg _) => true
  | .agg _ => true
  | _ => false

def indexAddrA (T : TypeId → Option TI) (ti : TI) (H : Heap) (x : AV) : AV → Option OV
  | .p (.int _ i) =>
    match ti.kind with
    | .slice e =>
      match T e with
      | some te =>
        match x with
        | .sl k lo len => some ⟨te.size = 1 ∧ 0 ≤ i ∧ i < (len : Int), .ptr k (lo + i.toNat), H⟩
        | .p (.list l) => some ⟨0 ≤ i ∧ i < (l.length : Int) ∧ (l.getD i.toNat default).cells.length = te.size, .p (.ptr (l.getD i.toNat default).cells), H⟩
        | .p (.nn l) => some ⟨0 ≤ i ∧ i < (l.length : Int) ∧ (l.getD i.toNat default).cells.length = te.size, .p (.ptr (l.getD i.toNat default).cells), H⟩
        | _ => none
      | none => none
    | .array n e =>
      match T e with
      | some te =>
        match x with
        | .ptr k j => some ⟨0 ≤ i ∧ i < (n : Int), .ptr k (j + i.toNat * te.size), H⟩
        | .p (.ptr c) => some ⟨0 ≤ i ∧ i < (n : Int) ∧ i.toNat * te.size ≤ c.length, .p (.ptr (c.drop (i.toNat * te.size))), H⟩
        | _ => none
      | none => none
    | _ => none
  | _ => none

def lenS : AV → Option Nat
  | .sl _ _ len => some len
  | .p (.list l) => some l.length
  | .p (.nn l) => some l.length
  | .p .nil => some 0
  | .p .nz => some 0
  | _ => none

def lenA (ti : TI) (H : Heap) (x : AV) : Option OV :=
  match ti.kind with
  | .slice _ =>
    match lenS x with
    | some n => some ⟨True, .p (.int .i64 (n : Int)), H⟩
    | none => none
  | .str =>
    match x with
    | .p (.str s) => some ⟨True, .p (.int .i64 (s.size : Int)), H⟩
    | _ => none
  | _ => none

/-- The bounds of a cut: low, high (as numbers), of something so long. -/
def boundA (d : Int) : Option AV → Option Int
  | none => some d
  | some (.p (.int _ i)) => some i
  | some _ => none

def sliceA (T : TypeId → Option TI) (ti : TI) (H : Heap) (x : AV) (lo hi : Option AV) : Option OV :=
  match ti.kind with
  | .slice e =>
    match T e with
    | some te =>
      match x with
      | .sl k l len =>
        match boundA 0 lo, boundA len hi with
        | some a, some b => some ⟨te.size = 1 ∧ 0 ≤ a ∧ a ≤ b ∧ b ≤ (len : Int), .sl k (l + a.toNat) (b.toNat - a.toNat), H⟩
        | _, _ => none
      | .p (.list l) =>
        match boundA 0 lo, boundA l.length hi with
        | some a, some b => some ⟨0 ≤ a ∧ a ≤ b ∧ b ≤ (l.length : Int) ∧ l.all (fun x => x.cells.length == te.size) = true, .p (.list ((l.drop a.toNat).take (b.toNat - a.toNat))), H⟩
        | _, _ => none
      | .p (.nn l) =>
        match boundA 0 lo, hi with
        | some a, none => some ⟨0 ≤ a ∧ a ≤ (l.length : Int) ∧ l.all (fun x => x.cells.length == te.size) = true, .p (.nn (l.drop a.toNat)), H⟩
        | some a, some (.p (.int _ b)) => some ⟨0 ≤ a ∧ a ≤ b ∧ b ≤ (l.length : Int) ∧ l.all (fun x => x.cells.length == te.size) = true, .p (.list ((l.drop a.toNat).take (b.toNat - a.toNat))), H⟩
        | _, _ => none
      | _ => none
    | none => none
  | _ => none

def allocA (ti : TI) (H : Heap) : OV := ⟨ti.zero.length ≤ 1000000, .ptr H.length 0, H ++ [.own (ti.zero.map cv)]⟩

/-- A variable that is boxed: not of an unknown make. -/
def boxA (H : Heap) (x : AV) : OV := ⟨x.cells.all cellOk = true ∧ x.cells.length ≤ 1000000, .ptr H.length 0, H ++ [.own x.cells]⟩

def makeSliceA (T : TypeId → Option TI) (ti : TI) (H : Heap) (n c : AV) : Option OV :=
  match ti.kind, n, c with
  | .slice e, .p (.int _ n), .p (.int _ c) =>
    match T e with
    | some te =>
      match te.zero with
      | [z] => some ⟨te.size = 1 ∧ 0 ≤ n ∧ n ≤ c ∧ c * te.bytes ≤ 140737488355328 ∧ c ≤ 9223372036854775807, .sl H.length 0 n.toNat, H ++ [.own (List.replicate n.toNat (cv z))]⟩
      | _ => none
    | none => none
  | _, _, _ => none

/-- What stands in a slice that is read. -/
def elemsA (H : Heap) : AV → Option (Prop × List AV)
  | .sl k lo len =>
    match hget H k with
    | .own c => some (lo + len ≤ c.length, (c.drop lo).take len)
    | .fro c => some (lo + len ≤ c.length, ((c.drop lo).take len).map .p)
    | .dead => none
  | .p (.list l) => some (l.all PV.one = true, l.map .p)
  | .p (.nn l) => some (l.all PV.one = true, l.map .p)
  | .p .nil => some (True, [])
  | _ => none

def appendA (T : TypeId → Option TI) (ti : TI) (H : Heap) (s x : AV) : Option OV :=
  match ti.kind with
  | .slice e =>
    match T e with
    | some te =>
      match elemsA H x with
      | some (vx, xs) =>
        match s with
        | .sl k lo len =>
          match hget H k with
          | .own c => some ⟨(te.size = 1 ∧ te.zero.length = 1) ∧ vx ∧ xs.all cellOk = true ∧ ((c.drop lo).take len).all cellOk = true ∧ lo + len ≤ c.length ∧ (len + xs.length) * te.bytes ≤ 140737488355328 ∧ len + xs.length ≤ 9223372036854775807, .sl H.length 0 (len + xs.length),
              hset H k .dead ++ [.own ((c.drop lo).take len ++ xs)]⟩
          | _ => none
        | .p .nil => some ⟨(te.size = 1 ∧ te.zero.length = 1) ∧ vx ∧ xs.all cellOk = true ∧ xs.length * te.bytes ≤ 140737488355328 ∧ xs.length ≤ 9223372036854775807, .sl H.length 0 xs.length, H ++ [.own xs]⟩
        | .p (.nn l) => some ⟨(te.size = 1 ∧ te.zero.length = 1) ∧ vx ∧ xs.all cellOk = true ∧ l.all PV.one = true ∧ 0 < xs.length ∧ (l.length + xs.length) * te.bytes ≤ 140737488355328 ∧ l.length + xs.length ≤ 9223372036854775807, .sl H.length 0 (l.length + xs.length), H ++ [.own (l.map .p ++ xs)]⟩
        | _ => none
      | none => none
    | none => none
  | _ => none

/-- Parts, laid into cells. -/
def fillA (place : Nat → Option (Nat × Nat)) (c : List AV) : List (Nat × AV) → Option (Prop × List AV)
  | [] => some (True, c)
  | (i, v) :: r =>
    match place i with
    | some (off, sz) =>
      match fillA place (setC c off v.cells) r with
      | some (p, c') => some ((v.cells.length = sz ∧ off + sz ≤ c.length ∧ v.cells.all cellOk = true) ∧ p, c')
      | none => none
    | none => none

def buildA (T : TypeId → Option TI) (ti : TI) (H : Heap) (parts : List (Nat × AV)) : Option OV :=
  match ti.kind with
  | .struct fs =>
    match fillA (fun i => (fs[i]?).map fun f => (f.1, f.2.2)) (ti.zero.map cv) parts with
    | some (p, c) => some ⟨p, mkAgg c, H⟩
    | none => none
  | .array _ e =>
    match T e with
    | some te =>
      match fillA (fun i => some (i * te.size, te.size)) (ti.zero.map cv) parts with
      | some (p, c) => some ⟨p, mkAgg c, H⟩
      | none => none
    | none => none
  | _ => none

/-- The parts of a slice's literal, all of them, in order. -/
def partsA (sz : Nat) : Nat → List (Nat × AV) → Option (Prop × List PV)
  | _, [] => some (True, [])
  | n, (i, .p v) :: r =>
    match partsA sz (n + 1) r with
    | some (p, l) => some ((i = n ∧ v.cells.length = sz ∧ v.cells.all PV.one = true) ∧ p, v :: l)
    | none => none
  | _, _ => none

def buildSliceA (T : TypeId → Option TI) (ti : TI) (H : Heap) (n : Nat) (parts : List (Nat × AV)) : Option OV :=
  match ti.kind with
  | .slice e =>
    match T e with
    | some te =>
      match partsA te.size 0 parts with
      | some (p, l) => some ⟨p ∧ l.length = n ∧ n * te.size ≤ 16777216 ∧ te.zero.length = te.size, .p (.nn l), H⟩
      | none => none
    | none => none
  | _ => none

def extractA (i : Nat) (H : Heap) : AV → Option OV
  | .p (.tup l) => some ⟨i < l.length, .p (l.getD i default), H⟩
  | .tup l => some ⟨i < l.length, l.getD i .dead, H⟩
  | _ => none

/-- A captured variable, as a pure value: its block has been frozen. -/
def capA (H : Heap) : AV → Option (Prop × PV)
  | .ptr k i =>
    match hget H k with
    | .fro c => some (i ≤ c.length, .ptr (c.drop i))
    | _ => none
  | .p v => some (True, v)
  | _ => none

def capsA (H : Heap) : List AV → Option (Prop × List PV)
  | [] => some (True, [])
  | x :: r =>
    match capA H x, capsA H r with
    | some (p, v), some (q, l) => some (p ∧ q, v :: l)
    | _, _ => none

def makeFuncA (f : FuncId) (H : Heap) (caps : List AV) : Option OV :=
  match capsA H caps with
  | some (p, l) => some ⟨p, .p (.fn f l), H⟩
  | none => none

def minmaxA (f : Int → Int → Int) (H : Heap) : List AV → Option OV
  | [.p (.int .i64 a), .p (.int .i64 b)] => some ⟨True, .p (.int .i64 (f a b)), H⟩
  | _ => none

def builtinA (T : TypeId → Option TI) (b : Builtin) (ts : List TypeId) (H : Heap) (args : List AV) : Option OV :=
  match b, args, ts with
  | .len, [x], [t] =>
    match T t with
    | some ti => lenA ti H x
    | none => none
  | .append, [s, x], [t, t'] =>
    match T t with
    | some ti => if t = t' then appendA T ti H s x else none
    | none => none
  | .min, l, _ => minmaxA (fun a b => if b < a then b else a) H l
  | .max, l, _ => minmaxA (fun a b => if b > a then b else a) H l
  | _, _, _ => none

/-- THE WHOLE: an operation on an abstract state; none: not by this text (a call, say). -/
def opA (T : TypeId → Option TI) (s : St) : Op → Option OV
  | .move x => some ⟨True, s.ev x, s.H⟩
  | .assign x => some ⟨True, s.ev x, s.H⟩
  | .pick c a b => pickA (s.ev a) (s.ev b) s.H (s.ev c)
  | .binOp op t x y _ => binA T op t s.H (s.ev x) (s.ev y)
  | .unOp op _ x => unA op s.H (s.ev x)
  | .convert src dst x => convA T src dst s.H (s.ev x)
  | .load t x => match T t with | some ti => loadA ti s.H (s.ev x) | none => none
  | .store t x v => match T t with | some ti => storeA ti s.H (s.ev v) (s.ev x) | none => none
  | .fieldAddr t x f => match T t with | some ti => fieldAddrA ti f s.H (s.ev x) | none => none
  | .field t x f => match T t with | some ti => bif (s.ev x).isAgg then fieldA T ti f s.H (s.ev x) else none | none => none
  | .indexAddr t x i => match T t with | some ti => indexAddrA T ti s.H (s.ev x) (s.ev i) | none => none
  | .slice t x lo hi none => match T t with | some ti => sliceA T ti s.H (s.ev x) (lo.map s.ev) (hi.map s.ev) | none => none
  | .alloc t => match T t with | some ti => some (allocA ti s.H) | none => none
  | .box _ x => some (boxA s.H (s.ev x))
  | .makeSlice t n c => match T t with | some ti => makeSliceA T ti s.H (s.ev n) (s.ev c) | none => none
  | .build t parts => match T t with | some ti => buildA T ti s.H (parts.toList.map fun p => (p.1, s.ev p.2)) | none => none
  | .buildSlice t n parts => match T t with | some ti => buildSliceA T ti s.H n (parts.toList.map fun p => (p.1, s.ev p.2)) | none => none
  | .extract x i => extractA i s.H (s.ev x)
  | .makeFunc (.func f) first caps => bif first.isEmpty then makeFuncA f s.H (caps.toList.map s.ev) else none
  | .call { callee := .builtin b, args, argTypes } => builtinA T b argTypes.toList s.H (args.toList.map s.ev)
  | _ => none

end Go.Pv
