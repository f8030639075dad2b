/- A program's functions run on plain values: a reckoner for the code of a loaded program, in which slices are rows of values and memory is a short list of the call's own objects. Definitions alone; that it tells the truth is proved beside it. No conditions. -/
import Derived.Orders
import Derived.Laws.IdiomCopy
import Derived.Laws.Append
import Derived.Laws.Tables
import Derived.Laws.Strings
import Derived.Laws.BytesString
import Derived.Laws.MakeOwn
set_option linter.unusedSectionVars false
namespace Go.Ev

/-- what is known of a value -/
inductive AV where
  | int (k : IntKind) (n : Int)
  | bool (b : Bool)
  | str (s : ByteArray)
  | sl (sz n : Nat) (row : Nat → List AV) (full : Bool)
  | osl (sz r off len : Nat) (full : Bool)
  | ref (r off : Nat)
  | eref (r i off : Nat)
  | rref (cs : List AV) (off : Nat)
  | lsl (sz n : Nat) (cs : List AV)
  | lref (cs : List AV) (off : Nat)
  | nilp
  | fn (f : Nat) (first caps : List AV)
  | nilfn
  | agg (cs : List AV)
  | tup (vs : List AV)
  | und
instance : Inhabited AV := ⟨.und⟩

/-- an object of the call's own: a variable's cells; a row that may be written; a row that is not written any more -/
inductive Ob where
  | box (cs : List AV)
  | arr (sz n : Nat) (row : Nat → List AV)
  | fro (sz n : Nat) (row : Nat → List AV)
abbrev Heap := List (Option Ob)
structure St where
  env : List (Option AV)
  heap : Heap

inductive TK where
  | int (k : IntKind) | bool | str | slice (e : Nat) | ptr (e : Nat) | struct (fs : List (Nat × Nat)) | arr (n e : Nat) | fn | other
structure Ty where
  k : TK
  size : Nat
  bytes : Nat
  zero : List AV
  cmp : Option (List TK) := none
def TK.agg : TK → Bool
  | .struct _ => true
  | .arr .. => true
  | _ => false

inductive Mode where
  | pur | fresh | heap | full
structure Ctx where
  ty : List (Option Ty)
  fn : List (Option Func)
  live : List (List (Nat × List Nat))
  mode : List (Nat × Mode)
  /-- functions of whose calls it is told outright what they come to -/
  ext : List (Nat × (List AV → Heap → Option (AV × Heap))) := []
  /-- of a function's own calls: how they are taken, where that is another way -/
  cmode : List (Nat × List (Nat × Mode)) := []
  /-- functions whose result, in mode fresh, is kept own in some of the places of its first struct alone -/
  half : List (Nat × List Nat) := []
def Ctx.tyOf (c : Ctx) (t : Nat) : Option Ty := c.ty.getD t none
def Ctx.kOf (c : Ctx) (t : Nat) : Option TK := match c.tyOf t with
  | some ty => some ty.k
  | none => none
/-- the size of a slice's elements -/
def Ctx.elemSize (c : Ctx) : TK → Option Nat
  | .slice e => match c.tyOf e with
    | some ty => some ty.size
    | none => none
  | _ => some 0
def Ctx.fnOf (c : Ctx) (f : Nat) : Option Func := c.fn.getD f none
def find1 {α : Type} (k : Nat) : List (Nat × α) → Option α
  | [] => none
  | (j, a) :: l => if j = k then some a else find1 k l
def Ctx.modeOf (c : Ctx) (f : Nat) : Mode := (find1 f c.mode).getD .pur
def Ctx.cm (c : Ctx) (f : Nat) : Ctx := { c with mode := ((find1 f c.cmode).getD []) ++ c.mode }

inductive Ex where
  | normal | exit (id : Nat) | ret

def AV.cells : AV → List AV
  | .agg cs => cs
  | a => [a]
def AV.leaf : AV → Bool
  | .agg _ => false
  | .tup _ => false
  | .und => false
  | _ => true

def constLeaf : Value → Option AV
  | .int k n => some (.int k n)
  | .bool b => some (.bool b)
  | .string s => some (.str s)
  | .pointer none => some .nilp
  | .nilFunc => some .nilfn
  | _ => none
def constLeaves : List Value → Option (List AV)
  | [] => some []
  | v :: vs => match constLeaf v, constLeaves vs with
    | some a, some as_ => some (a :: as_)
    | _, _ => none
def constAV : Value → Option AV
  | .agg cs => (constLeaves cs.toList).map .agg
  | v => constLeaf v
/-- a constant of a type -/
def Ctx.constT (c : Ctx) (t : Nat) : Value → Option AV
  | .slice none 0 0 => match c.tyOf t with
    | some ⟨.slice e, _, _, _, _⟩ => match c.tyOf e with
      | some ey => some (.sl ey.size 0 (fun _ => ey.zero) true)
      | none => none
    | _ => none
  | v => constAV v
def Ctx.opdT (c : Ctx) (t : Nat) (e : List (Option AV)) : Operand → Option AV
  | .tmp t => e.getD t none
  | .const v => c.constT t v
  | .func f => some (.fn f [] [])
  | .global _ => none
def Ctx.opdsT (c : Ctx) (e : List (Option AV)) : List Operand → List Nat → Option (List AV)
  | [], _ => some []
  | x :: xs, ts => match c.opdT (ts.headD 0) e x, c.opdsT e xs ts.tail with
    | some a, some as_ => some (a :: as_)
    | _, _ => none
def opd (e : List (Option AV)) : Operand → Option AV
  | .tmp t => e.getD t none
  | .const v => constAV v
  | .func f => some (.fn f [] [])
  | .global _ => none
def opds (e : List (Option AV)) : List Operand → Option (List AV)
  | [] => some []
  | x :: xs => match opd e x, opds e xs with
    | some a, some as_ => some (a :: as_)
    | _, _ => none

/-! ### arithmetic: what must hold, and the value -/
abbrev bl (x y : ByteArray) : Bool := Op.bytesLess x.toList y.toList

def leafEq : TK → AV → AV → Option Bool
  | .int k, .int k1 x, .int k2 y => if k1 = k ∧ k2 = k then some (decide (x = y)) else none
  | .bool, .bool x, .bool y => some (x == y)
  | .str, .str x, .str y => some (decide (x = y))
  | _, _, _ => none
def leavesEq : List TK → List AV → List AV → Option Bool
  | [], [], [] => some true
  | k :: ks, a :: as_, b :: bs => match leafEq k a b, leavesEq ks as_ bs with
    | some x, some y => some (x && y)
    | _, _ => none
  | _, _, _ => none
def bits (op : BinOp) (k : IntKind) (x y : Int) : Option AV :=
  let a := BitVec.ofInt k.bits x
  let b := BitVec.ofInt k.bits y
  match op with
  | .and => some (.int k (k.wrap (a &&& b).toNat))
  | .or => some (.int k (k.wrap (a ||| b).toNat))
  | .xor => some (.int k (k.wrap (a ^^^ b).toNat))
  | .andNot => some (.int k (k.wrap (a &&& ~~~b).toNat))
  | _ => none
def intBin (op : BinOp) (k : IntKind) (x y : Int) : Option (Bool × AV) :=
  match op with
  | .add => some (true, .int k (k.wrap (x + y)))
  | .sub => some (true, .int k (k.wrap (x - y)))
  | .mul => some (true, .int k (k.wrap (x * y)))
  | .quo => some (!decide (y = 0), .int k (k.wrap (x.tdiv y)))
  | .rem => some (!decide (y = 0), .int k (x.tmod y))
  | .eql => some (true, .bool (decide (x = y)))
  | .neq => some (true, .bool (!decide (x = y)))
  | .lss => some (true, .bool (decide (x < y)))
  | .leq => some (true, .bool (decide (x ≤ y)))
  | .gtr => some (true, .bool (decide (y < x)))
  | .geq => some (true, .bool (decide (y ≤ x)))
  | op => (bits op k x y).map fun v => (true, v)
def strBin (op : BinOp) (x y : ByteArray) : Option (Bool × AV) :=
  match op with
  | .add => some (decide (x.size + y.size ≤ 9223372036854775807), .str (x ++ y))
  | .eql => some (true, .bool (decide (x = y)))
  | .neq => some (true, .bool (!decide (x = y)))
  | .lss => some (true, .bool (bl x y))
  | .leq => some (true, .bool (!bl y x))
  | .gtr => some (true, .bool (bl y x))
  | .geq => some (true, .bool (!bl x y))
  | _ => none
def binAV (c : Ctx) (op : BinOp) (t : Nat) (a b : AV) : Option (Bool × AV) :=
  match a, b with
  | .int k x, .int k' y =>
    match op with
    | .shl => some (!decide (y < 0), .int k (k.wrap (x * 2 ^ (min y.toNat k.bits))))
    | .shr => some (!decide (y < 0), .int k (x.fdiv (2 ^ (min y.toNat k.bits))))
    | op => if k = k' then intBin op k x y else none
  | .str x, .str y => strBin op x y
  | .bool x, .bool y =>
    match op, c.kOf t with
    | .eql, some .bool => some (true, .bool (x == y))
    | .neq, some .bool => some (true, .bool (!(x == y)))
    | _, _ => none
  | .agg xs, .agg ys =>
    match c.tyOf t with
    | some ⟨.struct _, _, _, _, some ks⟩ =>
      match op, leavesEq ks xs ys with
      | .eql, some r => some (true, .bool r)
      | .neq, some r => some (true, .bool (!r))
      | _, _ => none
    | _ => none
  | .nilp, .nilp => match op, c.kOf t with
    | .eql, some (.ptr _) => some (true, .bool true)
    | .neq, some (.ptr _) => some (true, .bool false)
    | _, _ => none
  | .ref .., .nilp | .nilp, .ref .. => match op, c.kOf t with
    | .eql, some (.ptr _) => some (true, .bool false)
    | .neq, some (.ptr _) => some (true, .bool true)
    | _, _ => none
  | _, _ => none
def unAV (op : UnOp) (a : AV) : Option AV :=
  match op, a with
  | .not, .bool b => some (.bool !b)
  | .neg, .int k n => some (.int k (k.wrap (0 - n)))
  | _, _ => none
def isU8 : List AV → Bool
  | [.int .u8 _] => true
  | _ => false
def u8Of : List AV → UInt8
  | [.int .u8 n] => UInt8.ofNat n.toNat
  | _ => 0
def allU8 (row : Nat → List AV) : Nat → Bool
  | 0 => true
  | n + 1 => allU8 row n && isU8 (row n)
def bytesOf (n : Nat) (row : Nat → List AV) : ByteArray := ⟨((List.range n).map fun i => u8Of (row i)).toArray⟩
def rowB (s : ByteArray) : Nat → List AV := fun i => [.int .u8 ((s.data.getD i 0).toNat : Int)]
def convAV (c : Ctx) (src dst : Nat) (a : AV) : Option (Bool × AV) :=
  match a with
  | .int _ n => match c.kOf src, c.kOf dst with
    | some (.int _), some (.int k) => some (true, .int k (k.wrap n))
    | _, _ => none
  | .str s => match c.kOf src, c.kOf dst with
    | some .str, some .str => some (true, .str s)
    | some .str, some (.slice e) => match c.kOf e with
      | some (.int .u8) => some (true, .sl 1 s.size (rowB s) false)
      | _ => none
    | _, _ => none
  | .sl sz n row _ => if sz = 1 then (match c.kOf src, c.kOf dst with
    | some (.slice e), some .str => match c.kOf e with
      | some (.int .u8) => some (allU8 row n, .str (bytesOf n row))
      | _ => none
    | _, _ => none) else none
  | _ => none

/-! ### memory -/
def ldCells (ty : Ty) (cs : List AV) (off : Nat) : Option AV :=
  if ty.k.agg then (if off + ty.size ≤ cs.length then some (.agg ((cs.drop off).take ty.size)) else none) else cs[off]?
def stCells (cs : List AV) (off : Nat) (vs : List AV) : List AV := cs.take off ++ vs ++ cs.drop (off + vs.length)
def Heap.at (H : Heap) (r : Nat) : Option Ob := H.getD r none
def rowsOf (H : Heap) (r : Nat) : Option (Nat × Nat × (Nat → List AV)) :=
  match H.at r with
  | some (.arr sz n row) => some (sz, n, row)
  | some (.fro sz n row) => some (sz, n, row)
  | _ => none
def loadAV (H : Heap) (ty : Ty) (p : AV) : Option AV :=
  match p with
  | .ref r off => match H.at r with
    | some (.box cs) => ldCells ty cs off
    | _ => none
  | .rref cs off => ldCells ty cs off
  | .lref cs off => ldCells ty cs off
  | .eref r i off => match rowsOf H r with
    | some (_, n, row) => if i < n then ldCells ty (row i) off else none
    | _ => none
  | _ => none
def allLeaf : List AV → Bool
  | [] => true
  | a :: as_ => a.leaf && allLeaf as_
mutual
/-- holds nothing of the call's own -/
def pureA : AV → Bool
  | .osl .. => false
  | .ref .. => false
  | .eref .. => false
  | .lsl .. => false
  | .lref .. => false
  | .fn _ a b => pureL a && pureL b
  | .agg cs => pureL cs
  | .tup cs => pureL cs
  | .rref cs _ => pureL cs
  | .und => false
  | _ => true
def pureL : List AV → Bool
  | [] => true
  | a :: as_ => pureA a && pureL as_
end
def storeAV (H : Heap) (ty : Ty) (p v : AV) : Option Heap :=
  let vs := v.cells
  if vs.length = ty.size ∧ allLeaf vs = true then
    match p with
    | .ref r off => match H.at r with
      | some (.box cs) => if off + vs.length ≤ cs.length then some (H.set r (some (.box (stCells cs off vs)))) else none
      | _ => none
    | .eref r i off => match H.at r with
      | some (.arr sz n row) => if i < n ∧ off + vs.length ≤ sz ∧ pureL vs = true then some (H.set r (some (.arr sz n fun j => if j = i then stCells (row i) off vs else row j))) else none
      | _ => none
    | _ => none
  else none
def fieldPtr (off : Nat) : AV → Option AV
  | .ref r o => some (.ref r (o + off))
  | .eref r i o => some (.eref r i (o + off))
  | .rref cs o => some (.rref cs (o + off))
  | .lref cs o => some (.lref cs (o + off))
  | _ => none
def idxOK (i : Int) (n : Nat) : Bool := decide (0 ≤ i) && decide (i < (n : Int))
def indexPtr (size : Nat) (x : AV) (i : Int) : Option (Bool × AV) :=
  match x with
  | .sl sz n row _ => if sz = size then some (idxOK i n, .rref (row i.toNat) 0) else none
  | .osl sz r off len _ => if sz = size then some (idxOK i len, .eref r (off + i.toNat) 0) else none
  | .lsl sz n cs => if sz = size then some (idxOK i n, .lref cs (i.toNat * sz)) else none
  | _ => none
def cutOK (n : Nat) (l h m : Int) : Bool := decide (0 ≤ m) && (decide (m ≤ (n : Int)) && (decide (0 ≤ h) && (decide (h ≤ m) && (decide (0 ≤ l) && decide (l ≤ h)))))
def intOpt (n : Int) : Option AV → Option Int
  | none => some n
  | some (.int _ i) => some i
  | some _ => none
def sliceAV (k : TK) (size : Nat) (x : AV) (lo hi mx : Option AV) : Option (Bool × AV) :=
  match k, x with
  | .str, .str s => match intOpt 0 lo, intOpt s.size hi, mx with
    | some l, some h, none => some (cutOK s.size l h s.size, .str (s.extract l.toNat h.toNat))
    | _, _, _ => none
  | .slice _, .sl sz n row full => match intOpt 0 lo, intOpt n hi, intOpt n mx with
    | some l, some h, some m =>
      if sz = size ∧ (mx.isSome = true → hi.isSome = true) then some (cutOK n l h m, .sl sz (h.toNat - l.toNat) (fun i => row (l.toNat + i)) (match mx with | some _ => decide (m = h) | none => full && decide (h = (n : Int)))) else none
    | _, _, _ => none
  | .slice _, .osl sz r off len full => match intOpt 0 lo, intOpt len hi, intOpt len mx with
    | some l, some h, some m =>
      if sz = size ∧ (mx.isSome = true → hi.isSome = true) then some (cutOK len l h m && (match mx with | some _ => decide (m = h) | none => !full || decide (h = (len : Int))), .osl sz r (off + l.toNat) (h.toNat - l.toNat) (match mx with | some _ => true | none => full)) else none
    | _, _, _ => none
  | _, _ => none
def fillAV (places : List (Nat × Nat)) : List AV → List (Nat × AV) → Option (List AV)
  | cells, [] => some cells
  | cells, (i, v) :: rest => match places[i]? with
    | none => none
    | some (off, size) => if v.cells.length = size ∧ off + size ≤ cells.length ∧ allLeaf v.cells = true then fillAV places (stCells cells off v.cells) rest else none
def partsOf (e : List (Option AV)) : List (Nat × Operand) → Option (List (Nat × AV))
  | [] => some []
  | (i, x) :: xs => match opd e x, partsOf e xs with
    | some a, some as_ => some ((i, a) :: as_)
    | _, _ => none
def Ctx.places (c : Ctx) : List (Nat × Nat) → Option (List (Nat × Nat))
  | [] => some []
  | (off, t) :: fs => match c.tyOf t, c.places fs with
    | some ty, some ps => some ((off, ty.size) :: ps)
    | _, _ => none
def buildAV (c : Ctx) (t : Nat) (parts : List (Nat × AV)) : Option AV :=
  match c.tyOf t with
  | some ty => match ty.k with
    | .struct fs => match c.places fs with
      | some ps => (fillAV ps ty.zero parts).map .agg
      | none => none
    | .arr n e => match c.tyOf e with
      | some ey => (fillAV ((List.range n).map fun i => (i * ey.size, ey.size)) ty.zero parts).map .agg
      | none => none
    | _ => none
  | none => none
/-- a literal's rows -/
def litRows (size : Nat) : List (List AV) → List (Nat × AV) → Option (List (List AV))
  | rows, [] => some rows
  | rows, (i, v) :: rest => if v.cells.length = size ∧ i < rows.length ∧ allLeaf v.cells = true ∧ pureL v.cells = true then litRows size (rows.set i v.cells) rest else none

/-- n times the same cells -/
def rep (n : Nat) (z : List AV) : List AV := match n with
  | 0 => []
  | n + 1 => z ++ rep n z

/-- a literal of a row -/
def litAV (size n : Nat) (zero : List AV) (ps : List (Nat × AV)) : Option AV :=
  match litRows size (List.replicate n zero) ps with
  | some rows => some (.sl size n (fun i => rows.getD i zero) true)
  | none => if n * size = 0 then none else (fillAV ((List.range n).map fun i => (i * size, size)) (rep n zero) ps).map fun cs => .lsl size n cs

/-! ### what refers to what -/
mutual
def refsA : AV → List Nat
  | .osl _ r .. => [r]
  | .ref r _ => [r]
  | .eref r .. => [r]
  | .lsl _ _ cs => refsL cs
  | .lref cs _ => refsL cs
  | .fn _ a b => refsL a ++ refsL b
  | .agg cs => refsL cs
  | .tup cs => refsL cs
  | _ => []
def refsL : List AV → List Nat
  | [] => []
  | a :: as_ => refsA a ++ refsL as_
end
def inList (r : Nat) : List Nat → Bool
  | [] => false
  | x :: xs => if x = r then true else inList r xs
def refsOb : Option Ob → List Nat
  | some (.box cs) => refsL cs
  | _ => []
def close (H : Heap) : Nat → List Nat → List Nat → Option (List Nat)
  | 0, _, _ => none
  | _ + 1, [], acc => some acc
  | k + 1, r :: todo, acc => if inList r acc = true then close H k todo acc else close H k (todo ++ refsOb (H.at r)) (acc ++ [r])
def idxIn (r : Nat) : List Nat → Nat → Option Nat
  | [], _ => none
  | x :: xs, i => if x = r then some i else idxIn r xs (i + 1)
mutual
def renA (f : Nat → Option Nat) : AV → Option AV
  | .osl sz r o l u => (f r).map fun r => .osl sz r o l u
  | .ref r o => (f r).map fun r => .ref r o
  | .eref r i o => (f r).map fun r => .eref r i o
  | .lsl sz n cs => (renL f cs).map fun cs => .lsl sz n cs
  | .lref cs o => (renL f cs).map fun cs => .lref cs o
  | .fn g a b => match renL f a, renL f b with
    | some a, some b => some (.fn g a b)
    | _, _ => none
  | .agg cs => (renL f cs).map .agg
  | .tup cs => (renL f cs).map .tup
  | a => some a
def renL (f : Nat → Option Nat) : List AV → Option (List AV)
  | [] => some []
  | a :: as_ => match renA f a, renL f as_ with
    | some a, some as_ => some (a :: as_)
    | _, _ => none
end
def renOb (f : Nat → Option Nat) : Option Ob → Option (Option Ob)
  | some (.box cs) => (renL f cs).map fun cs => some (.box cs)
  | o => some o
def renObs (f : Nat → Option Nat) (H : Heap) : List Nat → Option Heap
  | [] => some []
  | r :: rs => match renOb f (H.at r), renObs f H rs with
    | some o, some os => some (o :: os)
    | _, _ => none
/-- the objects that some values lead to, and the values over these alone -/
def subHeap (H : Heap) (as_ : List AV) : Option (List Nat × List AV × Heap) :=
  match close H 200 (refsL as_) [] with
  | none => none
  | some rs => match renL (fun r => idxIn r rs 0) as_, renObs (fun r => idxIn r rs 0) H rs with
    | some as_, some H' => some (rs, as_, H')
    | _, _ => none
mutual
/-- read as_ a plain value -/
def frzA (H : Heap) (u : Bool) : AV → Option AV
  | .osl _ r off len full => match rowsOf H r with
    | some (sz, _, row) => some (.sl sz len (fun i => row (off + i)) (u && full))
    | none => none
  | .sl sz n row full => some (.sl sz n row (u && full))
  | .agg cs => (frzL H u cs).map .agg
  | .tup cs => (frzL H u cs).map .tup
  | .fn g a b => match frzL H u a, frzL H u b with
    | some a, some b => some (.fn g a b)
    | _, _ => none
  | .ref .. => none
  | .eref .. => none
  | .rref .. => none
  | .lsl .. => none
  | .lref .. => none
  | .und => none
  | a => some a
def frzL (H : Heap) (u : Bool) : List AV → Option (List AV)
  | [] => some []
  | a :: as_ => match frzA H u a, frzL H u as_ with
    | some a, some as_ => some (a :: as_)
    | _, _ => none
end
mutual
/-- no row in it -/
def flatA : AV → Bool
  | .int .. => true
  | .bool _ => true
  | .str _ => true
  | .nilp => true
  | .nilfn => true
  | .agg cs => flatL cs
  | .tup cs => flatL cs
  | _ => false
def flatL : List AV → Bool
  | [] => true
  | a :: as_ => flatA a && flatL as_
end
def sealOb : Option Ob → Option Ob
  | some (.arr sz n row) => some (.fro sz n row)
  | o => o
def sealAll (H : Heap) : List Nat → Heap
  | [] => H
  | r :: rs => sealAll (H.set r (sealOb (H.at r))) rs

def allLt (n : Nat) : List Nat → Bool
  | [] => true
  | r :: rs => decide (r < n) && allLt n rs
def setAll (H : Heap) : List Nat → Heap → Heap
  | r :: rs, o :: os => setAll (H.set r o) rs os
  | _, _ => H

/-! ### the builtins that write -/
def roomOf (n bytes : Nat) : Bool := decide (n * bytes ≤ 70368744177664) && decide (n ≤ 70368744177664)
def srcOf (H : Heap) : AV → Option (Nat × Nat × (Nat → List AV))
  | .sl sz n row _ => some (sz, n, row)
  | .osl _ r off len _ => match rowsOf H r with
    | some (sz, _, row) => some (sz, len, fun i => row (off + i))
    | none => none
  | .str s => some (1, s.size, rowB s)
  | _ => none
def catRow (n : Nat) (row row' : Nat → List AV) : Nat → List AV := fun i => if i < n then row i else row' (i - n)
section
variable {ρ : Type}
/-- m rows behind x -/
def appendE (sz bytes : Nat) (H : Heap) (x : AV) (m : Nat) (row' : Nat → List AV) (κ : AV → Heap → Option ρ) : Option ρ :=
  match x with
  | .sl sx n row full =>
    if sx = sz ∨ n = 0 then
      bif decide (m = 0) then κ x H
      else bif full && roomOf (n + m) bytes then κ (.osl sz H.length 0 (n + m) false) (H ++ [some (.arr sz (n + m) (catRow n row row'))]) else none
    else none
  | .osl _ r off len full => match H.at r with
    | some (.arr sx N row) =>
      if sx = sz then
        bif decide (m = 0) then κ x H
        else bif full then
          (bif roomOf (len + m) bytes then κ (.osl sz H.length 0 (len + m) false) (H ++ [some (.arr sz (len + m) (catRow len (fun i => row (off + i)) row'))]) else none)
        else bif decide (off + len + m ≤ N) then κ (.osl sz r off (len + m) false) (H.set r (some (.arr sz N fun i => if off + len ≤ i ∧ i < off + len + m then row' (i - (off + len)) else row i)))
        else bif decide (off = 0) && (decide (len = N) && roomOf (len + m) bytes) then κ (.osl sz H.length 0 (len + m) false) (H.set r none ++ [some (.arr sz (len + m) (catRow len row row'))])
        else none
      else none
    | _ => none
  | _ => none
def copyE (H : Heap) (x y : AV) (κ : AV → Heap → Option ρ) : Option ρ :=
  match srcOf H y, x with
  | some (sy, m, row'), .osl _ r off len _ => match H.at r with
    | some (.arr sz N row) => if sy = sz ∨ m = 0 then κ (.int .i64 ((min m len : Nat) : Int)) (H.set r (some (.arr sz N fun i => if off ≤ i ∧ i < off + min m len then row' (i - off) else row i))) else none
    | _ => none
  | _, _ => none
/-- what a row had is no more -/
def clearE (H : Heap) (z : List AV) (x : AV) (κ : AV → Heap → Option ρ) : Option ρ :=
  match x with
  | .osl _ r off len _ => match H.at r with
    | some (.arr sz N row) => κ (.tup []) (H.set r (some (.arr sz N fun i => if off ≤ i ∧ i < off + len then z else row i)))
    | _ => none
  | _ => none
def lenAV : Option TK → AV → Option Int
  | some (.slice _), .sl _ n _ _ => some n
  | some (.slice _), .osl _ _ _ n _ => some n
  | some (.slice _), .lsl _ n _ => some n
  | some .str, .str s => some s.size
  | _, _ => none
def capAV : Option TK → AV → Option Int
  | some (.slice _), .sl _ n _ true => some n
  | some (.slice _), .osl _ _ _ n true => some n
  | _, _ => none
def maxAV (mx : Bool) : AV → AV → Option AV
  | .int k x, .int k' y => if k = k' then some (.int k (if mx then (if y > x then y else x) else (if y < x then y else x))) else none
  | .str x, .str y => some (.str (if mx then (if bl x y then y else x) else (if bl y x then y else x)))
  | _, _ => none
def foldMax (mx : Bool) : AV → List AV → Option AV
  | x, [] => some x
  | x, y :: ys => match maxAV mx x y with
    | some z => foldMax mx z ys
    | none => none

/-! ### one operation -/
abbrev Kn := List (Nat × Bool)
def lookKn (t : Nat) : Operand → Kn → Option Bool
  | .tmp u, kn => if u = t then find1 t kn else find1 u kn
  | _, _ => none
def knOf (kn : Kn) : Operand → Option Bool
  | .tmp u => find1 u kn
  | _ => none
def pickE (kn : Kn) (c : Operand) (vc va vb : Option AV) (κ : AV → Option ρ) : Option ρ :=
  match knOf kn c with
  | some true => match va with | some v => κ v | none => none
  | some false => match vb with | some v => κ v | none => none
  | none => match vc, va, vb with
    | some (.bool c), some (.bool x), some (.bool y) => κ (.bool (bif c then x else y))
    | some (.bool c), va, vb => bif c then (match va with | some v => κ v | none => none) else (match vb with | some v => κ v | none => none)
    | _, _, _ => none
def chk (x : Option (Bool × AV)) (κ : AV → Option ρ) : Option ρ :=
  match x with
  | some (b, v) => bif b then κ v else none
  | none => none
def opt {α : Type} (x : Option α) (κ : α → Option ρ) : Option ρ :=
  match x with
  | some v => κ v
  | none => none
def noInt : Option TK → Bool
  | some .str => true
  | some (.slice _) => true
  | _ => false
def isInt : Option TK → Bool
  | some (.int _) => true
  | _ => false
/-- the same, a row's bounds as_ a condition -/
def loadE (H : Heap) (ty : Ty) (p : AV) (κ : AV → Option ρ) : Option ρ :=
  match p with
  | .eref r i off => match rowsOf H r with
    | some (_, n, row) => bif decide (i < n) then opt (ldCells ty (row i) off) κ else none
    | _ => none
  | p => opt (loadAV H ty p) κ
def storeE (H : Heap) (ty : Ty) (p v : AV) (κ : Heap → Option ρ) : Option ρ :=
  match p with
  | .eref r i off => match H.at r with
    | some (.arr sz n row) => if (v.cells.length = ty.size ∧ allLeaf v.cells = true) ∧ (off + v.cells.length ≤ sz ∧ pureL v.cells = true) then
        (bif decide (i < n) then κ (H.set r (some (.arr sz n fun j => if j = i then stCells (row i) off v.cells else row j))) else none) else none
    | _ => none
  | p => opt (storeAV H ty p v) κ
theorem loadE_eq (H : Heap) (ty : Ty) (p : AV) (κ : AV → Option ρ) : loadE H ty p κ = opt (loadAV H ty p) κ := by
  unfold loadE
  split
  · rename_i r i off
    unfold loadAV
    simp only
    cases rowsOf H r with
    | none => rfl
    | some x =>
      obtain ⟨sz, n, row⟩ := x
      by_cases h : i < n <;> simp [h, opt]
  · rfl
theorem storeE_eq (H : Heap) (ty : Ty) (p v : AV) (κ : Heap → Option ρ) : storeE H ty p v κ = opt (storeAV H ty p v) κ := by
  unfold storeE
  split
  · rename_i r i off
    unfold storeAV
    simp only
    cases H.at r with
    | none => simp only; split <;> rfl
    | some o =>
      cases o with
      | arr sz n row =>
        simp only
        by_cases h1 : v.cells.length = ty.size ∧ allLeaf v.cells = true
        · rw [if_pos h1]
          by_cases h2 : off + v.cells.length ≤ sz ∧ pureL v.cells = true
          · rw [if_pos ⟨h1, h2⟩]
            by_cases h3 : i < n
            · rw [if_pos ⟨h3, h2⟩, decide_eq_true h3]; rfl
            · rw [if_neg fun h => h3 h.1, decide_eq_false h3]; rfl
          · rw [if_neg fun h => h2 h.2, if_neg fun h => h2 h.2]; rfl
        · rw [if_neg h1, if_neg fun h => h1 h.1]; rfl
      | box cs => simp only; split <;> rfl
      | fro sz n row => simp only; split <;> rfl
  · rfl
def builtinE (c : Ctx) (b : Builtin) (ats : List Nat) (as_ : List AV) (H : Heap) (κ : AV → Heap → Option ρ) : Option ρ :=
  match b, ats, as_ with
  | .len, t :: _, [x] => opt (lenAV (c.kOf t) x) fun n => κ (.int .i64 n) H
  | .cap, t :: _, [x] => opt (capAV (c.kOf t) x) fun n => κ (.int .i64 n) H
  | .max, _, x :: xs => opt (foldMax true x xs) fun v => κ v H
  | .min, _, x :: xs => opt (foldMax false x xs) fun v => κ v H
  | .append, [st, xt], [x, y] => match c.tyOf st with
    | some ⟨.slice e, _, _, _, _⟩ => match c.tyOf e with
      | some ey => match y with
        | .int _ m => if isInt (c.kOf xt) = true then (bif decide (0 ≤ m) && roomOf m.toNat ey.bytes then appendE ey.size ey.bytes H x m.toNat (fun _ => ey.zero) κ else none) else none
        | y => if noInt (c.kOf xt) = true then opt (srcOf H y) fun (sy, m, row') => if sy = ey.size ∨ m = 0 then appendE ey.size ey.bytes H x m row' κ else none else none
      | none => none
    | _ => none
  | .copy, [st, _], [x, y] => match c.tyOf st with
    | some ⟨.slice e, _, _, _, _⟩ => match c.tyOf e, x with
      | some ey, .osl sz .. => if sz = ey.size then copyE H x y κ else none
      | _, _ => none
    | _ => none
  | .clear, st :: _, [x] => match c.tyOf st with
    | some ⟨.slice e, _, _, _, _⟩ => match c.tyOf e, x with
      | some ey, .osl sz .. => if sz = ey.size then clearE H ey.zero x κ else none
      | _, _ => none
    | _ => none
  | _, _, _ => none
def opE (c : Ctx) (call : Nat → List AV → Heap → (AV → Heap → Option ρ) → Option ρ) (o : Oper) (kn : Kn) (e : List (Option AV)) (H : Heap) (κ : Option AV → Heap → Option ρ) : Option ρ :=
  match o.op with
  | .move x => opt (c.opdT o.type e x) fun v => κ (some v) H
  | .assign x => opt (c.opdT o.type e x) fun v => κ (some v) H
  | .pick x a b => pickE kn x (opd e x) (c.opdT o.type e a) (c.opdT o.type e b) fun v => κ (some v) H
  | .alloc t => opt (c.tyOf t) fun ty => κ (some (.ref H.length 0)) (H ++ [some (.box ty.zero)])
  | .box t x => opt (c.opdT t e x) fun v => if allLeaf v.cells = true then κ (some (.ref H.length 0)) (H ++ [some (.box v.cells)]) else none
  | .build t parts => opt (partsOf e parts.toList) fun ps => opt (buildAV c t ps) fun v => κ (some v) H
  | .buildSlice t n parts => match c.tyOf t with
    | some ⟨.slice et, _, _, _, _⟩ => opt (c.tyOf et) fun ey => opt (partsOf e parts.toList) fun ps => if n * ey.size ≤ 16777216 then opt (litAV ey.size n ey.zero ps) (fun v => κ (some v) H) else none
    | _ => none
  | .load t x => opt (opd e x) fun p => opt (c.tyOf t) fun ty => loadE H ty p fun v => κ (some v) H
  | .store t x y => opt (opd e x) fun p => opt (c.opdT t e y) fun v => opt (c.tyOf t) fun ty => storeE H ty p v fun H => κ none H
  | .nilCheck x => opt (opd e x) fun p => match p with
    | .ref .. => κ (some p) H
    | .eref .. => κ (some p) H
    | .rref .. => κ (some p) H
    | .lref .. => κ (some p) H
    | .fn .. => κ (some p) H
    | _ => none
  | .binOp op t x y _ => opt (opd e x) fun a => opt (opd e y) fun b => chk (binAV c op t a b) fun v => κ (some v) H
  | .unOp op _ x => opt (opd e x) fun a => opt (unAV op a) fun v => κ (some v) H
  | .convert s d x => opt (opd e x) fun a => match a with
    | .osl .. => opt (srcOf H a) fun (sz, n, row) => chk (convAV c s d (.sl sz n row false)) fun v => κ (some v) H
    | a => chk (convAV c s d a) fun v => κ (some v) H
  | .makeFunc (.func f) first caps => opt (opds e first.toList) fun a => opt (opds e caps.toList) fun b => κ (some (.fn f a b)) H
  | .makeSlice t l m => opt (opd e l) fun a => opt (opd e m) fun b => match c.tyOf t, a, b with
    | some ⟨.slice et, _, _, _, _⟩, .int .i64 l, .int .i64 m => opt (c.tyOf et) fun ey =>
      bif decide (0 ≤ l) && (decide (l = m) && roomOf l.toNat ey.bytes) then κ (some (.osl ey.size H.length 0 l.toNat true)) (H ++ [some (.arr ey.size l.toNat fun _ => ey.zero)]) else none
    | _, _, _ => none
  | .slice t x lo hi mx => opt (opd e x) fun a => opt (c.kOf t) fun k => opt (c.elemSize k) fun sz => match lo.map (opd e), hi.map (opd e), mx.map (opd e) with
    | some none, _, _ => none
    | _, some none, _ => none
    | _, _, some none => none
    | lo, hi, mx => chk (sliceAV k sz a lo.join hi.join mx.join) fun v => κ (some v) H
  | .fieldAddr s x f => opt (opd e x) fun p => match c.tyOf s with
    | some ⟨.struct fs, _, _, _, _⟩ => opt fs[f]? fun (off, t) => opt (c.tyOf t) fun ty => if ty.size = 0 then none else opt (fieldPtr off p) fun v => κ (some v) H
    | _ => none
  | .field s x f => opt (opd e x) fun a => match c.tyOf s, a with
    | some ⟨.struct fs, _, _, _, _⟩, .agg cs => opt fs[f]? fun (off, t) => opt (c.tyOf t) fun ty => opt (ldCells ty cs off) fun v => κ (some v) H
    | _, _ => none
  | .indexAddr t x i => opt (opd e x) fun a => opt (opd e i) fun b => match c.tyOf t, b with
    | some ⟨.slice et, _, _, _, _⟩, .int _ i => opt (c.tyOf et) fun ey => chk (indexPtr ey.size a i) fun v => κ (some v) H
    | _, _ => none
  | .index t x i => opt (opd e x) fun a => opt (opd e i) fun b => match c.kOf t, a, b with
    | some .str, .str s, .int _ i => bif idxOK i s.size then κ (some (.int .u8 ((s.data.getD i.toNat 0).toNat : Int))) H else none
    | some (.arr n et), .agg cs, .int _ i => opt (c.tyOf et) fun ey => bif idxOK i n then opt (ldCells ey cs (i.toNat * ey.size)) (fun v => κ (some v) H) else none
    | _, _, _ => none
  | .extract x i => opt (opd e x) fun a => match a with
    | .tup vs => opt vs[i]? fun v => κ (some v) H
    | _ => none
  | .call cl => opt (c.opdsT e cl.args.toList cl.argTypes.toList) fun as_ => match cl.callee with
    | .builtin b => builtinE c b cl.argTypes.toList as_ H fun v H => κ (some v) H
    | .value f => opt (opd e f) fun g => match g with
      | .fn f first caps => call f (first ++ as_ ++ caps) H fun v H => κ (some v) H
      | _ => none
    | .invoke .. => none
  | _ => none

def putE (e : List (Option AV)) (d : Option Tmp) (v : Option AV) : List (Option AV) :=
  match d, v with
  | some d, some v => e.set d (some v)
  | some d, none => e.set d (some .und)
  | none, _ => e
/-- the same, with every place told before it goes on -/
def setK {σ : Type} : List (Option AV) → Nat → Option AV → (List (Option AV) → σ) → σ
  | [], _, _, κ => κ []
  | _ :: as_, 0, v, κ => κ (v :: as_)
  | a :: as_, d + 1, v, κ => setK as_ d v fun as' => κ (a :: as')
theorem setK_eq {σ : Type} : ∀ (e : List (Option AV)) (d : Nat) (v : Option AV) (κ : List (Option AV) → σ), setK e d v κ = κ (e.set d v)
  | [], _, _, κ => by simp [setK]
  | _ :: as_, 0, v, κ => by simp [setK]
  | a :: as_, d + 1, v, κ => by simp [setK, setK_eq as_ d v]
def putK {σ : Type} (e : List (Option AV)) (d : Option Tmp) (v : Option AV) (κ : List (Option AV) → σ) : σ :=
  match d, v with
  | some d, some v => setK e d (some v) κ
  | some d, none => setK e d (some .und) κ
  | none, _ => κ e
theorem putK_eq {σ : Type} (e : List (Option AV)) (d : Option Tmp) (v : Option AV) (κ : List (Option AV) → σ) : putK e d v κ = κ (putE e d v) := by
  unfold putK putE
  split <;> simp [setK_eq]
def knPut (kn : Kn) : Option Tmp → Kn
  | some d => kn.filter fun p => !decide (p.1 = d)
  | none => kn
/-- what is left of a row of operations; what is left behind a region: names at which two evaluations are held against one another -/
def contO (R : Kn → St → (St → Option ρ) → Option ρ) (kn : Kn) (s : St) (κ : St → Option ρ) : Option ρ := R kn s κ
def joinO (κ : St → Option ρ) (s : St) : Option ρ := κ s
def opsE (c : Ctx) (call : Nat → List AV → Heap → (AV → Heap → Option ρ) → Option ρ) (all : List Oper) : List Oper → Kn → St → (St → Option ρ) → Option ρ
  | [], _, s, κ => κ s
  | o :: os, kn, s, κ =>
    let exec (kn : Kn) : Option ρ := opE c call o kn s.env s.heap fun v H => putK s.env o.dst v fun e => contO (opsE c call all os) (knPut kn o.dst) ⟨e, H⟩ κ
    let skip (kn : Kn) : Option ρ := putK s.env o.dst none fun e => opsE c call all os (knPut kn o.dst) ⟨e, s.heap⟩ κ
    match o.guard with
    | none => exec kn
    | some (j, want) => match (all[j]?).bind (·.dst) with
      | none => none
      | some t => match find1 t kn with
        | some b => if b = want then exec kn else skip kn
        | none => match s.env.getD t none with
          | some (.bool b) => bif b then (if want = true then exec ((t, true) :: kn) else skip ((t, true) :: kn)) else (if want = false then exec ((t, false) :: kn) else skip ((t, false) :: kn))
          | some .und => skip kn
          | _ => none

/-! ### loops, code, calls -/
def keep (ts : List Nat) : Nat → List (Option AV) → List (Option AV)
  | _, [] => []
  | i, a :: as_ => (if inList i ts = true then a else none) :: keep ts (i + 1) as_
def someL : List (Option AV) → List AV
  | [] => []
  | some a :: as_ => a :: someL as_
  | none :: as_ => someL as_
def renEnv (f : Nat → Option Nat) : List (Option AV) → Option (List (Option AV))
  | [] => some []
  | none :: as_ => match renEnv f as_ with
    | some as_ => some (none :: as_)
    | none => none
  | some a :: as_ => match renA f a, renEnv f as_ with
    | some a, some as_ => some (some a :: as_)
    | _, _ => none
/-- at a loop's head: what lives on, and the objects that it leads to; the caller's m objects stay where they are -/
def gc (m : Nat) (ts : List Nat) (s : St) : Option St :=
  let e := keep ts 0 s.env
  match close s.heap 200 (List.range m ++ refsL (someL e)) [] with
  | none => none
  | some rs => match renEnv (fun r => idxIn r rs 0) e, renObs (fun r => idxIn r rs 0) s.heap rs with
    | some e, some H => some ⟨e, H⟩
    | _, _ => none
def loopG (B : (Ex → St → Option ρ) → St → Option ρ) (g : St → Option St) : Nat → (Ex → St → Option ρ) → St → Option ρ
  | 0, _, _ => none
  | m + 1, κ, s => B (fun x s => match x with
      | .normal => match g s with
        | none => none
        | some s => loopG B g m κ s
      | x => κ x s) s
/-- rounds from a head on; what does not live on is dropped first -/
def loopN (B : (Ex → St → Option ρ) → St → Option ρ) (g : St → Option St) (m : Nat) (κ : Ex → St → Option ρ) (s : St) : Option ρ :=
  match g s with
  | none => none
  | some s => loopG B g m κ s
theorem loopN_zero (B : (Ex → St → Option ρ) → St → Option ρ) (g : St → Option St) (κ : Ex → St → Option ρ) (s : St) : loopN B g 0 κ s = none := by
  unfold loopN
  split <;> rfl
theorem loopN_succ (B : (Ex → St → Option ρ) → St → Option ρ) (g : St → Option St) (m : Nat) (κ : Ex → St → Option ρ) (s : St) :
    loopN B g (m + 1) κ s = match g s with
    | none => none
    | some s => B (fun x s => match x with
      | .normal => loopN B g m κ s
      | x => κ x s) s := rfl
def headOf : Code → Nat
  | .region id _ _ => id
  | .seq a _ => headOf a
  | .block _ a => headOf a
  | .loop a => headOf a
  | .scope a => headOf a
  | _ => 0
/-- behind a region: what does not live on may be dropped -/
def endR (lv : List (Nat × List Nat)) (m id : Nat) (κ : St → Option ρ) (s : St) : Option ρ :=
  match find1 (1000000 + id) lv with
  | none => κ s
  | some ts => match gc m ts s with
    | none => none
    | some s => joinO κ s
/-! ### regions whose order is left open: what may be done in any order -/
/-- what an operation has to do with memory: nothing, reads, writes -/
def cls (c : Ctx) (o : Oper) : Nat :=
  match o.op with
  | .load .. => 1
  | .convert .. => 1
  | .call cl => match cl.callee with
    | .value (.func f) => match c.modeOf f with
      | .fresh => 2
      | .heap => 2
      | _ => 1
    | .value _ => 2
    | .builtin .len => 0
    | .builtin .cap => 0
    | .builtin .max => 0
    | .builtin .min => 0
    | _ => 2
  | .store .. => 2
  | .alloc _ => 2
  | .box .. => 2
  | .makeSlice .. => 2
  | _ => 0
def befOf (ms : List Nat) (es : List Edge) : Nat := es.foldl (fun m e => bif Region.binds .any e then m ||| (1 <<< e.on) ||| ms.getD e.on 0 else m) 0
def befs : List Oper → List Nat → List Nat
  | [], ms => ms
  | o :: os, ms => befs os (ms ++ [befOf ms o.after.toList])
/-- a store that writes back what the region has loaded from the same place -/
def wbLoad (t p v : Nat) (x : Oper) : Bool :=
  match x.op with
  | .load t' (.tmp p') => Nat.beq t' t && (Nat.beq p' p && (decide (x.dst = some v) && x.guard.isNone))
  | _ => false
def wbOne (ops : Array Oper) (j : Nat) (o : Oper) : Bool :=
  match o.op with
  | .store t (.tmp p) (.tmp v) => o.guard.isNone && (List.range j).any fun i => (match ops[i]? with | some x => wbLoad t p v x | none => false) &&
      (List.range j).all fun k => match ops[k]? with
        | none => true
        | some y => (decide (k < i) || decide (y.dst ≠ some p)) && (decide (k ≤ i) || decide (y.dst ≠ some v))
  | _ => false
/-- every write of the region is one -/
def wbReg (c : Ctx) (ops : Array Oper) : Bool := (List.range ops.size).all fun j => match ops[j]? with
  | none => true
  | some o => decide (cls c o ≤ 1) || wbOne ops j o
def clsR (c : Ctx) (ops : Array Oper) (o : Oper) : Nat := if wbReg c ops = true then min (cls c o) 1 else cls c o
def dstIs (p : Nat) (o : Oper) : Bool := match o.dst with | some d => Nat.beq d p | none => false
/-- the temporary of before the region that a load's place comes from -/
def rootOf (ops : Array Oper) (o : Oper) (p : Nat) : Option Nat :=
  bif ops.toList.any (dstIs p) then
    match o.after.toList.find? (fun e => Region.binds .any e && (match ops[e.on]? with | some x => dstIs p x | none => false)) with
    | some e => match ops[e.on]? with
      | some x => match x.op with
        | .fieldAddr _ (.tmp q) _ => bif ops.toList.any (dstIs q) || (List.range ops.size).any (fun k => !Nat.beq k e.on && (match ops[k]? with | some y => dstIs p y | none => false)) then none else some q
        | _ => none
      | none => none
    | none => none
  else some p
def wlOf (ops : Array Oper) (o : Oper) : Option Nat := match o.op with | .load _ (.tmp p) => rootOf ops o p | _ => none
/-- makes an object and does no more -/
def allocB (o : Oper) : Bool := match o.op with | .alloc _ => true | .box .. => true | .makeSlice .. => true | _ => false
/-- makes objects, writes no box -/
def newB (c : Ctx) (o : Oper) : Bool := match o.op with
  | .alloc _ => true
  | .box .. => true
  | .makeSlice .. => true
  | .call cl => match cl.callee with
    | .builtin .append => true
    | .builtin .copy => true
    | .value _ => decide (cls c o = 2)
    | _ => false
  | _ => false
def refAt (e : List (Option AV)) (q : Nat) : Bool := match e.getD q none with | some (.ref ..) => true | _ => false
/-- x stands before y in the text -/
def rel0 (c : Ctx) (ops : Array Oper) (x y : Oper) : Bool := decide (cls c x + cls c y ≤ 2) || (decide (cls c x ≤ 1) && allocB y || wbReg c ops)
def wkS (c : Ctx) (ops : Array Oper) (x y : Oper) : Bool := newB c y && (wlOf ops x).isSome
/-- an object that may be made at any time: none looks at its name before all that writes before it in the text is done -/
def freeB (c : Ctx) (ops : Array Oper) (j : Nat) : Bool := match ops[j]? with
  | none => false
  | some y => match y.op with
    | .alloc _ => match y.dst with
      | none => false
      | some t => y.guard.isNone && (List.range ops.size).all fun k => Nat.beq k j || match ops[k]? with
        | none => true
        | some z => decide (z.dst ≠ some t) && (!(inList t (z.looksAt ops)) || (List.range j).all fun i => ((befs ops.toList []).getD k 0).testBit i || match ops[i]? with
          | none => true
          | some x => decide (cls c x ≤ 1))
    | _ => false
/-- a store into an object that was made in the region, behind operation i in the text -/
def ownS (ops : Array Oper) (i j : Nat) : Bool := match ops[j]? with
  | none => false
  | some y => match y.op with
    | .store _ (.tmp p) _ => (List.range j).any fun k => decide (i < k) && match ops[k]? with
      | none => false
      | some a => match a.op with
        | .alloc _ => decide (a.dst = some p) && (a.guard.isNone && (List.range ops.size).all fun m => Nat.beq m k || match ops[m]? with
          | none => true
          | some z => decide (z.dst ≠ some p))
        | _ => false
    | _ => false
def regOk (c : Ctx) (ops : Array Oper) : Bool :=
  let ms := befs ops.toList []
  Region.noSelect ops && (List.range ops.size).all fun j => match ops[j]? with
    | none => true
    | some y => (y.after.toList.all fun e => !Region.binds .any e || decide (e.on < j)) && (List.range j).all fun i => (ms.getD j 0).testBit i || match ops[i]? with
      | none => true
      | some x => x.apart ops y && (rel0 c ops x y || (wkS c ops x y || (wkS c ops y x || (freeB c ops j || decide (cls c x ≤ 1) && ownS ops i j))))
/-- the roots that must be known to be boxes -/
def needs (c : Ctx) (ops : Array Oper) : List Nat :=
  bif ops.toList.any (newB c) then
    let ms := befs ops.toList []
    (List.range ops.size).flatMap fun j => match ops[j]? with
      | none => []
      | some y => (List.range j).flatMap fun i => match ops[i]? with
        | none => []
        | some x => bif newB c x || newB c y then (bif (ms.getD j 0).testBit i || rel0 c ops x y then [] else (wlOf ops x).toList ++ (wlOf ops y).toList) else []
  else []
def rootsB (c : Ctx) (ops : Array Oper) (e : List (Option AV)) : Bool := (needs c ops).all (refAt e)

def codeE (c : Ctx) (lv : List (Nat × List Nat)) (m k : Nat) (call : Bool → Nat → List AV → Heap → (AV → Heap → Option ρ) → Option ρ) : Code → (Ex → St → Option ρ) → St → Option ρ
  | .skip, κ, s => κ .normal s
  | .label _, κ, s => κ .normal s
  | .region id ops dr, κ, s => bif !dr || rootsB c ops s.env then opsE c (call dr) ops.toList ops.toList [] s (endR lv m id (κ .normal)) else none
  | .seq a b, κ, s => codeE c lv m k call a (fun x s => match x with
    | .normal => codeE c lv m k call b κ s
    | x => κ x s) s
  | .cond x a b, κ, s => match opd s.env x with
    | some (.bool t) => bif t then codeE c lv m k call a κ s else codeE c lv m k call b κ s
    | _ => none
  | .block id a, κ, s => codeE c lv m k call a (fun x s => match x with
    | .exit j => if j = id then κ .normal s else κ (.exit j) s
    | x => κ x s) s
  | .loop a, κ, s => loopN (codeE c lv m k call a) (gc m ((find1 (headOf a) lv).getD [])) k κ s
  | .exit id, κ, s => κ (.exit id) s
  | .ret, κ, s => κ .ret s
  | .scope a, κ, s => codeE c lv m k call a κ s
  | _, _, _ => none
def resE (c : Ctx) (s : St) : List ResultVar → Option (List AV)
  | [] => some []
  | .tmp t :: rs => match s.env.getD t none, resE c s rs with
    | some v, some vs => some (v :: vs)
    | _, _ => none
  | .cell a t :: rs => match s.env.getD a none, c.tyOf t with
    | some p, some ty => match loadAV s.heap ty p, resE c s rs with
      | some v, some vs => some (v :: vs)
      | _, _ => none
    | _, _ => none
def oneOf : List AV → AV
  | [v] => v
  | vs => .tup vs
/-- in a region of open order: a call leaves the boxes be that it is handed -/
def sameE : List AV → List AV → Option ρ → Option ρ
  | [], [], K => K
  | .int k a :: as_, .int k' b :: bs, K => if k = k' then (bif decide (a = b) then sameE as_ bs K else none) else none
  | .bool a :: as_, .bool b :: bs, K => bif (a == b) then sameE as_ bs K else none
  | .str a :: as_, .str b :: bs, K => bif decide (a = b) then sameE as_ bs K else none
  | .ref r o :: as_, .ref r' o' :: bs, K => if r = r' ∧ o = o' then sameE as_ bs K else none
  | .osl sz r o n u :: as_, .osl sz' r' o' n' u' :: bs, K => if sz = sz' ∧ r = r' ∧ o = o' ∧ u = u' then (bif decide (n = n') then sameE as_ bs K else none) else none
  | _, _, _ => none
def keptL (H : Heap) : List Nat → Heap → Option ρ → Option ρ
  | r :: rs, o :: os, K => match H.at r, o with
    | some (.box as_), some (.box bs) => sameE as_ bs (keptL H rs os K)
    | some (.box _), _ => none
    | _, some (.box _) => none
    | _, _ => keptL H rs os K
  | _, _, K => K
def keptE (dr : Bool) (H : Heap) (rs : List Nat) (os : Heap) (K : Option ρ) : Option ρ := if dr = true then keptL H rs os K else K
/-- a result of which some places are kept own, the others read as_ plain values: none of what is kept lies in what is frozen -/
def halfL (H : Heap) (f : Nat → Option Nat) (ps : List Nat) : Nat → List AV → Option (List AV)
  | _, [] => some []
  | i, a :: as_ => match (if inList i ps = true then renA f a else if ((refsA a).all fun r => (f r).isNone) = true then frzA H false a else none), halfL H f ps (i + 1) as_ with
    | some a, some as_ => some (a :: as_)
    | _, _ => none
def halfA (H : Heap) (f : Nat → Option Nat) (ps : List Nat) : AV → Option AV
  | .tup (.agg cs :: rest) => match halfL H f ps 0 cs, halfL H f [] 0 rest with
    | some cs, some rest => some (.tup (.agg cs :: rest))
    | _, _ => none
  | _ => none
def pickL (ps : List Nat) : Nat → List AV → List Nat
  | _, [] => []
  | i, a :: as_ => (if inList i ps = true then refsA a else []) ++ pickL ps (i + 1) as_
def keptRefs (h : Option (List Nat)) (r : AV) : List Nat := match h with
  | none => refsA r
  | some ps => match r with
    | .tup (.agg cs :: _) => pickL ps 0 cs
    | _ => []
def keptA (h : Option (List Nat)) (H : Heap) (f : Nat → Option Nat) (r : AV) : Option AV := match h with
  | none => renA f r
  | some ps => halfA H f ps r
/-- what a call comes to, over the caller's objects -/
def callE (c : Ctx) (dr : Bool) (ev : Nat → List AV → Heap → (AV → Heap → Option ρ) → Option ρ) (g : Nat) (as_ : List AV) (H : Heap) (κ : AV → Heap → Option ρ) : Option ρ :=
  match c.modeOf g with
  | .pur => opt (frzL H true as_) fun as' => ev g as' [] fun r H' => opt (frzA H' false r) fun r =>
    if pureL as_ = true ∨ flatA r = true then κ r H else if dr = true then none else κ r (sealAll H (refsL as_))
  | .full => opt (frzL H true as_) fun as' => ev g as' [] fun r H' => opt (frzA H' true r) fun r =>
    if pureL as_ = true ∨ flatA r = true then κ r H else if dr = true then none else κ r (sealAll H (refsL as_))
  | .fresh => opt (frzL H true as_) fun as' => ev g as' [] fun r H' => opt (close H' 200 (keptRefs (find1 g c.half) r) []) fun ks =>
    let f : Nat → Option Nat := fun i => (idxIn i ks 0).map fun j => H.length + j
    opt (keptA (find1 g c.half) H' f r) fun r => opt (renObs f H' ks) fun os => κ r (sealAll H (refsL as_) ++ os)
  | .heap => opt (subHeap H as_) fun (rs, as_, H0) => if allLt H.length rs = true then ev g as_ H0 fun r H' => opt (close H' 200 (List.range rs.length ++ refsA r) []) fun ks =>
    let f : Nat → Option Nat := fun i => if i < rs.length then rs[i]? else (idxIn i ks 0).map fun j => H.length + (j - rs.length)
    opt (renA f r) fun r => opt (renObs f H' ks) fun os => keptE dr H rs (os.take rs.length) (κ r (setAll H rs (os.take rs.length) ++ os.drop rs.length)) else none
def evalF (c : Ctx) : Nat → Nat → List AV → Heap → (AV → Heap → Option ρ) → Option ρ
  | 0, _, _, _, _ => none
  | k + 1, f, as_, H, κ => match find1 f c.ext with
    | some e => opt (e as_ H) fun p => κ p.1 p.2
    | none => match c.fnOf f with
      | none => none
      | some fn => match fn.body with
        | none => none
        | some code => codeE (c.cm f) (c.live.getD f []) H.length k (fun dr => callE (c.cm f) dr (evalF c k)) code (fun x s => match x with
          | .exit _ => none
          | _ => opt (resE c s fn.results.toList) fun vs => κ (oneOf vs) s.heap) ⟨as_.map some ++ List.replicate (fn.ntmps - as_.length) none, H⟩
end
end Go.Ev

set_option linter.unusedSectionVars false
namespace Go.Ev
open Go

/-- blocks that are none of the call's business -/
class Gh where
  g : Nat → Prop
variable [Gh]

def Live (H : Heap) (r : Nat) : Prop := (∃ cs, H.at r = some (.box cs)) ∨ ∃ sz n row, H.at r = some (.arr sz n row)
/-- a block that is there and is none of the call's own that may be written -/
def Imm (β : Nat → Nat) (H : Heap) (W : Array Obj) (b : Nat) : Prop := b < W.size ∧ (∀ r, Live H r → β r ≠ b) ∧ ¬ Gh.g b

def cellsAt (W : Array Obj) (b : Nat) : Option Nat := match W[b]? with
  | some (.cells c _ _) => some c.size
  | _ => none
theorem cellsAt_of {W : Array Obj} {b : Nat} {c : Array Value} {e : TypeId} {fz : Nat × Nat} (h : W[b]? = some (.cells c e fz)) : cellsAt W b = some c.size := by unfold cellsAt; rw [h]
theorem cellsAt_congr {W W' : Array Obj} {b : Nat} (h : W'[b]? = W[b]?) : cellsAt W' b = cellsAt W b := by unfold cellsAt; rw [h]

/-- a value of the machine is as_ told -/
inductive R (β : Nat → Nat) (H : Heap) (W : Array Obj) : Value → AV → Prop
  | int (k : IntKind) (n : Int) : R β H W (.int k n) (.int k n)
  | bool (b : Bool) : R β H W (.bool b) (.bool b)
  | str (s : ByteArray) : R β H W (.string s) (.str s)
  | sl0 (a : Option Addr) (c sz : Nat) (row : Nat → List AV) (full : Bool) (hf : full = true → c = 0) : R β H W (.slice a 0 c) (.sl sz 0 row full)
  | sl (b o n c sz : Nat) (row : Nat → List AV) (full : Bool) (cs : Array Value) (e : TypeId) (fz : Nat × Nat) (vf : Nat → Nat → Value)
      (hi : Imm β H W b) (hW : W[b]? = some (.cells cs e fz)) (hc : n ≤ c) (hf : full = true → c = n)
      (hl : ∀ i, i < n → (row i).length = sz ∧ allLeaf (row i) = true ∧ pureL (row i) = true)
      (hv : ∀ i j, i < n → j < sz → cs[o + i * sz + j]? = some (vf i j))
      (hR : ∀ i j, i < n → j < sz → R β H W (vf i j) ((row i).getD j .und)) :
      R β H W (.slice (some ⟨b, o, none⟩) n c) (.sl sz n row full)
  | osl (r off len c sz N m : Nat) (row : Nat → List AV) (full : Bool) (a : Option Addr) (ha : 0 < c → a = some ⟨β r, off * sz, none⟩)
      (hH : H.at r = some (.arr sz N row) ∨ H.at r = some (.fro sz N row)) (hW : cellsAt W (β r) = some m) (hn : off + len ≤ N) (hc : len ≤ c) (hf : full = true → c = len)
      (hs : (off + c) * sz ≤ m) (hu : full = false → N ≤ off + c) : R β H W (.slice a len c) (.osl sz r off len full)
  | osld (sz r off len c b o : Nat) (full : Bool) (a : Option Addr) (ha : 0 < c → a = some ⟨b, o, none⟩) (hc : len ≤ c) (hf : full = true → c = len) (hr : r < H.length) (hH : H.at r = none) : R β H W (.slice a len c) (.osl sz r off len full)
  | ref (r off : Nat) (cs : List AV) (hH : H.at r = some (.box cs)) : R β H W (.pointer (some ⟨β r, off, none⟩)) (.ref r off)
  | eref (r i off sz N : Nat) (row : Nat → List AV) (hH : H.at r = some (.arr sz N row) ∨ H.at r = some (.fro sz N row)) (hi : i < N) : R β H W (.pointer (some ⟨β r, i * sz + off, none⟩)) (.eref r i off)
  | erefd (r i off : Nat) (a : Addr) (hr : r < H.length) (hH : H.at r = none) : R β H W (.pointer (some a)) (.eref r i off)
  | rref (b o off : Nat) (as_ : List AV) (cs : Array Value) (e : TypeId) (fz : Nat × Nat) (vf : Nat → Value)
      (hi : Imm β H W b) (hW : W[b]? = some (.cells cs e fz)) (hl : allLeaf as_ = true ∧ pureL as_ = true)
      (hv : ∀ j, j < as_.length → cs[o + j]? = some (vf j)) (hR : ∀ j, j < as_.length → R β H W (vf j) (as_.getD j .und)) :
      R β H W (.pointer (some ⟨b, o + off, none⟩)) (.rref as_ off)
  | lsl (b o n sz : Nat) (as_ : List AV) (cs : Array Value) (e : TypeId) (fz : Nat × Nat) (vf : Nat → Value)
      (hi : Imm β H W b) (hW : W[b]? = some (.cells cs e fz)) (hl : allLeaf as_ = true) (hn : as_.length = n * sz)
      (hv : ∀ j, j < as_.length → cs[o + j]? = some (vf j)) (hR : ∀ j, j < as_.length → R β H W (vf j) (as_.getD j .und)) :
      R β H W (.slice (some ⟨b, o, none⟩) n n) (.lsl sz n as_)
  | lref (b o off : Nat) (as_ : List AV) (cs : Array Value) (e : TypeId) (fz : Nat × Nat) (vf : Nat → Value)
      (hi : Imm β H W b) (hW : W[b]? = some (.cells cs e fz)) (hl : allLeaf as_ = true)
      (hv : ∀ j, j < as_.length → cs[o + j]? = some (vf j)) (hR : ∀ j, j < as_.length → R β H W (vf j) (as_.getD j .und)) :
      R β H W (.pointer (some ⟨b, o + off, none⟩)) (.lref as_ off)
  | nilp : R β H W (.pointer none) .nilp
  | fn (f : Nat) (vs us : Array Value) (as_ bs : List AV) (hv : vs.size = as_.length) (hu : us.size = bs.length)
      (hR : ∀ j, j < as_.length → R β H W (vs.getD j undef) (as_.getD j .und)) (hS : ∀ j, j < bs.length → R β H W (us.getD j undef) (bs.getD j .und)) :
      R β H W (.func (.func f) vs us) (.fn f as_ bs)
  | nilfn : R β H W .nilFunc .nilfn
  | agg (vs : Array Value) (as_ : List AV) (hv : vs.size = as_.length) (hl : allLeaf as_ = true) (hR : ∀ j, j < as_.length → R β H W (vs.getD j undef) (as_.getD j .und)) : R β H W (.agg vs) (.agg as_)
  | tup (vs : Array Value) (as_ : List AV) (hv : vs.size = as_.length) (hR : ∀ j, j < as_.length → R β H W (vs.getD j undef) (as_.getD j .und)) : R β H W (.tuple vs) (.tup as_)
  | und : R β H W undef .und

/-- the call's own objects lie in memory as_ told -/
structure HR (β : Nat → Nat) (H : Heap) (W : Array Obj) : Prop where
  inj : ∀ r r', Live H r → Live H r' → β r = β r' → r = r'
  gh : ∀ b, Gh.g b → b < W.size ∧ ∀ r, Live H r → β r ≠ b
  box : ∀ r as_, H.at r = some (.box as_) → ∃ vs e, W[β r]? = some (.cells vs e (0, 0)) ∧ vs.size = as_.length ∧ allLeaf as_ = true ∧ ∀ j, j < as_.length → R β H W (vs.getD j undef) (as_.getD j .und)
  arr : ∀ r sz n row, H.at r = some (.arr sz n row) → ∃ vs e fz, W[β r]? = some (.cells vs e fz) ∧ n * sz ≤ vs.size ∧ vs.size ≤ fz.1 + (if fz.1 < fz.2 then 0 else vs.size) ∧
    (∀ i, i < n → (row i).length = sz ∧ allLeaf (row i) = true ∧ pureL (row i) = true) ∧ ∀ i j, i < n → j < sz → R β H W (vs.getD (i * sz + j) undef) ((row i).getD j .und)
  fro : ∀ r sz n row, H.at r = some (.fro sz n row) → ∃ vs e fz, Imm β H W (β r) ∧ W[β r]? = some (.cells vs e fz) ∧ n * sz ≤ vs.size ∧
    (∀ i, i < n → (row i).length = sz ∧ allLeaf (row i) = true ∧ pureL (row i) = true) ∧ ∀ i j, i < n → j < sz → R β H W (vs.getD (i * sz + j) undef) ((row i).getD j .und)

/-- how objects and memory may go on -/
structure Evo (β : Nat → Nat) (H : Heap) (W : Array Obj) (β' : Nat → Nat) (H' : Heap) (W' : Array Obj) : Prop where
  size : W.size ≤ W'.size
  gh : ∀ b, Gh.g b → b < W.size → W'[b]? = W[b]?
  imm : ∀ b, Imm β H W b → W'[b]? = W[b]? ∧ Imm β' H' W' b
  len : H.length ≤ H'.length
  box : ∀ r as_, H.at r = some (.box as_) → β' r = β r ∧ ∃ as', H'.at r = some (.box as')
  arr : ∀ r sz n row, H.at r = some (.arr sz n row) → H'.at r = none ∨ (β' r = β r ∧ (∃ row', H'.at r = some (.arr sz n row') ∨ H'.at r = some (.fro sz n row')) ∧ cellsAt W' (β r) = cellsAt W (β r))
  fro : ∀ r sz n row, H.at r = some (.fro sz n row) → β' r = β r ∧ H'.at r = some (.fro sz n row) ∧ cellsAt W' (β r) = cellsAt W (β r)
  dead : ∀ r, r < H.length → H.at r = none → H'.at r = none

theorem Evo.refl (β : Nat → Nat) (H : Heap) (W : Array Obj) : Evo β H W β H W :=
  ⟨Nat.le_refl _, fun _ _ _ => rfl, fun _ h => ⟨rfl, h⟩, Nat.le_refl _, fun _ as_ h => ⟨rfl, as_, h⟩, fun _ _ _ row h => .inr ⟨rfl, ⟨row, .inl h⟩, rfl⟩, fun _ _ _ _ h => ⟨rfl, h, rfl⟩, fun _ _ h => h⟩

omit [Gh] in
theorem Heap.at_lt {H : Heap} {r : Nat} {o : Ob} (h : H.at r = some o) : r < H.length := by
  unfold Heap.at at h
  rcases Nat.lt_or_ge r H.length with hl | hl
  · exact hl
  · simp [hl] at h

theorem Evo.trans {β β' β'' : Nat → Nat} {H H' H'' : Heap} {W W' W'' : Array Obj} (h : Evo β H W β' H' W') (k : Evo β' H' W' β'' H'' W'') : Evo β H W β'' H'' W'' where
  size := Nat.le_trans h.size k.size
  gh b hb hl := (k.gh b hb (Nat.lt_of_lt_of_le hl h.size)).trans (h.gh b hb hl)
  imm b hb := by
    obtain ⟨e1, i1⟩ := h.imm b hb
    obtain ⟨e2, i2⟩ := k.imm b i1
    exact ⟨e2.trans e1, i2⟩
  len := Nat.le_trans h.len k.len
  box r as_ hr := by
    obtain ⟨e1, as', h1⟩ := h.box r as_ hr
    obtain ⟨e2, as'', h2⟩ := k.box r as' h1
    exact ⟨e2.trans e1, as'', h2⟩
  arr r sz n row hr := by
    have hlt : r < H'.length := Nat.lt_of_lt_of_le (Heap.at_lt hr) h.len
    rcases h.arr r sz n row hr with hd | ⟨e1, ⟨row', h1⟩, hc⟩
    · exact .inl (k.dead r hlt hd)
    · rcases h1 with h1 | h1
      · rcases k.arr r sz n row' h1 with hd | ⟨e2, h2, hc2⟩
        · exact .inl hd
        · exact .inr ⟨e2.trans e1, h2, by rw [← hc, ← e1]; exact hc2⟩
      · obtain ⟨e2, h2, hc2⟩ := k.fro r sz n row' h1
        exact .inr ⟨e2.trans e1, ⟨row', .inr h2⟩, by rw [← hc, ← e1]; exact hc2⟩
  fro r sz n row hr := by
    obtain ⟨e1, h1, c1⟩ := h.fro r sz n row hr
    obtain ⟨e2, h2, c2⟩ := k.fro r sz n row h1
    exact ⟨e2.trans e1, h2, by rw [← c1, ← e1]; exact c2⟩
  dead r hl hr := k.dead r (Nat.lt_of_lt_of_le hl h.len) (h.dead r hl hr)

theorem R.stays {β β' : Nat → Nat} {H H' : Heap} {W W' : Array Obj} (k : Evo β H W β' H' W') {v : Value} {a : AV} (h : R β H W v a) : R β' H' W' v a := by
  induction h with
  | int k n => exact .int k n
  | bool b => exact .bool b
  | str s => exact .str s
  | sl0 a c sz row full hf => exact .sl0 a c sz row full hf
  | sl b o n c sz row full cs e fz vf hi hW hc hf hl hv hR ih =>
    obtain ⟨e1, i1⟩ := k.imm b hi
    exact .sl b o n c sz row full cs e fz vf i1 (e1.trans hW) hc hf hl hv ih
  | osl r off len c sz N m row full a ha hH hW hn hc hf hs hu =>
    rcases hH with hH | hH
    · rcases k.arr r sz N row hH with hd | ⟨e1, ⟨row', h1⟩, hm⟩
      · exact .osld sz r off len c (β r) (off * sz) full a ha hc hf (Nat.lt_of_lt_of_le (Heap.at_lt hH) k.len) hd
      · exact .osl r off len c sz N m row' full a (by rw [e1]; exact ha) h1 (by rw [e1, hm]; exact hW) hn hc hf hs hu
    · obtain ⟨e1, h1, hm⟩ := k.fro r sz N row hH
      exact .osl r off len c sz N m row full a (by rw [e1]; exact ha) (.inr h1) (by rw [e1, hm]; exact hW) hn hc hf hs hu
  | osld sz r off len c b o full a ha hc hf hr hH => exact .osld sz r off len c b o full a ha hc hf (Nat.lt_of_lt_of_le hr k.len) (k.dead r hr hH)
  | ref r off cs hH =>
    obtain ⟨e1, as', h1⟩ := k.box r cs hH
    rw [← e1]
    exact .ref r off as' h1
  | eref r i off sz N row hH hi =>
    rcases hH with hH | hH
    · rcases k.arr r sz N row hH with hd | ⟨e1, ⟨row', h1⟩, hm⟩
      · exact .erefd r i off _ (Nat.lt_of_lt_of_le (Heap.at_lt hH) k.len) hd
      · rw [← e1]; exact .eref r i off sz N row' h1 hi
    · obtain ⟨e1, h1, hm⟩ := k.fro r sz N row hH
      rw [← e1]; exact .eref r i off sz N row (.inr h1) hi
  | erefd r i off a hr hH => exact .erefd r i off a (Nat.lt_of_lt_of_le hr k.len) (k.dead r hr hH)
  | rref b o off as_ cs e fz vf hi hW hl hv hR ih =>
    obtain ⟨e1, i1⟩ := k.imm b hi
    exact .rref b o off as_ cs e fz vf i1 (e1.trans hW) hl hv ih
  | lsl b o n sz as_ cs e fz vf hi hW hl hn hv hR ih =>
    obtain ⟨e1, i1⟩ := k.imm b hi
    exact .lsl b o n sz as_ cs e fz vf i1 (e1.trans hW) hl hn hv ih
  | lref b o off as_ cs e fz vf hi hW hl hv hR ih =>
    obtain ⟨e1, i1⟩ := k.imm b hi
    exact .lref b o off as_ cs e fz vf i1 (e1.trans hW) hl hv ih
  | nilp => exact .nilp
  | fn f vs us as_ bs hv hu hR hS ihR ihS => exact .fn f vs us as_ bs hv hu ihR ihS
  | nilfn => exact .nilfn
  | agg vs as_ hv hl hR ih => exact .agg vs as_ hv hl ih
  | tup vs as_ hv hR ih => exact .tup vs as_ hv ih
  | und => exact .und
end Go.Ev

set_option linter.unusedSectionVars false
namespace Go.Ev
open Go

theorem at_app_lt {H : Heap} {o : Option Ob} {r : Nat} (h : r < H.length) : Heap.at (H ++ [o]) r = H.at r := by
  simp [Heap.at, List.getD_eq_getElem?_getD, List.getElem?_append_left h]
theorem at_app_eq {H : Heap} {o : Option Ob} : Heap.at (H ++ [o]) H.length = o := by
  simp [Heap.at, List.getD_eq_getElem?_getD]
theorem at_app_gt {H : Heap} {o : Option Ob} {r : Nat} (h : H.length < r) : Heap.at (H ++ [o]) r = none := by
  simp [Heap.at, List.getD_eq_getElem?_getD, List.getElem?_append_right (Nat.le_of_lt h)]
  rw [List.getElem?_eq_none (by simp; omega)]; rfl
theorem at_app {H : Heap} {o : Option Ob} {r : Nat} {x : Ob} (h : Heap.at (H ++ [o]) r = some x) : (r < H.length ∧ H.at r = some x) ∨ (r = H.length ∧ o = some x) := by
  rcases Nat.lt_trichotomy r H.length with hl | hl | hl
  · rw [at_app_lt hl] at h; exact .inl ⟨hl, h⟩
  · subst hl; rw [at_app_eq] at h; exact .inr ⟨rfl, h⟩
  · rw [at_app_gt hl] at h; cases h
theorem at_set_eq {H : Heap} {o : Option Ob} {r : Nat} (h : r < H.length) : Heap.at (H.set r o) r = o := by
  simp [Heap.at, List.getD_eq_getElem?_getD, List.getElem?_set_self h]
theorem at_set_ne {H : Heap} {o : Option Ob} {r q : Nat} (h : q ≠ r) : Heap.at (H.set r o) q = H.at q := by
  simp [Heap.at, List.getD_eq_getElem?_getD, List.getElem?_set_ne (Ne.symm h)]
theorem at_set {H : Heap} {o : Option Ob} {r q : Nat} {x : Ob} (h : Heap.at (H.set r o) q = some x) : (q = r ∧ o = some x) ∨ (q ≠ r ∧ H.at q = some x) := by
  by_cases e : q = r
  · subst e
    by_cases hl : q < H.length
    · rw [at_set_eq hl] at h; exact .inl ⟨rfl, h⟩
    · have : q < (H.set q o).length := Heap.at_lt h
      rw [List.length_set] at this; exact absurd this hl
  · rw [at_set_ne e] at h; exact .inr ⟨e, h⟩

/-- one more block -/
theorem push_lt {W : Array Obj} {o : Obj} {b : Nat} (h : b < W.size) : (W.push o)[b]? = W[b]? := by
  rw [Array.getElem?_push, if_neg (by omega)]
theorem push_eq {W : Array Obj} {o : Obj} : (W.push o)[W.size]? = some o := by simp

theorem some_lt {W : Array Obj} {b : Nat} {o : Obj} (h : W[b]? = some o) : b < W.size := by
  rcases Nat.lt_or_ge b W.size with hl | hl
  · exact hl
  · simp [hl] at h
theorem cells_lt {W : Array Obj} {b m : Nat} (h : cellsAt W b = some m) : b < W.size := by
  unfold cellsAt at h
  split at h
  · rename_i he; exact some_lt he
  · cases h

variable [Gh]
theorem HR.lt {β : Nat → Nat} {H : Heap} {W : Array Obj} (h : HR β H W) {r : Nat} (hl : Live H r) : β r < W.size := by
  rcases hl with ⟨cs, hc⟩ | ⟨sz, n, row, hc⟩
  · obtain ⟨vs, e, hw, _⟩ := h.box r cs hc; exact some_lt hw
  · obtain ⟨vs, e, fz, hw, _⟩ := h.arr r sz n row hc; exact some_lt hw

/-- (B') a block that is never written -/
theorem Evo.push {β : Nat → Nat} {H : Heap} {W : Array Obj} (h : HR β H W) (o : Obj) : Evo β H W β H (W.push o) where
  size := by simp
  gh b _ hl := push_lt hl
  imm b hb := ⟨push_lt hb.1, by have := hb.1; simp; omega, hb.2⟩
  len := Nat.le_refl _
  box r as_ hr := ⟨rfl, as_, hr⟩
  arr r sz n row hr := .inr ⟨rfl, ⟨row, .inl hr⟩, cellsAt_congr (push_lt (h.lt (.inr ⟨_, _, _, hr⟩)))⟩
  fro r sz n row hr := ⟨rfl, hr, by obtain ⟨vs, e, fz, hi, _⟩ := h.fro r sz n row hr; exact cellsAt_congr (push_lt hi.1)⟩
  dead _ _ hr := hr
theorem HR.push {β : Nat → Nat} {H : Heap} {W : Array Obj} (h : HR β H W) (o : Obj) : HR β H (W.push o) where
  inj := h.inj
  gh b hb := ⟨by have := (h.gh b hb).1; simp; omega, (h.gh b hb).2⟩
  box r as_ hr := by
    obtain ⟨vs, e, hw, hs, hl, hR⟩ := h.box r as_ hr
    exact ⟨vs, e, by rw [push_lt (some_lt hw)]; exact hw, hs, hl, fun j hj => (hR j hj).stays (Evo.push h o)⟩
  arr r sz n row hr := by
    obtain ⟨vs, e, fz, hw, hs, hz, hl, hR⟩ := h.arr r sz n row hr
    exact ⟨vs, e, fz, by rw [push_lt (some_lt hw)]; exact hw, hs, hz, hl, fun i j hi hj => (hR i j hi hj).stays (Evo.push h o)⟩
  fro r sz n row hr := by
    obtain ⟨vs, e, fz, hi, hw, hs, hl, hR⟩ := h.fro r sz n row hr
    exact ⟨vs, e, fz, ((Evo.push h o).imm _ hi).2, by rw [push_lt (some_lt hw)]; exact hw, hs, hl, fun i j hi hj => (hR i j hi hj).stays (Evo.push h o)⟩
theorem imm_new {β : Nat → Nat} {H : Heap} {W : Array Obj} (h : HR β H W) (o : Obj) : Imm β H (W.push o) W.size :=
  ⟨by simp, fun _ hr => Nat.ne_of_lt (h.lt hr), fun hg => Nat.lt_irrefl _ (h.gh _ hg).1⟩

/-- a number more among the objects' places -/
def upd (β : Nat → Nat) (r b : Nat) : Nat → Nat := fun q => if q = r then b else β q
theorem upd_eq {β : Nat → Nat} {r b : Nat} : upd β r b r = b := by simp [upd]
theorem upd_ne {β : Nat → Nat} {r b q : Nat} (h : q ≠ r) : upd β r b q = β q := by simp [upd, h]

theorem live_app {H : Heap} {o : Option Ob} {r : Nat} (h : Live (H ++ [o]) r) : (r < H.length ∧ Live H r) ∨ r = H.length := by
  rcases h with ⟨cs, hc⟩ | ⟨sz, n, row, hc⟩
  · rcases at_app hc with ⟨hl, hc⟩ | ⟨e, _⟩
    · exact .inl ⟨hl, .inl ⟨cs, hc⟩⟩
    · exact .inr e
  · rcases at_app hc with ⟨hl, hc⟩ | ⟨e, _⟩
    · exact .inl ⟨hl, .inr ⟨_, _, _, hc⟩⟩
    · exact .inr e

/-- a new object in a new block -/
theorem Evo.new {β : Nat → Nat} {H : Heap} {W : Array Obj} (h : HR β H W) (o : Obj) (x : Option Ob) : Evo β H W (upd β H.length W.size) (H ++ [x]) (W.push o) where
  size := by simp
  gh b _ hl := push_lt hl
  imm b hb := by
    refine ⟨push_lt hb.1, by have := hb.1; simp; omega, fun r hr => ?_, hb.2.2⟩
    rcases live_app hr with ⟨hl, hr⟩ | rfl
    · rw [upd_ne (by omega)]; exact hb.2.1 r hr
    · rw [upd_eq]; exact Nat.ne_of_gt hb.1
  len := by simp
  box r as_ hr := by
    have hl := Heap.at_lt hr
    exact ⟨upd_ne (by omega), as_, by rw [at_app_lt hl]; exact hr⟩
  arr r sz n row hr := by
    have hl := Heap.at_lt hr
    exact .inr ⟨upd_ne (by omega), ⟨row, .inl (by rw [at_app_lt hl]; exact hr)⟩, cellsAt_congr (push_lt (h.lt (.inr ⟨_, _, _, hr⟩)))⟩
  fro r sz n row hr := by
    have hl := Heap.at_lt hr
    obtain ⟨vs, e, fz, hi, _⟩ := h.fro r sz n row hr
    exact ⟨upd_ne (by omega), by rw [at_app_lt hl]; exact hr, cellsAt_congr (push_lt hi.1)⟩
  dead r hl hr := by rw [at_app_lt hl]; exact hr

theorem HR.newBase {β : Nat → Nat} {H : Heap} {W : Array Obj} (h : HR β H W) (o : Obj) (x : Option Ob) :
    (∀ r r', Live (H ++ [x]) r → Live (H ++ [x]) r' → upd β H.length W.size r = upd β H.length W.size r' → r = r') := by
  intro r r' hr hr' e
  rcases live_app hr with ⟨hl, hr⟩ | rfl <;> rcases live_app hr' with ⟨hl', hr'⟩ | rfl
  · rw [upd_ne (by omega), upd_ne (by omega)] at e; exact h.inj r r' hr hr' e
  · rw [upd_ne (by omega), upd_eq] at e; have := h.lt hr; omega
  · rw [upd_eq, upd_ne (by omega)] at e; have := h.lt hr'; omega
  · rfl

theorem HR.newGh {β : Nat → Nat} {H : Heap} {W : Array Obj} (h : HR β H W) (o : Obj) (x : Option Ob) : ∀ b, Gh.g b → b < (W.push o).size ∧ ∀ r, Live (H ++ [x]) r → upd β H.length W.size r ≠ b := by
  intro b hb
  obtain ⟨h1, h2⟩ := h.gh b hb
  refine ⟨by simp; omega, fun r hr => ?_⟩
  rcases live_app hr with ⟨hl, hr⟩ | rfl
  · rw [upd_ne (by omega)]; exact h2 r hr
  · rw [upd_eq]; omega

theorem HR.new_box {β : Nat → Nat} {H : Heap} {W : Array Obj} (h : HR β H W) (vs : Array Value) (e : TypeId) (as_ : List AV) (hs : vs.size = as_.length) (hl : allLeaf as_ = true)
    (hR : ∀ j, j < as_.length → R β H W (vs.getD j undef) (as_.getD j .und)) : HR (upd β H.length W.size) (H ++ [some (.box as_)]) (W.push (.cells vs e (0, 0))) where
  inj := h.newBase (.cells vs e (0, 0)) _
  gh := h.newGh _ _
  box r bs hr := by
    rcases at_app hr with ⟨hlt, hr⟩ | ⟨rfl, hx⟩
    · obtain ⟨us, e', hw, h1, h2, h3⟩ := h.box r bs hr
      exact ⟨us, e', by rw [upd_ne (by omega), push_lt (some_lt hw)]; exact hw, h1, h2, fun j hj => (h3 j hj).stays (Evo.new h _ _)⟩
    · cases hx
      exact ⟨vs, e, by rw [upd_eq]; exact push_eq, hs, hl, fun j hj => (hR j hj).stays (Evo.new h _ _)⟩
  arr r sz n row hr := by
    rcases at_app hr with ⟨hlt, hr⟩ | ⟨rfl, hx⟩
    · obtain ⟨us, e', fz, hw, h1, hz, h2, h3⟩ := h.arr r sz n row hr
      exact ⟨us, e', fz, by rw [upd_ne (by omega), push_lt (some_lt hw)]; exact hw, h1, hz, h2, fun i j hi hj => (h3 i j hi hj).stays (Evo.new h _ _)⟩
    · cases hx
  fro r sz n row hr := by
    rcases at_app hr with ⟨hlt, hr⟩ | ⟨rfl, hx⟩
    · obtain ⟨us, e', fz, hi, hw, h1, h2, h3⟩ := h.fro r sz n row hr
      rw [upd_ne (by omega)]
      exact ⟨us, e', fz, ((Evo.new h (.cells vs e (0, 0)) (some (.box as_))).imm _ hi).2, by rw [push_lt (some_lt hw)]; exact hw, h1, h2, fun i j hi hj => (h3 i j hi hj).stays (Evo.new h _ _)⟩
    · cases hx

theorem HR.new_arr {β : Nat → Nat} {H : Heap} {W : Array Obj} (h : HR β H W) (vs : Array Value) (e : TypeId) (sz n : Nat) (row : Nat → List AV) (hs : n * sz ≤ vs.size)
    (hl : ∀ i, i < n → (row i).length = sz ∧ allLeaf (row i) = true ∧ pureL (row i) = true)
    (hR : ∀ i j, i < n → j < sz → R β H W (vs.getD (i * sz + j) undef) ((row i).getD j .und)) : HR (upd β H.length W.size) (H ++ [some (.arr sz n row)]) (W.push (.cells vs e (0, 0))) where
  inj := h.newBase (.cells vs e (0, 0)) _
  gh := h.newGh _ _
  box r bs hr := by
    rcases at_app hr with ⟨hlt, hr⟩ | ⟨rfl, hx⟩
    · obtain ⟨us, e', hw, h1, h2, h3⟩ := h.box r bs hr
      exact ⟨us, e', by rw [upd_ne (by omega), push_lt (some_lt hw)]; exact hw, h1, h2, fun j hj => (h3 j hj).stays (Evo.new h _ _)⟩
    · cases hx
  arr r sz' n' row' hr := by
    rcases at_app hr with ⟨hlt, hr⟩ | ⟨rfl, hx⟩
    · obtain ⟨us, e', fz, hw, h1, hz, h2, h3⟩ := h.arr r sz' n' row' hr
      exact ⟨us, e', fz, by rw [upd_ne (by omega), push_lt (some_lt hw)]; exact hw, h1, hz, h2, fun i j hi hj => (h3 i j hi hj).stays (Evo.new h _ _)⟩
    · cases hx
      exact ⟨vs, e, (0, 0), by rw [upd_eq]; exact push_eq, hs, by simp, hl, fun i j hi hj => (hR i j hi hj).stays (Evo.new h _ _)⟩
  fro r sz' n' row' hr := by
    rcases at_app hr with ⟨hlt, hr⟩ | ⟨rfl, hx⟩
    · obtain ⟨us, e', fz, hi, hw, h1, h2, h3⟩ := h.fro r sz' n' row' hr
      rw [upd_ne (by omega)]
      exact ⟨us, e', fz, ((Evo.new h (.cells vs e (0, 0)) (some (.arr sz n row))).imm _ hi).2, by rw [push_lt (some_lt hw)]; exact hw, h1, h2, fun i j hi hj => (h3 i j hi hj).stays (Evo.new h _ _)⟩
    · cases hx
end Go.Ev

set_option linter.unusedVariables false
set_option linter.unusedSectionVars false
namespace Go.Ev
open Go
variable [Gh]

/-- W' is W but for what block b's cells hold -/
def But (b : Nat) (W W' : Array Obj) : Prop := W'.size = W.size ∧ (∀ q, q ≠ b → W'[q]? = W[q]?) ∧ cellsAt W' b = cellsAt W b

theorem live_set_box {H : Heap} {r : Nat} {as_ as' : List AV} (h : H.at r = some (.box as_)) {q : Nat} (hq : Live (H.set r (some (.box as'))) q) : Live H q := by
  rcases hq with ⟨cs, hc⟩ | ⟨sz, n, row, hc⟩
  · rcases at_set hc with ⟨rfl, _⟩ | ⟨_, hc⟩
    · exact .inl ⟨as_, h⟩
    · exact .inl ⟨cs, hc⟩
  · rcases at_set hc with ⟨rfl, hx⟩ | ⟨_, hc⟩
    · cases hx
    · exact .inr ⟨_, _, _, hc⟩
theorem live_set_arr {H : Heap} {r sz n sz' n' : Nat} {row row' : Nat → List AV} (h : H.at r = some (.arr sz n row)) {q : Nat} (hq : Live (H.set r (some (.arr sz' n' row'))) q) : Live H q := by
  rcases hq with ⟨cs, hc⟩ | ⟨sz, n, row, hc⟩
  · rcases at_set hc with ⟨rfl, hx⟩ | ⟨_, hc⟩
    · cases hx
    · exact .inl ⟨cs, hc⟩
  · rcases at_set hc with ⟨rfl, hx⟩ | ⟨_, hc⟩
    · exact .inr ⟨_, _, _, h⟩
    · exact .inr ⟨_, _, _, hc⟩

theorem Evo.set_box {β : Nat → Nat} {H : Heap} {W W' : Array Obj} (h : HR β H W) {r : Nat} {as_ : List AV} (hr : H.at r = some (.box as_)) (as' : List AV) (hb : But (β r) W W') :
    Evo β H W β (H.set r (some (.box as'))) W' where
  size := by rw [hb.1]; exact Nat.le_refl _
  gh b hg _ := hb.2.1 b (Ne.symm ((h.gh b hg).2 r (.inl ⟨as_, hr⟩)))
  imm b hi := ⟨hb.2.1 b (Ne.symm (hi.2.1 r (.inl ⟨as_, hr⟩))), by rw [hb.1]; exact hi.1, fun q hq => hi.2.1 q (live_set_box hr hq), hi.2.2⟩
  len := by simp
  box q bs hq := by
    by_cases e : q = r
    · subst e; exact ⟨rfl, as', at_set_eq (Heap.at_lt hr)⟩
    · exact ⟨rfl, bs, by rw [at_set_ne e]; exact hq⟩
  arr q sz n row hq := by
    have e : q ≠ r := by rintro rfl; rw [hr] at hq; cases hq
    refine .inr ⟨rfl, ⟨row, .inl (by rw [at_set_ne e]; exact hq)⟩, ?_⟩
    exact cellsAt_congr (hb.2.1 _ fun e' => e (h.inj q r (.inr ⟨_, _, _, hq⟩) (.inl ⟨_, hr⟩) e'))
  fro q sz n row hq := by
    have e : q ≠ r := by rintro rfl; rw [hr] at hq; cases hq
    obtain ⟨vs, e', fz, hi, _⟩ := h.fro q sz n row hq
    exact ⟨rfl, by rw [at_set_ne e]; exact hq, cellsAt_congr (hb.2.1 _ (Ne.symm (hi.2.1 r (.inl ⟨as_, hr⟩))))⟩
  dead q hl hq := by
    have e : q ≠ r := by rintro rfl; rw [hr] at hq; cases hq
    rw [at_set_ne e]; exact hq

theorem HR.set_box {β : Nat → Nat} {H : Heap} {W W' : Array Obj} (h : HR β H W) {r : Nat} {as_ : List AV} (hr : H.at r = some (.box as_)) (as' : List AV) (hb : But (β r) W W')
    (vs : Array Value) (e : TypeId) (hw : W'[β r]? = some (.cells vs e (0, 0))) (hs : vs.size = as'.length) (hl : allLeaf as' = true)
    (hR : ∀ j, j < as'.length → R β H W (vs.getD j undef) (as'.getD j .und)) : HR β (H.set r (some (.box as'))) W' where
  inj q q' hq hq' := h.inj q q' (live_set_box hr hq) (live_set_box hr hq')
  gh b hg := ⟨by rw [hb.1]; exact (h.gh b hg).1, fun q hq => (h.gh b hg).2 q (live_set_box hr hq)⟩
  box q bs hq := by
    rcases at_set hq with ⟨rfl, hx⟩ | ⟨ne, hq⟩
    · cases hx
      exact ⟨vs, e, hw, hs, hl, fun j hj => (hR j hj).stays (Evo.set_box h hr as' hb)⟩
    · obtain ⟨us, e', h1, h2, h3, h4⟩ := h.box q bs hq
      exact ⟨us, e', by rw [hb.2.1 _ fun e' => ne (h.inj q r (.inl ⟨_, hq⟩) (.inl ⟨_, hr⟩) e')]; exact h1, h2, h3, fun j hj => (h4 j hj).stays (Evo.set_box h hr as' hb)⟩
  arr q sz n row hq := by
    rcases at_set hq with ⟨rfl, hx⟩ | ⟨ne, hq⟩
    · cases hx
    · obtain ⟨us, e', fz, h1, h2, h3, h4, h5⟩ := h.arr q sz n row hq
      exact ⟨us, e', fz, by rw [hb.2.1 _ fun e' => ne (h.inj q r (.inr ⟨_, _, _, hq⟩) (.inl ⟨_, hr⟩) e')]; exact h1, h2, h3, h4, fun i j hi hj => (h5 i j hi hj).stays (Evo.set_box h hr as' hb)⟩
  fro q sz n row hq := by
    rcases at_set hq with ⟨rfl, hx⟩ | ⟨ne, hq⟩
    · cases hx
    · obtain ⟨us, e', fz, hi, h1, h2, h4, h5⟩ := h.fro q sz n row hq
      exact ⟨us, e', fz, ((Evo.set_box h hr as' hb).imm _ hi).2, by rw [hb.2.1 _ (Ne.symm (hi.2.1 r (.inl ⟨as_, hr⟩)))]; exact h1, h2, h4, fun i j hi hj => (h5 i j hi hj).stays (Evo.set_box h hr as' hb)⟩

theorem Evo.set_arr {β : Nat → Nat} {H : Heap} {W W' : Array Obj} (h : HR β H W) {r sz n : Nat} {row : Nat → List AV} (hr : H.at r = some (.arr sz n row)) (row' : Nat → List AV) (hb : But (β r) W W') :
    Evo β H W β (H.set r (some (.arr sz n row'))) W' where
  size := by rw [hb.1]; exact Nat.le_refl _
  gh b hg _ := hb.2.1 b (Ne.symm ((h.gh b hg).2 r (.inr ⟨_, _, _, hr⟩)))
  imm b hi := ⟨hb.2.1 b (Ne.symm (hi.2.1 r (.inr ⟨_, _, _, hr⟩))), by rw [hb.1]; exact hi.1, fun q hq => hi.2.1 q (live_set_arr hr hq), hi.2.2⟩
  len := by simp
  box q bs hq := by
    have e : q ≠ r := by rintro rfl; rw [hr] at hq; cases hq
    exact ⟨rfl, bs, by rw [at_set_ne e]; exact hq⟩
  arr q sz' n' row2 hq := by
    by_cases e : q = r
    · subst e
      rw [hr] at hq; cases hq
      exact .inr ⟨rfl, ⟨row', .inl (at_set_eq (Heap.at_lt hr))⟩, hb.2.2⟩
    · refine .inr ⟨rfl, ⟨row2, .inl (by rw [at_set_ne e]; exact hq)⟩, ?_⟩
      exact cellsAt_congr (hb.2.1 _ fun e' => e (h.inj q r (.inr ⟨_, _, _, hq⟩) (.inr ⟨_, _, _, hr⟩) e'))
  fro q sz' n' row2 hq := by
    have e : q ≠ r := by rintro rfl; rw [hr] at hq; cases hq
    obtain ⟨vs, e', fz, hi, _⟩ := h.fro q sz' n' row2 hq
    exact ⟨rfl, by rw [at_set_ne e]; exact hq, cellsAt_congr (hb.2.1 _ (Ne.symm (hi.2.1 r (.inr ⟨_, _, _, hr⟩))))⟩
  dead q hl hq := by
    have e : q ≠ r := by rintro rfl; rw [hr] at hq; cases hq
    rw [at_set_ne e]; exact hq

theorem HR.set_arr {β : Nat → Nat} {H : Heap} {W W' : Array Obj} (h : HR β H W) {r sz n : Nat} {row : Nat → List AV} (hr : H.at r = some (.arr sz n row)) (row' : Nat → List AV) (hb : But (β r) W W')
    (vs : Array Value) (e : TypeId) (fz : Nat × Nat) (hw : W'[β r]? = some (.cells vs e fz)) (hs : n * sz ≤ vs.size) (hz : vs.size ≤ fz.1 + (if fz.1 < fz.2 then 0 else vs.size))
    (hl : ∀ i, i < n → (row' i).length = sz ∧ allLeaf (row' i) = true ∧ pureL (row' i) = true)
    (hR : ∀ i j, i < n → j < sz → R β H W (vs.getD (i * sz + j) undef) ((row' i).getD j .und)) : HR β (H.set r (some (.arr sz n row'))) W' where
  inj q q' hq hq' := h.inj q q' (live_set_arr hr hq) (live_set_arr hr hq')
  gh b hg := ⟨by rw [hb.1]; exact (h.gh b hg).1, fun q hq => (h.gh b hg).2 q (live_set_arr hr hq)⟩
  box q bs hq := by
    rcases at_set hq with ⟨rfl, hx⟩ | ⟨ne, hq⟩
    · cases hx
    · obtain ⟨us, e', h1, h2, h3, h4⟩ := h.box q bs hq
      exact ⟨us, e', by rw [hb.2.1 _ fun e' => ne (h.inj q r (.inl ⟨_, hq⟩) (.inr ⟨_, _, _, hr⟩) e')]; exact h1, h2, h3, fun j hj => (h4 j hj).stays (Evo.set_arr h hr row' hb)⟩
  arr q sz' n' row2 hq := by
    rcases at_set hq with ⟨rfl, hx⟩ | ⟨ne, hq⟩
    · cases hx
      exact ⟨vs, e, fz, hw, hs, hz, hl, fun i j hi hj => (hR i j hi hj).stays (Evo.set_arr h hr row' hb)⟩
    · obtain ⟨us, e', fz, h1, h2, h3, h4, h5⟩ := h.arr q sz' n' row2 hq
      exact ⟨us, e', fz, by rw [hb.2.1 _ fun e' => ne (h.inj q r (.inr ⟨_, _, _, hq⟩) (.inr ⟨_, _, _, hr⟩) e')]; exact h1, h2, h3, h4, fun i j hi hj => (h5 i j hi hj).stays (Evo.set_arr h hr row' hb)⟩
  fro q sz' n' row2 hq := by
    rcases at_set hq with ⟨rfl, hx⟩ | ⟨ne, hq⟩
    · cases hx
    · obtain ⟨us, e', fz, hi, h1, h2, h4, h5⟩ := h.fro q sz' n' row2 hq
      exact ⟨us, e', fz, ((Evo.set_arr h hr row' hb).imm _ hi).2, by rw [hb.2.1 _ (Ne.symm (hi.2.1 r (.inr ⟨_, _, _, hr⟩)))]; exact h1, h2, h4, fun i j hi hj => (h5 i j hi hj).stays (Evo.set_arr h hr row' hb)⟩

/-- an object is given up -/
theorem live_set_none {H : Heap} {r : Nat} {q : Nat} (hq : Live (H.set r none) q) : q ≠ r ∧ Live H q := by
  rcases hq with ⟨cs, hc⟩ | ⟨sz, n, row, hc⟩
  · rcases at_set hc with ⟨rfl, hx⟩ | ⟨e, hc⟩
    · cases hx
    · exact ⟨e, .inl ⟨cs, hc⟩⟩
  · rcases at_set hc with ⟨rfl, hx⟩ | ⟨e, hc⟩
    · cases hx
    · exact ⟨e, .inr ⟨_, _, _, hc⟩⟩
theorem Evo.kill {β : Nat → Nat} {H : Heap} {W : Array Obj} {r sz n : Nat} {row : Nat → List AV} (hr : H.at r = some (.arr sz n row)) : Evo β H W β (H.set r none) W where
  size := Nat.le_refl _
  gh _ _ _ := rfl
  imm b hi := ⟨rfl, hi.1, fun q hq => hi.2.1 q (live_set_none hq).2, hi.2.2⟩
  len := by simp
  box q bs hq := by
    have e : q ≠ r := by rintro rfl; rw [hr] at hq; cases hq
    exact ⟨rfl, bs, by rw [at_set_ne e]; exact hq⟩
  arr q sz' n' row2 hq := by
    by_cases e : q = r
    · subst e; exact .inl (at_set_eq (Heap.at_lt hr))
    · exact .inr ⟨rfl, ⟨row2, .inl (by rw [at_set_ne e]; exact hq)⟩, rfl⟩
  fro q sz' n' row2 hq := by
    have e : q ≠ r := by rintro rfl; rw [hr] at hq; cases hq
    exact ⟨rfl, by rw [at_set_ne e]; exact hq, rfl⟩
  dead q hl hq := by
    by_cases e : q = r
    · subst e; exact at_set_eq hl
    · rw [at_set_ne e]; exact hq
theorem HR.kill {β : Nat → Nat} {H : Heap} {W : Array Obj} (h : HR β H W) {r sz n : Nat} {row : Nat → List AV} (hr : H.at r = some (.arr sz n row)) : HR β (H.set r none) W where
  inj q q' hq hq' := h.inj q q' (live_set_none hq).2 (live_set_none hq').2
  gh b hg := ⟨(h.gh b hg).1, fun q hq => (h.gh b hg).2 q (live_set_none hq).2⟩
  box q bs hq := by
    rcases at_set hq with ⟨rfl, hx⟩ | ⟨ne, hq⟩
    · cases hx
    · obtain ⟨us, e', h1, h2, h3, h4⟩ := h.box q bs hq
      exact ⟨us, e', h1, h2, h3, fun j hj => (h4 j hj).stays (Evo.kill hr)⟩
  arr q sz' n' row2 hq := by
    rcases at_set hq with ⟨rfl, hx⟩ | ⟨ne, hq⟩
    · cases hx
    · obtain ⟨us, e', fz, h1, h2, h3, h4, h5⟩ := h.arr q sz' n' row2 hq
      exact ⟨us, e', fz, h1, h2, h3, h4, fun i j hi hj => (h5 i j hi hj).stays (Evo.kill hr)⟩
  fro q sz' n' row2 hq := by
    rcases at_set hq with ⟨rfl, hx⟩ | ⟨ne, hq⟩
    · cases hx
    · obtain ⟨us, e', fz, hi, h1, h2, h4, h5⟩ := h.fro q sz' n' row2 hq
      exact ⟨us, e', fz, ((Evo.kill hr).imm _ hi).2, h1, h2, h4, fun i j hi hj => (h5 i j hi hj).stays (Evo.kill hr)⟩

/-- an object is closed -/
theorem live_set_fro {H : Heap} {r sz n : Nat} {row : Nat → List AV} {q : Nat} (hq : Live (H.set r (some (.fro sz n row))) q) : q ≠ r ∧ Live H q := by
  rcases hq with ⟨cs, hc⟩ | ⟨sz, n, row, hc⟩
  · rcases at_set hc with ⟨rfl, hx⟩ | ⟨e, hc⟩
    · cases hx
    · exact ⟨e, .inl ⟨cs, hc⟩⟩
  · rcases at_set hc with ⟨rfl, hx⟩ | ⟨e, hc⟩
    · cases hx
    · exact ⟨e, .inr ⟨_, _, _, hc⟩⟩
theorem Evo.close {β : Nat → Nat} {H : Heap} {W : Array Obj} {r sz n : Nat} {row : Nat → List AV} (hr : H.at r = some (.arr sz n row)) : Evo β H W β (H.set r (some (.fro sz n row))) W where
  size := Nat.le_refl _
  gh _ _ _ := rfl
  imm b hi := ⟨rfl, hi.1, fun q hq => hi.2.1 q (live_set_fro hq).2, hi.2.2⟩
  len := by simp
  box q bs hq := by
    have e : q ≠ r := by rintro rfl; rw [hr] at hq; cases hq
    exact ⟨rfl, bs, by rw [at_set_ne e]; exact hq⟩
  arr q sz' n' row2 hq := by
    by_cases e : q = r
    · subst e; rw [hr] at hq; cases hq; exact .inr ⟨rfl, ⟨row, .inr (at_set_eq (Heap.at_lt hr))⟩, rfl⟩
    · exact .inr ⟨rfl, ⟨row2, .inl (by rw [at_set_ne e]; exact hq)⟩, rfl⟩
  fro q sz' n' row2 hq := by
    have e : q ≠ r := by rintro rfl; rw [hr] at hq; cases hq
    exact ⟨rfl, by rw [at_set_ne e]; exact hq, rfl⟩
  dead q hl hq := by
    have e : q ≠ r := by rintro rfl; rw [hr] at hq; cases hq
    rw [at_set_ne e]; exact hq
theorem HR.close {β : Nat → Nat} {H : Heap} {W : Array Obj} (h : HR β H W) {r sz n : Nat} {row : Nat → List AV} (hr : H.at r = some (.arr sz n row)) : HR β (H.set r (some (.fro sz n row))) W where
  inj q q' hq hq' := h.inj q q' (live_set_fro hq).2 (live_set_fro hq').2
  gh b hg := ⟨(h.gh b hg).1, fun q hq => (h.gh b hg).2 q (live_set_fro hq).2⟩
  box q bs hq := by
    rcases at_set hq with ⟨rfl, hx⟩ | ⟨ne, hq⟩
    · cases hx
    · obtain ⟨us, e', h1, h2, h3, h4⟩ := h.box q bs hq
      exact ⟨us, e', h1, h2, h3, fun j hj => (h4 j hj).stays (Evo.close hr)⟩
  arr q sz' n' row2 hq := by
    rcases at_set hq with ⟨rfl, hx⟩ | ⟨ne, hq⟩
    · cases hx
    · obtain ⟨us, e', fz, h1, h2, h3, h4, h5⟩ := h.arr q sz' n' row2 hq
      exact ⟨us, e', fz, h1, h2, h3, h4, fun i j hi hj => (h5 i j hi hj).stays (Evo.close hr)⟩
  fro q sz' n' row2 hq := by
    rcases at_set hq with ⟨rfl, hx⟩ | ⟨ne, hq⟩
    · cases hx
      obtain ⟨us, e', fz, h1, h2, h3, h4, h5⟩ := h.arr q sz n row hr
      refine ⟨us, e', fz, ⟨some_lt h1, fun p hp e => ?_, fun hg => (h.gh _ hg).2 q (.inr ⟨_, _, _, hr⟩) rfl⟩, h1, h2, h4, fun i j hi hj => (h5 i j hi hj).stays (Evo.close hr)⟩
      obtain ⟨np, lp⟩ := live_set_fro hp
      exact np (h.inj p q lp (.inr ⟨_, _, _, hr⟩) e)
    · obtain ⟨us, e', fz, hi, h1, h2, h4, h5⟩ := h.fro q sz' n' row2 hq
      exact ⟨us, e', fz, ((Evo.close hr).imm _ hi).2, h1, h2, h4, fun i j hi hj => (h5 i j hi hj).stays (Evo.close hr)⟩
end Go.Ev

set_option linter.unusedVariables false
set_option linter.unusedSimpArgs false
set_option linter.unusedSectionVars false
namespace Go.Ev
open Go

theorem R.inv_bool [Gh] {β : Nat → Nat} {H : Heap} {W : Array Obj} {v : Value} {b : Bool} (h : R β H W v (.bool b)) : v = .bool b := by cases h; rfl
theorem R.inv_int [Gh] {β : Nat → Nat} {H : Heap} {W : Array Obj} {v : Value} {k : IntKind} {n : Int} (h : R β H W v (.int k n)) : v = .int k n := by cases h; rfl
theorem R.inv_str [Gh] {β : Nat → Nat} {H : Heap} {W : Array Obj} {v : Value} {s : ByteArray} (h : R β H W v (.str s)) : v = .string s := by cases h; rfl

def TKOK (P : Program) (t : Nat) : TK → Prop
  | .int k => P.underlying t = some (.int k)
  | .bool => P.underlying t = some .bool
  | .str => P.underlying t = some .string
  | .slice e => P.underlying t = some (.slice e)
  | .ptr e => P.underlying t = some (.pointer e)
  | .struct fs => ∃ fields : Array Field, P.underlying t = some (.struct fields) ∧ fields.toList.map (fun f => (f.offset, f.type)) = fs
  | .arr n e => P.underlying t = some (.array n e)
  | .fn => ∃ a b v, P.underlying t = some (.func a b v)
  | .other => False
/-- what must be known of a type -/
structure TyOK (P : Program) (t : Nat) (ty : Ty) : Prop where
  desc : TKOK P t ty.k
  info : ∃ i, P.info? t = some i ∧ i.size = ty.size ∧ i.bytes = ty.bytes ∧ ∃ z, i.zero = some z ∧ z.cells.size = ty.size ∧ ∀ [Gh] β H W j, j < ty.zero.length → R β H W (z.cells.getD j undef) (ty.zero.getD j .und)
  len : ty.zero.length = ty.size
  leaf : allLeaf ty.zero = true
  pure : pureL ty.zero = true
structure CtxOK (c : Ctx) (P : Program) : Prop where
  ty : ∀ t ty, c.tyOf t = some ty → TyOK P t ty

def Same (w w' : World) : Prop := w'.os = w.os ∧ w'.tape = w.tape ∧ w'.output = w.output
theorem Same.refl (w : World) : Same w w := ⟨rfl, rfl, rfl⟩
theorem Same.trans {a b c : World} (h : Same a b) (k : Same b c) : Same a c := ⟨k.1.trans h.1, k.2.1.trans h.2.1, k.2.2.trans h.2.2⟩

variable [Gh]
def VR (β : Nat → Nat) (H : Heap) (W : Array Obj) (cv : Value) : Option AV → Prop
  | some av => R β H W cv av
  | none => cv = undef
/-- the temporaries are as_ told -/
def ER (β : Nat → Nat) (H : Heap) (W : Array Obj) (tmps : Array Value) (e : List (Option AV)) : Prop :=
  e.length ≤ tmps.size ∧ ∀ t av, e.getD t none = some av → ∃ v, tmps[t]? = some v ∧ R β H W v av
theorem ER.stays {β β' : Nat → Nat} {H H' : Heap} {W W' : Array Obj} (k : Evo β H W β' H' W') {tmps : Array Value} {e : List (Option AV)} (h : ER β H W tmps e) : ER β' H' W' tmps e :=
  ⟨h.1, fun t av ht => let ⟨v, hv, hr⟩ := h.2 t av ht; ⟨v, hv, hr.stays k⟩⟩

variable {ρ : Type}
/-- an operation does what the reckoner says -/
def Goal (P : Program) (o : Oper) (a : Act) (w : World) (Q : Exit → Act → World → Prop) (κ : Option AV → Heap → Option ρ) (x : ρ) (β : Nat → Nat) (H : Heap) : Prop :=
  ∀ next : Act → World → Prop, (∀ cv ov β' H' w', κ ov H' = some x → VR β' H' w'.heap cv ov → HR β' H' w'.heap → Evo β H w.heap β' H' w'.heap → Same w w' → next (a.put o.dst cv) w') → o.wp P a w next Q

section
variable {P : Program} {o : Oper} {a : Act} {w : World} {Q : Exit → Act → World → Prop} {κ : Option AV → Heap → Option ρ} {x : ρ} {β : Nat → Nat} {H : Heap} {e : List (Option AV)} {c : Ctx}

theorem Goal.value (hR : HR β H w.heap) {cv : Value} {av : AV} (hrun : (execOp a.eval o).run P w = .ok (.value cv) w) (hv : R β H w.heap cv av) (hk : κ (some av) H = some x) : Goal P o a w Q κ x β H := by
  intro next hn
  unfold Oper.wp
  rw [hrun]
  exact hn cv (some av) β H w hk hv hR (Evo.refl _ _ _) (Same.refl _)
theorem Goal.moved {w' : World} {β' : Nat → Nat} {H' : Heap} (hR : HR β' H' w'.heap) (hE : Evo β H w.heap β' H' w'.heap) (hS : Same w w') {cv : Value} {ov : Option AV}
    (hrun : (execOp a.eval o).run P w = .ok (.value cv) w') (hv : VR β' H' w'.heap cv ov) (hk : κ ov H' = some x) : Goal P o a w Q κ x β H := by
  intro next hn
  unfold Oper.wp
  rw [hrun]
  exact hn cv ov β' H' w' hk hv hR hE hS
theorem Goal.skip {w' : World} {β' : Nat → Nat} {H' : Heap} (hR : HR β' H' w'.heap) (hE : Evo β H w.heap β' H' w'.heap) (hS : Same w w')
    (hrun : (execOp a.eval o).run P w = .ok .skip w') (hk : κ none H' = some x) : Goal P o a w Q κ x β H := by
  intro next hn
  unfold Oper.wp
  rw [hrun]
  exact hn undef none β' H' w' hk rfl hR hE hS

omit [Gh] in
theorem opt_some {α : Type} {x : Option α} {κ : α → Option ρ} {r : ρ} (h : opt x κ = some r) : ∃ v, x = some v ∧ κ v = some r := by
  cases x with
  | none => cases h
  | some v => exact ⟨v, rfl, h⟩
omit [Gh] in
theorem chk_some {x : Option (Bool × AV)} {κ : AV → Option ρ} {r : ρ} (h : chk x κ = some r) : ∃ v, x = some (true, v) ∧ κ v = some r := by
  rcases x with _ | ⟨b, v⟩
  · cases h
  · cases b with
    | true => exact ⟨v, rfl, h⟩
    | false => cases h
omit [Gh] in
theorem bif_some {b : Bool} {A : Option ρ} {r : ρ} (h : (bif b then A else none) = some r) : b = true ∧ A = some r := by
  cases b with
  | true => exact ⟨rfl, h⟩
  | false => cases h
omit [Gh] in
theorem ite_some {p : Prop} [Decidable p] {A : Option ρ} {r : ρ} (h : (if p then A else none) = some r) : p ∧ A = some r := by
  split at h
  · exact ⟨‹_›, h⟩
  · cases h

/-! ### constants and operands -/
theorem constLeaf_ok {v : Value} {av : AV} (h : constLeaf v = some av) (β : Nat → Nat) (H : Heap) (W : Array Obj) : R β H W v av ∧ av.leaf = true := by
  unfold constLeaf at h
  split at h <;> cases h
  · exact ⟨.int _ _, rfl⟩
  · exact ⟨.bool _, rfl⟩
  · exact ⟨.str _, rfl⟩
  · exact ⟨.nilp, rfl⟩
  · exact ⟨.nilfn, rfl⟩
theorem constLeaves_ok : ∀ {vs : List Value} {as_ : List AV}, constLeaves vs = some as_ → ∀ (β : Nat → Nat) (H : Heap) (W : Array Obj), vs.length = as_.length ∧ allLeaf as_ = true ∧ ∀ j, j < as_.length → R β H W (vs.getD j undef) (as_.getD j .und)
  | [], as_, h, β, H, W => by cases h; exact ⟨rfl, rfl, fun j hj => by simp at hj⟩
  | v :: vs, as_, h, β, H, W => by
    unfold constLeaves at h
    split at h
    · rename_i a as' h1 h2
      cases h
      obtain ⟨i1, i2, i3⟩ := constLeaves_ok h2 β H W
      obtain ⟨j1, j2⟩ := constLeaf_ok h1 β H W
      refine ⟨by simp [i1], by simp [allLeaf, j2, i2], fun j hj => ?_⟩
      cases j with
      | zero => simpa using j1
      | succ j => simpa using i3 j (by simpa using hj)
    · cases h
theorem constAV_ok {v : Value} {av : AV} (h : constAV v = some av) (β : Nat → Nat) (H : Heap) (W : Array Obj) : R β H W v av := by
  unfold constAV at h
  split at h
  · rename_i cs
    cases hc : constLeaves cs.toList with
    | none => rw [hc] at h; cases h
    | some as_ =>
      rw [hc] at h; cases h
      obtain ⟨i1, i2, i3⟩ := constLeaves_ok hc β H W
      refine .agg cs as_ (by simpa using i1) i2 fun j hj => ?_
      have := i3 j hj
      simpa [Array.getD_eq_getD_getElem?, List.getD_eq_getElem?_getD] using this
  · exact (constLeaf_ok h β H W).1
theorem constT_ok {t : Nat} {v : Value} {av : AV} (h : c.constT t v = some av) (β : Nat → Nat) (H : Heap) (W : Array Obj) : R β H W v av := by
  unfold Ctx.constT at h
  split at h
  · split at h
    · split at h
      · cases h; exact .sl0 _ _ _ _ _ (fun _ => rfl)
      · cases h
    · cases h
  · exact constAV_ok h β H W
theorem eval_tmp {t : Nat} {av : AV} (hE : ER β H w.heap a.tmps e) (h : e.getD t none = some av) : R β H w.heap (a.eval (.tmp t)) av := by
  obtain ⟨v, hv, hr⟩ := hE.2 t av h
  show R β H w.heap (a.tmps.getD t undef) av
  rw [Array.getD_eq_getD_getElem?, hv]
  exact hr
theorem opd_ok {y : Operand} {av : AV} (hE : ER β H w.heap a.tmps e) (h : opd e y = some av) : R β H w.heap (a.eval y) av := by
  cases y with
  | tmp t => exact eval_tmp hE h
  | const v => exact constAV_ok h _ _ _
  | global g => cases h
  | func f =>
    cases h
    exact .fn f #[] #[] [] [] rfl rfl (fun j hj => by simp at hj) (fun j hj => by simp at hj)
theorem opdT_ok {t : Nat} {y : Operand} {av : AV} (hE : ER β H w.heap a.tmps e) (h : c.opdT t e y = some av) : R β H w.heap (a.eval y) av := by
  cases y with
  | tmp t => exact eval_tmp hE h
  | const v => exact constT_ok h _ _ _
  | global g => cases h
  | func f =>
    cases h
    exact .fn f #[] #[] [] [] rfl rfl (fun j hj => by simp at hj) (fun j hj => by simp at hj)

/-! ### copies and choices -/
theorem op_move {y : Operand} (ho : o.op = .move y ∨ o.op = .assign y) (hR : HR β H w.heap) (hE : ER β H w.heap a.tmps e)
    (h : opt (c.opdT o.type e y) (fun v => κ (some v) H) = some x) : Goal P o a w Q κ x β H := by
  obtain ⟨v, hv, hk⟩ := opt_some h
  refine Goal.value hR (cv := a.eval y) ?_ (opdT_ok hE hv) hk
  rcases ho with ho | ho <;> (unfold execOp; rw [ho]; rfl)

def KnOK (kn : Kn) (tmps : Array Value) : Prop := ∀ t b, find1 t kn = some b → tmps[t]? = some (.bool b)

theorem op_pick {kn : Kn} {y p q : Operand} (ho : o.op = .pick y p q) (hR : HR β H w.heap) (hE : ER β H w.heap a.tmps e) (hK : KnOK kn a.tmps)
    (h : pickE kn y (opd e y) (c.opdT o.type e p) (c.opdT o.type e q) (fun v => κ (some v) H) = some x) : Goal P o a w Q κ x β H := by
  have run : ∀ b, a.eval y = .bool b → (execOp a.eval o).run P w = .ok (.value (if b = true then a.eval p else a.eval q)) w := by
    intro b hb
    unfold execOp
    rw [ho]
    simp [hb, asBool]
  unfold pickE at h
  split at h
  · rename_i hb
    have hy : a.eval y = .bool true := by
      cases y with
      | tmp u =>
        have := hK u true hb
        show a.tmps.getD u undef = _
        rw [Array.getD_eq_getD_getElem?, this]; rfl
      | _ => cases hb
    split at h
    · rename_i v hv
      exact Goal.value hR (run true hy) (opdT_ok hE hv) h
    · cases h
  · rename_i hb
    have hy : a.eval y = .bool false := by
      cases y with
      | tmp u =>
        have := hK u false hb
        show a.tmps.getD u undef = _
        rw [Array.getD_eq_getD_getElem?, this]; rfl
      | _ => cases hb
    split at h
    · rename_i v hv
      exact Goal.value hR (run false hy) (opdT_ok hE hv) h
    · cases h
  · split at h
    · rename_i b u v hb hu hv
      have ry := opd_ok hE hb
      have hy : a.eval y = .bool b := ry.inv_bool
      have rp := opdT_ok hE hu
      have rq := opdT_ok hE hv
      have ep : a.eval p = .bool u := rp.inv_bool
      have eq : a.eval q = .bool v := rq.inv_bool
      refine Goal.value hR (run b hy) ?_ h
      cases b
      · simp only [Bool.false_eq_true, if_false, cond_false, eq]; exact .bool _
      · simp only [if_true, cond_true, ep]; exact .bool _
    · rename_i b hb _
      have ry := opd_ok hE hb
      have hy : a.eval y = .bool b := ry.inv_bool
      cases b with
      | true =>
        simp only [cond_true] at h
        split at h
        · rename_i v hv
          exact Goal.value hR (run true hy) (opdT_ok hE hv) h
        · cases h
      | false =>
        simp only [cond_false] at h
        split at h
        · rename_i v hv
          exact Goal.value hR (run false hy) (opdT_ok hE hv) h
        · cases h
    · cases h
end
end Go.Ev

set_option linter.unusedVariables false
set_option linter.unusedSimpArgs false
set_option linter.unusedSectionVars false
namespace Go.Ev
open Go
variable [Gh]

theorem allLeaf_iff : ∀ {as_ : List AV}, allLeaf as_ = true ↔ ∀ a ∈ as_, a.leaf = true
  | [] => by simp [allLeaf]
  | a :: as_ => by simp [allLeaf, allLeaf_iff (as_ := as_)]
theorem pureL_iff : ∀ {as_ : List AV}, pureL as_ = true ↔ ∀ a ∈ as_, pureA a = true
  | [] => by simp [pureL]
  | a :: as_ => by simp [pureL, pureL_iff (as_ := as_)]
theorem getD_mem {as_ : List AV} {j : Nat} (h : j < as_.length) : as_.getD j .und ∈ as_ := by
  rw [List.getD_eq_getElem?_getD, List.getElem?_eq_getElem h]; exact List.getElem_mem h
theorem allLeaf_getD {as_ : List AV} (h : allLeaf as_ = true) {j : Nat} (hj : j < as_.length) : (as_.getD j .und).leaf = true := allLeaf_iff.1 h _ (getD_mem hj)
theorem allLeaf_take {as_ : List AV} (h : allLeaf as_ = true) (n m : Nat) : allLeaf ((as_.drop n).take m) = true :=
  allLeaf_iff.2 fun a ha => allLeaf_iff.1 h a (List.mem_of_mem_drop (List.mem_of_mem_take ha))
theorem getD_cut {as_ : List AV} {n m j : Nat} (h : j < m) : ((as_.drop n).take m).getD j .und = as_.getD (n + j) .und := by
  simp [List.getD_eq_getElem?_getD, List.getElem?_take, h, List.getElem?_drop]
theorem leaf_cells {av : AV} (h : av.leaf = true) : av.cells = [av] := by cases av <;> first | rfl | cases h
theorem one_cell {β : Nat → Nat} {H : Heap} {W : Array Obj} {v : Value} {av : AV} (h : R β H W v av) (hl : av.leaf = true) : v.oneCell' = true ∧ v.cells = #[v] := by
  cases h <;> first | exact ⟨rfl, rfl⟩ | cases hl

/-- the cells of a value, one by one -/
theorem R.cells {β : Nat → Nat} {H : Heap} {W : Array Obj} {v : Value} {av : AV} (h : R β H W v av) (hl : allLeaf av.cells = true) :
    v.cells.size = av.cells.length ∧ ∀ j, j < av.cells.length → R β H W (v.cells.getD j undef) (av.cells.getD j .und) := by
  by_cases hg : ∃ cs, av = .agg cs
  · obtain ⟨cs, rfl⟩ := hg
    cases h with
    | agg vs as_ hv hl' hR => exact ⟨hv, hR⟩
  · have e : av.cells = [av] := by cases av <;> first | rfl | exact absurd ⟨_, rfl⟩ hg
    have hl1 : av.leaf = true := by rw [e] at hl; simpa [allLeaf] using hl
    rw [e, (one_cell h hl1).2]
    refine ⟨rfl, fun j hj => ?_⟩
    have : j = 0 := by simp at hj; omega
    subst this
    exact h
theorem allLeaf_one {as_ : List AV} (h : allLeaf as_ = true) {β : Nat → Nat} {H : Heap} {W : Array Obj} {vs : Array Value} (hs : vs.size = as_.length) (hR : ∀ j, j < as_.length → R β H W (vs.getD j undef) (as_.getD j .und)) :
    ∀ v ∈ vs.toList, v.oneCell' = true := by
  intro v hv
  obtain ⟨j, hj, rfl⟩ := List.getElem_of_mem hv
  have hj' : j < as_.length := by simpa [hs] using hj
  have := (one_cell (hR j hj') (allLeaf_getD h hj')).1
  have hj2 : j < vs.size := by simpa using hj
  rw [Array.getD_eq_getD_getElem?, Array.getElem?_eq_getElem hj2] at this
  simpa using this

section
variable {P : Program} {w : World} {β : Nat → Nat} {H : Heap} {t : Nat} {ty : Ty}

theorem TyOK.sizeOf (h : TyOK P t ty) : (Go.sizeOf t).run P w = .ok ty.size w := by
  obtain ⟨i, hi, hs, _⟩ := h.info
  simp [Go.sizeOf, typeInfo, hi, hs]
theorem TyOK.under (h : TyOK P t ty) : ∃ d, (underlying t).run P w = .ok d w ∧ P.underlying t = some d := by
  have hd := h.desc
  have key : ∀ d, P.underlying t = some d → (underlying t).run P w = .ok d w := fun d hd => run_underlying hd w
  cases hk : ty.k <;> rw [hk] at hd <;> simp only [TKOK] at hd
  all_goals first
    | exact ⟨_, key _ hd, hd⟩
    | (obtain ⟨f, hf, _⟩ := hd; exact ⟨_, key _ hf, hf⟩)
    | (obtain ⟨x, y, z, hf⟩ := hd; exact ⟨_, key _ hf, hf⟩)
theorem TyOK.isAgg (h : TyOK P t ty) : (Go.isAgg t).run P w = .ok ty.k.agg w := by
  have hd := h.desc
  unfold Go.isAgg
  cases hk : ty.k <;> rw [hk] at hd <;> simp only [TKOK] at hd
  case struct fs => obtain ⟨f, hf, _⟩ := hd; simp [run_underlying hf w, TK.agg]
  case fn => obtain ⟨x, y, z, hf⟩ := hd; simp [run_underlying hf w, TK.agg]
  all_goals simp [run_underlying hd w, TK.agg]

theorem load_ok (hT : TyOK P t ty) {b o off : Nat} {as_ : List AV} {vf : Nat → Value} (hc : ∀ j, j < as_.length → w.cell? ⟨b, o + j, none⟩ = some (vf j))
    (hv : ∀ j, j < as_.length → R β H w.heap (vf j) (as_.getD j .und)) (hl : allLeaf as_ = true) {av : AV} (h : ldCells ty as_ off = some av) :
    ∃ cv, (loadVar t ⟨b, o + off, none⟩).run P w = .ok cv w ∧ R β H w.heap cv av := by
  unfold ldCells at h
  split at h
  · rename_i hg
    obtain ⟨hle, he⟩ := ite_some h
    cases he
    have hcs := run_loadCells_list (P := P) (w := w) ⟨b, o + off, none⟩ ((List.range ty.size).map fun j => vf (off + j)) (fun j v hj => by
      rw [Addr.add_lit]
      simp only [List.getElem?_map] at hj
      by_cases hlt : j < ty.size
      · simp [List.getElem?_range hlt] at hj
        subst hj
        have := hc (off + j) (by omega)
        rw [show o + off + j = o + (off + j) by omega]; exact this
      · simp [List.getElem?_eq_none (by simp; omega : (List.range ty.size).length ≤ j)] at hj)
    simp only [List.length_map, List.length_range] at hcs
    refine ⟨_, by simp [loadVar, hT.isAgg, hg, hT.sizeOf, hcs]; rfl, ?_⟩
    refine .agg _ _ (by simp; omega) (allLeaf_take hl _ _) fun j hj => ?_
    have hj' : j < ty.size := by simp at hj; omega
    rw [getD_cut hj']
    have := hv (off + j) (by omega)
    simpa [Array.getD_eq_getD_getElem?, hj'] using this
  · rename_i hg
    have hlt : off < as_.length := by
      rcases Nat.lt_or_ge off as_.length with hh | hh
      · exact hh
      · rw [List.getElem?_eq_none hh] at h; cases h
    have e : as_.getD off .und = av := by rw [List.getD_eq_getElem?_getD, h]; rfl
    refine ⟨vf off, ?_, e ▸ hv off hlt⟩
    have hg' : ty.k.agg = false := by simpa using hg
    simp [loadVar, hT.isAgg, hg', hc off hlt]
end

section
variable {ρ : Type} {P : Program} {o : Oper} {a : Act} {w : World} {Q : Exit → Act → World → Prop} {κ : Option AV → Heap → Option ρ} {x : ρ} {β : Nat → Nat} {H : Heap} {e : List (Option AV)} {c : Ctx}

theorem cell_of {W : World} {b j : Nat} {cs : Array Value} {t : TypeId} {fz : Nat × Nat} (h : W.heap[b]? = some (.cells cs t fz)) : W.cell? ⟨b, j, none⟩ = cs[j]? := by
  simp [World.cell?, h]
theorem getD_some {vs : Array Value} {j : Nat} (h : j < vs.size) : vs[j]? = some (vs.getD j undef) := by
  rw [Array.getD_eq_getD_getElem?, Array.getElem?_eq_getElem h]; rfl

/-- what a pointer's target holds -/
theorem loadAV_ok (hR : HR β H w.heap) {t : Nat} {ty : Ty} (hT : TyOK P t ty) {pv : Value} {p av : AV} (hp : R β H w.heap pv p) (h : loadAV H ty p = some av) :
    ∃ cv, (Instr.loadAt t pv).run P w = .ok cv w ∧ R β H w.heap cv av := by
  have key : ∀ ad, pv = .pointer (some ad) → (∃ cv, (loadVar t ad).run P w = .ok cv w ∧ R β H w.heap cv av) → ∃ cv, (Instr.loadAt t pv).run P w = .ok cv w ∧ R β H w.heap cv av := by
    rintro ad rfl ⟨cv, h1, h2⟩
    exact ⟨cv, by simpa [Instr.loadAt, Instr.sureAddr] using h1, h2⟩
  cases hp with
  | ref r off cs0 hH =>
    simp only [loadAV, hH] at h
    obtain ⟨vs, et, hw, hs, hl, hv⟩ := hR.box r _ hH
    refine key _ rfl ?_
    have := load_ok (P := P) (w := w) (β := β) (H := H) hT (b := β r) (o := 0) (off := off) (vf := fun j => vs.getD j undef) (fun j hj => by
      rw [cell_of hw, Nat.zero_add]; exact getD_some (by omega)) hv hl h
    simpa using this
  | eref r i off sz N row hH hi =>
    have hrow : rowsOf H r = some (sz, N, row) := by unfold rowsOf; rcases hH with hH | hH <;> rw [hH]
    simp only [loadAV, hrow, hi, if_true] at h
    refine key _ rfl ?_
    have main : ∀ (vs : Array Value) (et : TypeId) (fz : Nat × Nat), w.heap[β r]? = some (.cells vs et fz) → N * sz ≤ vs.size →
        (∀ i, i < N → (row i).length = sz ∧ allLeaf (row i) = true ∧ pureL (row i) = true) → (∀ i j, i < N → j < sz → R β H w.heap (vs.getD (i * sz + j) undef) ((row i).getD j .und)) →
        ∃ cv, (loadVar t ⟨β r, i * sz + off, none⟩).run P w = .ok cv w ∧ R β H w.heap cv av := by
      intro vs et fz hw hs hl hv
      obtain ⟨l1, l2, l3⟩ := hl i hi
      have hb : i * sz + sz ≤ N * sz := by
        have := Nat.mul_le_mul_right sz (show i + 1 ≤ N by omega)
        rw [Nat.succ_mul] at this; exact this
      refine load_ok (P := P) (w := w) (β := β) (H := H) hT (vf := fun j => vs.getD (i * sz + j) undef) (fun j hj => ?_) (fun j hj => hv i j hi (by omega)) l2 h
      rw [cell_of hw]; exact getD_some (by omega)
    rcases hH with hH | hH
    · obtain ⟨vs, et, fz, hw, hs, _, hl, hv⟩ := hR.arr r sz N row hH; exact main vs et fz hw hs hl hv
    · obtain ⟨vs, et, fz, _, hw, hs, hl, hv⟩ := hR.fro r sz N row hH; exact main vs et fz hw hs hl hv
  | erefd r i off ad hr hH =>
    have hrow : rowsOf H r = none := by unfold rowsOf; rw [hH]
    simp only [loadAV, hrow] at h
    cases h
  | rref b o off as_ cs et fz vf hi hW hl hv hRr =>
    simp only [loadAV] at h
    refine key _ rfl ?_
    exact load_ok (P := P) (w := w) (β := β) (H := H) hT (fun j hj => by rw [cell_of hW]; exact hv j hj) hRr hl.1 h
  | lref b o off as_ cs et fz vf hi hW hl hv hRr =>
    simp only [loadAV] at h
    refine key _ rfl ?_
    exact load_ok (P := P) (w := w) (β := β) (H := H) hT (fun j hj => by rw [cell_of hW]; exact hv j hj) hRr hl h
  | _ => cases h

theorem op_load (hC : CtxOK c P) {t : Nat} {y : Operand} (ho : o.op = .load t y) (hR : HR β H w.heap) (hE : ER β H w.heap a.tmps e)
    (h : opt (opd e y) (fun p => opt (c.tyOf t) fun ty => loadE H ty p fun v => κ (some v) H) = some x) : Goal P o a w Q κ x β H := by
  obtain ⟨p, hp, h⟩ := opt_some h
  obtain ⟨ty, hty, h⟩ := opt_some h
  rw [loadE_eq] at h
  obtain ⟨av, hav, hk⟩ := opt_some h
  obtain ⟨cv, hrun, hv⟩ := loadAV_ok hR (hC.ty t ty hty) (opd_ok hE hp) hav
  refine Goal.value hR ?_ hv hk
  unfold execOp
  rw [ho]
  simp [hrun]

theorem op_alloc (hC : CtxOK c P) {t : Nat} (ho : o.op = .alloc t) (hR : HR β H w.heap)
    (h : opt (c.tyOf t) (fun ty => κ (some (.ref H.length 0)) (H ++ [some (.box ty.zero)])) = some x) : Goal P o a w Q κ x β H := by
  obtain ⟨ty, hty, hk⟩ := opt_some h
  have hT := hC.ty t ty hty
  obtain ⟨i, hi, hsz, hby, z, hz, hzs, hzR⟩ := hT.info
  have hH' := hR.new_box z.cells t ty.zero (by rw [hzs, hT.len]) hT.leaf (fun j hj => hzR _ _ _ j hj)
  refine Goal.moved (w' := { w with heap := w.heap.push (.cells z.cells t (0, 0)) }) hH' (Evo.new hR _ _) ⟨rfl, rfl, rfl⟩ (cv := .pointer (some ⟨w.heap.size, 0, none⟩)) ?_ ?_ hk
  · unfold execOp
    rw [ho]
    simp [Instr.alloc, zeroValue, typeInfo, hi, hz, newVar, newRow]
  · show R _ _ _ _ _
    have := R.ref (β := upd β H.length w.heap.size) (H := H ++ [some (.box ty.zero)]) (W := w.heap.push (.cells z.cells t (0, 0))) H.length 0 ty.zero at_app_eq
    rw [upd_eq] at this; exact this

theorem op_box {t : Nat} {y : Operand} (ho : o.op = .box t y) (hR : HR β H w.heap) (hE : ER β H w.heap a.tmps e)
    (h : opt (c.opdT t e y) (fun v => if allLeaf v.cells = true then κ (some (.ref H.length 0)) (H ++ [some (.box v.cells)]) else none) = some x) : Goal P o a w Q κ x β H := by
  obtain ⟨v, hv, h⟩ := opt_some h
  obtain ⟨hl, hk⟩ := ite_some h
  obtain ⟨hs, hRc⟩ := (opdT_ok hE hv).cells hl
  have hH' := hR.new_box (a.eval y).cells t v.cells hs hl hRc
  refine Goal.moved (w' := { w with heap := w.heap.push (.cells (a.eval y).cells t (0, 0)) }) hH' (Evo.new hR _ _) ⟨rfl, rfl, rfl⟩ (cv := .pointer (some ⟨w.heap.size, 0, none⟩)) ?_ ?_ hk
  · unfold execOp
    rw [ho]
    simp [Instr.box, newVar, newRow]
  · show R _ _ _ _ _
    have := R.ref (β := upd β H.length w.heap.size) (H := H ++ [some (.box v.cells)]) (W := w.heap.push (.cells (a.eval y).cells t (0, 0))) H.length 0 v.cells at_app_eq
    rw [upd_eq] at this; exact this
end
end Go.Ev

set_option linter.unusedVariables false
set_option linter.unusedSimpArgs false
set_option linter.unusedSectionVars false
namespace Go.Ev
open Go
variable [Gh]

theorem setCell_heap {w : World} {b o : Nat} {cs : Array Value} {e : TypeId} {fz : Nat × Nat} (h : w.heap[b]? = some (.cells cs e fz)) (v : Value) :
    (w.setCell ⟨b, o, none⟩ v).heap[b]? = some (.cells (cs.setIfInBounds o v) e fz) := by
  simp [World.setCell, Array.getElem?_modify, h]
theorem setCell_other {w : World} {b o q : Nat} (h : q ≠ b) (v : Value) : (w.setCell ⟨b, o, none⟩ v).heap[q]? = w.heap[q]? := by
  simp only [World.setCell, Array.getElem?_modify]
  rw [if_neg (by omega)]
theorem setCell_size {w : World} {a : Addr} (v : Value) : (w.setCell a v).heap.size = w.heap.size := by simp [World.setCell]

theorem setCells_heap {b : Nat} {e : TypeId} {fz : Nat × Nat} : ∀ (vs : List Value) (o : Nat) (w : World) (cs : Array Value), w.heap[b]? = some (.cells cs e fz) → o + vs.length ≤ cs.size →
    ∃ cs', (w.setCells b o vs).heap[b]? = some (.cells cs' e fz) ∧ cs'.size = cs.size ∧ (∀ j, j < cs.size → cs'.getD j undef = if o ≤ j ∧ j < o + vs.length then vs.getD (j - o) undef else cs.getD j undef) ∧
      (∀ q, q ≠ b → (w.setCells b o vs).heap[q]? = w.heap[q]?) ∧ (w.setCells b o vs).heap.size = w.heap.size ∧ Same w (w.setCells b o vs)
  | [], o, w, cs, h, hl => ⟨cs, h, rfl, fun j hj => by rw [if_neg (by simp)], fun q hq => rfl, rfl, Same.refl _⟩
  | v :: vs, o, w, cs, h, hl => by
    simp only [List.length_cons] at hl
    obtain ⟨cs', h1, h2, h3, h4, h5, h6⟩ := setCells_heap vs (o + 1) (w.setCell ⟨b, o, none⟩ v) (cs.setIfInBounds o v) (setCell_heap h v) (by simp; omega)
    refine ⟨cs', h1, by simpa using h2, fun j hj => ?_, fun q hq => (h4 q hq).trans (setCell_other hq v), h5.trans (setCell_size v), Same.trans ⟨rfl, rfl, rfl⟩ h6⟩
    rw [h3 j (by simpa using hj)]
    by_cases hjo : j = o
    · subst hjo
      rw [if_neg (by omega), if_pos ⟨by omega, by simp⟩]
      simp [Array.getD_eq_getD_getElem?, hj]
    · by_cases hr : o + 1 ≤ j ∧ j < o + 1 + vs.length
      · rw [if_pos hr, if_pos ⟨by omega, by simp; omega⟩, show j - o = (j - (o + 1)) + 1 by omega]
        simp
      · rw [if_neg hr, if_neg (by simp; omega)]
        simp [Array.getD_eq_getD_getElem?, Array.getElem?_setIfInBounds, Ne.symm hjo]

section
variable {ρ : Type} {P : Program} {o : Oper} {a : Act} {w : World} {Q : Exit → Act → World → Prop} {κ : Option AV → Heap → Option ρ} {x : ρ} {β : Nat → Nat} {H : Heap} {e : List (Option AV)} {c : Ctx}

theorem but_setCells {b : Nat} {et : TypeId} {fz : Nat × Nat} {vs : List Value} {o : Nat} {cs : Array Value} (h : w.heap[b]? = some (.cells cs et fz)) (hl : o + vs.length ≤ cs.size) :
    But b w.heap (w.setCells b o vs).heap := by
  obtain ⟨cs', h1, h2, h3, h4, h5, h6⟩ := setCells_heap vs o w cs h hl
  exact ⟨h5, h4, by rw [cellsAt_of h1, cellsAt_of h, h2]⟩

theorem stCells_len {as_ vs : List AV} {off : Nat} (h : off + vs.length ≤ as_.length) : (stCells as_ off vs).length = as_.length := by
  simp [stCells]; omega
theorem stCells_getD {as_ vs : List AV} {off j : Nat} (h : off + vs.length ≤ as_.length) (hj : j < as_.length) :
    (stCells as_ off vs).getD j .und = if off ≤ j ∧ j < off + vs.length then vs.getD (j - off) .und else as_.getD j .und := by
  have ho : off ≤ as_.length := by omega
  have lt : (as_.take off).length = off := by simp; omega
  have l2 : (as_.take off ++ vs).length = off + vs.length := by simp; omega
  unfold stCells
  rw [List.getD_eq_getElem?_getD]
  by_cases h2 : j < off + vs.length
  · rw [List.getElem?_append_left (by omega)]
    by_cases h1 : j < off
    · rw [List.getElem?_append_left (by omega), List.getElem?_take_of_lt h1, if_neg (by omega), List.getD_eq_getElem?_getD]
    · rw [List.getElem?_append_right (by omega), lt, if_pos ⟨by omega, h2⟩, List.getD_eq_getElem?_getD]
  · rw [List.getElem?_append_right (by omega), l2, List.getElem?_drop, if_neg (by omega), show off + vs.length + (j - (off + vs.length)) = j by omega, List.getD_eq_getElem?_getD]
theorem stCells_leaf {as_ vs : List AV} {off : Nat} (h : allLeaf as_ = true) (k : allLeaf vs = true) : allLeaf (stCells as_ off vs) = true := by
  rw [allLeaf_iff] at *
  intro a ha
  simp only [stCells, List.mem_append] at ha
  rcases ha with (ha | ha) | ha
  · exact h a (List.mem_of_mem_take ha)
  · exact k a ha
  · exact h a (List.mem_of_mem_drop ha)
theorem stCells_pure {as_ vs : List AV} {off : Nat} (h : pureL as_ = true) (k : pureL vs = true) : pureL (stCells as_ off vs) = true := by
  rw [pureL_iff] at *
  intro a ha
  simp only [stCells, List.mem_append] at ha
  rcases ha with (ha | ha) | ha
  · exact h a (List.mem_of_mem_take ha)
  · exact k a ha
  · exact h a (List.mem_of_mem_drop ha)

theorem storeVar_run {t : Nat} {ty : Ty} (hT : TyOK P t ty) {b o : Nat} {v : Value} {cs : Array Value} {et : TypeId} {fz : Nat × Nat} (hw : w.heap[b]? = some (.cells cs et fz))
    (hs : v.cells.size = ty.size) (hl : o + ty.size ≤ cs.size) (hz : cs.size ≤ fz.1 + (if fz.1 < fz.2 then 0 else cs.size)) (h1 : ∀ u ∈ v.cells.toList, u.oneCell' = true) :
    (storeVar t ⟨b, o, none⟩ v).run P w = .ok () (w.setCells b o v.cells.toList) := by
  have hst := run_storeCells_cells (P := P) b o v.cells.toList 0 w (fun j hj => by
      rw [cell_of hw, getD_some (by simp at hj; omega)]; rfl)
    (fun j hj => by
      simp only [World.frozen?, hw]
      simp only [Array.length_toList] at hj
      by_cases hlt : fz.1 < fz.2
      · rw [if_pos hlt] at hz
        have : ¬ fz.1 ≤ o + 0 + j := by omega
        rw [decide_eq_false this]; rfl
      · have : ¬ (fz.1 ≤ o + 0 + j ∧ o + 0 + j < fz.2) := by omega
        simpa using this) h1
  simp only [Nat.add_zero] at hst
  simp [storeVar, hT.sizeOf, hs, hst]

theorem op_store (hC : CtxOK c P) {t : Nat} {y z : Operand} (ho : o.op = .store t y z) (hR : HR β H w.heap) (hE : ER β H w.heap a.tmps e)
    (h : opt (opd e y) (fun p => opt (c.opdT t e z) fun v => opt (c.tyOf t) fun ty => storeE H ty p v fun H => κ none H) = some x) : Goal P o a w Q κ x β H := by
  obtain ⟨p, hp, h⟩ := opt_some h
  obtain ⟨v, hv, h⟩ := opt_some h
  obtain ⟨ty, hty, h⟩ := opt_some h
  rw [storeE_eq] at h
  obtain ⟨H', hH', hk⟩ := opt_some h
  have hT := hC.ty t ty hty
  have rp := opd_ok hE hp
  have rv := opdT_ok hE hv
  unfold storeAV at hH'
  simp only at hH'
  split at hH'
  case isFalse => cases hH'
  rename_i hcond
  obtain ⟨hsz, hleaf⟩ := hcond
  obtain ⟨hcs, hcR⟩ := rv.cells hleaf
  have hone := allLeaf_one hleaf hcs hcR
  have hrun : ∀ (b off : Nat), a.eval y = .pointer (some ⟨b, off, none⟩) → ∀ w', (storeVar t ⟨b, off, none⟩ (a.eval z)).run P w = .ok () w' → (execOp a.eval o).run P w = .ok .skip w' := by
    intro b off hb w' hst
    unfold execOp
    rw [ho]
    simp [Instr.storeAt, hb, Instr.sureAddr, hst]
  cases p with
  | ref r off =>
    simp only at hH'
    split at hH'
    · rename_i as_ hH
      obtain ⟨hle, he⟩ := ite_some hH'
      cases he
      have hb : a.eval y = .pointer (some ⟨β r, off, none⟩) := by
        generalize a.eval y = pv at rp; cases rp; rfl
      obtain ⟨vs, et, hw, hs, hl, hRr⟩ := hR.box r as_ hH
      have hst := storeVar_run (P := P) (w := w) hT (o := off) (v := a.eval z) hw (by rw [hcs, hsz]) (by omega) (by simp) hone
      obtain ⟨cs', c1, c2, c3, c4, c5, c6⟩ := setCells_heap (a.eval z).cells.toList off w vs hw (by simp; omega)
      have hb2 := but_setCells (w := w) (vs := (a.eval z).cells.toList) (o := off) (cs := vs) hw (by simp; omega)
      refine Goal.skip (HR.set_box hR hH _ hb2 cs' et c1 (by rw [c2, stCells_len hle, hs]) (stCells_leaf hl hleaf) fun j hj => ?_) (Evo.set_box hR hH _ hb2) c6 (hrun _ _ hb _ hst) hk
      rw [stCells_len hle] at hj
      rw [stCells_getD hle hj, c3 j (by omega)]
      simp only [Array.length_toList, hcs]
      by_cases hr : off ≤ j ∧ j < off + v.cells.length
      · rw [if_pos hr, if_pos hr]
        have := hcR (j - off) (by omega)
        simpa [Array.getD_eq_getD_getElem?, List.getD_eq_getElem?_getD] using this
      · rw [if_neg hr, if_neg hr]; exact hRr j hj
    · cases hH'
  | eref r i off =>
    simp only at hH'
    split at hH'
    · rename_i sz n row hH
      obtain ⟨⟨hi, hle, hpu⟩, he⟩ := ite_some hH'
      cases he
      have hb : a.eval y = .pointer (some ⟨β r, i * sz + off, none⟩) := by
        generalize a.eval y = pv at rp
        cases rp with
        | eref r i off sz' N' row' hH2 hi2 =>
          rcases hH2 with h2 | h2 <;> rw [hH] at h2 <;> cases h2
          rfl
        | erefd r i off ad hr hH2 => rw [hH] at hH2; cases hH2
      obtain ⟨vs, et, fz, hw, hs, hz, hl, hRr⟩ := hR.arr r sz n row hH
      obtain ⟨l1, l2, l3⟩ := hl i hi
      have hb1 : i * sz + sz ≤ n * sz := by
        have := Nat.mul_le_mul_right sz (show i + 1 ≤ n by omega)
        rw [Nat.succ_mul] at this; exact this
      have hst := storeVar_run (P := P) (w := w) hT (o := i * sz + off) (v := a.eval z) hw (by rw [hcs, hsz]) (by omega) hz hone
      obtain ⟨cs', c1, c2, c3, c4, c5, c6⟩ := setCells_heap (a.eval z).cells.toList (i * sz + off) w vs hw (by simp; omega)
      have hb2 := but_setCells (w := w) (vs := (a.eval z).cells.toList) (o := i * sz + off) (cs := vs) hw (by simp; omega)
      have hle' : off + v.cells.length ≤ (row i).length := by omega
      refine Goal.skip (HR.set_arr hR hH _ hb2 cs' et fz c1 (by omega) (by rw [c2]; exact hz) (fun j hj => ?_) fun i' j hi' hj => ?_) (Evo.set_arr hR hH _ hb2) c6 (hrun _ _ hb _ hst) hk
      · by_cases hji : j = i
        · subst hji
          simp only [if_true]
          exact ⟨by rw [stCells_len hle']; exact l1, stCells_leaf l2 hleaf, stCells_pure l3 hpu⟩
        · simp only [hji, if_false]; exact hl j hj
      · have hb3 : i' * sz + sz ≤ n * sz := by
          have := Nat.mul_le_mul_right sz (show i' + 1 ≤ n by omega)
          rw [Nat.succ_mul] at this; exact this
        rw [c3 _ (by omega)]
        simp only [Array.length_toList, hcs]
        by_cases hji : i' = i
        · subst hji
          simp only [if_true]
          rw [stCells_getD hle' (by omega)]
          by_cases hr : off ≤ j ∧ j < off + v.cells.length
          · rw [if_pos hr, if_pos (by omega), show i' * sz + j - (i' * sz + off) = j - off by omega]
            have := hcR (j - off) (by omega)
            simpa [Array.getD_eq_getD_getElem?, List.getD_eq_getElem?_getD] using this
          · rw [if_neg hr, if_neg (by omega)]; exact hRr i' j hi' hj
        · simp only [hji, if_false]
          have hno : ¬ (i * sz + off ≤ i' * sz + j ∧ i' * sz + j < i * sz + off + v.cells.length) := by
            rcases Nat.lt_or_gt_of_ne hji with hlt | hgt
            · have := Nat.mul_le_mul_right sz (show i' + 1 ≤ i by omega)
              rw [Nat.succ_mul] at this; omega
            · have := Nat.mul_le_mul_right sz (show i + 1 ≤ i' by omega)
              rw [Nat.succ_mul] at this; omega
          rw [if_neg hno]; exact hRr i' j hi' hj
    · cases hH'
  | _ => cases hH'
end
end Go.Ev

set_option linter.unusedSectionVars false
namespace Go.Ev
open Go
variable [Gh]
theorem getD_extract {vs : Array Value} {off n j : Nat} (h : off + n ≤ vs.size) (hj : j < n) : (vs.extract off (off + n)).getD j undef = vs.getD (off + j) undef := by
  rw [Array.getD_eq_getD_getElem?, Array.getD_eq_getD_getElem?, Array.getElem?_extract, if_pos (by omega)]
theorem getD_ex {vs : Array Value} {j : Nat} (h : j < vs.size) : ∃ u, vs[j]? = some u ∧ vs.getD j undef = u :=
  ⟨vs[j], Array.getElem?_eq_getElem h, by rw [Array.getD_eq_getD_getElem?, Array.getElem?_eq_getElem h]; rfl⟩
theorem kOf_ty {c : Ctx} {t : Nat} {k : TK} (h : c.kOf t = some k) : ∃ ty, c.tyOf t = some ty ∧ ty.k = k := by
  unfold Ctx.kOf at h
  split at h
  · rename_i ty hty
    exact ⟨ty, hty, Option.some.inj h⟩
  · cases h
theorem kOf_desc {c : Ctx} {P : Program} (hC : CtxOK c P) {t : Nat} {k : TK} (h : c.kOf t = some k) : TKOK P t k := by
  obtain ⟨ty, hty, rfl⟩ := kOf_ty h
  exact (hC.ty t ty hty).desc
end Go.Ev

set_option linter.unusedVariables false
set_option linter.unusedSimpArgs false
set_option linter.unusedSectionVars false
namespace Go.Ev
open Go
variable [Gh]

section
variable {ρ : Type} {P : Program} {o : Oper} {a : Act} {w : World} {Q : Exit → Act → World → Prop} {κ : Option AV → Heap → Option ρ} {x : ρ} {β : Nat → Nat} {H : Heap} {e : List (Option AV)} {c : Ctx}

theorem struct_field {s : Nat} {ty : Ty} (hT : TyOK P s ty) {fs : List (Nat × Nat)} (hk : ty.k = .struct fs) {f off t : Nat} (hf : fs[f]? = some (off, t)) :
    ∃ (fields : Array Field) (fld : Field), P.underlying s = some (.struct fields) ∧ fields[f]? = some fld ∧ fld.offset = off ∧ fld.type = t := by
  have hd := hT.desc
  rw [hk] at hd
  obtain ⟨fields, hu, hm⟩ := hd
  rw [← hm] at hf
  simp only [List.getElem?_map, Array.getElem?_toList] at hf
  cases hq : fields[f]? with
  | none => rw [hq] at hf; cases hf
  | some fld =>
    rw [hq] at hf
    simp at hf
    exact ⟨fields, fld, hu, hq, hf.1, hf.2⟩

theorem op_nilCheck {y : Operand} (ho : o.op = .nilCheck y) (hR : HR β H w.heap) (hE : ER β H w.heap a.tmps e)
    (h : opt (opd e y) (fun p => match p with
    | .ref .. => κ (some p) H
    | .eref .. => κ (some p) H
    | .rref .. => κ (some p) H
    | .lref .. => κ (some p) H
    | .fn .. => κ (some p) H
    | _ => none) = some x) : Goal P o a w Q κ x β H := by
  obtain ⟨p, hp, h⟩ := opt_some h
  have rp := opd_ok hE hp
  have run : ∀ v, a.eval y = v → (match v with | .pointer none | .nilIface | .nilFunc => False | .func (.method _) _ _ => False | _ => True) → (execOp a.eval o).run P w = .ok (.value v) w := by
    intro v hv hn
    unfold execOp
    rw [ho]
    simp only [hv]
    split at hn <;> first | exact hn.elim | (split <;> first | rfl | simp_all)
  generalize hv : a.eval y = v at rp
  cases rp with
  | ref r off cs hH => exact Goal.value hR (run _ hv trivial) (.ref r off cs hH) h
  | eref r i off sz N row hH hi => exact Goal.value hR (run _ hv trivial) (.eref r i off sz N row hH hi) h
  | erefd r i off ad hr hH => exact Goal.value hR (run _ hv trivial) (.erefd r i off ad hr hH) h
  | rref b o' off as_ cs et fz vf hi hW hl hv' hRr => exact Goal.value hR (run _ hv trivial) (.rref b o' off as_ cs et fz vf hi hW hl hv' hRr) h
  | lref b o' off as_ cs et fz vf hi hW hl hv' hRr => exact Goal.value hR (run _ hv trivial) (.lref b o' off as_ cs et fz vf hi hW hl hv' hRr) h
  | fn f vs us as_ bs h1 h2 h3 h4 => exact Goal.value hR (run _ hv trivial) (.fn f vs us as_ bs h1 h2 h3 h4) h
  | _ => cases h

theorem fieldPtr_ok {off : Nat} {pv : Value} {p q : AV} (hp : R β H w.heap pv p) (h : fieldPtr off p = some q) :
    ∃ ad, pv = .pointer (some ad) ∧ R β H w.heap (.pointer (some (ad.add off))) q := by
  cases hp with
  | ref r o' cs hH =>
    cases h
    exact ⟨_, rfl, by rw [Addr.add_lit]; exact .ref r (o' + off) cs hH⟩
  | eref r i o' sz N row hH hi =>
    cases h
    exact ⟨_, rfl, by rw [Addr.add_lit, Nat.add_assoc]; exact .eref r i (o' + off) sz N row hH hi⟩
  | erefd r i o' ad hr hH =>
    cases h
    exact ⟨_, rfl, .erefd r i (o' + off) _ hr hH⟩
  | rref b o' off' as_ cs et fz vf hi hW hl hv hRr =>
    cases h
    exact ⟨_, rfl, by rw [Addr.add_lit, Nat.add_assoc]; exact .rref b o' (off' + off) as_ cs et fz vf hi hW hl hv hRr⟩
  | lref b o' off' as_ cs et fz vf hi hW hl hv hRr =>
    cases h
    exact ⟨_, rfl, by rw [Addr.add_lit, Nat.add_assoc]; exact .lref b o' (off' + off) as_ cs et fz vf hi hW hl hv hRr⟩
  | _ => cases h

theorem op_fieldAddr (hC : CtxOK c P) {s f : Nat} {y : Operand} (ho : o.op = .fieldAddr s y f) (hR : HR β H w.heap) (hE : ER β H w.heap a.tmps e)
    (h : opt (opd e y) (fun p => match c.tyOf s with
    | some ⟨.struct fs, _, _, _, _⟩ => opt fs[f]? fun (off, t) => opt (c.tyOf t) fun ty => if ty.size = 0 then none else opt (fieldPtr off p) fun v => κ (some v) H
    | _ => none) = some x) : Goal P o a w Q κ x β H := by
  obtain ⟨p, hp, h⟩ := opt_some h
  split at h
  · rename_i fs z1 z2 z3 z4 hty
    obtain ⟨⟨off, t⟩, hf, h⟩ := opt_some h
    obtain ⟨ty, ht, h⟩ := opt_some h
    split at h
    · cases h
    rename_i hz
    obtain ⟨q, hq, hk⟩ := opt_some h
    obtain ⟨fields, fld, hu, hfl, ho1, ho2⟩ := struct_field (hC.ty s _ hty) rfl hf
    obtain ⟨ad, had, hq2⟩ := fieldPtr_ok (opd_ok hE hp) hq
    refine Goal.value hR (cv := .pointer (some (ad.add off))) ?_ hq2 hk
    have hT := hC.ty t ty ht
    unfold execOp
    rw [ho]
    simp [Instr.fieldAt, run_underlying hu w, hfl, had, Instr.sureAddr, fieldPlace, ho1, ho2, hT.sizeOf, hz]
  · cases h

theorem op_field (hC : CtxOK c P) {s f : Nat} {y : Operand} (ho : o.op = .field s y f) (hR : HR β H w.heap) (hE : ER β H w.heap a.tmps e)
    (h : opt (opd e y) (fun p => match c.tyOf s, p with
    | some ⟨.struct fs, _, _, _, _⟩, .agg cs => opt fs[f]? fun (off, t) => opt (c.tyOf t) fun ty => opt (ldCells ty cs off) fun v => κ (some v) H
    | _, _ => none) = some x) : Goal P o a w Q κ x β H := by
  obtain ⟨p, hp, h⟩ := opt_some h
  have rp := opd_ok hE hp
  split at h
  · rename_i fs z1 z2 z3 z4 cs hty
    obtain ⟨⟨off, t⟩, hf, h⟩ := opt_some h
    obtain ⟨ty, ht, h⟩ := opt_some h
    obtain ⟨av, hav, hk⟩ := opt_some h
    obtain ⟨fields, fld, hu, hfl, ho1, ho2⟩ := struct_field (hC.ty s _ hty) rfl hf
    have hT := hC.ty t ty ht
    generalize hv : a.eval y = v at rp
    cases rp with
    | agg vs as_ hvs hl hRr =>
    unfold ldCells at hav
    split at hav
    · rename_i hg
      obtain ⟨hle, he⟩ := ite_some hav
      cases he
      refine Goal.value hR (cv := .agg (vs.extract off (off + ty.size))) ?_ ?_ hk
      · unfold execOp
        rw [ho]
        simp [Instr.field, run_underlying hu w, hfl, hv, asAgg, part, ho1, ho2, hT.isAgg, hg, hT.sizeOf]
      · refine .agg _ _ (by simp; omega) (allLeaf_take hl _ _) fun j hj => ?_
        have hj' : j < ty.size := by simp at hj; omega
        rw [getD_cut hj']
        rw [getD_extract (by omega) hj']
        exact hRr (off + j) (by omega)
    · rename_i hg
      have hlt : off < cs.length := by
        rcases Nat.lt_or_ge off cs.length with hh | hh
        · exact hh
        · rw [List.getElem?_eq_none hh] at hav; cases hav
      have he : cs.getD off .und = av := by rw [List.getD_eq_getElem?_getD, hav]; rfl
      have hg' : ty.k.agg = false := by simpa using hg
      obtain ⟨u, hu1, hu2⟩ := getD_ex (vs := vs) (j := off) (by omega)
      refine Goal.value hR (cv := u) ?_ (he ▸ hu2 ▸ hRr off hlt) hk
      unfold execOp
      rw [ho]
      simp [Instr.field, run_underlying hu w, hfl, hv, asAgg, part, ho1, ho2, hT.isAgg, hg', hu1]
  · cases h

theorem op_extract {y : Operand} {i : Nat} (ho : o.op = .extract y i) (hR : HR β H w.heap) (hE : ER β H w.heap a.tmps e)
    (h : opt (opd e y) (fun p => match p with
    | .tup vs => opt vs[i]? fun v => κ (some v) H
    | _ => none) = some x) : Goal P o a w Q κ x β H := by
  obtain ⟨p, hp, h⟩ := opt_some h
  have rp := opd_ok hE hp
  split at h
  · rename_i as_
    obtain ⟨av, hav, hk⟩ := opt_some h
    generalize hv : a.eval y = v at rp
    cases rp with
    | tup vs as_ hvs hRr =>
    have hlt : i < as_.length := by
      rcases Nat.lt_or_ge i as_.length with hh | hh
      · exact hh
      · rw [List.getElem?_eq_none hh] at hav; cases hav
    have he : as_.getD i .und = av := by rw [List.getD_eq_getElem?_getD, hav]; rfl
    obtain ⟨u, hu1, hu2⟩ := getD_ex (vs := vs) (j := i) (by omega)
    refine Goal.value hR (cv := u) ?_ (he ▸ hu2 ▸ hRr i hlt) hk
    unfold execOp
    rw [ho]
    simp [Instr.extract, hv, hu1]
  · cases h

theorem opds_ok (hE : ER β H w.heap a.tmps e) : ∀ {ys : List Operand} {as_ : List AV}, opds e ys = some as_ → ys.length = as_.length ∧ ∀ j, j < as_.length → R β H w.heap ((ys.map a.eval).getD j undef) (as_.getD j .und)
  | [], as_, h => by cases h; exact ⟨rfl, fun j hj => by simp at hj⟩
  | y :: ys, as_, h => by
    unfold opds at h
    split at h
    · rename_i v vs h1 h2
      cases h
      obtain ⟨i1, i2⟩ := opds_ok hE h2
      refine ⟨by simp [i1], fun j hj => ?_⟩
      cases j with
      | zero => simpa using opd_ok hE h1
      | succ j => simpa using i2 j (by simpa using hj)
    · cases h
theorem opdsT_ok (hE : ER β H w.heap a.tmps e) : ∀ {ys : List Operand} {ts : List Nat} {as_ : List AV}, c.opdsT e ys ts = some as_ → ys.length = as_.length ∧ ∀ j, j < as_.length → R β H w.heap ((ys.map a.eval).getD j undef) (as_.getD j .und)
  | [], ts, as_, h => by cases h; exact ⟨rfl, fun j hj => by simp at hj⟩
  | y :: ys, ts, as_, h => by
    unfold Ctx.opdsT at h
    split at h
    · rename_i v vs h1 h2
      cases h
      obtain ⟨i1, i2⟩ := opdsT_ok hE h2
      refine ⟨by simp [i1], fun j hj => ?_⟩
      cases j with
      | zero => simpa using opdT_ok hE h1
      | succ j => simpa using i2 j (by simpa using hj)
    · cases h

theorem op_makeFunc {f : Nat} {first caps : Array Operand} (ho : o.op = .makeFunc (.func f) first caps) (hR : HR β H w.heap) (hE : ER β H w.heap a.tmps e)
    (h : opt (opds e first.toList) (fun as_ => opt (opds e caps.toList) fun bs => κ (some (.fn f as_ bs)) H) = some x) : Goal P o a w Q κ x β H := by
  obtain ⟨as_, has, h⟩ := opt_some h
  obtain ⟨bs, hbs, hk⟩ := opt_some h
  obtain ⟨a1, a2⟩ := opds_ok hE has
  obtain ⟨b1, b2⟩ := opds_ok hE hbs
  refine Goal.value hR (cv := .func (.func f) (first.map a.eval) (caps.map a.eval)) ?_ (.fn f _ _ as_ bs (by simpa using a1) (by simpa using b1) (fun j hj => ?_) fun j hj => ?_) hk
  · unfold execOp
    rw [ho]
    simp [Instr.makeFunc]
  · have := a2 j hj
    simpa [Array.getD_eq_getD_getElem?, List.getD_eq_getElem?_getD] using this
  · have := b2 j hj
    simpa [Array.getD_eq_getD_getElem?, List.getD_eq_getElem?_getD] using this

theorem op_index {t : Nat} {y z : Operand} (ho : o.op = .index t y z) (hC : CtxOK c P) (hR : HR β H w.heap) (hE : ER β H w.heap a.tmps e)
    (h : opt (opd e y) (fun u => opt (opd e z) fun v => match c.kOf t, u, v with
    | some .str, .str s, .int _ i => bif idxOK i s.size then κ (some (.int .u8 ((s.data.getD i.toNat 0).toNat : Int))) H else none
    | some (.arr n et), .agg cs, .int _ i => opt (c.tyOf et) fun ey => bif idxOK i n then opt (ldCells ey cs (i.toNat * ey.size)) (fun v => κ (some v) H) else none
    | _, _, _ => none) = some x) : Goal P o a w Q κ x β H := by
  obtain ⟨u, hu, h1⟩ := opt_some h
  obtain ⟨v, hv, h2⟩ := opt_some h1
  clear h h1
  split at h2
  · rename_i s k i hkt
    obtain ⟨hb, hk⟩ := bif_some h2
    have eu := (opd_ok hE hu).inv_str
    have ev := (opd_ok hE hv).inv_int
    simp only [idxOK, Bool.and_eq_true, decide_eq_true_eq] at hb
    have hund : P.underlying t = some .string := kOf_desc hC hkt
    have hlt : i.toNat < s.size := by omega
    refine Goal.value hR (cv := .int .u8 ((s.data.getD i.toNat 0).toNat : Int)) ?_ (.int _ _) hk
    unfold execOp
    rw [ho]
    have hs : s[i.toNat]? = some (s.data.getD i.toNat 0) := by
      rw [getElem?_pos s i.toNat hlt]
      congr 1
      show s.data[i.toNat] = _
      rw [Array.getD_eq_getD_getElem?, Array.getElem?_eq_getElem hlt]; rfl
    simp [Instr.index, eu, ev, asIntOf, run_underlying hund w, hb.1, hs]
  · rename_i n et cs k i hkt
    obtain ⟨ey, hey, h3⟩ := opt_some h2
    obtain ⟨hb, h4⟩ := bif_some h3
    obtain ⟨av, hav, hk⟩ := opt_some h4
    have ru := opd_ok hE hu
    have ev := (opd_ok hE hv).inv_int
    simp only [idxOK, Bool.and_eq_true, decide_eq_true_eq] at hb
    have hund : P.underlying t = some (.array n et) := kOf_desc hC hkt
    have hT := hC.ty et ey hey
    generalize hyv : a.eval y = yv at ru
    cases ru with
    | agg vs as_ hvs hl hRr =>
    unfold ldCells at hav
    split at hav
    · rename_i hg
      obtain ⟨hle, he⟩ := ite_some hav
      cases he
      refine Goal.value hR (cv := .agg (vs.extract (i.toNat * ey.size) (i.toNat * ey.size + ey.size))) ?_ ?_ hk
      · unfold execOp
        rw [ho]
        simp [Instr.index, run_underlying hund w, hyv, ev, asIntOf, hb.1, hb.2, part, hT.isAgg, hg, hT.sizeOf]
      · refine .agg _ _ (by simp; omega) (allLeaf_take hl _ _) fun j hj => ?_
        have hj' : j < ey.size := by simp at hj; omega
        rw [getD_cut hj']
        rw [getD_extract (by omega) hj']
        exact hRr (i.toNat * ey.size + j) (by omega)
    · rename_i hg
      have hlt : i.toNat * ey.size < cs.length := by
        rcases Nat.lt_or_ge (i.toNat * ey.size) cs.length with hh | hh
        · exact hh
        · rw [List.getElem?_eq_none hh] at hav; cases hav
      have he : cs.getD (i.toNat * ey.size) .und = av := by rw [List.getD_eq_getElem?_getD, hav]; rfl
      have hg' : ey.k.agg = false := by simpa using hg
      obtain ⟨u', hu1, hu2⟩ := getD_ex (vs := vs) (j := i.toNat * ey.size) (by omega)
      refine Goal.value hR (cv := u') ?_ (he ▸ hu2 ▸ hRr (i.toNat * ey.size) hlt) hk
      unfold execOp
      rw [ho]
      simp [Instr.index, run_underlying hund w, hyv, ev, asIntOf, hb.1, hb.2, part, hT.isAgg, hg', hT.sizeOf, hu1]
  · cases h2
end
end Go.Ev

set_option linter.unusedVariables false
set_option linter.unusedSimpArgs false
set_option linter.unusedSectionVars false
namespace Go.Ev
open Go
variable [Gh]

section
variable {ρ : Type} {P : Program} {o : Oper} {a : Act} {w : World} {Q : Exit → Act → World → Prop} {κ : Option AV → Heap → Option ρ} {x : ρ} {β : Nat → Nat} {H : Heap} {e : List (Option AV)} {c : Ctx}

theorem indexAt_run {t et : Nat} {ey : Ty} (hu : P.underlying t = some (.slice et)) (hT : TyOK P et ey) {ad : Addr} {len cap : Nat} {k : IntKind} {i : Int} (h0 : 0 ≤ i) (h1 : i < (len : Int)) :
    (Instr.indexAt t (.slice (some ad) len cap) (.int k i)).run P w = .ok (.pointer (some (ad.add (i.toNat * ey.size)))) w := by
  simp [Instr.indexAt, asIntOf, run_underlying hu w, h0, h1, hT.sizeOf]

theorem op_indexAddr (hC : CtxOK c P) {t : Nat} {y z : Operand} (ho : o.op = .indexAddr t y z) (hR : HR β H w.heap) (hE : ER β H w.heap a.tmps e)
    (h : opt (opd e y) (fun u => opt (opd e z) fun v => match c.tyOf t, v with
    | some ⟨.slice et, _, _, _, _⟩, .int _ i => opt (c.tyOf et) fun ey => chk (indexPtr ey.size u i) fun v => κ (some v) H
    | _, _ => none) = some x) : Goal P o a w Q κ x β H := by
  obtain ⟨u, hu, h1⟩ := opt_some h
  obtain ⟨v, hv, h2⟩ := opt_some h1
  clear h h1
  split at h2
  case h_2 => cases h2
  rename_i et z1 z2 z3 z4 k i hty
  obtain ⟨ey, hey, h3⟩ := opt_some h2
  obtain ⟨p, hp, hk⟩ := chk_some h3
  have hund : P.underlying t = some (.slice et) := (hC.ty t _ hty).desc
  have hT := hC.ty et ey hey
  have ev := (opd_ok hE hv).inv_int
  have ru := opd_ok hE hu
  have run : ∀ cv, (Instr.indexAt t (a.eval y) (.int k i)).run P w = .ok cv w → (execOp a.eval o).run P w = .ok (.value cv) w := by
    intro cv hcv
    unfold execOp
    rw [ho]
    simp [ev, hcv]
  generalize hyv : a.eval y = yv at ru run
  unfold indexPtr at hp
  cases ru with
  | sl0 ad c' sz row full hf =>
    obtain ⟨hs, he⟩ := ite_some hp
    have he := Option.some.inj he
    have hb : idxOK i 0 = true := congrArg Prod.fst he
    simp only [idxOK, Bool.and_eq_true, decide_eq_true_eq] at hb
    omega
  | sl b o' n c' sz row full cs et' fz vf hi hW hc hf hl hv' hRr =>
    obtain ⟨hs, he⟩ := ite_some hp
    have he := Option.some.inj he
    have hb : idxOK i n = true := congrArg Prod.fst he
    have hpp : AV.rref (row i.toNat) 0 = p := congrArg Prod.snd he
    simp only [idxOK, Bool.and_eq_true, decide_eq_true_eq] at hb
    have hlt : i.toNat < n := by omega
    obtain ⟨l1, l2, l3⟩ := hl i.toNat hlt
    refine Goal.value hR (run _ (indexAt_run hund hT hb.1 hb.2)) ?_ hk
    rw [← hpp, Addr.add_lit, ← hs]
    exact .rref b (o' + i.toNat * sz) 0 (row i.toNat) cs et' fz (fun j => vf i.toNat j) hi hW ⟨l2, l3⟩ (fun j hj => hv' _ _ hlt (by omega)) fun j hj => hRr _ _ hlt (by omega)
  | lsl b o' n sz as_ cs et' fz vf hi hW hl hn hv' hRr =>
    obtain ⟨hs, he⟩ := ite_some hp
    have he := Option.some.inj he
    have hb : idxOK i n = true := congrArg Prod.fst he
    have hpp : AV.lref as_ (i.toNat * sz) = p := congrArg Prod.snd he
    simp only [idxOK, Bool.and_eq_true, decide_eq_true_eq] at hb
    refine Goal.value hR (run _ (indexAt_run hund hT hb.1 hb.2)) ?_ hk
    rw [← hpp, Addr.add_lit, ← hs]
    exact .lref b o' (i.toNat * sz) as_ cs et' fz vf hi hW hl hv' hRr
  | osl r off len c' sz N m row full ad ha hH hW hn hc hf hs' hu' =>
    obtain ⟨hs, he⟩ := ite_some hp
    have he := Option.some.inj he
    have hb : idxOK i len = true := congrArg Prod.fst he
    have hpp : AV.eref r (off + i.toNat) 0 = p := congrArg Prod.snd he
    simp only [idxOK, Bool.and_eq_true, decide_eq_true_eq] at hb
    have had := ha (by omega)
    subst had
    refine Goal.value hR (run _ (indexAt_run hund hT hb.1 hb.2)) ?_ hk
    rw [← hpp, Addr.add_lit, ← hs, show off * sz + i.toNat * sz = (off + i.toNat) * sz + 0 by rw [Nat.add_mul]; rfl]
    exact .eref r (off + i.toNat) 0 sz N row hH (by omega)
  | osld sz r off len c' b o' full ad ha hc hf hr hH =>
    obtain ⟨hs, he⟩ := ite_some hp
    have he := Option.some.inj he
    have hb : idxOK i len = true := congrArg Prod.fst he
    have hpp : AV.eref r (off + i.toNat) 0 = p := congrArg Prod.snd he
    simp only [idxOK, Bool.and_eq_true, decide_eq_true_eq] at hb
    have had := ha (by omega)
    subst had
    refine Goal.value hR (run _ (indexAt_run hund hT hb.1 hb.2)) ?_ hk
    rw [← hpp]
    exact .erefd r (off + i.toNat) 0 _ hr hH
  | _ => cases hp

/-! ### cuts -/
/-- an operand that may be absent, and its value -/
def OR (β : Nat → Nat) (H : Heap) (W : Array Obj) : Option Value → Option AV → Prop
  | none, none => True
  | some v, some av => R β H W v av
  | _, _ => False

theorem bound_run {v : Value} {av : AV} (hr : R β H w.heap v av) {n i : Int} (hi : intOpt n (some av) = some i) {y : Nat} (h0 : 0 ≤ i) (h1 : i ≤ (y : Int)) (code : BoundsCode) :
    (Instr.sliceBound v y code).run P w = .ok i.toNat w := by
  cases av <;> simp only [intOpt] at hi <;> cases hi
  have := hr.inv_int
  subst this
  simp [Instr.sliceBound, asIntOf, h0, h1]

theorem bounds_run (isS : Bool) {n cap : Nat} (hcap : n ≤ cap) {lo hi mx : Option AV} {vlo vhi vmx : Option Value} (rl : OR β H w.heap vlo lo) (rh : OR β H w.heap vhi hi) (rm : OR β H w.heap vmx mx)
    {l h m : Int} (hl : intOpt 0 lo = some l) (hh : intOpt n hi = some h) (hm : intOpt n mx = some m) (hmh : mx.isSome = true → hi.isSome = true) (hc : cutOK n l h m = true) :
    (Instr.sliceBounds isS n cap vlo vhi vmx).run P w = .ok (l.toNat, h.toNat, if mx.isSome = true then m.toNat else cap) w := by
  simp only [cutOK, Bool.and_eq_true, decide_eq_true_eq] at hc
  obtain ⟨c1, c2, c3, c4, c5, c6⟩ := hc
  have one : ∀ {q : Option AV} {vq : Option Value} {d i : Int}, OR β H w.heap vq q → intOpt d q = some i → 0 ≤ i → (vq = none ∧ q = none ∧ d = i) ∨ ∃ v aq, vq = some v ∧ q = some aq ∧ ∀ (y : Nat) code, i ≤ (y : Int) → (Instr.sliceBound v y code).run P w = .ok i.toNat w := by
    intro q vq d i hr hi h0
    cases q with
    | none =>
      cases vq with
      | none => exact .inl ⟨rfl, rfl, Option.some.inj hi⟩
      | some v => exact hr.elim
    | some aq =>
      cases vq with
      | none => exact hr.elim
      | some v => exact .inr ⟨v, aq, rfl, rfl, fun y code hy => bound_run hr hi h0 hy code⟩
  rcases one rm hm c1 with ⟨rfl, rfl, em⟩ | ⟨vm, am, rfl, rfl, bm⟩
  · rcases one rh hh c3 with ⟨rfl, rfl, eh⟩ | ⟨vh, ah, rfl, rfl, bh⟩
    · rcases one rl hl c5 with ⟨rfl, rfl, el⟩ | ⟨vl, al, rfl, rfl, bl⟩
      · subst eh; subst el; simp [Instr.sliceBounds]
      · subst eh; simp [Instr.sliceBounds, bl n _ (by omega)]
    · rcases one rl hl c5 with ⟨rfl, rfl, el⟩ | ⟨vl, al, rfl, rfl, bl⟩
      · subst el; simp [Instr.sliceBounds, bh cap _ (by omega)]
      · simp [Instr.sliceBounds, bh cap _ (by omega), bl h.toNat _ (by omega)]
  · rcases one rh hh c3 with ⟨rfl, rfl, eh⟩ | ⟨vh, ah, rfl, rfl, bh⟩
    · exact absurd (hmh rfl) (by simp)
    · rcases one rl hl c5 with ⟨rfl, rfl, el⟩ | ⟨vl, al, rfl, rfl, bl⟩
      · subst el; simp [Instr.sliceBounds, bm cap _ (by omega), bh m.toNat _ (by omega)]
      · simp [Instr.sliceBounds, bm cap _ (by omega), bh m.toNat _ (by omega), bl h.toNat _ (by omega)]

theorem elemSize_ty {et es : Nat} (h : c.elemSize (.slice et) = some es) : ∃ ey, c.tyOf et = some ey ∧ ey.size = es := by
  simp only [Ctx.elemSize] at h
  cases hq : c.tyOf et with
  | none => rw [hq] at h; cases h
  | some ty => rw [hq] at h; exact ⟨ty, rfl, Option.some.inj h⟩
theorem optOpd_ok (hE : ER β H w.heap a.tmps e) {y : Option Operand} (h : y.map (opd e) ≠ some none) : OR β H w.heap (y.map a.eval) (y.map (opd e)).join := by
  cases y with
  | none => trivial
  | some z =>
    simp only [Option.map_some] at *
    cases hz : opd e z with
    | none => rw [hz] at h; exact absurd rfl h
    | some av => exact opd_ok hE hz

theorem op_slice (hC : CtxOK c P) {t : Nat} {y : Operand} {lo hi mx : Option Operand} (ho : o.op = .slice t y lo hi mx) (hR : HR β H w.heap) (hE : ER β H w.heap a.tmps e)
    (h : opt (opd e y) (fun u => opt (c.kOf t) fun k => opt (c.elemSize k) fun sz => match lo.map (opd e), hi.map (opd e), mx.map (opd e) with
    | some none, _, _ => none
    | _, some none, _ => none
    | _, _, some none => none
    | lo, hi, mx => chk (sliceAV k sz u lo.join hi.join mx.join) fun v => κ (some v) H) = some x) : Goal P o a w Q κ x β H := by
  obtain ⟨u, hu, h1⟩ := opt_some h
  obtain ⟨k, hkt, h2⟩ := opt_some h1
  obtain ⟨es, hes, h3⟩ := opt_some h2
  clear h h1 h2
  have ne1 : lo.map (opd e) ≠ some none := by intro hh; rw [hh] at h3; cases h3
  have ne2 : hi.map (opd e) ≠ some none := by
    intro hh; rw [hh] at h3
    split at h3 <;> first | cases h3 | simp_all
  have ne3 : mx.map (opd e) ≠ some none := by
    intro hh; rw [hh] at h3
    split at h3 <;> first | cases h3 | simp_all
  have rl := optOpd_ok hE ne1
  have rh := optOpd_ok hE ne2
  have rm := optOpd_ok hE ne3
  have h4 : chk (sliceAV k es u (lo.map (opd e)).join (hi.map (opd e)).join (mx.map (opd e)).join) (fun v => κ (some v) H) = some x := by
    split at h3 <;> first | cases h3 | exact h3
  obtain ⟨p, hp, hk⟩ := chk_some h4
  clear h3 h4
  have hd := kOf_desc hC hkt
  have ru := opd_ok hE hu
  have run : ∀ cv, (Instr.sliceAt t (a.eval y) (lo.map a.eval) (hi.map a.eval) (mx.map a.eval)).run P w = .ok cv w → (execOp a.eval o).run P w = .ok (.value cv) w := by
    intro cv hcv
    unfold execOp
    rw [ho]
    simp [hcv]
  generalize hyv : a.eval y = yv at ru run
  generalize (lo.map (opd e)).join = alo at *
  generalize (hi.map (opd e)).join = ahi at *
  generalize (mx.map (opd e)).join = amx at *
  generalize lo.map a.eval = vlo at *
  generalize hi.map a.eval = vhi at *
  generalize mx.map a.eval = vmx at *
  unfold sliceAV at hp
  split at hp
  · -- a text
    rename_i s
    split at hp
    · rename_i l hh hl hh'
      have he := Option.some.inj hp
      have hb : cutOK s.size l hh s.size = true := congrArg Prod.fst he
      have hpp : AV.str (s.extract l.toNat hh.toNat) = p := congrArg Prod.snd he
      have hb2 := bounds_run (P := P) false (Nat.le_refl s.size) rl rh rm hl hh' (by rfl : intOpt (s.size : Int) none = some (s.size : Int)) (by simp) hb
      have eu := ru.inv_str
      subst eu
      have vn : vmx = none := by cases vmx with | none => rfl | some v => exact rm.elim
      subst vn
      refine Goal.value hR (run (.string (s.extract l.toNat hh.toNat)) ?_) (hpp ▸ .str _) hk
      simp only [Instr.sliceAt, Instr.slice, Sem.run_bind, run_underlying hd w, Result.andThen_ok]
      simp [hb2]
    · cases hp
  · -- rows that are not written
    rename_i et sz n row full
    split at hp
    · rename_i l hh m hl hh' hm
      obtain ⟨⟨hs, hmh⟩, he⟩ := ite_some hp
      have he := Option.some.inj he
      obtain ⟨hb, hpp⟩ := Prod.mk.inj he
      have hb0 := hb
      simp only [cutOK, Bool.and_eq_true, decide_eq_true_eq] at hb0
      obtain ⟨c1, c2, c3, c4, c5, c6⟩ := hb0
      obtain ⟨ey, hey, hesz⟩ := elemSize_ty hes
      have hT := hC.ty et ey hey
      have main : ∀ (ad : Option Addr) (cap : Nat), n ≤ cap → (full = true → cap = n) → yv = .slice ad n cap →
          (∀ cv, (0 < hh.toNat - l.toNat → ∃ bb, ad = some bb ∧ cv = .slice (some (bb.add (l.toNat * sz))) (hh.toNat - l.toNat) ((if amx.isSome = true then m.toNat else cap) - l.toNat)) →
            (hh.toNat - l.toNat = 0 → ∃ a2, cv = .slice a2 0 ((if amx.isSome = true then m.toNat else cap) - l.toNat)) → R β H w.heap cv p) → Goal P o a w Q κ x β H := by
        intro ad cap hcap hfull hyv2 hfin
        subst hyv2
        have hb2 := bounds_run (P := P) true hcap rl rh rm hl hh' hm hmh hb
        refine Goal.value hR (run (.slice (if (if amx.isSome = true then m.toNat else cap) = l.toNat then ad else ad.map (·.add (l.toNat * ey.size))) (hh.toNat - l.toNat) ((if amx.isSome = true then m.toNat else cap) - l.toNat)) ?_) (hfin _ ?_ ?_) hk
        · simp only [Instr.sliceAt, Instr.slice, Sem.run_bind, run_underlying hd w, Result.andThen_ok]
          simp [hb2, hT.sizeOf]
        · intro hpos
          have hne : ¬ (if amx.isSome = true then m.toNat else cap) = l.toNat := by split <;> omega
          rw [if_neg hne]
          cases ad with
          | some bb => exact ⟨bb, rfl, by rw [hs, hesz]; rfl⟩
          | none =>
            exfalso
            generalize hq : AV.sl sz n row full = q at ru
            cases ru <;> cases hq
            omega
        · intro hz; rw [hz]; exact ⟨_, rfl⟩
      generalize hq : AV.sl sz n row full = q at ru
      cases ru with
      | sl0 ad cap sz' row' full' hf =>
        cases hq
        refine main ad cap (Nat.zero_le _) (fun hf2 => hf hf2) rfl ?_
        intro cv _ h2
        obtain ⟨a2, rfl⟩ := h2 (by omega)
        rw [← hpp]
        have hz : hh.toNat - l.toNat = 0 := by omega
        rw [hz]
        refine .sl0 _ _ _ _ _ fun hff => ?_
        cases amx with
        | some am => simp; omega
        | none =>
          simp only [Bool.and_eq_true] at hff
          have := hf hff.1
          simp; omega
      | sl b o' n' c' sz' row' full' cs et' fz vf hi hW hc hf hl' hv' hRr =>
        cases hq
        refine main _ c' hc hf rfl ?_
        intro cv h1 h2
        rw [← hpp]
        have hfull' : (match amx with | some _ => decide (m = hh) | none => full && decide (hh = (n : Int))) = true → (if amx.isSome = true then m.toNat else c') - l.toNat = hh.toNat - l.toNat := by
          intro hff
          cases amx with
          | some am => simp only [decide_eq_true_eq] at hff; simp; omega
          | none =>
            simp only [Bool.and_eq_true, decide_eq_true_eq] at hff
            have := hf hff.1
            simp; omega
        by_cases hz : hh.toNat - l.toNat = 0
        · obtain ⟨a2, rfl⟩ := h2 hz
          rw [hz]
          exact .sl0 _ _ _ _ _ fun hff => by rw [hfull' hff, hz]
        · obtain ⟨bb, hbb, rfl⟩ := h1 (by omega)
          cases hbb
          rw [Addr.add_lit]
          have hcap2 : hh.toNat - l.toNat ≤ (if amx.isSome = true then m.toNat else c') - l.toNat := by split <;> omega
          refine .sl b _ _ _ sz _ _ cs et' fz (fun i j => vf (l.toNat + i) j) hi hW hcap2 hfull' (fun i hi2 => hl' _ (by omega)) (fun i j hi2 hj => ?_) fun i j hi2 hj => hRr _ _ (by omega) hj
          have := hv' (l.toNat + i) j (by omega) hj
          rw [Nat.add_mul] at this
          rw [show o' + l.toNat * sz + i * sz + j = o' + (l.toNat * sz + i * sz) + j by omega]
          exact this
      | _ => cases hq
    · cases hp
  · -- rows of the call's own
    rename_i et sz r off len full
    split at hp
    · rename_i l hh m hl hh' hm
      obtain ⟨⟨hs, hmh⟩, he⟩ := ite_some hp
      have he := Option.some.inj he
      obtain ⟨hbb, hpp⟩ := Prod.mk.inj he
      simp only [Bool.and_eq_true] at hbb
      obtain ⟨hb, hb3⟩ := hbb
      have hb0 := hb
      simp only [cutOK, Bool.and_eq_true, decide_eq_true_eq] at hb0
      obtain ⟨c1, c2, c3, c4, c5, c6⟩ := hb0
      obtain ⟨ey, hey, hesz⟩ := elemSize_ty hes
      have hT := hC.ty et ey hey
      have main : ∀ (ad : Option Addr) (cap : Nat), len ≤ cap → yv = .slice ad len cap →
          R β H w.heap (.slice (if (if amx.isSome = true then m.toNat else cap) = l.toNat then ad else ad.map (·.add (l.toNat * sz))) (hh.toNat - l.toNat) ((if amx.isSome = true then m.toNat else cap) - l.toNat)) p → Goal P o a w Q κ x β H := by
        intro ad cap hcap hyv2 hfin
        subst hyv2
        have hb2 := bounds_run (P := P) true hcap rl rh rm hl hh' hm hmh hb
        refine Goal.value hR (run _ ?_) hfin hk
        simp only [Instr.sliceAt, Instr.slice, Sem.run_bind, run_underlying hd w, Result.andThen_ok]
        simp [hb2, hT.sizeOf, hs, hesz]
      generalize hq : AV.osl sz r off len full = q at ru
      cases ru with
      | osl r' off' len' c' sz' N mm row full' ad ha hH hW hn hc hf hs' hu' =>
        cases hq
        refine main ad c' hc rfl ?_
        rw [← hpp]
        have key : (if amx.isSome = true then m.toNat else c') ≤ c' ∧ hh.toNat ≤ (if amx.isSome = true then m.toNat else c') := by split <;> omega
        have hle : (off + l.toNat + ((if amx.isSome = true then m.toNat else c') - l.toNat)) * sz ≤ (off + c') * sz := Nat.mul_le_mul_right sz (by omega)
        refine .osl r (off + l.toNat) _ _ sz N mm row _ _ (fun hpos => ?_) hH hW (by omega) (by omega) (fun hff => ?_) (Nat.le_trans hle hs') fun hff => ?_
        · rw [if_neg (by omega), ha (by omega)]
          simp only [Option.map_some, Addr.add_lit, Nat.add_mul]
        · cases amx with
          | some am => simp only [decide_eq_true_eq] at hb3; simp; omega
          | none =>
            have hff' : full = true := hff
            simp [hff'] at hb3
            have := hf hff'
            simp; omega
        · cases amx with
          | some am => cases hff
          | none => have := hu' hff; simp; omega
      | osld sz' r' off' len' c' b o' full' ad ha hc hf hr hH =>
        cases hq
        refine main ad c' hc rfl ?_
        rw [← hpp]
        have key : (if amx.isSome = true then m.toNat else c') ≤ c' ∧ hh.toNat ≤ (if amx.isSome = true then m.toNat else c') := by split <;> omega
        refine .osld sz r _ _ _ b (o' + l.toNat * sz) _ _ (fun hpos => ?_) (by omega) (fun hff => ?_) hr hH
        · rw [if_neg (by omega), ha (by omega)]
          simp only [Option.map_some, Addr.add_lit]
        · cases amx with
          | some am => simp only [decide_eq_true_eq] at hb3; simp; omega
          | none =>
            have hff' : full = true := hff
            simp [hff'] at hb3
            have := hf hff'
            simp; omega
      | _ => cases hq
    · cases hp
  · cases hp
end
end Go.Ev

set_option linter.unusedVariables false
set_option linter.unusedSimpArgs false
set_option linter.unusedSectionVars false
namespace Go.Ev
open Go

def valOf : AV → Value
  | .int k n => .int k n
  | .bool b => .bool b
  | .str s => .string s
  | _ => undef
/-- structs of a type are compared leaf by leaf -/
def CmpOK (P : Program) (t : Nat) (ks : List TK) : Prop := ∀ (x y : Operand) (as_ bs : List AV) (r : Bool) (w : World), leavesEq ks as_ bs = some r →
  ((do eqGuard .eql t x y (.agg (as_.map valOf).toArray) (.agg (bs.map valOf).toArray); binOp .eql t (.agg (as_.map valOf).toArray) (.agg (bs.map valOf).toArray) : Sem Value)).run P w = .ok (.bool r) w ∧
  ((do eqGuard .neq t x y (.agg (as_.map valOf).toArray) (.agg (bs.map valOf).toArray); binOp .neq t (.agg (as_.map valOf).toArray) (.agg (bs.map valOf).toArray) : Sem Value)).run P w = .ok (.bool (!r)) w
def CmpAll (c : Ctx) (P : Program) : Prop := ∀ t ty ks, c.tyOf t = some ty → ty.cmp = some ks → CmpOK P t ks
variable [Gh]

theorem leafEq_vals {β : Nat → Nat} {H : Heap} {W : Array Obj} {k : TK} {a b : AV} {r : Bool} (h : leafEq k a b = some r) {u v : Value} (hu : R β H W u a) (hv : R β H W v b) : u = valOf a ∧ v = valOf b := by
  unfold leafEq at h
  split at h
  · have := hu.inv_int; have := hv.inv_int; subst_vars; exact ⟨rfl, rfl⟩
  · have := hu.inv_bool; have := hv.inv_bool; subst_vars; exact ⟨rfl, rfl⟩
  · have := hu.inv_str; have := hv.inv_str; subst_vars; exact ⟨rfl, rfl⟩
  · cases h
theorem leavesEq_vals {β : Nat → Nat} {H : Heap} {W : Array Obj} : ∀ {ks : List TK} {as_ bs : List AV} {r : Bool}, leavesEq ks as_ bs = some r → ∀ {us vs : List Value}, us.length = as_.length → vs.length = bs.length →
    (∀ j, j < as_.length → R β H W (us.getD j undef) (as_.getD j .und)) → (∀ j, j < bs.length → R β H W (vs.getD j undef) (bs.getD j .und)) → us = as_.map valOf ∧ vs = bs.map valOf
  | [], as_, bs, r, h, us, vs, h1, h2, h3, h4 => by
    unfold leavesEq at h
    split at h
    · rename_i e1 e2
      have : us = [] := List.length_eq_zero_iff.1 (by simpa using h1)
      have : vs = [] := List.length_eq_zero_iff.1 (by simpa using h2)
      subst_vars; exact ⟨rfl, rfl⟩
    · rename_i e; cases e
    · cases h
  | k :: ks, as_, bs, r, h, us, vs, h1, h2, h3, h4 => by
    cases as_ with
    | nil => simp [leavesEq] at h
    | cons a as_ =>
      cases bs with
      | nil => simp [leavesEq] at h
      | cons b bs =>
        cases us with
        | nil => simp at h1
        | cons u us =>
          cases vs with
          | nil => simp at h2
          | cons v vs =>
            simp only [leavesEq] at h
            split at h
            · rename_i x y e1 e2
              obtain ⟨i1, i2⟩ := leafEq_vals e1 (by simpa using h3 0 (by simp)) (by simpa using h4 0 (by simp))
              obtain ⟨j1, j2⟩ := leavesEq_vals e2 (us := us) (vs := vs) (by simpa using h1) (by simpa using h2) (fun j hj => by simpa using h3 (j + 1) (by simpa using hj)) (fun j hj => by simpa using h4 (j + 1) (by simpa using hj))
              simp [i1, i2, j1, j2]
            · cases h

theorem bl_le : ∀ (x y : List UInt8), (Op.bytesLess x y || x == y) = !Op.bytesLess y x
  | [], [] => rfl
  | [], _ :: _ => rfl
  | _ :: _, [] => rfl
  | a :: x, b :: y => by
    have ih := bl_le x y
    simp only [Op.bytesLess]
    by_cases h : a < b
    · have h2 : ¬ b < a := fun h' => by rw [UInt8.lt_iff_toNat_lt] at *; omega
      have h3 : ¬ b = a := fun e => by subst e; rw [UInt8.lt_iff_toNat_lt] at h; omega
      simp [h, h2, h3]
    · by_cases he : a = b
      · subst he
        have h4 : ¬ a < a := h
        simp only [h4, decide_false, Bool.false_or, BEq.rfl, Bool.true_and, List.cons_beq_cons]
        exact ih
      · have h2 : b < a := by
          rw [UInt8.lt_iff_toNat_lt] at *
          have : ¬ a.toNat = b.toNat := fun h => he (UInt8.toNat_inj.1 h)
          omega
        simp [h, h2, he]
theorem toList_inj {x y : ByteArray} : (x.toList == y.toList) = decide (x = y) := by
  rw [Bool.eq_iff_iff]
  simp only [beq_iff_eq, decide_eq_true_eq]
  constructor
  · intro h
    rw [ByteArray.toList_eq, ByteArray.toList_eq] at h
    rcases x with ⟨⟨x⟩⟩; rcases y with ⟨⟨y⟩⟩
    simpa using h
  · rintro rfl; rfl

section
variable {ρ : Type} {P : Program} {o : Oper} {a : Act} {w : World} {Q : Exit → Act → World → Prop} {κ : Option AV → Heap → Option ρ} {x : ρ} {β : Nat → Nat} {H : Heap} {e : List (Option AV)} {c : Ctx}

theorem guard_run {op : BinOp} {t : Nat} {y z : Operand} {u v : Value} (h : (match u with | .agg _ | .nilIface => False | _ => True)) : (eqGuard op t y z u v).run P w = .ok () w := by
  unfold eqGuard
  cases op <;> simp <;> (cases u <;> first | exact h.elim | (cases v <;> rfl))

theorem intBin_ok {op : BinOp} {t : Nat} {k : IntKind} {n m : Int} {r : AV} (hs : op ≠ .shl) (hs2 : op ≠ .shr) (h : intBin op k n m = some (true, r)) :
    ∃ v, (binOp op t (.int k n) (.int k m)).run P w = .ok v w ∧ R β H w.heap v r := by
  cases op <;> simp only [intBin, bits, Option.map_some, Option.some.injEq, Prod.mk.injEq, reduceCtorEq, Option.map_none] at h
  all_goals (obtain ⟨h1, rfl⟩ := h)
  case add => exact ⟨.int k (k.wrap (n + m)), by simp [binOp, Op.intArith], .int _ _⟩
  case sub => exact ⟨.int k (k.wrap (n - m)), by simp [binOp, Op.intArith], .int _ _⟩
  case mul => exact ⟨.int k (k.wrap (n * m)), by simp [binOp, Op.intArith], .int _ _⟩
  case quo =>
    have h0 : ¬ m = 0 := by simpa using h1
    exact ⟨.int k (k.wrap (n.tdiv m)), by simp [binOp, Op.intDiv, h0], .int _ _⟩
  case rem =>
    have h0 : ¬ m = 0 := by simpa using h1
    exact ⟨.int k (n.tmod m), by simp [binOp, Op.intDiv, h0], .int _ _⟩
  case and => exact ⟨.int k (k.wrap (BitVec.ofInt k.bits n &&& BitVec.ofInt k.bits m).toNat), by simp only [binOp, Op.intBits]; rw [if_neg (by simp)]; rfl, .int _ _⟩
  case or => exact ⟨.int k (k.wrap (BitVec.ofInt k.bits n ||| BitVec.ofInt k.bits m).toNat), by simp only [binOp, Op.intBits]; rw [if_neg (by simp)]; rfl, .int _ _⟩
  case xor => exact ⟨.int k (k.wrap (BitVec.ofInt k.bits n ^^^ BitVec.ofInt k.bits m).toNat), by simp only [binOp, Op.intBits]; rw [if_neg (by simp)]; rfl, .int _ _⟩
  case andNot => exact ⟨.int k (k.wrap (BitVec.ofInt k.bits n &&& ~~~BitVec.ofInt k.bits m).toNat), by simp only [binOp, Op.intBits]; rw [if_neg (by simp)]; rfl, .int _ _⟩
  case eql => exact ⟨.bool (decide (n = m)), by simp only [binOp, Op.intCmp]; rw [if_neg (by simp)]; rfl, .bool _⟩
  case neq => exact ⟨.bool (!decide (n = m)), by simp only [binOp, Op.intCmp]; rw [if_neg (by simp)]; rfl, .bool _⟩
  case lss => exact ⟨.bool (decide (n < m)), by simp only [binOp, Op.intCmp]; rw [if_neg (by simp)]; rfl, .bool _⟩
  case leq => exact ⟨.bool (decide (n ≤ m)), by simp only [binOp, Op.intCmp]; rw [if_neg (by simp)]; rfl, .bool _⟩
  case gtr => exact ⟨.bool (decide (m < n)), by simp only [binOp, Op.intCmp]; rw [if_neg (by simp)]; rfl, .bool _⟩
  case geq => exact ⟨.bool (decide (m ≤ n)), by simp only [binOp, Op.intCmp]; rw [if_neg (by simp)]; rfl, .bool _⟩

theorem strBin_ok {op : BinOp} {t : Nat} {n m : ByteArray} {r : AV} (h : strBin op n m = some (true, r)) :
    ∃ v, (binOp op t (.string n) (.string m)).run P w = .ok v w ∧ R β H w.heap v r := by
  cases op <;> simp only [strBin, Option.some.injEq, Prod.mk.injEq, reduceCtorEq] at h
  all_goals (obtain ⟨h1, rfl⟩ := h)
  case add =>
    have h0 : n.size + m.size ≤ 9223372036854775807 := by simpa using h1
    have h2 : ¬ (((n.size + m.size : Nat) : Int) > IntKind.i64.max) := by
      have : IntKind.i64.max = 9223372036854775807 := by decide
      omega
    exact ⟨.string (n ++ m), by simp only [binOp, Op.stringOp]; rw [if_neg h2]; rfl, .str _⟩
  case eql => exact ⟨.bool (n.toList == m.toList), by simp [binOp, Op.stringOp], by rw [toList_inj]; exact .bool _⟩
  case neq => exact ⟨.bool (!(n.toList == m.toList)), by simp [binOp, Op.stringOp], by rw [toList_inj]; exact .bool _⟩
  case lss => exact ⟨.bool (Op.bytesLess n.toList m.toList), by simp [binOp, Op.stringOp], .bool _⟩
  case leq => exact ⟨.bool (Op.bytesLess n.toList m.toList || n.toList == m.toList), by simp [binOp, Op.stringOp], by rw [bl_le]; exact .bool _⟩
  case gtr => exact ⟨.bool !(Op.bytesLess n.toList m.toList || n.toList == m.toList), by simp [binOp, Op.stringOp], by rw [bl_le, Bool.not_not]; exact .bool _⟩
  case geq => exact ⟨.bool !(Op.bytesLess n.toList m.toList), by simp [binOp, Op.stringOp], .bool _⟩

theorem equal_bool {t : Nat} (hd : P.underlying t = some .bool) (n m : Bool) : (Op.equal t (.bool n) (.bool m)).run P w = .ok (n == m) w := by
  show (Op.equalIn (9999 + 1) t _ _).run P w = _
  rw [Op.equalIn]
  simp only [Sem.run_bind, run_underlying hd w, Result.andThen_ok]
  rfl
theorem equal_nn {t et : Nat} (hd : P.underlying t = some (.pointer et)) : (Op.equal t (.pointer none) (.pointer none)).run P w = .ok true w := by
  show (Op.equalIn (9999 + 1) t _ _).run P w = _
  rw [Op.equalIn]
  simp only [Sem.run_bind, run_underlying hd w, Result.andThen_ok]
  rfl
theorem equal_sn {t et : Nat} (hd : P.underlying t = some (.pointer et)) (a : Addr) : (Op.equal t (.pointer (some a)) (.pointer none)).run P w = .ok false w := by
  show (Op.equalIn (9999 + 1) t _ _).run P w = _
  rw [Op.equalIn]
  simp only [Sem.run_bind, run_underlying hd w, Result.andThen_ok]
  rfl
theorem equal_ns {t et : Nat} (hd : P.underlying t = some (.pointer et)) (a : Addr) : (Op.equal t (.pointer none) (.pointer (some a))).run P w = .ok false w := by
  show (Op.equalIn (9999 + 1) t _ _).run P w = _
  rw [Op.equalIn]
  simp only [Sem.run_bind, run_underlying hd w, Result.andThen_ok]
  rfl
theorem eq_run {t : Nat} {u v : Value} {b : Bool} (h : (Op.equal t u v).run P w = .ok b w) (hb : binOp .eql t u v = (do pure (.bool (← Op.equal t u v)))) : (binOp .eql t u v).run P w = .ok (.bool b) w := by
  rw [hb]; simp only [Sem.run_bind, h, Result.andThen_ok]; rfl
theorem ne_run {t : Nat} {u v : Value} {b : Bool} (h : (Op.equal t u v).run P w = .ok b w) (hb : binOp .neq t u v = (do pure (.bool (!(← Op.equal t u v))))) : (binOp .neq t u v).run P w = .ok (.bool (!b)) w := by
  rw [hb]; simp only [Sem.run_bind, h, Result.andThen_ok]; rfl

theorem binAV_ok (hC : CtxOK c P) (hM : CmpAll c P) {op : BinOp} {t : Nat} {y z : Operand} {u v : Value} {p q r : AV} (hu : R β H w.heap u p) (hv : R β H w.heap v q) (h : binAV c op t p q = some (true, r)) :
    ∃ cv, ((do eqGuard op t y z u v; binOp op t u v : Sem Value)).run P w = .ok cv w ∧ R β H w.heap cv r := by
  unfold binAV at h
  split at h
  · -- numbers
    rename_i k n k' m
    have := hu.inv_int; have := hv.inv_int; subst_vars
    have hg : (eqGuard op t y z (.int k n) (.int k' m)).run P w = .ok () w := guard_run trivial
    split at h
    · have h := Option.some.inj h
      obtain ⟨h1, rfl⟩ := Prod.mk.inj h
      have h0 : ¬ m < 0 := by simpa using h1
      refine ⟨.int k (k.wrap (n * 2 ^ (min m.toNat k.bits))), ?_, .int _ _⟩
      simp only [Sem.run_bind, hg, Result.andThen_ok]
      simp [binOp, Op.shift, h0]
    · have h := Option.some.inj h
      obtain ⟨h1, rfl⟩ := Prod.mk.inj h
      have h0 : ¬ m < 0 := by simpa using h1
      refine ⟨.int k (n.fdiv (2 ^ (min m.toNat k.bits))), ?_, .int _ _⟩
      simp only [Sem.run_bind, hg, Result.andThen_ok]
      simp [binOp, Op.shift, h0]
    · rename_i n1 n2
      split at h
      · rename_i hk
        subst hk
        obtain ⟨cv, h1, h2⟩ := intBin_ok (P := P) (w := w) (β := β) (H := H) (t := t) (by intro hh; exact n1 hh) (by intro hh; exact n2 hh) h
        exact ⟨cv, by simp only [Sem.run_bind, hg, Result.andThen_ok, h1], h2⟩
      · cases h
  · -- texts
    rename_i n m
    have := hu.inv_str; have := hv.inv_str; subst_vars
    have hg : (eqGuard op t y z (.string n) (.string m)).run P w = .ok () w := guard_run trivial
    obtain ⟨cv, h1, h2⟩ := strBin_ok (P := P) (w := w) (β := β) (H := H) (t := t) h
    exact ⟨cv, by simp only [Sem.run_bind, hg, Result.andThen_ok, h1], h2⟩
  · -- truths
    rename_i n m
    have := hu.inv_bool; have := hv.inv_bool; subst_vars
    have hg : (eqGuard op t y z (.bool n) (.bool m)).run P w = .ok () w := guard_run trivial
    split at h
    · rename_i hk
      have hd : P.underlying t = some .bool := kOf_desc hC hk
      have h := Option.some.inj h
      obtain ⟨h1, rfl⟩ := Prod.mk.inj h
      refine ⟨.bool (n == m), ?_, .bool _⟩
      simp only [Sem.run_bind, hg, Result.andThen_ok]
      exact eq_run (equal_bool hd n m) rfl
    · rename_i hk
      have hd : P.underlying t = some .bool := kOf_desc hC hk
      have h := Option.some.inj h
      obtain ⟨h1, rfl⟩ := Prod.mk.inj h
      refine ⟨.bool (!(n == m)), ?_, .bool _⟩
      simp only [Sem.run_bind, hg, Result.andThen_ok]
      exact ne_run (equal_bool hd n m) rfl
    · cases h
  · -- structs
    rename_i xs ys
    split at h
    case h_2 => cases h
    rename_i fs z1 z2 z3 ks hty
    have hcmp := hM t _ ks hty rfl
    cases hu with
    | agg us _ hus hl1 hR1 =>
    cases hv with
    | agg vs _ hvs hl2 hR2 =>
    have vals : ∀ r', leavesEq ks xs ys = some r' → us = (xs.map valOf).toArray ∧ vs = (ys.map valOf).toArray := by
      intro r' hr'
      obtain ⟨i1, i2⟩ := leavesEq_vals (β := β) (H := H) (W := w.heap) hr' (us := us.toList) (vs := vs.toList) (by simpa using hus) (by simpa using hvs)
        (fun j hj => by have := hR1 j hj; simpa [Array.getD_eq_getD_getElem?, List.getD_eq_getElem?_getD] using this) (fun j hj => by have := hR2 j hj; simpa [Array.getD_eq_getD_getElem?, List.getD_eq_getElem?_getD] using this)
      exact ⟨by rw [← i1], by rw [← i2]⟩
    split at h
    · rename_i r' hr'
      obtain ⟨rfl, rfl⟩ := vals r' hr'
      have h := Option.some.inj h
      obtain ⟨_, rfl⟩ := Prod.mk.inj h
      exact ⟨_, (hcmp y z xs ys r' w hr').1, .bool _⟩
    · rename_i r' hr'
      obtain ⟨rfl, rfl⟩ := vals r' hr'
      have h := Option.some.inj h
      obtain ⟨_, rfl⟩ := Prod.mk.inj h
      exact ⟨_, (hcmp y z xs ys r' w hr').2, .bool _⟩
    · cases h
  · -- no pointer, twice
    cases hu; cases hv
    have hg : (eqGuard op t y z (.pointer none) (.pointer none)).run P w = .ok () w := guard_run trivial
    split at h
    · rename_i et hk
      have hd : P.underlying t = some (.pointer et) := kOf_desc hC hk
      have h := Option.some.inj h
      obtain ⟨h1, rfl⟩ := Prod.mk.inj h
      refine ⟨.bool true, ?_, .bool _⟩
      simp only [Sem.run_bind, hg, Result.andThen_ok]
      exact eq_run (equal_nn hd) rfl
    · rename_i et hk
      have hd : P.underlying t = some (.pointer et) := kOf_desc hC hk
      have h := Option.some.inj h
      obtain ⟨h1, rfl⟩ := Prod.mk.inj h
      refine ⟨.bool false, ?_, .bool _⟩
      simp only [Sem.run_bind, hg, Result.andThen_ok]
      exact ne_run (equal_nn hd) rfl
    · cases h
  · -- a pointer against none
    cases hu with
    | ref r' off cs hH =>
    cases hv
    have hg : ∀ ad, (eqGuard op t y z (.pointer (some ad)) (.pointer none)).run P w = .ok () w := fun ad => guard_run trivial
    split at h
    · rename_i et hk
      have hd : P.underlying t = some (.pointer et) := kOf_desc hC hk
      have h := Option.some.inj h
      obtain ⟨h1, rfl⟩ := Prod.mk.inj h
      refine ⟨.bool false, ?_, .bool _⟩
      simp only [Sem.run_bind, hg, Result.andThen_ok]
      exact eq_run (equal_sn hd _) rfl
    · rename_i et hk
      have hd : P.underlying t = some (.pointer et) := kOf_desc hC hk
      have h := Option.some.inj h
      obtain ⟨h1, rfl⟩ := Prod.mk.inj h
      refine ⟨.bool true, ?_, .bool _⟩
      simp only [Sem.run_bind, hg, Result.andThen_ok]
      exact ne_run (equal_sn hd _) rfl
    · cases h
  · cases hu
    cases hv with
    | ref r' off cs hH =>
    have hg : ∀ ad, (eqGuard op t y z (.pointer none) (.pointer (some ad))).run P w = .ok () w := fun ad => guard_run trivial
    split at h
    · rename_i et hk
      have hd : P.underlying t = some (.pointer et) := kOf_desc hC hk
      have h := Option.some.inj h
      obtain ⟨h1, rfl⟩ := Prod.mk.inj h
      refine ⟨.bool false, ?_, .bool _⟩
      simp only [Sem.run_bind, hg, Result.andThen_ok]
      exact eq_run (equal_ns hd _) rfl
    · rename_i et hk
      have hd : P.underlying t = some (.pointer et) := kOf_desc hC hk
      have h := Option.some.inj h
      obtain ⟨h1, rfl⟩ := Prod.mk.inj h
      refine ⟨.bool true, ?_, .bool _⟩
      simp only [Sem.run_bind, hg, Result.andThen_ok]
      exact ne_run (equal_ns hd _) rfl
    · cases h
  · cases h

theorem op_binOp (hC : CtxOK c P) (hM : CmpAll c P) {op : BinOp} {t t2 : Nat} {y z : Operand} (ho : o.op = .binOp op t y z t2) (hR : HR β H w.heap) (hE : ER β H w.heap a.tmps e)
    (h : opt (opd e y) (fun u => opt (opd e z) fun v => chk (binAV c op t u v) fun v => κ (some v) H) = some x) : Goal P o a w Q κ x β H := by
  obtain ⟨u, hu, h1⟩ := opt_some h
  obtain ⟨v, hv, h2⟩ := opt_some h1
  obtain ⟨r, hr, hk⟩ := chk_some h2
  obtain ⟨cv, hrun, hcv⟩ := binAV_ok (P := P) (y := y) (z := z) hC hM (opd_ok hE hu) (opd_ok hE hv) hr
  refine Goal.value hR ?_ hcv hk
  unfold execOp
  rw [ho]
  simp only [Sem.run_bind] at hrun ⊢
  rw [hrun]
  rfl

theorem op_unOp {op : UnOp} {t : Nat} {y : Operand} (ho : o.op = .unOp op t y) (hR : HR β H w.heap) (hE : ER β H w.heap a.tmps e)
    (h : opt (opd e y) (fun u => opt (unAV op u) fun v => κ (some v) H) = some x) : Goal P o a w Q κ x β H := by
  obtain ⟨u, hu, h1⟩ := opt_some h
  obtain ⟨r, hr, hk⟩ := opt_some h1
  have ru := opd_ok hE hu
  have key : ∃ cv, (Op.unary op (a.eval y)).run P w = .ok cv w ∧ R β H w.heap cv r := by
    unfold unAV at hr
    split at hr <;> cases hr
    · rw [ru.inv_bool]; exact ⟨_, rfl, .bool _⟩
    · rw [ru.inv_int]; exact ⟨_, rfl, .int _ _⟩
  obtain ⟨cv, hrun, hcv⟩ := key
  refine Goal.value hR ?_ hcv hk
  unfold execOp
  rw [ho]
  simp [hrun]
end
end Go.Ev

set_option linter.unusedVariables false
set_option linter.unusedSimpArgs false
set_option linter.unusedSectionVars false
namespace Go.Ev
open Go
variable [Gh]

theorem modify_push {W : Array Obj} {o : Obj} (f : Obj → Obj) : (W.push o).modify W.size f = W.push (f o) := by
  apply Array.ext_getElem?
  intro i
  rw [Array.getElem?_modify]
  by_cases h : W.size = i
  · subst h; simp
  · rw [if_neg h]
    simp only [Array.getElem?_push]
    rw [if_neg (by omega), if_neg (by omega)]

theorem foldl_push (ns : List Int) : ∀ r : ByteArray, ns.foldl (fun r n => r.push (UInt8.ofNat n.toNat)) r = ⟨(r.data.toList ++ ns.map fun n => UInt8.ofNat n.toNat).toArray⟩ := by
  induction ns with
  | nil => intro r; simp
  | cons n ns ih =>
    intro r
    simp only [List.foldl_cons, ih]
    congr 1
    apply Array.ext'
    simp [ByteArray.push]

theorem isU8_of {row : Nat → List AV} : ∀ {n : Nat}, allU8 row n = true → ∀ i, i < n → ∃ m, row i = [.int .u8 m]
  | 0, _, i, hi => by omega
  | n + 1, h, i, hi => by
    simp only [allU8, Bool.and_eq_true] at h
    by_cases e : i = n
    · subst e
      have := h.2
      unfold isU8 at this
      split at this
      · rename_i m hm; exact ⟨m, hm⟩
      · cases this
    · exact isU8_of h.1 i (by omega)

section
variable {ρ : Type} {P : Program} {o : Oper} {a : Act} {w : World} {Q : Exit → Act → World → Prop} {κ : Option AV → Heap → Option ρ} {x : ρ} {β : Nat → Nat} {H : Heap} {e : List (Option AV)} {c : Ctx}

/-- what a slice's cells hold -/
theorem src_cells (hR : HR β H w.heap) {u : AV} {v : Value} (hu : R β H w.heap v u) {sz n : Nat} {row : Nat → List AV} (h : srcOf H u = some (sz, n, row)) (hs : ∀ s, u ≠ .str s) :
    ∃ (ad : Option Addr) (cap : Nat) (vf : Nat → Nat → Value), v = .slice ad n cap ∧ (0 < n → ad.isSome = true) ∧ (∀ bb, ad = some bb → ∀ i j, i < n → j < sz → w.cell? (bb.add (i * sz + j)) = some (vf i j)) ∧
      (∀ i, i < n → (row i).length = sz ∧ allLeaf (row i) = true ∧ pureL (row i) = true) ∧ (∀ i j, i < n → j < sz → R β H w.heap (vf i j) ((row i).getD j .und)) := by
  cases hu with
  | sl0 ad c' sz' row' full hf =>
    simp only [srcOf, Option.some.injEq, Prod.mk.injEq] at h
    obtain ⟨rfl, rfl, rfl⟩ := h
    exact ⟨ad, c', fun _ _ => undef, rfl, fun h => absurd h (by omega), fun _ _ i j hi => absurd hi (by omega), fun i hi => absurd hi (by omega), fun i j hi => absurd hi (by omega)⟩
  | sl b o' n' c' sz' row' full cs et fz vf hi hW hc hf hl hv hRr =>
    simp only [srcOf, Option.some.injEq, Prod.mk.injEq] at h
    obtain ⟨rfl, rfl, rfl⟩ := h
    refine ⟨_, c', vf, rfl, fun _ => rfl, fun bb hbb i j hi hj => ?_, hl, hRr⟩
    cases hbb
    rw [Addr.add_lit, cell_of hW, ← Nat.add_assoc]
    exact hv i j hi hj
  | osl r off len c' sz' N m row' full ad ha hH hW hn hc hf hs' hu' =>
    have hrow : rowsOf H r = some (sz', N, row') := by unfold rowsOf; rcases hH with hH | hH <;> rw [hH]
    simp only [srcOf, hrow, Option.some.injEq, Prod.mk.injEq] at h
    obtain ⟨rfl, rfl, rfl⟩ := h
    have main : ∀ (vs : Array Value) (et : TypeId) (fz : Nat × Nat), w.heap[β r]? = some (.cells vs et fz) → N * sz' ≤ vs.size →
        (∀ i, i < N → (row' i).length = sz' ∧ allLeaf (row' i) = true ∧ pureL (row' i) = true) → (∀ i j, i < N → j < sz' → R β H w.heap (vs.getD (i * sz' + j) undef) ((row' i).getD j .und)) →
        ∃ (ad' : Option Addr) (cap : Nat) (vf : Nat → Nat → Value), Value.slice ad len c' = .slice ad' len cap ∧ (0 < len → ad'.isSome = true) ∧ (∀ bb, ad' = some bb → ∀ i j, i < len → j < sz' → w.cell? (bb.add (i * sz' + j)) = some (vf i j)) ∧
          (∀ i, i < len → (row' (off + i)).length = sz' ∧ allLeaf (row' (off + i)) = true ∧ pureL (row' (off + i)) = true) ∧ (∀ i j, i < len → j < sz' → R β H w.heap (vf i j) ((row' (off + i)).getD j .und)) := by
      intro vs et fz hw hsz hl hv
      refine ⟨ad, c', fun i j => vs.getD ((off + i) * sz' + j) undef, rfl, fun hp => by rw [ha (by omega)]; rfl, fun bb hbb i j hi hj => ?_, fun i hi => hl _ (by omega), fun i j hi hj => hv _ _ (by omega) hj⟩
      have hb : (off + i) * sz' + sz' ≤ N * sz' := by
        have := Nat.mul_le_mul_right sz' (show off + i + 1 ≤ N by omega)
        rw [Nat.succ_mul] at this; exact this
      rw [ha (by omega)] at hbb
      cases hbb
      rw [Addr.add_lit, cell_of hw, show off * sz' + (i * sz' + j) = (off + i) * sz' + j by rw [Nat.add_mul]; omega]
      exact getD_some (by omega)
    rcases hH with hH | hH
    · obtain ⟨vs, et, fz, hw, hsz, _, hl, hv⟩ := hR.arr r _ N _ hH; exact main vs et fz hw hsz hl hv
    · obtain ⟨vs, et, fz, _, hw, hsz, hl, hv⟩ := hR.fro r _ N _ hH; exact main vs et fz hw hsz hl hv
  | osld sz' r off len c' b o' full ad ha hc hf hr hH =>
    have hrow : rowsOf H r = none := by unfold rowsOf; rw [hH]
    simp only [srcOf, hrow] at h
    cases h
  | str s => exact absurd rfl (hs s)
  | _ => cases h

theorem conv_int {s d : Nat} {k : IntKind} {n : Int} {r : AV} (h : convAV c s d (.int k n) = some (true, r)) : ∃ k1 k2, c.kOf s = some (.int k1) ∧ c.kOf d = some (.int k2) ∧ r = .int k2 (k2.wrap n) := by
  simp only [convAV] at h
  split at h
  · rename_i k1 k2 h1 h2
    exact ⟨k1, k2, h1, h2, (Prod.mk.inj (Option.some.inj h)).2.symm⟩
  · cases h
theorem conv_str {s d : Nat} {z : ByteArray} {r : AV} (h : convAV c s d (.str z) = some (true, r)) :
    (c.kOf s = some .str ∧ c.kOf d = some .str ∧ r = .str z) ∨ ∃ et, c.kOf s = some .str ∧ c.kOf d = some (.slice et) ∧ c.kOf et = some (.int .u8) ∧ r = .sl 1 z.size (rowB z) false := by
  simp only [convAV] at h
  split at h
  · rename_i h1 h2
    exact .inl ⟨h1, h2, (Prod.mk.inj (Option.some.inj h)).2.symm⟩
  · rename_i et h1 h2
    split at h
    · rename_i h3
      exact .inr ⟨et, h1, h2, h3, (Prod.mk.inj (Option.some.inj h)).2.symm⟩
    · cases h
  · cases h
theorem conv_sl {s d sz n : Nat} {row : Nat → List AV} {full : Bool} {r : AV} (h : convAV c s d (.sl sz n row full) = some (true, r)) :
    sz = 1 ∧ ∃ et, c.kOf s = some (.slice et) ∧ c.kOf d = some .str ∧ c.kOf et = some (.int .u8) ∧ allU8 row n = true ∧ r = .str (bytesOf n row) := by
  simp only [convAV] at h
  split at h
  case isFalse => cases h
  rename_i hs
  refine ⟨hs, ?_⟩
  split at h
  · rename_i et h1 h2
    split at h
    · rename_i h3
      obtain ⟨h4, h5⟩ := Prod.mk.inj (Option.some.inj h)
      exact ⟨et, h1, h2, h3, h4, h5.symm⟩
    · cases h
  · cases h

theorem op_convert (hC : CtxOK c P) {s d : Nat} {y : Operand} (ho : o.op = .convert s d y) (hR : HR β H w.heap) (hE : ER β H w.heap a.tmps e)
    (h : opt (opd e y) (fun u => match u with
    | .osl .. => opt (srcOf H u) fun (sz, n, row) => chk (convAV c s d (.sl sz n row false)) fun v => κ (some v) H
    | u => chk (convAV c s d u) fun v => κ (some v) H) = some x) : Goal P o a w Q κ x β H := by
  obtain ⟨u, hu, h1⟩ := opt_some h
  have ru := opd_ok hE hu
  have run : ∀ cv w', (convert s d (a.eval y)).run P w = .ok cv w' → (execOp a.eval o).run P w = .ok (.value cv) w' := by
    intro cv w' hcv
    unfold execOp
    rw [ho]
    simp [hcv]
  have bytes : ∀ (n : Nat) (row : Nat → List AV) full r, (∀ z, u ≠ .str z) → srcOf H u = some (1, n, row) → convAV c s d (.sl 1 n row full) = some (true, r) → κ (some r) H = some x → Goal P o a w Q κ x β H := by
    intro n row full r hns hsrc hr hk
    obtain ⟨_, se, hks, hkd, hke, h1, rfl⟩ := conv_sl hr
    · have hds : P.underlying s = some (.slice se) := kOf_desc hC hks
      have hdd : P.underlying d = some .string := kOf_desc hC hkd
      have hde : P.underlying se = some (.int .u8) := kOf_desc hC hke
      obtain ⟨ad, cap, vf, hv, hsome, hcell, hl, hRr⟩ := src_cells hR ru hsrc hns
      have hu8 := isU8_of h1
      refine Goal.value hR (run (.string (bytesOf n row)) w ?_) (.str _) hk
      rw [hv]
      have hconv : (convert s d (.slice ad n cap)).run P w = (Conv.bytesToString (.slice ad n cap)).run P w := by
        simp [convert, run_underlying hds w, run_underlying hdd w, run_underlying hde w]
      rw [hconv]
      cases ad with
      | none =>
        have hn : n = 0 := by
          rcases Nat.eq_zero_or_pos n with h | h
          · exact h
          · have := hsome h; cases this
        subst hn
        rfl
      | some bb =>
        have hch : ∀ i, i < n → ∃ m, row i = [.int .u8 m] ∧ vf i 0 = .int .u8 m := fun i hi => by
          obtain ⟨m, hm⟩ := hu8 i hi
          have := hRr i 0 hi (by omega)
          rw [hm] at this
          exact ⟨m, hm, this.inv_int⟩
        have hcs := run_loadCells_list (P := P) (w := w) bb (((List.range n).map fun i => match row i with | [.int _ m] => m | _ => 0).map (Value.int .u8)) (fun i v hi => ?_)
        · simp only [List.length_map, List.length_range] at hcs
          rw [run_bytesToString (P := P) w bb n cap _ hcs, foldl_push]
          congr 2
          unfold bytesOf
          congr 1
          apply congrArg
          simp only [ByteArray.empty, List.map_map]
          show [] ++ _ = _
          rw [List.nil_append]
          apply List.map_congr_left
          intro i hi
          obtain ⟨m, hm, _⟩ := hch i (by simpa using hi)
          simp [hm, u8Of]
        · by_cases hlt : i < n
          · obtain ⟨m, hm, hm2⟩ := hch i hlt
            have := hcell bb rfl i 0 hlt (by omega)
            simp only [Nat.mul_one, Nat.add_zero] at this
            simp [List.getElem?_range hlt, hm] at hi
            rw [this, hm2, ← hi]
          · rw [List.getElem?_eq_none (by simp; omega)] at hi; cases hi
  cases hu' : u with
  | osl sz' r off len full =>
    rw [hu'] at h1
    obtain ⟨⟨sz, n, row⟩, hsrc, h2⟩ := opt_some h1
    obtain ⟨r, hr, hk⟩ := chk_some h2
    obtain ⟨rfl, _⟩ := conv_sl hr
    exact bytes n row false r (by rw [hu']; intro z; simp) (by rw [hu']; exact hsrc) hr hk
  | sl sz n row full =>
    rw [hu'] at h1
    obtain ⟨r, hr, hk⟩ := chk_some h1
    obtain ⟨rfl, _⟩ := conv_sl hr
    exact bytes n row full r (by rw [hu']; intro z; simp) (by rw [hu']; rfl) hr hk
  | int k n =>
    rw [hu'] at h1 ru
    obtain ⟨r, hr, hk⟩ := chk_some h1
    obtain ⟨k1, k2, q1, q2, rfl⟩ := conv_int hr
    have hds : P.underlying s = some (.int k1) := kOf_desc hC q1
    have hdd : P.underlying d = some (.int k2) := kOf_desc hC q2
    refine Goal.value hR (run (.int k2 (k2.wrap n)) w ?_) (.int _ _) hk
    rw [ru.inv_int]
    simp [convert, run_underlying hds w, run_underlying hdd w, Conv.intToInt]
  | str z =>
    rw [hu'] at h1 ru
    obtain ⟨r, hr, hk⟩ := chk_some h1
    rcases conv_str hr with ⟨q1, q2, rfl⟩ | ⟨et, q1, q2, hke, rfl⟩
    · have hds : P.underlying s = some .string := kOf_desc hC q1
      have hdd : P.underlying d = some .string := kOf_desc hC q2
      refine Goal.value hR (run (.string z) w ?_) (.str _) hk
      rw [ru.inv_str]
      simp [convert, run_underlying hds w, run_underlying hdd w]
    · · have hds : P.underlying s = some .string := kOf_desc hC q1
        have hdd : P.underlying d = some (.slice et) := kOf_desc hC q2
        have hde : P.underlying et = some (.int .u8) := kOf_desc hC hke
        let cap := (Question.appendCap z.size 0 et).cut (w.tape w.drawn (.appendCap z.size 0 et))
        have hcap : z.size ≤ cap := by show z.size ≤ z.size + _; omega
        let cs : Array Value := (z.data.map fun b => Value.int .u8 b.toNat) ++ Array.replicate (cap - z.size) (.int .u8 0)
        have hcsz : cs.size = cap := by
          have : z.data.size = z.size := rfl
          simp [cs]; omega
        let ob : Obj := .cells cs et (cap, cap + 1)
        let w' : World := { w with heap := w.heap.push ob, drawn := w.drawn + 1 }
        refine Goal.moved (w' := w') (hR.push ob) (Evo.push hR ob) ⟨rfl, rfl, rfl⟩ (run (.slice (some ⟨w.heap.size, 0, none⟩) z.size cap) w' ?_) ?_ hk
        · rw [ru.inv_str]
          have hstep : (convert s d (.string z)).run P w = (Conv.stringToBytes et z).run P w := by
            simp [convert, run_underlying hds w, run_underlying hdd w, run_underlying hde w]
          rw [hstep]
          simp only [Conv.stringToBytes, Sem.run_bind, run_choose, Question.forced, Bool.false_eq_true, if_false, Result.andThen_ok, newRow, run_newObj, Sem.run_pure, markStringish, run_shape]
          have hsh : World.shape? { w with heap := w.heap.push (.cells cs et (0, 0)), drawn := w.drawn + 1 } w.heap.size = some (et, cap) := by
            simp [World.shape?, hcsz]
          show (Result.andThen (Sem.run P (match World.shape? { w with heap := w.heap.push (.cells cs et (0, 0)), drawn := w.drawn + 1 } w.heap.size with
            | some (_, n) => freeze { block := w.heap.size, off := n } 1
            | _ => pure ()) { w with heap := w.heap.push (.cells cs et (0, 0)), drawn := w.drawn + 1 }) _) = _
          rw [hsh]
          simp only [run_freeze, Result.andThen_ok, Sem.run_pure]
          congr 1
          simp only [World.freeze, Nat.one_ne_zero, if_false]
          rw [modify_push]
          rfl
        · show R β H (w.heap.push ob) _ _
          refine .sl w.heap.size 0 z.size cap 1 (rowB z) false cs et (cap, cap + 1) (fun i j => .int .u8 ((z.data.getD i 0).toNat : Int)) (imm_new hR ob) push_eq hcap (fun h => by cases h) (fun i hi => ⟨rfl, rfl, rfl⟩) (fun i j hi hj => ?_) fun i j hi hj => ?_
          · have hj0 : j = 0 := by omega
            subst hj0
            have hi' : i < z.data.size := hi
            simp only [cs, Nat.zero_add, Nat.mul_one, Nat.add_zero]
            rw [Array.getElem?_append_left (by simpa using hi')]
            rw [Array.getElem?_map, Array.getElem?_eq_getElem hi', Array.getD_eq_getD_getElem?, Array.getElem?_eq_getElem hi']
            rfl
          · have hj0 : j = 0 := by omega
            subst hj0
            exact .int _ _
  | _ =>
    rw [hu'] at h1
    obtain ⟨r, hr, hk⟩ := chk_some h1
    cases hr
end
end Go.Ev

set_option linter.unusedVariables false
set_option linter.unusedSimpArgs false
set_option linter.unusedSectionVars false
namespace Go.Ev
open Go
variable [Gh]

/-- cells laid over others -/
theorem splice_list : ∀ (vs : List Value) (n off : Nat) (cs : Array Value), off + n + vs.length ≤ cs.size →
    ((vs.zipIdx n).foldl (fun (cs : Array Value) (p : Value × Nat) => cs.setIfInBounds (off + p.2) p.1) cs).size = cs.size ∧
    ∀ k, k < cs.size → ((vs.zipIdx n).foldl (fun (cs : Array Value) (p : Value × Nat) => cs.setIfInBounds (off + p.2) p.1) cs).getD k undef = if off + n ≤ k ∧ k < off + n + vs.length then vs.getD (k - (off + n)) undef else cs.getD k undef
  | [], n, off, cs, h => ⟨rfl, fun k hk => by rw [if_neg (by simp)]; rfl⟩
  | v :: vs, n, off, cs, h => by
    simp only [List.length_cons] at h
    simp only [List.zipIdx_cons, List.foldl_cons]
    obtain ⟨h1, h2⟩ := splice_list vs (n + 1) off (cs.setIfInBounds (off + n) v) (by simp; omega)
    refine ⟨by rw [h1]; simp, fun k hk => ?_⟩
    rw [h2 k (by simpa using hk)]
    by_cases e : k = off + n
    · subst e
      rw [if_neg (by omega), if_pos ⟨by omega, by simp⟩]
      simp [Array.getD_eq_getD_getElem?, hk]
    · by_cases hr : off + (n + 1) ≤ k ∧ k < off + (n + 1) + vs.length
      · rw [if_pos hr, if_pos ⟨by omega, by simp; omega⟩, show k - (off + n) = (k - (off + (n + 1))) + 1 by omega]
        simp
      · rw [if_neg hr, if_neg (by simp; omega)]
        simp [Array.getD_eq_getD_getElem?, Array.getElem?_setIfInBounds, Ne.symm e]
theorem splice (vs : Array Value) (off : Nat) (cs : Array Value) (h : off + vs.size ≤ cs.size) :
    (vs.zipIdx.foldl (fun cs (c, j) => cs.setIfInBounds (off + j) c) cs).size = cs.size ∧
    ∀ k, k < cs.size → (vs.zipIdx.foldl (fun cs (c, j) => cs.setIfInBounds (off + j) c) cs).getD k undef = if off ≤ k ∧ k < off + vs.size then vs.getD (k - off) undef else cs.getD k undef := by
  have := splice_list vs.toList 0 off cs (by simpa using h)
  rw [← Array.foldl_toList, Array.toList_zipIdx]
  simp only [Nat.add_zero, Array.length_toList] at this
  refine ⟨this.1, fun k hk => ?_⟩
  have h2 := this.2 k hk
  rw [show vs.toList.getD (k - off) undef = vs.getD (k - off) undef by simp [Array.getD_eq_getD_getElem?, List.getD_eq_getElem?_getD]] at h2
  exact h2

section
variable {ρ : Type} {P : Program} {o : Oper} {a : Act} {w : World} {Q : Exit → Act → World → Prop} {κ : Option AV → Heap → Option ρ} {x : ρ} {β : Nat → Nat} {H : Heap} {e : List (Option AV)} {c : Ctx}

/-- cells as_ told -/
def CR (β : Nat → Nat) (H : Heap) (W : Array Obj) (vs : Array Value) (as_ : List AV) : Prop := vs.size = as_.length ∧ allLeaf as_ = true ∧ ∀ j, j < as_.length → R β H W (vs.getD j undef) (as_.getD j .und)

theorem CR.splice {vs us : Array Value} {as_ bs : List AV} {off : Nat} (h : CR β H w.heap vs as_) (hs : us.size = bs.length) (hl : allLeaf bs = true) (hb : ∀ j, j < bs.length → R β H w.heap (us.getD j undef) (bs.getD j .und)) (hle : off + bs.length ≤ as_.length) :
    CR β H w.heap (us.zipIdx.foldl (fun cs (c, j) => cs.setIfInBounds (off + j) c) vs) (stCells as_ off bs) := by
  obtain ⟨h1, h2, h3⟩ := h
  obtain ⟨s1, s2⟩ := Go.Ev.splice us off vs (by omega)
  refine ⟨by rw [s1, stCells_len hle, h1], stCells_leaf h2 hl, fun j hj => ?_⟩
  rw [stCells_len hle] at hj
  rw [s2 j (by omega), stCells_getD hle hj, hs]
  split
  · exact hb _ (by omega)
  · exact h3 j hj

theorem parts_ok (hE : ER β H w.heap a.tmps e) : ∀ {ps : List (Nat × Operand)} {as_ : List (Nat × AV)}, partsOf e ps = some as_ →
    ps.map (fun p => p.1) = as_.map (fun p => p.1) ∧ ∀ j, j < as_.length → ∀ d, R β H w.heap (a.eval ((ps.getD j d).2)) ((as_.getD j (0, .und)).2)
  | [], as_, h => by cases h; exact ⟨rfl, fun j hj => by simp at hj⟩
  | (i, y) :: ps, as_, h => by
    unfold partsOf at h
    split at h
    · rename_i v vs h1 h2
      cases h
      obtain ⟨i1, i2⟩ := parts_ok hE h2
      refine ⟨by simp [i1], fun j hj d => ?_⟩
      cases j with
      | zero => simpa using opd_ok hE h1
      | succ j => simpa using i2 j (by simpa using hj) d
    · cases h

theorem fill_ok {place : Nat → Option (Nat × Nat)} {pl : List (Nat × Nat)} (hpl : ∀ i p, pl[i]? = some p → place i = some p) (hE : ER β H w.heap a.tmps e) :
    ∀ {ps : List (Nat × Operand)} {as_ : List (Nat × AV)} {vs : Array Value} {cs r : List AV}, partsOf e ps = some as_ → CR β H w.heap vs cs → fillAV pl cs as_ = some r →
      ∃ us, Instr.fill place vs (ps.map fun p => (p.1, a.eval p.2)) = some us ∧ CR β H w.heap us r
  | [], as_, vs, cs, r, h, hc, hf => by
    cases h
    cases hf
    exact ⟨vs, rfl, hc⟩
  | (i, y) :: ps, as_, vs, cs, r, h, hc, hf => by
    unfold partsOf at h
    split at h
    · rename_i v vs' h1 h2
      cases h
      unfold fillAV at hf
      split at hf
      · cases hf
      rename_i off size hp
      split at hf
      case isFalse => cases hf
      rename_i hcond
      obtain ⟨c1, c2, c3⟩ := hcond
      obtain ⟨d1, d2⟩ := (opd_ok hE h1).cells c3
      have hle : off + v.cells.length ≤ cs.length := by omega
      obtain ⟨us, hu1, hu2⟩ := fill_ok hpl hE h2 (hc.splice d1 c3 d2 hle) hf
      refine ⟨us, ?_, hu2⟩
      simp only [List.map_cons, Instr.fill, hpl _ _ hp]
      rw [if_neg (by have := hc.1; simp; omega)]
      exact hu1
    · cases h

theorem places_ok (hC : CtxOK c P) : ∀ {fs : List (Nat × Nat)} {ps : List (Nat × Nat)}, c.places fs = some ps → ∀ {fields : List Field}, fields.map (fun f => (f.offset, f.type)) = fs →
    (fields.mapM (fun f => do pure (f.offset, ← Go.sizeOf f.type) : Field → Sem (Nat × Nat))).run P w = .ok ps w
  | [], ps, h, fields, hf => by
    cases h
    have : fields = [] := by simpa using hf
    subst this
    simp
  | (off, t) :: fs, ps, h, fields, hf => by
    cases fields with
    | nil => simp at hf
    | cons f fields =>
      simp only [List.map_cons, List.cons.injEq, Prod.mk.injEq] at hf
      obtain ⟨⟨e1, e2⟩, e3⟩ := hf
      unfold Ctx.places at h
      split at h
      · rename_i ty ps' h1 h2
        cases h
        have ih := places_ok hC h2 e3
        have hT := hC.ty t ty h1
        simp only [List.mapM_cons, Sem.run_bind, e2, hT.sizeOf, Result.andThen_ok, Sem.run_pure, ih, e1]
      · cases h

theorem op_build (hC : CtxOK c P) {t : Nat} {parts : Array (Nat × Operand)} (ho : o.op = .build t parts) (hR : HR β H w.heap) (hE : ER β H w.heap a.tmps e)
    (h : opt (partsOf e parts.toList) (fun ps => opt (buildAV c t ps) fun v => κ (some v) H) = some x) : Goal P o a w Q κ x β H := by
  obtain ⟨ps, hps, h1⟩ := opt_some h
  obtain ⟨v, hv, hk⟩ := opt_some h1
  unfold buildAV at hv
  split at hv
  case h_2 => cases hv
  rename_i ty hty
  have hT := hC.ty t ty hty
  obtain ⟨i, hi, hsz, hby, z, hz, hzs, hzR⟩ := hT.info
  have hzero : (zeroValue t).run P w = .ok z w := by simp [zeroValue, typeInfo, hi, hz]
  have hcr : CR β H w.heap z.cells ty.zero := ⟨by rw [hzs, hT.len], hT.leaf, fun j hj => hzR _ _ _ j hj⟩
  split at hv
  · rename_i fs hk'
    split at hv
    case h_2 => cases hv
    rename_i pl hpl
    cases hf : fillAV pl ty.zero ps with
    | none => rw [hf] at hv; cases hv
    | some r =>
      rw [hf] at hv; cases hv
      have hd := hT.desc
      rw [hk'] at hd
      obtain ⟨fields, hu, hm⟩ := hd
      have hpr := places_ok (w := w) hC hpl hm
      obtain ⟨us, hu1, hu2⟩ := fill_ok (place := (pl.toArray[·]?)) (fun i p hp => by simpa using hp) hE hps hcr hf
      refine Goal.value hR (cv := .agg us) ?_ (.agg us r hu2.1 hu2.2.1 hu2.2.2) hk
      unfold execOp
      rw [ho]
      have hfm : (fields.mapM (fun f => do pure (f.offset, ← Go.sizeOf f.type) : Field → Sem (Nat × Nat))).run P w = .ok pl.toArray w := by
        rw [← Array.toArray_toList (xs := fields), List.mapM_toArray, Sem.run_map, hpr]
        rfl
      simp only [Instr.build, Sem.run_bind, hzero, Result.andThen_ok, run_underlying hu w, hfm, Array.toList_map]
      rw [hu1]
      rfl
  · rename_i n et hk'
    split at hv
    case h_2 => cases hv
    rename_i ey hey
    have hTe := hC.ty et ey hey
    cases hf : fillAV ((List.range n).map fun i => (i * ey.size, ey.size)) ty.zero ps with
    | none => rw [hf] at hv; cases hv
    | some r =>
      rw [hf] at hv; cases hv
      have hd := hT.desc
      rw [hk'] at hd
      have hu : P.underlying t = some (.array n et) := hd
      obtain ⟨us, hu1, hu2⟩ := fill_ok (place := fun i => some (i * ey.size, ey.size)) (fun i p hp => by
        simp only [List.getElem?_map] at hp
        by_cases hlt : i < n
        · simpa [List.getElem?_range hlt] using hp
        · rw [List.getElem?_eq_none (by simpa using hlt)] at hp; cases hp) hE hps hcr hf
      refine Goal.value hR (cv := .agg us) ?_ (.agg us r hu2.1 hu2.2.1 hu2.2.2) hk
      unfold execOp
      rw [ho]
      simp only [Instr.build, Sem.run_bind, hzero, Result.andThen_ok, run_underlying hu w, hTe.sizeOf, Array.toList_map]
      rw [hu1]
      rfl
  · cases hv
end
end Go.Ev

set_option linter.unusedVariables false
set_option linter.unusedSimpArgs false
set_option linter.unusedSectionVars false
namespace Go.Ev
open Go
variable [Gh]

section
variable {ρ : Type} {P : Program} {o : Oper} {a : Act} {w : World} {Q : Exit → Act → World → Prop} {κ : Option AV → Heap → Option ρ} {x : ρ} {β : Nat → Nat} {H : Heap} {e : List (Option AV)} {c : Ctx}

/-- rows of cells, as_ told -/
def RR (β : Nat → Nat) (H : Heap) (W : Array Obj) (sz n : Nat) (vs : Array Value) (row : Nat → List AV) : Prop :=
  (∀ i, i < n → (row i).length = sz ∧ allLeaf (row i) = true ∧ pureL (row i) = true) ∧ ∀ i j, i < n → j < sz → R β H W (vs.getD (i * sz + j) undef) ((row i).getD j .und)

theorem row_in {i n sz : Nat} (h : i < n) : i * sz + sz ≤ n * sz := by
  have := Nat.mul_le_mul_right sz (show i + 1 ≤ n by omega)
  rw [Nat.succ_mul] at this; exact this
theorem row_apart {i i' j j' sz : Nat} (h : i ≠ i') (hj : j < sz) (hj' : j' < sz) : i * sz + j ≠ i' * sz + j' := by
  rcases Nat.lt_or_gt_of_ne h with hlt | hlt
  · have := row_in (sz := sz) hlt; omega
  · have := row_in (sz := sz) hlt; omega

theorem lit_ok {size : Nat} {z0 : List AV} (hE : ER β H w.heap a.tmps e) : ∀ {ps : List (Nat × Operand)} {as_ : List (Nat × AV)} {vs : Array Value} {rows rows' : List (List AV)}, partsOf e ps = some as_ → vs.size = rows.length * size →
    RR β H w.heap size rows.length vs (fun i => rows.getD i z0) → litRows size rows as_ = some rows' →
      ∃ us, Instr.fill (fun i => some (i * size, size)) vs (ps.map fun p => (p.1, a.eval p.2)) = some us ∧ us.size = rows'.length * size ∧ rows'.length = rows.length ∧ RR β H w.heap size rows'.length us (fun i => rows'.getD i z0)
  | [], as_, vs, rows, rows', h, hs, hr, hl => by
    cases h; cases hl
    exact ⟨vs, rfl, hs, rfl, hr⟩
  | (i, y) :: ps, as_, vs, rows, rows', h, hs, hr, hl => by
    unfold partsOf at h
    split at h
    · rename_i v vs' h1 h2
      cases h
      unfold litRows at hl
      split at hl
      case isFalse => cases hl
      rename_i hcond
      obtain ⟨c1, c2, c3, c4⟩ := hcond
      obtain ⟨d1, d2⟩ := (opd_ok hE h1).cells c3
      have hin := row_in (sz := size) c2
      obtain ⟨s1, s2⟩ := Go.Ev.splice (a.eval y).cells (i * size) vs (by omega)
      have hnew : RR β H w.heap size (rows.set i v.cells).length ((a.eval y).cells.zipIdx.foldl (fun cs (c, j) => cs.setIfInBounds (i * size + j) c) vs) (fun k => (rows.set i v.cells).getD k z0) := by
        rw [List.length_set]
        refine ⟨fun k hk => ?_, fun k j hk hj => ?_⟩
        · by_cases e' : k = i
          · subst e'
            simp only [List.getD_eq_getElem?_getD, List.getElem?_set_self c2, Option.getD_some]
            exact ⟨c1, c3, c4⟩
          · simp only [List.getD_eq_getElem?_getD, List.getElem?_set_ne (Ne.symm e')]
            have := hr.1 k hk
            simpa [List.getD_eq_getElem?_getD] using this
        · have hk' := row_in (sz := size) hk
          rw [s2 _ (by omega)]
          by_cases e' : k = i
          · subst e'
            rw [if_pos (by omega), show k * size + j - k * size = j by omega]
            simp only [List.getD_eq_getElem?_getD, List.getElem?_set_self c2, Option.getD_some]
            have := d2 j (by omega)
            simpa [List.getD_eq_getElem?_getD] using this
          · have hno : ¬ (i * size ≤ k * size + j ∧ k * size + j < i * size + (a.eval y).cells.size) := by
              rcases Nat.lt_or_gt_of_ne e' with hlt | hlt
              · have := row_in (sz := size) hlt; omega
              · have := row_in (sz := size) hlt; omega
            rw [if_neg hno]
            have := hr.2 k j hk hj
            simp only [List.getD_eq_getElem?_getD, List.getElem?_set_ne (Ne.symm e')]
            simpa [List.getD_eq_getElem?_getD] using this
      obtain ⟨us, u1, u2, u3, u4⟩ := lit_ok hE h2 (by rw [s1, hs, List.length_set]) hnew hl
      refine ⟨us, ?_, u2, by rw [u3, List.length_set], u4⟩
      simp only [List.map_cons, Instr.fill]
      rw [if_neg (by simp; omega)]
      exact u1
    · cases h

theorem zeros_rows {t : Nat} {ty : Ty} (hT : TyOK P t ty) {i : TypeInfo} {z : Value} (hzs : z.cells.size = ty.size) (hzR : ∀ β H W j, j < ty.zero.length → R β H W (z.cells.getD j undef) (ty.zero.getD j .und)) (n : Nat) (W : Array Obj) :
    RR β H W ty.size n ((Array.range (n * ty.size)).map (z.cells[· % z.cells.size]!)) (fun _ => ty.zero) := by
  refine ⟨fun i hi => ⟨hT.len, hT.leaf, hT.pure⟩, fun i j hi hj => ?_⟩
  have hin := row_in (sz := ty.size) hi
  have hlt : i * ty.size + j < n * ty.size := by omega
  have hmod : (i * ty.size + j) % ty.size = j := by rw [Nat.mul_comm, Nat.mul_add_mod]; exact Nat.mod_eq_of_lt hj
  have := hzR β H W j (by rw [hT.len]; exact hj)
  rw [Array.getD_eq_getD_getElem?, Array.getElem?_map, Array.getElem?_range, if_pos hlt]
  simp only [Option.map_some, Option.getD_some, hzs, hmod]
  have hj' : j < z.cells.size := by omega
  rw [getElem!_pos z.cells j hj']
  rw [Array.getD_eq_getD_getElem?, Array.getElem?_eq_getElem hj'] at this
  exact this

theorem rows_slice (hR : HR β H w.heap) {et sz n cap : Nat} {vs : Array Value} {row : Nat → List AV} {full : Bool} (hn : n ≤ cap) (hf : full = true → cap = n) (hs : n * sz ≤ vs.size) (h : RR β H w.heap sz n vs row) (fz : Nat × Nat) :
    R β H (w.heap.push (.cells vs et fz)) (.slice (some ⟨w.heap.size, 0, none⟩) n cap) (.sl sz n row full) := by
  refine .sl w.heap.size 0 n cap sz row full vs et fz (fun i j => vs.getD (i * sz + j) undef) (imm_new hR _) push_eq hn hf h.1 (fun i j hi hj => ?_) fun i j hi hj => (h.2 i j hi hj).stays (Evo.push hR _)
  have := row_in (sz := sz) hi
  rw [Nat.zero_add]
  exact getD_some (by omega)

theorem ite_none {ρ : Type} {p : Prop} [Decidable p] {A : Option ρ} {r : ρ} (h : (if p then none else A) = some r) : ¬ p ∧ A = some r := by
  split at h
  · cases h
  · rename_i hp; exact ⟨hp, h⟩
theorem fill_len {pl : List (Nat × Nat)} : ∀ {ps : List (Nat × AV)} {as_ r : List AV}, fillAV pl as_ ps = some r → r.length = as_.length
  | [], as_, r, h => by cases h; rfl
  | (i, v) :: ps, as_, r, h => by
    unfold fillAV at h
    split at h
    · cases h
    · obtain ⟨hc, h2⟩ := ite_some h
      rw [fill_len h2, stCells_len (by omega)]
theorem rep_len {z : List AV} : ∀ n, (rep n z).length = n * z.length
  | 0 => by simp [rep]
  | n + 1 => by simp [rep, rep_len n, Nat.succ_mul, Nat.add_comm]
theorem rep_leaf {z : List AV} (h : allLeaf z = true) : ∀ n, allLeaf (rep n z) = true
  | 0 => rfl
  | n + 1 => by
    rw [allLeaf_iff]
    intro x hx
    simp only [rep, List.mem_append] at hx
    rcases hx with hx | hx
    · exact allLeaf_iff.1 h x hx
    · exact allLeaf_iff.1 (rep_leaf h n) x hx
theorem rep_get {z : List AV} : ∀ n i j, i < n → j < z.length → (rep n z).getD (i * z.length + j) .und = z.getD j .und
  | 0, i, j, h, _ => by omega
  | n + 1, 0, j, h, hj => by
    simp only [rep, Nat.zero_mul, Nat.zero_add, List.getD_eq_getElem?_getD]
    rw [List.getElem?_append_left hj]
  | n + 1, i + 1, j, h, hj => by
    have := rep_get (z := z) n i j (by omega) hj
    simp only [rep, List.getD_eq_getElem?_getD] at this ⊢
    rw [List.getElem?_append_right (by rw [Nat.succ_mul]; omega), show (i + 1) * z.length + j - z.length = i * z.length + j by rw [Nat.succ_mul]; omega]
    exact this
theorem zeros_cells {vs : Array Value} {z : List AV} {n : Nat} (hs : vs.size = n * z.length) (hl : allLeaf z = true) (h : RR β H w.heap z.length n vs (fun _ => z)) : CR β H w.heap vs (rep n z) := by
  refine ⟨by rw [hs, rep_len], rep_leaf hl n, fun j hj => ?_⟩
  rw [rep_len] at hj
  have hz : 0 < z.length := by
    rcases Nat.eq_zero_or_pos z.length with h0 | h0
    · rw [h0] at hj; omega
    · exact h0
  have e : j = j / z.length * z.length + j % z.length := by rw [Nat.mul_comm]; exact (Nat.div_add_mod j _).symm
  have h1 : j / z.length < n := Nat.div_lt_of_lt_mul (by rw [Nat.mul_comm]; exact hj)
  have h2 : j % z.length < z.length := Nat.mod_lt _ hz
  rw [e, rep_get n _ _ h1 h2]
  exact h.2 _ _ h1 h2

theorem op_buildSlice (hC : CtxOK c P) {t n : Nat} {parts : Array (Nat × Operand)} (ho : o.op = .buildSlice t n parts) (hR : HR β H w.heap) (hE : ER β H w.heap a.tmps e)
    (h : (match c.tyOf t with
    | some ⟨.slice et, _, _, _, _⟩ => opt (c.tyOf et) fun ey => opt (partsOf e parts.toList) fun ps => if n * ey.size ≤ 16777216 then opt (litAV ey.size n ey.zero ps) (fun v => κ (some v) H) else none
    | _ => none) = some x) : Goal P o a w Q κ x β H := by
  split at h
  case h_2 => cases h
  rename_i et z1 z2 z3 z4 hty
  obtain ⟨ey, hey, h1⟩ := opt_some h
  obtain ⟨ps, hps, h2⟩ := opt_some h1
  obtain ⟨hroom, h3⟩ := ite_some h2
  have hu : P.underlying t = some (.slice et) := (hC.ty t _ hty).desc
  have hT := hC.ty et ey hey
  obtain ⟨i, hi, hsz, hby, z, hz, hzs, hzR⟩ := hT.info
  have hzero : (zeroValue et).run P w = .ok z w := by simp [zeroValue, typeInfo, hi, hz]
  have hz0 := zeros_rows (β := β) (H := H) hT (i := i) hzs hzR n w.heap
  have hng : ¬ (n * ey.size > 2 ^ 24) := by omega
  have run : ∀ us, Instr.fill (fun i => some (i * ey.size, ey.size)) ((Array.range (n * ey.size)).map (z.cells[· % z.cells.size]!)) (parts.toList.map fun p => (p.1, a.eval p.2)) = some us →
      (execOp a.eval o).run P w = .ok (.value (.slice (some ⟨w.heap.size, 0, none⟩) n n)) { w with heap := w.heap.push (.cells us et (0, 0)) } := by
    intro us u1
    unfold execOp
    rw [ho]
    by_cases h0 : n * ey.size = 0
    · have e0 : (Array.range (n * ey.size)).map (fun x => (#[] : Array Value)[x % (#[] : Array Value).size]!) = (Array.range (n * ey.size)).map (z.cells[· % z.cells.size]!) := by rw [h0]; simp
      simp only [Instr.buildSlice, Sem.run_bind, run_underlying hu w, Result.andThen_ok, hT.sizeOf, if_neg hng, Sem.run_pure, Array.toList_map, if_pos h0, Sem.run_ite, e0, u1]
      rfl
    · simp only [Instr.buildSlice, Sem.run_bind, run_underlying hu w, Result.andThen_ok, hT.sizeOf, if_neg hng, Sem.run_pure, Array.toList_map, if_neg h0, Sem.run_ite, hzero, u1]
      rfl
  obtain ⟨lv, hlv, hk⟩ := opt_some h3
  unfold litAV at hlv
  split at hlv
  · rename_i rows hrows
    cases hlv
    obtain ⟨us, u1, u2, u3, u4⟩ := lit_ok (β := β) (H := H) (w := w) (z0 := ey.zero) hE hps (vs := (Array.range (n * ey.size)).map (z.cells[· % z.cells.size]!)) (by simp) (by
      rw [List.length_replicate]
      refine ⟨fun k hk => ?_, fun k j hk hj => ?_⟩
      · simp only [List.getD_eq_getElem?_getD, List.getElem?_replicate, hk, if_true, Option.getD_some]
        exact hz0.1 k hk
      · have := hz0.2 k j hk hj
        simp only [List.getD_eq_getElem?_getD, List.getElem?_replicate, hk, if_true, Option.getD_some]
        simpa [List.getD_eq_getElem?_getD] using this) hrows
    have hln : rows.length = n := by rw [u3]; simp
    rw [hln] at u2 u4
    exact Goal.moved (w' := { w with heap := w.heap.push (.cells us et (0, 0)) }) (ov := some _) (hR.push _) (Evo.push hR _) ⟨rfl, rfl, rfl⟩ (cv := .slice (some ⟨w.heap.size, 0, none⟩) n n) (run us u1) (rows_slice hR (Nat.le_refl _) (fun _ => rfl) (by omega) u4 (0, 0)) hk
  · obtain ⟨hne, h4⟩ := ite_none hlv
    obtain ⟨cs, hcs, hcl⟩ : ∃ cs, fillAV ((List.range n).map fun i => (i * ey.size, ey.size)) (rep n ey.zero) ps = some cs ∧ AV.lsl ey.size n cs = lv := by
      cases hq : fillAV ((List.range n).map fun i => (i * ey.size, ey.size)) (rep n ey.zero) ps with
      | none => rw [hq] at h4; cases h4
      | some cs => rw [hq] at h4; exact ⟨cs, rfl, Option.some.inj h4⟩
    subst hcl
    obtain ⟨us, u1, u2, u3, u4⟩ := fill_ok (β := β) (H := H) (w := w) (place := fun i => some (i * ey.size, ey.size)) (pl := (List.range n).map fun i => (i * ey.size, ey.size)) (fun i p hp => by
      simp only [List.getElem?_map] at hp
      cases hr : (List.range n)[i]? with
      | none => rw [hr] at hp; cases hp
      | some k =>
        rw [hr] at hp
        have hk' := List.getElem?_eq_some_iff.1 hr
        obtain ⟨q1, q2⟩ := hk'
        rw [List.getElem_range] at q2
        subst q2
        exact hp) hE hps (zeros_cells (β := β) (H := H) (w := w) (n := n) (z := ey.zero) (vs := (Array.range (n * ey.size)).map (z.cells[· % z.cells.size]!)) (by rw [hT.len]; simp) hT.leaf (by rw [hT.len]; exact hz0)) hcs
    have hlen : cs.length = n * ey.size := by
      have := fill_len hcs
      rw [rep_len, hT.len] at this
      exact this
    refine Goal.moved (w' := { w with heap := w.heap.push (.cells us et (0, 0)) }) (ov := some _) (hR.push _) (Evo.push hR _) ⟨rfl, rfl, rfl⟩ (cv := .slice (some ⟨w.heap.size, 0, none⟩) n n) (run us u1) ?_ hk
    exact .lsl w.heap.size 0 n ey.size cs us et (0, 0) (fun j => us.getD j undef) (imm_new hR _) push_eq u3 hlen (fun j hj => by rw [Nat.zero_add]; exact getD_some (by omega)) fun j hj => (u4 j hj).stays (Evo.push hR _)

theorem roomOf_iff {n b : Nat} (h : roomOf n b = true) : n * b ≤ 70368744177664 ∧ n ≤ 70368744177664 := by
  simpa [roomOf] using h
theorem wrap_small {n : Nat} (h : n ≤ 70368744177664) : IntKind.i64.wrap (n : Int) = n := by
  rw [IntKind.wrap_i64]
  omega

theorem arr_slice (hR : HR β H w.heap) {et sz n N cap : Nat} {vs : Array Value} {row : Nat → List AV} {full : Bool} (hn : n ≤ N) (hN : N ≤ cap) (hf : full = true → cap = n) (hs : cap * sz ≤ vs.size) :
    R (upd β H.length w.heap.size) (H ++ [some (.arr sz N row)]) (w.heap.push (.cells vs et (0, 0))) (.slice (some ⟨w.heap.size, 0, none⟩) n cap) (.osl sz H.length 0 n full) := by
  refine .osl H.length 0 n cap sz N vs.size row full _ (fun _ => by rw [upd_eq, Nat.zero_mul]) (.inl at_app_eq) (by rw [upd_eq]; exact cellsAt_of push_eq) (by omega) (by omega) hf (by rw [Nat.zero_add]; exact hs) (fun _ => by omega)

theorem op_makeSlice (hC : CtxOK c P) {t : Nat} {y z : Operand} (ho : o.op = .makeSlice t y z) (hR : HR β H w.heap) (hE : ER β H w.heap a.tmps e)
    (h : opt (opd e y) (fun u => opt (opd e z) fun v => match c.tyOf t, u, v with
    | some ⟨.slice et, _, _, _, _⟩, .int .i64 l, .int .i64 m => opt (c.tyOf et) fun ey =>
      bif decide (0 ≤ l) && (decide (l = m) && roomOf l.toNat ey.bytes) then κ (some (.osl ey.size H.length 0 l.toNat true)) (H ++ [some (.arr ey.size l.toNat fun _ => ey.zero)]) else none
    | _, _, _ => none) = some x) : Goal P o a w Q κ x β H := by
  obtain ⟨u, hu, h1⟩ := opt_some h
  obtain ⟨v, hv, h2⟩ := opt_some h1
  clear h h1
  split at h2
  case h_2 => cases h2
  rename_i et z1 z2 z3 z4 l m hty
  obtain ⟨ey, hey, h3⟩ := opt_some h2
  obtain ⟨hb, hk⟩ := bif_some h3
  simp only [Bool.and_eq_true, decide_eq_true_eq] at hb
  obtain ⟨h0, rfl, hroom⟩ := hb
  obtain ⟨r1, r2⟩ := roomOf_iff hroom
  obtain ⟨n, rfl⟩ := Int.eq_ofNat_of_zero_le h0
  simp only [Int.toNat_natCast] at *
  have hu' : P.underlying t = some (.slice et) := (hC.ty t _ hty).desc
  have hT := hC.ty et ey hey
  obtain ⟨i, hi, hsz, hby, z', hz, hzs, hzR⟩ := hT.info
  have hzero : (zeroValue et).run P w = .ok z' w := by simp [zeroValue, typeInfo, hi, hz]
  have eu := (opd_ok hE hu).inv_int
  have ev := (opd_ok hE hv).inv_int
  have hz0 := zeros_rows (β := β) (H := H) hT (i := i) hzs hzR n w.heap
  have hbig : (i.bytes : Int) * (n : Int) ≤ 281474976710656 := by
    have : ((i.bytes : Int) * (n : Int)) = ((n * ey.bytes : Nat) : Int) := by rw [hby, Nat.mul_comm]; simp
    rw [this]; omega
  have hrun := run_make (P := P) w t et i z' hu' hi hz .i64 .i64 n n (by omega) (Int.le_refl _) hbig (by omega)
  simp only [Int.toNat_natCast, hsz] at hrun
  refine Goal.moved (ov := some _) (HR.new_arr hR (madeCells z'.cells (n * ey.size)) et ey.size n _ (by simp [madeCells]) hz0.1 hz0.2) (Evo.new hR _ _) ⟨rfl, rfl, rfl⟩
    (cv := .slice (some ⟨w.heap.size, 0, none⟩) n n) (w' := { w with heap := w.heap.push (.cells (madeCells z'.cells (n * ey.size)) et (0, 0)) }) ?_ (arr_slice hR (Nat.le_refl _) (Nat.le_refl _) (fun _ => rfl) (by simp [madeCells])) hk
  unfold execOp
  rw [ho]
  simp only [Sem.run_bind, eu, ev]
  rw [hrun]
  rfl
end
end Go.Ev

set_option linter.unusedVariables false
set_option linter.unusedSimpArgs false
set_option linter.unusedSectionVars false
namespace Go.Ev
open Go
variable [Gh]

section
variable {P : Program} {w : World}

/-- what is appended: how much, and its cells -/
structure App (P : Program) (w : World) (ey : Ty) (et : Nat) (xt : Nat) (xv : Value) (m : Nat) (cells : Array Value) : Prop where
  size : cells.size = m * ey.size
  one : ∀ v ∈ cells.toList, v.oneCell' = true
  how : (∃ d, P.underlying xt = some d ∧ (∀ k, d ≠ .int k) ∧ (Builtin.lenOf xv).run P w = .ok m w ∧ ∀ w' : World, w'.heap = w.heap → (Builtin.firstCells ey.size m xv).run P w' = .ok cells w') ∨
    (∃ k kk, P.underlying xt = some (.int k) ∧ xv = .int kk (m : Int) ∧ m ≤ 70368744177664 ∧ m * ey.bytes ≤ 70368744177664 ∧ ∃ i z, P.info? et = some i ∧ i.zero = some z ∧ cells = if m * ey.size = 0 then #[] else Builtin.zeroCells z.cells m)

theorem append_in {st xt ty : TypeId} {et : Nat} {ey : Ty} (hu : P.underlying st = some (.slice et)) (hT : TyOK P et ey) {base : Option Addr} {sLen sCap m : Nat} {xv : Value} {cells : Array Value} (hA : App P w ey et xt xv m cells)
    (hle : sLen + m ≤ sCap) {w' : World} (hst : (match base with | some a => storeCells (a.add (sLen * ey.size)) cells.toList | none => pure () : Sem Unit).run P w = .ok () w') :
    (Builtin.append_ #[st, xt] ty #[.slice base sLen sCap, xv]).run P w = .ok (.slice base (sLen + m) sCap) w' := by
  have hfin : ∀ (r : Result Unit), r = .ok () w' → (r.andThen fun _ w'' => (Result.ok (Value.slice base (sLen + m) sCap) w'' : Result Value)) = .ok (.slice base (sLen + m) sCap) w' := by rintro r rfl; rfl
  have hb : (match base with | some a => (do storeCells (a.add (sLen * ey.size)) cells.toList; pure (Value.slice base (sLen + m) sCap) : Sem Value) | none => pure (Value.slice base (sLen + m) sCap)).run P w = .ok (.slice base (sLen + m) sCap) w' := by
    cases base with
    | none => simp only [Sem.run_pure] at hst ⊢; cases hst; rfl
    | some a => simp only [Sem.run_bind] at hst ⊢; rw [hst]; rfl
  rcases hA.how with ⟨d, hd, hk, hlen, hfc⟩ | ⟨k, kk, hd, rfl, hm1, hm2, i, z, hi, hz, hc⟩
  · have hfc := hfc w rfl
    have hzf : (match d with | .int _ => true | _ => false) = false := by cases d <;> first | rfl | exact absurd rfl (hk _)
    simp only [Builtin.append_, List.getElem?_toArray, List.getElem?_cons_zero, List.getElem?_cons_succ, Sem.run_bind, run_underlying hu w, run_underlying hd w, Result.andThen_ok, hT.sizeOf, Sem.run_pure, hzf, Bool.false_eq_true, if_false, hlen, Bool.not_false, if_true, if_pos hle, hfc]
    cases base <;> exact hb
  · have hw1 : IntKind.i64.wrap (m : Int) = m := wrap_small hm1
    have hneg : ¬ ((m : Int) < 0) := by omega
    have hty : (typeInfo et).run P w = .ok i w := by simp [typeInfo, hi]
    have hby : i.bytes = ey.bytes := by
      obtain ⟨i', hi', _, hb', _⟩ := hT.info
      rw [hi] at hi'; cases hi'; exact hb'
    have hbig : ¬ ((m : Int) * (ey.bytes : Int) > 2 ^ 48) := by
      have : ((m : Int) * (ey.bytes : Int)) = ((m * ey.bytes : Nat) : Int) := by simp
      rw [this]; omega
    have hzero : (zeroValue et).run P w = .ok z w := by simp [zeroValue, typeInfo, hi, hz]
    have happ : (if m * ey.size = 0 then pure #[] else do pure (Builtin.zeroCells (← zeroValue et).cells m) : Sem (Array Value)).run P w = .ok cells w := by
      rw [hc]
      by_cases h0 : m * ey.size = 0
      · rw [if_pos h0, if_pos h0]; rfl
      · rw [if_neg h0, if_neg h0]; simp only [Sem.run_bind, hzero, Result.andThen_ok]; rfl
    simp only [Builtin.append_, List.getElem?_toArray, List.getElem?_cons_zero, List.getElem?_cons_succ, Sem.run_bind, run_underlying hu w, run_underlying hd w, Result.andThen_ok, hT.sizeOf, Sem.run_pure, if_true, asInt, asIntOf, hw1, if_neg hneg, hty, hby, if_neg hbig, Int.toNat_natCast, Bool.not_true, Bool.false_eq_true, if_false, if_pos hle, happ]
    cases base <;> exact hb

theorem append_new {st xt ty : TypeId} {et : Nat} {ey : Ty} (hu : P.underlying st = some (.slice et)) (hT : TyOK P et ey) {base : Option Addr} {sLen sCap m : Nat} {xv : Value} {cells old : Array Value} (hA : App P w ey et xt xv m cells)
    (hlt : sCap < sLen + m) (hroom : (sLen + m) * ey.bytes ≤ 70368744177664) (hroom2 : sLen + m ≤ 70368744177664)
    (hold : ∀ w' : World, w'.heap = w.heap → (Builtin.firstCells ey.size sLen (.slice base sLen sCap)).run P w' = .ok old w') :
    ∃ (newCap : Nat) (rest : Array Value), sLen + m ≤ newCap ∧ rest.size = (newCap - (sLen + m)) * ey.size ∧ 
      (Builtin.append_ #[st, xt] ty #[.slice base sLen sCap, xv]).run P w = .ok (.slice (some ⟨w.heap.size, 0, none⟩) (sLen + m) newCap) { w with heap := w.heap.push (.cells (old ++ cells ++ rest) et (0, 0)), drawn := w.drawn + 1 } := by
  obtain ⟨i, hi, hsz, hby, z, hz, hzs, hzR⟩ := hT.info
  let q : Question := .appendCap (sLen + m) sCap et
  let newCap := q.cut (w.tape w.drawn q)
  refine ⟨newCap, Builtin.zeroCells z.cells (newCap - (sLen + m)), ?_, ?_, ?_⟩
  · show sLen + m ≤ (sLen + m) + _; omega
  · simp [Builtin.zeroCells, hzs]
  let w1 : World := { w with drawn := w.drawn + 1 }
  have hnle : ¬ (sLen + m ≤ sCap) := by omega
  have hty : ∀ w', (typeInfo et).run P w' = .ok i w' := fun w' => by simp [typeInfo, hi]
  have hzero : ∀ w', (zeroValue et).run P w' = .ok z w' := fun w' => by simp [zeroValue, typeInfo, hi, hz]
  have hmax : ¬ (((sLen + m : Nat) : Int) > IntKind.i64.max) := by
    have : IntKind.i64.max = 9223372036854775807 := by decide
    omega
  have hfit : ¬ (Builtin.nextslicecap (sLen + m) sCap * i.bytes > 2 ^ 48) := by
    have := growslice_fits hlt (bytes := i.bytes) (by rw [hby]; omega)
    omega
  have hch : (choose q).run P w = .ok newCap w1 := by
    simp only [run_choose]
    rw [if_neg (by simp [q, Question.forced])]
  rcases hA.how with ⟨d, hd, hk, hlen, hfc⟩ | ⟨k, kk, hd, rfl, hm1, hm2, i', z', hi', hz', hc⟩
  · have hfc := hfc w1 rfl
    have hzf : (match d with | .int _ => true | _ => false) = false := by cases d <;> first | rfl | exact absurd rfl (hk _)
    simp only [Builtin.append_, List.getElem?_toArray, List.getElem?_cons_zero, List.getElem?_cons_succ, Sem.run_bind, run_underlying hu w, run_underlying hd w, Result.andThen_ok, hT.sizeOf, Sem.run_pure, hzf, Bool.false_eq_true, if_false, hlen, Bool.not_false, if_true, if_neg hnle, hty w,
      false_or, hmax, false_and, if_neg hfit]
    show (Result.andThen ((choose q).run P w) _) = _
    rw [hch]
    simp only [Result.andThen_ok, hty, run_askRoom, hold w1 rfl, hfc, hzero, newRow, Sem.run_bind, run_newObj, Sem.run_pure]
    rfl
  · rw [hi] at hi'; cases hi'
    rw [hz] at hz'; cases hz'
    have hw1 : IntKind.i64.wrap (m : Int) = m := wrap_small hm1
    have hneg : ¬ ((m : Int) < 0) := by omega
    have hbig : ¬ ((m : Int) * (i.bytes : Int) > 2 ^ 48) := by
      have : ((m : Int) * (i.bytes : Int)) = ((m * ey.bytes : Nat) : Int) := by rw [hby]; simp
      rw [this]; omega
    have happ : (if m * ey.size = 0 then pure #[] else do pure (Builtin.zeroCells (← zeroValue et).cells m) : Sem (Array Value)).run P w1 = .ok cells w1 := by
      rw [hc]
      by_cases h0 : m * ey.size = 0
      · rw [if_pos h0, if_pos h0]; rfl
      · rw [if_neg h0, if_neg h0]; simp only [Sem.run_bind, hzero, Result.andThen_ok]; rfl
    simp only [Builtin.append_, List.getElem?_toArray, List.getElem?_cons_zero, List.getElem?_cons_succ, Sem.run_bind, run_underlying hu w, run_underlying hd w, Result.andThen_ok, hT.sizeOf, Sem.run_pure, if_true, asInt, asIntOf, hw1, if_neg hneg, hty w, if_neg hbig, Int.toNat_natCast, Bool.not_true, Bool.false_eq_true, if_false, if_neg hnle,
      true_or, and_true, if_neg hmax, if_neg hfit]
    show (Result.andThen ((choose q).run P w) _) = _
    rw [hch]
    simp only [Result.andThen_ok, hty, run_askRoom, hold w1 rfl, happ, hzero, newRow, Sem.run_bind, run_newObj, Sem.run_pure]
    rfl
end
end Go.Ev

set_option linter.unusedVariables false
set_option linter.unusedSimpArgs false
set_option linter.unusedSectionVars false
namespace Go.Ev
open Go
variable [Gh]

theorem set_len {H : Heap} {r : Nat} {o : Option Ob} : (H.set r o).length = H.length := by simp

theorem live_regrow {H : Heap} {r : Nat} {o : Ob} {q : Nat} (h : Live (H.set r none ++ [some o]) q) : (q < H.length ∧ q ≠ r ∧ Live H q) ∨ q = H.length := by
  rcases live_app h with ⟨hl, h⟩ | h
  · rw [set_len] at hl
    obtain ⟨h1, h2⟩ := live_set_none h
    exact .inl ⟨hl, h1, h2⟩
  · rw [set_len] at h; exact .inr h
theorem at_regrow_lt {H : Heap} {r : Nat} {o : Ob} {q : Nat} (hl : q < H.length) (hq : q ≠ r) : Heap.at (H.set r none ++ [some o]) q = H.at q := by
  rw [at_app_lt (by rw [set_len]; exact hl), at_set_ne hq]
theorem at_regrow_r {H : Heap} {r : Nat} {o : Ob} (hl : r < H.length) : Heap.at (H.set r none ++ [some o]) r = none := by
  rw [at_app_lt (by rw [set_len]; exact hl), at_set_eq hl]
theorem at_regrow_new {H : Heap} {r : Nat} {o : Ob} : Heap.at (H.set r none ++ [some o]) H.length = some o := by
  have := at_app_eq (H := H.set r none) (o := some o)
  rwa [set_len] at this
theorem at_regrow {H : Heap} {r : Nat} {o x : Ob} {q : Nat} (h : Heap.at (H.set r none ++ [some o]) q = some x) : (q < H.length ∧ q ≠ r ∧ H.at q = some x) ∨ (q = H.length ∧ o = x) := by
  rcases at_app h with ⟨hl, h⟩ | ⟨hl, h⟩
  · rw [set_len] at hl
    rcases at_set h with ⟨_, hx⟩ | ⟨hne, h⟩
    · cases hx
    · exact .inl ⟨hl, hne, h⟩
  · rw [set_len] at hl; exact .inr ⟨hl, Option.some.inj h⟩

/-- a row goes on in its own block under a new number -/
theorem Evo.regrow {β : Nat → Nat} {H : Heap} {W W' : Array Obj} (h : HR β H W) {r sz n : Nat} {row : Nat → List AV} (hr : H.at r = some (.arr sz n row)) (o : Ob) (hb : But (β r) W W') :
    Evo β H W (upd β H.length (β r)) (H.set r none ++ [some o]) W' where
  size := by rw [hb.1]; exact Nat.le_refl _
  gh b hg _ := hb.2.1 b (Ne.symm ((h.gh b hg).2 r (.inr ⟨_, _, _, hr⟩)))
  imm b hi := by
    refine ⟨hb.2.1 b (Ne.symm (hi.2.1 r (.inr ⟨_, _, _, hr⟩))), by rw [hb.1]; exact hi.1, fun q hq => ?_, hi.2.2⟩
    rcases live_regrow hq with ⟨hl, _, hq⟩ | rfl
    · rw [upd_ne (by omega)]; exact hi.2.1 q hq
    · rw [upd_eq]; exact hi.2.1 r (.inr ⟨_, _, _, hr⟩)
  len := by simp
  box q bs hq := by
    have e : q ≠ r := by rintro rfl; rw [hr] at hq; cases hq
    have hl := Heap.at_lt hq
    exact ⟨upd_ne (by omega), bs, by rw [at_regrow_lt hl e]; exact hq⟩
  arr q sz' n' row2 hq := by
    have hl := Heap.at_lt hq
    by_cases e : q = r
    · subst e; exact .inl (at_regrow_r hl)
    · refine .inr ⟨upd_ne (by omega), ⟨row2, .inl (by rw [at_regrow_lt hl e]; exact hq)⟩, ?_⟩
      exact cellsAt_congr (hb.2.1 _ fun e' => e (h.inj q r (.inr ⟨_, _, _, hq⟩) (.inr ⟨_, _, _, hr⟩) e'))
  fro q sz' n' row2 hq := by
    have e : q ≠ r := by rintro rfl; rw [hr] at hq; cases hq
    have hl := Heap.at_lt hq
    obtain ⟨vs, e', fz, hi, _⟩ := h.fro q sz' n' row2 hq
    exact ⟨upd_ne (by omega), by rw [at_regrow_lt hl e]; exact hq, cellsAt_congr (hb.2.1 _ (Ne.symm (hi.2.1 r (.inr ⟨_, _, _, hr⟩))))⟩
  dead q hl hq := by
    have e : q ≠ r := by rintro rfl; rw [hr] at hq; cases hq
    rw [at_regrow_lt hl e]; exact hq

theorem HR.regrow {β : Nat → Nat} {H : Heap} {W W' : Array Obj} (h : HR β H W) {r sz n : Nat} {row : Nat → List AV} (hr : H.at r = some (.arr sz n row)) (sz' n' : Nat) (row' : Nat → List AV) (hb : But (β r) W W')
    (vs : Array Value) (e : TypeId) (fz : Nat × Nat) (hw : W'[β r]? = some (.cells vs e fz)) (hs : n' * sz' ≤ vs.size) (hz : vs.size ≤ fz.1 + (if fz.1 < fz.2 then 0 else vs.size))
    (hRR : RR β H W sz' n' vs row') : HR (upd β H.length (β r)) (H.set r none ++ [some (.arr sz' n' row')]) W' where
  inj q q' hq hq' e := by
    rcases live_regrow hq with ⟨hl, n1, hq⟩ | rfl <;> rcases live_regrow hq' with ⟨hl', n2, hq'⟩ | rfl
    · rw [upd_ne (by omega), upd_ne (by omega)] at e; exact h.inj q q' hq hq' e
    · rw [upd_ne (by omega), upd_eq] at e; exact absurd (h.inj q r hq (.inr ⟨_, _, _, hr⟩) e) n1
    · rw [upd_eq, upd_ne (by omega)] at e; exact absurd (h.inj q' r hq' (.inr ⟨_, _, _, hr⟩) e.symm) n2
    · rfl
  gh b hg := by
    obtain ⟨g1, g2⟩ := h.gh b hg
    refine ⟨by rw [hb.1]; exact g1, fun q hq => ?_⟩
    rcases live_regrow hq with ⟨hl, _, hq⟩ | rfl
    · rw [upd_ne (by omega)]; exact g2 q hq
    · rw [upd_eq]; exact g2 r (.inr ⟨_, _, _, hr⟩)
  box q bs hq := by
    rcases at_regrow hq with ⟨hl, ne, hq⟩ | ⟨rfl, hx⟩
    · obtain ⟨us, e', h1, h2, h3, h4⟩ := h.box q bs hq
      exact ⟨us, e', by rw [upd_ne (by omega), hb.2.1 _ fun e' => ne (h.inj q r (.inl ⟨_, hq⟩) (.inr ⟨_, _, _, hr⟩) e')]; exact h1, h2, h3, fun j hj => (h4 j hj).stays (Evo.regrow h hr _ hb)⟩
    · cases hx
  arr q sz2 n2 row2 hq := by
    rcases at_regrow hq with ⟨hl, ne, hq⟩ | ⟨rfl, hx⟩
    · obtain ⟨us, e', fz', h1, h2, h3, h4, h5⟩ := h.arr q sz2 n2 row2 hq
      exact ⟨us, e', fz', by rw [upd_ne (by omega), hb.2.1 _ fun e' => ne (h.inj q r (.inr ⟨_, _, _, hq⟩) (.inr ⟨_, _, _, hr⟩) e')]; exact h1, h2, h3, h4, fun i j hi hj => (h5 i j hi hj).stays (Evo.regrow h hr _ hb)⟩
    · cases hx
      exact ⟨vs, e, fz, by rw [upd_eq]; exact hw, hs, hz, hRR.1, fun i j hi hj => (hRR.2 i j hi hj).stays (Evo.regrow h hr _ hb)⟩
  fro q sz2 n2 row2 hq := by
    rcases at_regrow hq with ⟨hl, ne, hq⟩ | ⟨rfl, hx⟩
    · obtain ⟨us, e', fz', hi, h1, h2, h4, h5⟩ := h.fro q sz2 n2 row2 hq
      rw [upd_ne (by omega)]
      exact ⟨us, e', fz', ((Evo.regrow h hr (.arr sz' n' row') hb).imm _ hi).2, by rw [hb.2.1 _ (Ne.symm (hi.2.1 r (.inr ⟨_, _, _, hr⟩)))]; exact h1, h2, h4, fun i j hi hj => (h5 i j hi hj).stays (Evo.regrow h hr _ hb)⟩
    · cases hx

section
variable {ρ : Type} {P : Program} {o : Oper} {a : Act} {w : World} {Q : Exit → Act → World → Prop} {κ : Option AV → Heap → Option ρ} {x : ρ} {β : Nat → Nat} {H : Heap} {e : List (Option AV)} {c : Ctx}

theorem RR.stays {β' : Nat → Nat} {H' : Heap} {W W' : Array Obj} {sz n : Nat} {vs : Array Value} {row : Nat → List AV} (k : Evo β H W β' H' W') (h : RR β H W sz n vs row) : RR β' H' W' sz n vs row :=
  ⟨h.1, fun i j hi hj => (h.2 i j hi hj).stays k⟩
theorem RR_one {W : Array Obj} {sz n : Nat} {vs : Array Value} {row : Nat → List AV} (h : RR β H W sz n vs row) (hs : vs.size = n * sz) : ∀ v ∈ vs.toList, v.oneCell' = true := by
  intro v hv
  obtain ⟨k, hk, rfl⟩ := List.getElem_of_mem hv
  have hk' : k < n * sz := by simpa [hs] using hk
  have hsz : 0 < sz := by
    rcases Nat.eq_zero_or_pos sz with h0 | h0
    · subst h0; omega
    · exact h0
  have hdiv : k / sz < n := Nat.div_lt_of_lt_mul (by rw [Nat.mul_comm]; exact hk')
  have hmod : k % sz < sz := Nat.mod_lt _ hsz
  have hkk : k / sz * sz + k % sz = k := by rw [Nat.mul_comm]; exact Nat.div_add_mod k sz
  have hR := h.2 (k / sz) (k % sz) hdiv hmod
  rw [hkk] at hR
  obtain ⟨l1, l2, l3⟩ := h.1 _ hdiv
  have := (one_cell hR (allLeaf_getD l2 (by rw [l1]; exact hmod))).1
  have hk2 : k < vs.size := by simpa using hk
  rw [Array.getD_eq_getD_getElem?, Array.getElem?_eq_getElem hk2] at this
  simpa using this
theorem flat_getD {n sz : Nat} {vf : Nat → Nat → Value} {i j : Nat} (hi : i < n) (hj : j < sz) : (((List.range (n * sz)).map fun k => vf (k / sz) (k % sz)).toArray).getD (i * sz + j) undef = vf i j := by
  have hin := row_in (sz := sz) hi
  have e1 : (i * sz + j) / sz = i := by rw [Nat.mul_comm, Nat.mul_add_div (by omega)]; rw [Nat.div_eq_of_lt hj]; rfl
  have e2 : (i * sz + j) % sz = j := by rw [Nat.mul_comm, Nat.mul_add_mod]; exact Nat.mod_eq_of_lt hj
  rw [Array.getD_eq_getD_getElem?]
  simp [show i * sz + j < n * sz by omega, e1, e2]

theorem load_rows {ad : Addr} {n sz : Nat} {vf : Nat → Nat → Value} (h : ∀ i j, i < n → j < sz → w.cell? (ad.add (i * sz + j)) = some (vf i j)) :
    ∀ w' : World, w'.heap = w.heap → (loadCells ad (n * sz)).run P w' = .ok (((List.range (n * sz)).map fun k => vf (k / sz) (k % sz)).toArray) w' := by
  intro w' hw
  have := run_loadCells_list (P := P) (w := w') ad ((List.range (n * sz)).map fun k => vf (k / sz) (k % sz)) (fun k v hk => by
    by_cases hlt : k < n * sz
    · simp only [List.getElem?_map, List.getElem?_range hlt, Option.map_some, Option.some.injEq] at hk
      subst hk
      have hsz : 0 < sz := by
        rcases Nat.eq_zero_or_pos sz with h0 | h0
        · subst h0; omega
        · exact h0
      have hdiv : k / sz < n := Nat.div_lt_of_lt_mul (by rw [Nat.mul_comm]; exact hlt)
      have hmod : k % sz < sz := Nat.mod_lt _ hsz
      have hkk : k / sz * sz + k % sz = k := by rw [Nat.mul_comm]; exact Nat.div_add_mod k sz
      have hh := h (k / sz) (k % sz) hdiv hmod
      rw [hkk] at hh
      have hc : w'.cell? (ad.add k) = w.cell? (ad.add k) := by simp only [World.cell?, hw]
      rw [hc]; exact hh
    · rw [List.getElem?_eq_none (by simpa using hlt)] at hk; cases hk)
  simpa using this

/-- what comes behind, out of a slice or a text -/
theorem src_app (hC : CtxOK c P) (hR : HR β H w.heap) {et : Nat} {ey : Ty} {xt : Nat} {d : TypeDesc} (hxt : P.underlying xt = some d) (hd : ∀ k, d ≠ .int k) {u : AV} {v : Value} (hu : R β H w.heap v u)
    {sz m : Nat} {row : Nat → List AV} (h : srcOf H u = some (sz, m, row)) (hs : sz = ey.size ∨ m = 0) : ∃ cells, App P w ey et xt v m cells ∧ RR β H w.heap ey.size m cells row := by
  by_cases hstr : ∃ s, u = .str s
  · obtain ⟨s, rfl⟩ := hstr
    have := hu.inv_str; subst this
    simp only [srcOf, Option.some.injEq, Prod.mk.injEq] at h
    obtain ⟨rfl, rfl, rfl⟩ := h
    have hfull : s.extract 0 s.size = s := by simp
    have hsz : s.size = s.size * ey.size := by
      rcases hs with h1 | h1
      · rw [← h1]; omega
      · rw [h1]; omega
    refine ⟨s.data.map fun b => .int .u8 b.toNat, ⟨by simpa using hsz, fun v hv => ?_, .inl ⟨d, hxt, hd, rfl, fun w' _ => ?_⟩⟩, fun i hi => ?_, fun i j hi hj => ?_⟩
    · simp only [Array.toList_map, List.mem_map] at hv
      obtain ⟨b, _, rfl⟩ := hv; rfl
    · show Result.ok ((s.extract 0 s.size).data.map fun b => Value.int .u8 b.toNat) w' = _
      rw [hfull]
    · rcases hs with h1 | h1
      · exact ⟨h1, rfl, rfl⟩
      · omega
    · have h1 : ey.size = 1 := by rcases hs with h1 | h1 <;> omega
      rw [h1] at hj ⊢
      have hj0 : j = 0 := by omega
      subst hj0
      have hi' : i < s.data.size := hi
      simp only [Nat.mul_one, Nat.add_zero]
      have : (s.data.map fun b => Value.int .u8 b.toNat).getD i undef = .int .u8 ((s.data.getD i 0).toNat : Int) := by
        rw [Array.getD_eq_getD_getElem?, Array.getElem?_map, Array.getElem?_eq_getElem hi', Array.getD_eq_getD_getElem?, Array.getElem?_eq_getElem hi']; rfl
      rw [this]
      exact .int _ _
  · obtain ⟨ad, cap, vf, rfl, hsome, hcell, hl, hRr⟩ := src_cells hR hu h (fun s hs => hstr ⟨s, hs⟩)
    have hm : ∀ (hm0 : m ≠ 0), sz = ey.size := fun hm0 => hs.resolve_right hm0
    refine ⟨((List.range (m * ey.size)).map fun k => vf (k / ey.size) (k % ey.size)).toArray, ⟨by simp, ?_, .inl ⟨d, hxt, hd, rfl, fun w' hw' => ?_⟩⟩, ?_⟩
    · by_cases hm0 : m = 0
      · subst hm0; intro v hv; simp at hv
      · have := hm hm0; subst this
        refine RR_one (β := β) (H := H) (W := w.heap) (sz := ey.size) (n := m) (row := row) ⟨hl, fun i j hi hj => ?_⟩ (by simp)
        rw [flat_getD hi hj]; exact hRr i j hi hj
    · by_cases hm0 : m = 0
      · subst hm0
        cases ad with
        | none => simp [Builtin.firstCells]
        | some bb =>
          have := run_loadCells_list (P := P) (w := w') bb [] (fun j v hj => by simp at hj)
          simpa [Builtin.firstCells] using this
      · have := hm hm0; subst this
        obtain ⟨bb, rfl⟩ := Option.isSome_iff_exists.1 (hsome (by omega))
        exact load_rows (hcell bb rfl) w' hw'
    · by_cases hm0 : m = 0
      · subst hm0; exact ⟨fun i hi => by omega, fun i j hi => by omega⟩
      · have := hm hm0; subst this
        refine ⟨hl, fun i j hi hj => ?_⟩
        rw [flat_getD hi hj]; exact hRr i j hi hj

theorem zero_app (hC : CtxOK c P) {et : Nat} {ey : Ty} (hT : TyOK P et ey) {xt : Nat} {k kk : IntKind} (hxt : P.underlying xt = some (.int k)) {m : Nat} (h1 : m ≤ 70368744177664) (h2 : m * ey.bytes ≤ 70368744177664) (W : Array Obj) :
    ∃ cells, App P w ey et xt (.int kk (m : Int)) m cells ∧ RR β H W ey.size m cells (fun _ => ey.zero) := by
  obtain ⟨i, hi, hsz, hby, z, hz, hzs, hzR⟩ := hT.info
  have hz0 := zeros_rows (β := β) (H := H) hT (i := i) hzs hzR m W
  refine ⟨(Array.range (m * ey.size)).map (z.cells[· % z.cells.size]!), ⟨by simp, RR_one hz0 (by simp), .inr ⟨k, kk, hxt, rfl, h1, h2, i, z, hi, hz, ?_⟩⟩, hz0⟩
  by_cases h0 : m * ey.size = 0
  · rw [if_pos h0, h0]; simp
  · rw [if_neg h0, Builtin.zeroCells, hzs]
end
end Go.Ev
