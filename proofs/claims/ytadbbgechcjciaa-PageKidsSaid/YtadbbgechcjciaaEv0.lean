/- A program's functions run on plain values: a reckoner for the code of a loaded program, in which slices are rows of values and memory is a short list of the call's own objects. Definitions alone; that it tells the truth is proved beside it. No conditions. -/
import Derived.Orders
set_option linter.unusedSectionVars false
namespace Go.Ev

/-- what is known of a value -/
inductive AV where
  | int (k : IntKind) (n : Int)
  | bool (b : Bool)
  | str (s : ByteArray)
  | sl (sz n : Nat) (row : Nat → List AV) (full : Bool)
  | osl (sz r off len : Nat) (full : Bool)
  | ref (r off : Nat)
  | eref (r i off : Nat)
  | rref (cs : List AV) (off : Nat)
  | lsl (sz n : Nat) (cs : List AV)
  | lref (cs : List AV) (off : Nat)
  | nilp
  | fn (f : Nat) (first caps : List AV)
  | nilfn
  | agg (cs : List AV)
  | tup (vs : List AV)
  | und
instance : Inhabited AV := ⟨.und⟩

/-- an object of the call's own: a variable's cells; a row that may be written; a row that is not written any more -/
inductive Ob where
  | box (cs : List AV)
  | arr (sz n : Nat) (row : Nat → List AV)
  | fro (sz n : Nat) (row : Nat → List AV)
abbrev Heap := List (Option Ob)
structure St where
  env : List (Option AV)
  heap : Heap

inductive TK where
  | int (k : IntKind) | bool | str | slice (e : Nat) | ptr (e : Nat) | struct (fs : List (Nat × Nat)) | arr (n e : Nat) | fn | other
structure Ty where
  k : TK
  size : Nat
  bytes : Nat
  zero : List AV
  cmp : Option (List TK) := none
def TK.agg : TK → Bool
  | .struct _ => true
  | .arr .. => true
  | _ => false

inductive Mode where
  | pur | fresh | heap | full
structure Ctx where
  ty : List (Option Ty)
  fn : List (Option Func)
  live : List (List (Nat × List Nat))
  mode : List (Nat × Mode)
  /-- functions of whose calls it is told outright what they come to -/
  ext : List (Nat × (List AV → Heap → Option (AV × Heap))) := []
  /-- of a function's own calls: how they are taken, where that is another way -/
  cmode : List (Nat × List (Nat × Mode)) := []
def Ctx.tyOf (c : Ctx) (t : Nat) : Option Ty := c.ty.getD t none
def Ctx.kOf (c : Ctx) (t : Nat) : Option TK := match c.tyOf t with
  | some ty => some ty.k
  | none => none
/-- the size of a slice's elements -/
def Ctx.elemSize (c : Ctx) : TK → Option Nat
  | .slice e => match c.tyOf e with
    | some ty => some ty.size
    | none => none
  | _ => some 0
def Ctx.fnOf (c : Ctx) (f : Nat) : Option Func := c.fn.getD f none
def find1 {α : Type} (k : Nat) : List (Nat × α) → Option α
  | [] => none
  | (j, a) :: l => if j = k then some a else find1 k l
def Ctx.modeOf (c : Ctx) (f : Nat) : Mode := (find1 f c.mode).getD .pur
def Ctx.cm (c : Ctx) (f : Nat) : Ctx := { c with mode := ((find1 f c.cmode).getD []) ++ c.mode }

inductive Ex where
  | normal | exit (id : Nat) | ret

def AV.cells : AV → List AV
  | .agg cs => cs
  | a => [a]
def AV.leaf : AV → Bool
  | .agg _ => false
  | .tup _ => false
  | .und => false
  | _ => true

def constLeaf : Value → Option AV
  | .int k n => some (.int k n)
  | .bool b => some (.bool b)
  | .string s => some (.str s)
  | .pointer none => some .nilp
  | .nilFunc => some .nilfn
  | _ => none
def constLeaves : List Value → Option (List AV)
  | [] => some []
  | v :: vs => match constLeaf v, constLeaves vs with
    | some a, some as => some (a :: as)
    | _, _ => none
def constAV : Value → Option AV
  | .agg cs => (constLeaves cs.toList).map .agg
  | v => constLeaf v
/-- a constant of a type -/
def Ctx.constT (c : Ctx) (t : Nat) : Value → Option AV
  | .slice none 0 0 => match c.tyOf t with
    | some ⟨.slice e, _, _, _, _⟩ => match c.tyOf e with
      | some ey => some (.sl ey.size 0 (fun _ => ey.zero) true)
      | none => none
    | _ => none
  | v => constAV v
def Ctx.opdT (c : Ctx) (t : Nat) (e : List (Option AV)) : Operand → Option AV
  | .tmp t => e.getD t none
  | .const v => c.constT t v
  | .func f => some (.fn f [] [])
  | .global _ => none
def Ctx.opdsT (c : Ctx) (e : List (Option AV)) : List Operand → List Nat → Option (List AV)
  | [], _ => some []
  | x :: xs, ts => match c.opdT (ts.headD 0) e x, c.opdsT e xs ts.tail with
    | some a, some as => some (a :: as)
    | _, _ => none
def opd (e : List (Option AV)) : Operand → Option AV
  | .tmp t => e.getD t none
  | .const v => constAV v
  | .func f => some (.fn f [] [])
  | .global _ => none
def opds (e : List (Option AV)) : List Operand → Option (List AV)
  | [] => some []
  | x :: xs => match opd e x, opds e xs with
    | some a, some as => some (a :: as)
    | _, _ => none

/-! ### arithmetic: what must hold, and the value -/
abbrev bl (x y : ByteArray) : Bool := Op.bytesLess x.toList y.toList

def leafEq : TK → AV → AV → Option Bool
  | .int k, .int k1 x, .int k2 y => if k1 = k ∧ k2 = k then some (decide (x = y)) else none
  | .bool, .bool x, .bool y => some (x == y)
  | .str, .str x, .str y => some (decide (x = y))
  | _, _, _ => none
def leavesEq : List TK → List AV → List AV → Option Bool
  | [], [], [] => some true
  | k :: ks, a :: as, b :: bs => match leafEq k a b, leavesEq ks as bs with
    | some x, some y => some (x && y)
    | _, _ => none
  | _, _, _ => none
def bits (op : BinOp) (k : IntKind) (x y : Int) : Option AV :=
  let a := BitVec.ofInt k.bits x
  let b := BitVec.ofInt k.bits y
  match op with
  | .and => some (.int k (k.wrap (a &&& b).toNat))
  | .or => some (.int k (k.wrap (a ||| b).toNat))
  | .xor => some (.int k (k.wrap (a ^^^ b).toNat))
  | .andNot => some (.int k (k.wrap (a &&& ~~~b).toNat))
  | _ => none
def intBin (op : BinOp) (k : IntKind) (x y : Int) : Option (Bool × AV) :=
  match op with
  | .add => some (true, .int k (k.wrap (x + y)))
  | .sub => some (true, .int k (k.wrap (x - y)))
  | .mul => some (true, .int k (k.wrap (x * y)))
  | .quo => some (!decide (y = 0), .int k (k.wrap (x.tdiv y)))
  | .rem => some (!decide (y = 0), .int k (x.tmod y))
  | .eql => some (true, .bool (decide (x = y)))
  | .neq => some (true, .bool (!decide (x = y)))
  | .lss => some (true, .bool (decide (x < y)))
  | .leq => some (true, .bool (decide (x ≤ y)))
  | .gtr => some (true, .bool (decide (y < x)))
  | .geq => some (true, .bool (decide (y ≤ x)))
  | op => (bits op k x y).map fun v => (true, v)
def strBin (op : BinOp) (x y : ByteArray) : Option (Bool × AV) :=
  match op with
  | .add => some (decide (x.size + y.size ≤ 9223372036854775807), .str (x ++ y))
  | .eql => some (true, .bool (decide (x = y)))
  | .neq => some (true, .bool (!decide (x = y)))
  | .lss => some (true, .bool (bl x y))
  | .leq => some (true, .bool (!bl y x))
  | .gtr => some (true, .bool (bl y x))
  | .geq => some (true, .bool (!bl x y))
  | _ => none
def binAV (c : Ctx) (op : BinOp) (t : Nat) (a b : AV) : Option (Bool × AV) :=
  match a, b with
  | .int k x, .int k' y =>
    match op with
    | .shl => some (!decide (y < 0), .int k (k.wrap (x * 2 ^ (min y.toNat k.bits))))
    | .shr => some (!decide (y < 0), .int k (x.fdiv (2 ^ (min y.toNat k.bits))))
    | op => if k = k' then intBin op k x y else none
  | .str x, .str y => strBin op x y
  | .bool x, .bool y =>
    match op, c.kOf t with
    | .eql, some .bool => some (true, .bool (x == y))
    | .neq, some .bool => some (true, .bool (!(x == y)))
    | _, _ => none
  | .agg xs, .agg ys =>
    match c.tyOf t with
    | some ⟨.struct _, _, _, _, some ks⟩ =>
      match op, leavesEq ks xs ys with
      | .eql, some r => some (true, .bool r)
      | .neq, some r => some (true, .bool (!r))
      | _, _ => none
    | _ => none
  | .nilp, .nilp => match op, c.kOf t with
    | .eql, some (.ptr _) => some (true, .bool true)
    | .neq, some (.ptr _) => some (true, .bool false)
    | _, _ => none
  | .ref .., .nilp | .nilp, .ref .. => match op, c.kOf t with
    | .eql, some (.ptr _) => some (true, .bool false)
    | .neq, some (.ptr _) => some (true, .bool true)
    | _, _ => none
  | _, _ => none
def unAV (op : UnOp) (a : AV) : Option AV :=
  match op, a with
  | .not, .bool b => some (.bool !b)
  | .neg, .int k n => some (.int k (k.wrap (0 - n)))
  | _, _ => none
def isU8 : List AV → Bool
  | [.int .u8 _] => true
  | _ => false
def u8Of : List AV → UInt8
  | [.int .u8 n] => UInt8.ofNat n.toNat
  | _ => 0
def allU8 (row : Nat → List AV) : Nat → Bool
  | 0 => true
  | n + 1 => allU8 row n && isU8 (row n)
def bytesOf (n : Nat) (row : Nat → List AV) : ByteArray := ⟨((List.range n).map fun i => u8Of (row i)).toArray⟩
def rowB (s : ByteArray) : Nat → List AV := fun i => [.int .u8 ((s.data.getD i 0).toNat : Int)]
def convAV (c : Ctx) (src dst : Nat) (a : AV) : Option (Bool × AV) :=
  match a with
  | .int _ n => match c.kOf src, c.kOf dst with
    | some (.int _), some (.int k) => some (true, .int k (k.wrap n))
    | _, _ => none
  | .str s => match c.kOf src, c.kOf dst with
    | some .str, some .str => some (true, .str s)
    | some .str, some (.slice e) => match c.kOf e with
      | some (.int .u8) => some (true, .sl 1 s.size (rowB s) false)
      | _ => none
    | _, _ => none
  | .sl sz n row _ => if sz = 1 then (match c.kOf src, c.kOf dst with
    | some (.slice e), some .str => match c.kOf e with
      | some (.int .u8) => some (allU8 row n, .str (bytesOf n row))
      | _ => none
    | _, _ => none) else none
  | _ => none

/-! ### memory -/
def ldCells (ty : Ty) (cs : List AV) (off : Nat) : Option AV :=
  if ty.k.agg then (if off + ty.size ≤ cs.length then some (.agg ((cs.drop off).take ty.size)) else none) else cs[off]?
def stCells (cs : List AV) (off : Nat) (vs : List AV) : List AV := cs.take off ++ vs ++ cs.drop (off + vs.length)
def Heap.at (H : Heap) (r : Nat) : Option Ob := H.getD r none
def rowsOf (H : Heap) (r : Nat) : Option (Nat × Nat × (Nat → List AV)) :=
  match H.at r with
  | some (.arr sz n row) => some (sz, n, row)
  | some (.fro sz n row) => some (sz, n, row)
  | _ => none
def loadAV (H : Heap) (ty : Ty) (p : AV) : Option AV :=
  match p with
  | .ref r off => match H.at r with
    | some (.box cs) => ldCells ty cs off
    | _ => none
  | .rref cs off => ldCells ty cs off
  | .lref cs off => ldCells ty cs off
  | .eref r i off => match rowsOf H r with
    | some (_, n, row) => if i < n then ldCells ty (row i) off else none
    | _ => none
  | _ => none
def allLeaf : List AV → Bool
  | [] => true
  | a :: as => a.leaf && allLeaf as
mutual
/-- holds nothing of the call's own -/
def pureA : AV → Bool
  | .osl .. => false
  | .ref .. => false
  | .eref .. => false
  | .lsl .. => false
  | .lref .. => false
  | .fn _ a b => pureL a && pureL b
  | .agg cs => pureL cs
  | .tup cs => pureL cs
  | .rref cs _ => pureL cs
  | .und => false
  | _ => true
def pureL : List AV → Bool
  | [] => true
  | a :: as => pureA a && pureL as
end
def storeAV (H : Heap) (ty : Ty) (p v : AV) : Option Heap :=
  let vs := v.cells
  if vs.length = ty.size ∧ allLeaf vs = true then
    match p with
    | .ref r off => match H.at r with
      | some (.box cs) => if off + vs.length ≤ cs.length then some (H.set r (some (.box (stCells cs off vs)))) else none
      | _ => none
    | .eref r i off => match H.at r with
      | some (.arr sz n row) => if i < n ∧ off + vs.length ≤ sz ∧ pureL vs = true then some (H.set r (some (.arr sz n fun j => if j = i then stCells (row i) off vs else row j))) else none
      | _ => none
    | _ => none
  else none
def fieldPtr (off : Nat) : AV → Option AV
  | .ref r o => some (.ref r (o + off))
  | .eref r i o => some (.eref r i (o + off))
  | .rref cs o => some (.rref cs (o + off))
  | .lref cs o => some (.lref cs (o + off))
  | _ => none
def idxOK (i : Int) (n : Nat) : Bool := decide (0 ≤ i) && decide (i < (n : Int))
def indexPtr (size : Nat) (x : AV) (i : Int) : Option (Bool × AV) :=
  match x with
  | .sl sz n row _ => if sz = size then some (idxOK i n, .rref (row i.toNat) 0) else none
  | .osl sz r off len _ => if sz = size then some (idxOK i len, .eref r (off + i.toNat) 0) else none
  | .lsl sz n cs => if sz = size then some (idxOK i n, .lref cs (i.toNat * sz)) else none
  | _ => none
def cutOK (n : Nat) (l h m : Int) : Bool := decide (0 ≤ m) && (decide (m ≤ (n : Int)) && (decide (0 ≤ h) && (decide (h ≤ m) && (decide (0 ≤ l) && decide (l ≤ h)))))
def intOpt (n : Int) : Option AV → Option Int
  | none => some n
  | some (.int _ i) => some i
  | some _ => none
def sliceAV (k : TK) (size : Nat) (x : AV) (lo hi mx : Option AV) : Option (Bool × AV) :=
  match k, x with
  | .str, .str s => match intOpt 0 lo, intOpt s.size hi, mx with
    | some l, some h, none => some (cutOK s.size l h s.size, .str (s.extract l.toNat h.toNat))
    | _, _, _ => none
  | .slice _, .sl sz n row full => match intOpt 0 lo, intOpt n hi, intOpt n mx with
    | some l, some h, some m =>
      if sz = size ∧ (mx.isSome = true → hi.isSome = true) then some (cutOK n l h m, .sl sz (h.toNat - l.toNat) (fun i => row (l.toNat + i)) (match mx with | some _ => decide (m = h) | none => full && decide (h = (n : Int)))) else none
    | _, _, _ => none
  | .slice _, .osl sz r off len full => match intOpt 0 lo, intOpt len hi, intOpt len mx with
    | some l, some h, some m =>
      if sz = size ∧ (mx.isSome = true → hi.isSome = true) then some (cutOK len l h m && (match mx with | some _ => decide (m = h) | none => !full || decide (h = (len : Int))), .osl sz r (off + l.toNat) (h.toNat - l.toNat) (match mx with | some _ => true | none => full)) else none
    | _, _, _ => none
  | _, _ => none
def fillAV (places : List (Nat × Nat)) : List AV → List (Nat × AV) → Option (List AV)
  | cells, [] => some cells
  | cells, (i, v) :: rest => match places[i]? with
    | none => none
    | some (off, size) => if v.cells.length = size ∧ off + size ≤ cells.length ∧ allLeaf v.cells = true then fillAV places (stCells cells off v.cells) rest else none
def partsOf (e : List (Option AV)) : List (Nat × Operand) → Option (List (Nat × AV))
  | [] => some []
  | (i, x) :: xs => match opd e x, partsOf e xs with
    | some a, some as => some ((i, a) :: as)
    | _, _ => none
def Ctx.places (c : Ctx) : List (Nat × Nat) → Option (List (Nat × Nat))
  | [] => some []
  | (off, t) :: fs => match c.tyOf t, c.places fs with
    | some ty, some ps => some ((off, ty.size) :: ps)
    | _, _ => none
def buildAV (c : Ctx) (t : Nat) (parts : List (Nat × AV)) : Option AV :=
  match c.tyOf t with
  | some ty => match ty.k with
    | .struct fs => match c.places fs with
      | some ps => (fillAV ps ty.zero parts).map .agg
      | none => none
    | .arr n e => match c.tyOf e with
      | some ey => (fillAV ((List.range n).map fun i => (i * ey.size, ey.size)) ty.zero parts).map .agg
      | none => none
    | _ => none
  | none => none
/-- a literal's rows -/
def litRows (size : Nat) : List (List AV) → List (Nat × AV) → Option (List (List AV))
  | rows, [] => some rows
  | rows, (i, v) :: rest => if v.cells.length = size ∧ i < rows.length ∧ allLeaf v.cells = true ∧ pureL v.cells = true then litRows size (rows.set i v.cells) rest else none

/-- n times the same cells -/
def rep (n : Nat) (z : List AV) : List AV := match n with
  | 0 => []
  | n + 1 => z ++ rep n z

/-- a literal of a row -/
def litAV (size n : Nat) (zero : List AV) (ps : List (Nat × AV)) : Option AV :=
  match litRows size (List.replicate n zero) ps with
  | some rows => some (.sl size n (fun i => rows.getD i zero) true)
  | none => if n * size = 0 then none else (fillAV ((List.range n).map fun i => (i * size, size)) (rep n zero) ps).map fun cs => .lsl size n cs

/-! ### what refers to what -/
mutual
def refsA : AV → List Nat
  | .osl _ r .. => [r]
  | .ref r _ => [r]
  | .eref r .. => [r]
  | .lsl _ _ cs => refsL cs
  | .lref cs _ => refsL cs
  | .fn _ a b => refsL a ++ refsL b
  | .agg cs => refsL cs
  | .tup cs => refsL cs
  | _ => []
def refsL : List AV → List Nat
  | [] => []
  | a :: as => refsA a ++ refsL as
end
def inList (r : Nat) : List Nat → Bool
  | [] => false
  | x :: xs => if x = r then true else inList r xs
def refsOb : Option Ob → List Nat
  | some (.box cs) => refsL cs
  | _ => []
def close (H : Heap) : Nat → List Nat → List Nat → Option (List Nat)
  | 0, _, _ => none
  | _ + 1, [], acc => some acc
  | k + 1, r :: todo, acc => if inList r acc = true then close H k todo acc else close H k (todo ++ refsOb (H.at r)) (acc ++ [r])
def idxIn (r : Nat) : List Nat → Nat → Option Nat
  | [], _ => none
  | x :: xs, i => if x = r then some i else idxIn r xs (i + 1)
mutual
def renA (f : Nat → Option Nat) : AV → Option AV
  | .osl sz r o l u => (f r).map fun r => .osl sz r o l u
  | .ref r o => (f r).map fun r => .ref r o
  | .eref r i o => (f r).map fun r => .eref r i o
  | .lsl sz n cs => (renL f cs).map fun cs => .lsl sz n cs
  | .lref cs o => (renL f cs).map fun cs => .lref cs o
  | .fn g a b => match renL f a, renL f b with
    | some a, some b => some (.fn g a b)
    | _, _ => none
  | .agg cs => (renL f cs).map .agg
  | .tup cs => (renL f cs).map .tup
  | a => some a
def renL (f : Nat → Option Nat) : List AV → Option (List AV)
  | [] => some []
  | a :: as => match renA f a, renL f as with
    | some a, some as => some (a :: as)
    | _, _ => none
end
def renOb (f : Nat → Option Nat) : Option Ob → Option (Option Ob)
  | some (.box cs) => (renL f cs).map fun cs => some (.box cs)
  | o => some o
def renObs (f : Nat → Option Nat) (H : Heap) : List Nat → Option Heap
  | [] => some []
  | r :: rs => match renOb f (H.at r), renObs f H rs with
    | some o, some os => some (o :: os)
    | _, _ => none
/-- the objects that some values lead to, and the values over these alone -/
def subHeap (H : Heap) (as : List AV) : Option (List Nat × List AV × Heap) :=
  match close H 200 (refsL as) [] with
  | none => none
  | some rs => match renL (fun r => idxIn r rs 0) as, renObs (fun r => idxIn r rs 0) H rs with
    | some as, some H' => some (rs, as, H')
    | _, _ => none
mutual
/-- read as a plain value -/
def frzA (H : Heap) (u : Bool) : AV → Option AV
  | .osl _ r off len full => match rowsOf H r with
    | some (sz, _, row) => some (.sl sz len (fun i => row (off + i)) (u && full))
    | none => none
  | .sl sz n row full => some (.sl sz n row (u && full))
  | .agg cs => (frzL H u cs).map .agg
  | .tup cs => (frzL H u cs).map .tup
  | .fn g a b => match frzL H u a, frzL H u b with
    | some a, some b => some (.fn g a b)
    | _, _ => none
  | .ref .. => none
  | .eref .. => none
  | .rref .. => none
  | .lsl .. => none
  | .lref .. => none
  | .und => none
  | a => some a
def frzL (H : Heap) (u : Bool) : List AV → Option (List AV)
  | [] => some []
  | a :: as => match frzA H u a, frzL H u as with
    | some a, some as => some (a :: as)
    | _, _ => none
end
mutual
/-- no row in it -/
def flatA : AV → Bool
  | .int .. => true
  | .bool _ => true
  | .str _ => true
  | .nilp => true
  | .nilfn => true
  | .agg cs => flatL cs
  | .tup cs => flatL cs
  | _ => false
def flatL : List AV → Bool
  | [] => true
  | a :: as => flatA a && flatL as
end
def sealOb : Option Ob → Option Ob
  | some (.arr sz n row) => some (.fro sz n row)
  | o => o
def sealAll (H : Heap) : List Nat → Heap
  | [] => H
  | r :: rs => sealAll (H.set r (sealOb (H.at r))) rs

def allLt (n : Nat) : List Nat → Bool
  | [] => true
  | r :: rs => decide (r < n) && allLt n rs
def setAll (H : Heap) : List Nat → Heap → Heap
  | r :: rs, o :: os => setAll (H.set r o) rs os
  | _, _ => H

/-! ### the builtins that write -/
def roomOf (n bytes : Nat) : Bool := decide (n * bytes ≤ 70368744177664) && decide (n ≤ 70368744177664)
def srcOf (H : Heap) : AV → Option (Nat × Nat × (Nat → List AV))
  | .sl sz n row _ => some (sz, n, row)
  | .osl _ r off len _ => match rowsOf H r with
    | some (sz, _, row) => some (sz, len, fun i => row (off + i))
    | none => none
  | .str s => some (1, s.size, rowB s)
  | _ => none
def catRow (n : Nat) (row row' : Nat → List AV) : Nat → List AV := fun i => if i < n then row i else row' (i - n)
section
variable {ρ : Type}
/-- m rows behind x -/
def appendE (sz bytes : Nat) (H : Heap) (x : AV) (m : Nat) (row' : Nat → List AV) (κ : AV → Heap → Option ρ) : Option ρ :=
  match x with
  | .sl sx n row full =>
    if sx = sz ∨ n = 0 then
      bif decide (m = 0) then κ x H
      else bif full && roomOf (n + m) bytes then κ (.osl sz H.length 0 (n + m) false) (H ++ [some (.arr sz (n + m) (catRow n row row'))]) else none
    else none
  | .osl _ r off len full => match H.at r with
    | some (.arr sx N row) =>
      if sx = sz then
        bif decide (m = 0) then κ x H
        else bif full then
          (bif roomOf (len + m) bytes then κ (.osl sz H.length 0 (len + m) false) (H ++ [some (.arr sz (len + m) (catRow len (fun i => row (off + i)) row'))]) else none)
        else bif decide (off + len + m ≤ N) then κ (.osl sz r off (len + m) false) (H.set r (some (.arr sz N fun i => if off + len ≤ i ∧ i < off + len + m then row' (i - (off + len)) else row i)))
        else bif decide (off = 0) && (decide (len = N) && roomOf (len + m) bytes) then κ (.osl sz H.length 0 (len + m) false) (H.set r none ++ [some (.arr sz (len + m) (catRow len row row'))])
        else none
      else none
    | _ => none
  | _ => none
def copyE (H : Heap) (x y : AV) (κ : AV → Heap → Option ρ) : Option ρ :=
  match srcOf H y, x with
  | some (sy, m, row'), .osl _ r off len _ => match H.at r with
    | some (.arr sz N row) => if sy = sz ∨ m = 0 then κ (.int .i64 ((min m len : Nat) : Int)) (H.set r (some (.arr sz N fun i => if off ≤ i ∧ i < off + min m len then row' (i - off) else row i))) else none
    | _ => none
  | _, _ => none
def lenAV : Option TK → AV → Option Int
  | some (.slice _), .sl _ n _ _ => some n
  | some (.slice _), .osl _ _ _ n _ => some n
  | some (.slice _), .lsl _ n _ => some n
  | some .str, .str s => some s.size
  | _, _ => none
def capAV : Option TK → AV → Option Int
  | some (.slice _), .sl _ n _ true => some n
  | some (.slice _), .osl _ _ _ n true => some n
  | _, _ => none
def maxAV (mx : Bool) : AV → AV → Option AV
  | .int k x, .int k' y => if k = k' then some (.int k (if mx then (if y > x then y else x) else (if y < x then y else x))) else none
  | .str x, .str y => some (.str (if mx then (if bl x y then y else x) else (if bl y x then y else x)))
  | _, _ => none
def foldMax (mx : Bool) : AV → List AV → Option AV
  | x, [] => some x
  | x, y :: ys => match maxAV mx x y with
    | some z => foldMax mx z ys
    | none => none

/-! ### one operation -/
abbrev Kn := List (Nat × Bool)
def lookKn (t : Nat) : Operand → Kn → Option Bool
  | .tmp u, kn => if u = t then find1 t kn else find1 u kn
  | _, _ => none
def knOf (kn : Kn) : Operand → Option Bool
  | .tmp u => find1 u kn
  | _ => none
def pickE (kn : Kn) (c : Operand) (vc va vb : Option AV) (κ : AV → Option ρ) : Option ρ :=
  match knOf kn c with
  | some true => match va with | some v => κ v | none => none
  | some false => match vb with | some v => κ v | none => none
  | none => match vc, va, vb with
    | some (.bool c), some (.bool x), some (.bool y) => κ (.bool (bif c then x else y))
    | some (.bool c), va, vb => bif c then (match va with | some v => κ v | none => none) else (match vb with | some v => κ v | none => none)
    | _, _, _ => none
def chk (x : Option (Bool × AV)) (κ : AV → Option ρ) : Option ρ :=
  match x with
  | some (b, v) => bif b then κ v else none
  | none => none
def opt {α : Type} (x : Option α) (κ : α → Option ρ) : Option ρ :=
  match x with
  | some v => κ v
  | none => none
def noInt : Option TK → Bool
  | some .str => true
  | some (.slice _) => true
  | _ => false
def isInt : Option TK → Bool
  | some (.int _) => true
  | _ => false
/-- the same, a row's bounds as a condition -/
def loadE (H : Heap) (ty : Ty) (p : AV) (κ : AV → Option ρ) : Option ρ :=
  match p with
  | .eref r i off => match rowsOf H r with
    | some (_, n, row) => bif decide (i < n) then opt (ldCells ty (row i) off) κ else none
    | _ => none
  | p => opt (loadAV H ty p) κ
def storeE (H : Heap) (ty : Ty) (p v : AV) (κ : Heap → Option ρ) : Option ρ :=
  match p with
  | .eref r i off => match H.at r with
    | some (.arr sz n row) => if (v.cells.length = ty.size ∧ allLeaf v.cells = true) ∧ (off + v.cells.length ≤ sz ∧ pureL v.cells = true) then
        (bif decide (i < n) then κ (H.set r (some (.arr sz n fun j => if j = i then stCells (row i) off v.cells else row j))) else none) else none
    | _ => none
  | p => opt (storeAV H ty p v) κ
theorem loadE_eq (H : Heap) (ty : Ty) (p : AV) (κ : AV → Option ρ) : loadE H ty p κ = opt (loadAV H ty p) κ := by
  unfold loadE
  split
  · rename_i r i off
    unfold loadAV
    simp only
    cases rowsOf H r with
    | none => rfl
    | some x =>
      obtain ⟨sz, n, row⟩ := x
      by_cases h : i < n <;> simp [h, opt]
  · rfl
theorem storeE_eq (H : Heap) (ty : Ty) (p v : AV) (κ : Heap → Option ρ) : storeE H ty p v κ = opt (storeAV H ty p v) κ := by
  unfold storeE
  split
  · rename_i r i off
    unfold storeAV
    simp only
    cases H.at r with
    | none => simp only; split <;> rfl
    | some o =>
      cases o with
      | arr sz n row =>
        simp only
        by_cases h1 : v.cells.length = ty.size ∧ allLeaf v.cells = true
        · rw [if_pos h1]
          by_cases h2 : off + v.cells.length ≤ sz ∧ pureL v.cells = true
          · rw [if_pos ⟨h1, h2⟩]
            by_cases h3 : i < n
            · rw [if_pos ⟨h3, h2⟩, decide_eq_true h3]; rfl
            · rw [if_neg fun h => h3 h.1, decide_eq_false h3]; rfl
          · rw [if_neg fun h => h2 h.2, if_neg fun h => h2 h.2]; rfl
        · rw [if_neg h1, if_neg fun h => h1 h.1]; rfl
      | box cs => simp only; split <;> rfl
      | fro sz n row => simp only; split <;> rfl
  · rfl
def builtinE (c : Ctx) (b : Builtin) (ats : List Nat) (as : List AV) (H : Heap) (κ : AV → Heap → Option ρ) : Option ρ :=
  match b, ats, as with
  | .len, t :: _, [x] => opt (lenAV (c.kOf t) x) fun n => κ (.int .i64 n) H
  | .cap, t :: _, [x] => opt (capAV (c.kOf t) x) fun n => κ (.int .i64 n) H
  | .max, _, x :: xs => opt (foldMax true x xs) fun v => κ v H
  | .min, _, x :: xs => opt (foldMax false x xs) fun v => κ v H
  | .append, [st, xt], [x, y] => match c.tyOf st with
    | some ⟨.slice e, _, _, _, _⟩ => match c.tyOf e with
      | some ey => match y with
        | .int _ m => if isInt (c.kOf xt) = true then (bif decide (0 ≤ m) && roomOf m.toNat ey.bytes then appendE ey.size ey.bytes H x m.toNat (fun _ => ey.zero) κ else none) else none
        | y => if noInt (c.kOf xt) = true then opt (srcOf H y) fun (sy, m, row') => if sy = ey.size ∨ m = 0 then appendE ey.size ey.bytes H x m row' κ else none else none
      | none => none
    | _ => none
  | .copy, [st, _], [x, y] => match c.tyOf st with
    | some ⟨.slice e, _, _, _, _⟩ => match c.tyOf e, x with
      | some ey, .osl sz .. => if sz = ey.size then copyE H x y κ else none
      | _, _ => none
    | _ => none
  | _, _, _ => none
def opE (c : Ctx) (call : Nat → List AV → Heap → (AV → Heap → Option ρ) → Option ρ) (o : Oper) (kn : Kn) (e : List (Option AV)) (H : Heap) (κ : Option AV → Heap → Option ρ) : Option ρ :=
  match o.op with
  | .move x => opt (c.opdT o.type e x) fun v => κ (some v) H
  | .assign x => opt (c.opdT o.type e x) fun v => κ (some v) H
  | .pick x a b => pickE kn x (opd e x) (c.opdT o.type e a) (c.opdT o.type e b) fun v => κ (some v) H
  | .alloc t => opt (c.tyOf t) fun ty => κ (some (.ref H.length 0)) (H ++ [some (.box ty.zero)])
  | .box t x => opt (c.opdT t e x) fun v => if allLeaf v.cells = true then κ (some (.ref H.length 0)) (H ++ [some (.box v.cells)]) else none
  | .build t parts => opt (partsOf e parts.toList) fun ps => opt (buildAV c t ps) fun v => κ (some v) H
  | .buildSlice t n parts => match c.tyOf t with
    | some ⟨.slice et, _, _, _, _⟩ => opt (c.tyOf et) fun ey => opt (partsOf e parts.toList) fun ps => if n * ey.size ≤ 16777216 then opt (litAV ey.size n ey.zero ps) (fun v => κ (some v) H) else none
    | _ => none
  | .load t x => opt (opd e x) fun p => opt (c.tyOf t) fun ty => loadE H ty p fun v => κ (some v) H
  | .store t x y => opt (opd e x) fun p => opt (c.opdT t e y) fun v => opt (c.tyOf t) fun ty => storeE H ty p v fun H => κ none H
  | .nilCheck x => opt (opd e x) fun p => match p with
    | .ref .. => κ (some p) H
    | .eref .. => κ (some p) H
    | .rref .. => κ (some p) H
    | .lref .. => κ (some p) H
    | .fn .. => κ (some p) H
    | _ => none
  | .binOp op t x y _ => opt (opd e x) fun a => opt (opd e y) fun b => chk (binAV c op t a b) fun v => κ (some v) H
  | .unOp op _ x => opt (opd e x) fun a => opt (unAV op a) fun v => κ (some v) H
  | .convert s d x => opt (opd e x) fun a => match a with
    | .osl .. => opt (srcOf H a) fun (sz, n, row) => chk (convAV c s d (.sl sz n row false)) fun v => κ (some v) H
    | a => chk (convAV c s d a) fun v => κ (some v) H
  | .makeFunc (.func f) first caps => opt (opds e first.toList) fun a => opt (opds e caps.toList) fun b => κ (some (.fn f a b)) H
  | .makeSlice t l m => opt (opd e l) fun a => opt (opd e m) fun b => match c.tyOf t, a, b with
    | some ⟨.slice et, _, _, _, _⟩, .int .i64 l, .int .i64 m => opt (c.tyOf et) fun ey =>
      bif decide (0 ≤ l) && (decide (l = m) && roomOf l.toNat ey.bytes) then κ (some (.osl ey.size H.length 0 l.toNat true)) (H ++ [some (.arr ey.size l.toNat fun _ => ey.zero)]) else none
    | _, _, _ => none
  | .slice t x lo hi mx => opt (opd e x) fun a => opt (c.kOf t) fun k => opt (c.elemSize k) fun sz => match lo.map (opd e), hi.map (opd e), mx.map (opd e) with
    | some none, _, _ => none
    | _, some none, _ => none
    | _, _, some none => none
    | lo, hi, mx => chk (sliceAV k sz a lo.join hi.join mx.join) fun v => κ (some v) H
  | .fieldAddr s x f => opt (opd e x) fun p => match c.tyOf s with
    | some ⟨.struct fs, _, _, _, _⟩ => opt fs[f]? fun (off, t) => opt (c.tyOf t) fun ty => if ty.size = 0 then none else opt (fieldPtr off p) fun v => κ (some v) H
    | _ => none
  | .field s x f => opt (opd e x) fun a => match c.tyOf s, a with
    | some ⟨.struct fs, _, _, _, _⟩, .agg cs => opt fs[f]? fun (off, t) => opt (c.tyOf t) fun ty => opt (ldCells ty cs off) fun v => κ (some v) H
    | _, _ => none
  | .indexAddr t x i => opt (opd e x) fun a => opt (opd e i) fun b => match c.tyOf t, b with
    | some ⟨.slice et, _, _, _, _⟩, .int _ i => opt (c.tyOf et) fun ey => chk (indexPtr ey.size a i) fun v => κ (some v) H
    | _, _ => none
  | .index t x i => opt (opd e x) fun a => opt (opd e i) fun b => match c.kOf t, a, b with
    | some .str, .str s, .int _ i => bif idxOK i s.size then κ (some (.int .u8 ((s.data.getD i.toNat 0).toNat : Int))) H else none
    | _, _, _ => none
  | .extract x i => opt (opd e x) fun a => match a with
    | .tup vs => opt vs[i]? fun v => κ (some v) H
    | _ => none
  | .call cl => opt (c.opdsT e cl.args.toList cl.argTypes.toList) fun as => match cl.callee with
    | .builtin b => builtinE c b cl.argTypes.toList as H fun v H => κ (some v) H
    | .value f => opt (opd e f) fun g => match g with
      | .fn f first caps => call f (first ++ as ++ caps) H fun v H => κ (some v) H
      | _ => none
    | .invoke .. => none
  | _ => none

def putE (e : List (Option AV)) (d : Option Tmp) (v : Option AV) : List (Option AV) :=
  match d, v with
  | some d, some v => e.set d (some v)
  | some d, none => e.set d (some .und)
  | none, _ => e
/-- the same, with every place told before it goes on -/
def setK {σ : Type} : List (Option AV) → Nat → Option AV → (List (Option AV) → σ) → σ
  | [], _, _, κ => κ []
  | _ :: as, 0, v, κ => κ (v :: as)
  | a :: as, d + 1, v, κ => setK as d v fun as' => κ (a :: as')
theorem setK_eq {σ : Type} : ∀ (e : List (Option AV)) (d : Nat) (v : Option AV) (κ : List (Option AV) → σ), setK e d v κ = κ (e.set d v)
  | [], _, _, κ => by simp [setK]
  | _ :: as, 0, v, κ => by simp [setK]
  | a :: as, d + 1, v, κ => by simp [setK, setK_eq as d v]
def putK {σ : Type} (e : List (Option AV)) (d : Option Tmp) (v : Option AV) (κ : List (Option AV) → σ) : σ :=
  match d, v with
  | some d, some v => setK e d (some v) κ
  | some d, none => setK e d (some .und) κ
  | none, _ => κ e
theorem putK_eq {σ : Type} (e : List (Option AV)) (d : Option Tmp) (v : Option AV) (κ : List (Option AV) → σ) : putK e d v κ = κ (putE e d v) := by
  unfold putK putE
  split <;> simp [setK_eq]
def knPut (kn : Kn) : Option Tmp → Kn
  | some d => kn.filter fun p => !decide (p.1 = d)
  | none => kn
/-- what is left of a row of operations; what is left behind a region: names at which two evaluations are held against one another -/
def contO (R : Kn → St → (St → Option ρ) → Option ρ) (kn : Kn) (s : St) (κ : St → Option ρ) : Option ρ := R kn s κ
def joinO (κ : St → Option ρ) (s : St) : Option ρ := κ s
def opsE (c : Ctx) (call : Nat → List AV → Heap → (AV → Heap → Option ρ) → Option ρ) (all : List Oper) : List Oper → Kn → St → (St → Option ρ) → Option ρ
  | [], _, s, κ => κ s
  | o :: os, kn, s, κ =>
    let exec (kn : Kn) : Option ρ := opE c call o kn s.env s.heap fun v H => putK s.env o.dst v fun e => contO (opsE c call all os) (knPut kn o.dst) ⟨e, H⟩ κ
    let skip (kn : Kn) : Option ρ := putK s.env o.dst none fun e => opsE c call all os (knPut kn o.dst) ⟨e, s.heap⟩ κ
    match o.guard with
    | none => exec kn
    | some (j, want) => match (all[j]?).bind (·.dst) with
      | none => none
      | some t => match find1 t kn with
        | some b => if b = want then exec kn else skip kn
        | none => match s.env.getD t none with
          | some (.bool b) => bif b then (if want = true then exec ((t, true) :: kn) else skip ((t, true) :: kn)) else (if want = false then exec ((t, false) :: kn) else skip ((t, false) :: kn))
          | some .und => skip kn
          | _ => none

/-! ### loops, code, calls -/
def keep (ts : List Nat) : Nat → List (Option AV) → List (Option AV)
  | _, [] => []
  | i, a :: as => (if inList i ts = true then a else none) :: keep ts (i + 1) as
def someL : List (Option AV) → List AV
  | [] => []
  | some a :: as => a :: someL as
  | none :: as => someL as
def renEnv (f : Nat → Option Nat) : List (Option AV) → Option (List (Option AV))
  | [] => some []
  | none :: as => match renEnv f as with
    | some as => some (none :: as)
    | none => none
  | some a :: as => match renA f a, renEnv f as with
    | some a, some as => some (some a :: as)
    | _, _ => none
/-- at a loop's head: what lives on, and the objects that it leads to; the caller's m objects stay where they are -/
def gc (m : Nat) (ts : List Nat) (s : St) : Option St :=
  let e := keep ts 0 s.env
  match close s.heap 200 (List.range m ++ refsL (someL e)) [] with
  | none => none
  | some rs => match renEnv (fun r => idxIn r rs 0) e, renObs (fun r => idxIn r rs 0) s.heap rs with
    | some e, some H => some ⟨e, H⟩
    | _, _ => none
def loopG (B : (Ex → St → Option ρ) → St → Option ρ) (g : St → Option St) : Nat → (Ex → St → Option ρ) → St → Option ρ
  | 0, _, _ => none
  | m + 1, κ, s => B (fun x s => match x with
      | .normal => match g s with
        | none => none
        | some s => loopG B g m κ s
      | x => κ x s) s
/-- rounds from a head on; what does not live on is dropped first -/
def loopN (B : (Ex → St → Option ρ) → St → Option ρ) (g : St → Option St) (m : Nat) (κ : Ex → St → Option ρ) (s : St) : Option ρ :=
  match g s with
  | none => none
  | some s => loopG B g m κ s
theorem loopN_zero (B : (Ex → St → Option ρ) → St → Option ρ) (g : St → Option St) (κ : Ex → St → Option ρ) (s : St) : loopN B g 0 κ s = none := by
  unfold loopN
  split <;> rfl
theorem loopN_succ (B : (Ex → St → Option ρ) → St → Option ρ) (g : St → Option St) (m : Nat) (κ : Ex → St → Option ρ) (s : St) :
    loopN B g (m + 1) κ s = match g s with
    | none => none
    | some s => B (fun x s => match x with
      | .normal => loopN B g m κ s
      | x => κ x s) s := rfl
def headOf : Code → Nat
  | .region id _ _ => id
  | .seq a _ => headOf a
  | .block _ a => headOf a
  | .loop a => headOf a
  | _ => 0
/-- behind a region: what does not live on may be dropped -/
def endR (lv : List (Nat × List Nat)) (m id : Nat) (κ : St → Option ρ) (s : St) : Option ρ :=
  match find1 (1000000 + id) lv with
  | none => κ s
  | some ts => match gc m ts s with
    | none => none
    | some s => joinO κ s
def codeE (c : Ctx) (lv : List (Nat × List Nat)) (m k : Nat) (call : Bool → Nat → List AV → Heap → (AV → Heap → Option ρ) → Option ρ) : Code → (Ex → St → Option ρ) → St → Option ρ
  | .skip, κ, s => κ .normal s
  | .label _, κ, s => κ .normal s
  | .region id ops dr, κ, s => opsE c (call dr) ops.toList ops.toList [] s (endR lv m id (κ .normal))
  | .seq a b, κ, s => codeE c lv m k call a (fun x s => match x with
    | .normal => codeE c lv m k call b κ s
    | x => κ x s) s
  | .cond x a b, κ, s => match opd s.env x with
    | some (.bool t) => bif t then codeE c lv m k call a κ s else codeE c lv m k call b κ s
    | _ => none
  | .block id a, κ, s => codeE c lv m k call a (fun x s => match x with
    | .exit j => if j = id then κ .normal s else κ (.exit j) s
    | x => κ x s) s
  | .loop a, κ, s => loopN (codeE c lv m k call a) (gc m ((find1 (headOf a) lv).getD [])) k κ s
  | .exit id, κ, s => κ (.exit id) s
  | .ret, κ, s => κ .ret s
  | _, _, _ => none
def resE (c : Ctx) (s : St) : List ResultVar → Option (List AV)
  | [] => some []
  | .tmp t :: rs => match s.env.getD t none, resE c s rs with
    | some v, some vs => some (v :: vs)
    | _, _ => none
  | .cell a t :: rs => match s.env.getD a none, c.tyOf t with
    | some p, some ty => match loadAV s.heap ty p, resE c s rs with
      | some v, some vs => some (v :: vs)
      | _, _ => none
    | _, _ => none
def oneOf : List AV → AV
  | [v] => v
  | vs => .tup vs
/-- what a call comes to, over the caller's objects -/
def callE (c : Ctx) (dr : Bool) (ev : Nat → List AV → Heap → (AV → Heap → Option ρ) → Option ρ) (g : Nat) (as : List AV) (H : Heap) (κ : AV → Heap → Option ρ) : Option ρ :=
  match c.modeOf g with
  | .pur => opt (frzL H true as) fun as' => ev g as' [] fun r H' => opt (frzA H' false r) fun r =>
    if pureL as = true ∨ flatA r = true then κ r H else if dr = true then none else κ r (sealAll H (refsL as))
  | .full => opt (frzL H true as) fun as' => ev g as' [] fun r H' => opt (frzA H' true r) fun r =>
    if pureL as = true ∨ flatA r = true then κ r H else if dr = true then none else κ r (sealAll H (refsL as))
  | .fresh => if dr = true then none else opt (frzL H true as) fun as' => ev g as' [] fun r H' => opt (close H' 200 (refsA r) []) fun ks =>
    let f : Nat → Option Nat := fun i => (idxIn i ks 0).map fun j => H.length + j
    opt (renA f r) fun r => opt (renObs f H' ks) fun os => κ r (sealAll H (refsL as) ++ os)
  | .heap => if dr = true then none else opt (subHeap H as) fun (rs, as, H0) => if allLt H.length rs = true then ev g as H0 fun r H' => opt (close H' 200 (List.range rs.length ++ refsA r) []) fun ks =>
    let f : Nat → Option Nat := fun i => if i < rs.length then rs[i]? else (idxIn i ks 0).map fun j => H.length + (j - rs.length)
    opt (renA f r) fun r => opt (renObs f H' ks) fun os => κ r (setAll H rs (os.take rs.length) ++ os.drop rs.length) else none
def evalF (c : Ctx) : Nat → Nat → List AV → Heap → (AV → Heap → Option ρ) → Option ρ
  | 0, _, _, _, _ => none
  | k + 1, f, as, H, κ => match find1 f c.ext with
    | some e => opt (e as H) fun p => κ p.1 p.2
    | none => match c.fnOf f with
      | none => none
      | some fn => match fn.body with
        | none => none
        | some code => codeE c (c.live.getD f []) H.length k (fun dr => callE (c.cm f) dr (evalF c k)) code (fun x s => match x with
          | .exit _ => none
          | _ => opt (resE c s fn.results.toList) fun vs => κ (oneOf vs) s.heap) ⟨as.map some ++ List.replicate (fn.ntmps - as.length) none, H⟩
end
end Go.Ev
