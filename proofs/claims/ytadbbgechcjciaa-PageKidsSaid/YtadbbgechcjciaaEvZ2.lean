/- Names for what the printed cuts of a function speak of: slices of things, calls on plain values, writes. No conditions. -/
import Derived.Test.YtadbbgechcjciaaEvZ1
set_option linter.unusedVariables false
namespace Go.Ev
open Go

/-- a slice of things: how many, which, and whether it has no room behind -/
structure Sl (α : Type) where
  n : Nat
  w : Nat → α
  u : Bool
def eI (k : IntKind) (x : Int) : List AV := [.int k x]
def eB (x : Bool) : List AV := [.bool x]
def eS (x : ByteArray) : List AV := [.str x]
def eL {α : Type} (sz : Nat) (f : α → List AV) (s : Sl α) : List AV := [.sl sz s.n (fun i => f (s.w i)) s.u]
abbrev wi64 (x : Int) : Int := IntKind.i64.wrap x
abbrev wi32 (x : Int) : Int := IntKind.i32.wrap x
abbrev wi16 (x : Int) : Int := IntKind.i16.wrap x
abbrev wi8 (x : Int) : Int := IntKind.i8.wrap x
abbrev wu64 (x : Int) : Int := IntKind.u64.wrap x
abbrev wu32 (x : Int) : Int := IntKind.u32.wrap x
abbrev wu16 (x : Int) : Int := IntKind.u16.wrap x
abbrev wu8 (x : Int) : Int := IntKind.u8.wrap x
/-- rows of things -/
def rowOf {α : Type} (f : α → List AV) (w : Nat → α) : Nat → List AV := fun i => f (w i)
def litRow {α : Type} (f : α → List AV) (l : List α) (z : α) : Nat → List AV := fun i => (l.map f).getD i (f z)
def shRow (a : Nat) (row : Nat → List AV) : Nat → List AV := fun i => row (a + i)
def bytesW (s : ByteArray) (i : Nat) : Int := ((s.data.getD i 0).toNat : Int)
def updRow (i off : Nat) (vs : List AV) (row : Nat → List AV) : Nat → List AV := fun j => if j = i then stCells (row i) off vs else row j
def putRow (lo hi : Nat) (b a : Nat → List AV) : Nat → List AV := fun i => if lo ≤ i ∧ i < hi then b (i - lo) else a i
section
variable {ρ : Type}
/-- a call of a function that is taken on plain values -/
def callP (c : Ctx) (k f : Nat) (as : List AV) (κ : AV → Option ρ) : Option ρ := evalF c k f as [] fun r H => opt (frzA H false r) κ
/-- the same, what is known of room behind a slice stays known -/
def callU (c : Ctx) (k f : Nat) (as : List AV) (κ : AV → Option ρ) : Option ρ := evalF c k f as [] fun r H => opt (frzA H true r) κ
/-- and what its caller's objects are behind it -/
def retH (dr : Bool) (as : List AV) (H : Heap) (κ : AV → Heap → Option ρ) (r : AV) : Option ρ :=
  if pureL as = true ∨ flatA r = true then κ r H else if dr = true then none else κ r (sealAll H (refsL as))
/-- behind a call of a function that makes objects of its own; behind one that has the caller's -/
def backF (as : List AV) (H : Heap) (κ : AV → Heap → Option ρ) (r : AV) (H' : Heap) : Option ρ :=
  opt (close H' 200 (refsA r) []) fun ks =>
    let f : Nat → Option Nat := fun i => (idxIn i ks 0).map fun j => H.length + j
    opt (renA f r) fun r => opt (renObs f H' ks) fun os => κ r (sealAll H (refsL as) ++ os)
def backH (rs : List Nat) (H : Heap) (κ : AV → Heap → Option ρ) (r : AV) (H' : Heap) : Option ρ :=
  opt (close H' 200 (List.range rs.length ++ refsA r) []) fun ks =>
    let f : Nat → Option Nat := fun i => if i < rs.length then rs[i]? else (idxIn i ks 0).map fun j => H.length + (j - rs.length)
    opt (renA f r) fun r => opt (renObs f H' ks) fun os => κ r (setAll H rs (os.take rs.length) ++ os.drop rs.length)
end
end Go.Ev
