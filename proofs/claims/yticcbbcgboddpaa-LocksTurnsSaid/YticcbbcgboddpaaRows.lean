/-
  No cell of these rows narrows 'for every input' (looked for: loops, veiled, ifaces, maps, wideKeys, modest, calm, conditions, laid).
  DERIVED. THE GIVEN ROWS OF THIS SEAT. 6 by the template 'for every input the law returns true; each argument reads behind the call as it read before'; 0 by the template 'total and deterministic' (their statements: YticcbbcgboddpaaTotals.lean).
  GIVEN WITH THE SEED: the statements are not yours to turn. If you find one false, say at which input.
  Laid BY PROGRAM, IN A SANDBOX (cutbox-rows.mjs): the forced cells as the released guide's own fill.sh prints them over the translation 7c1ac936baa6914d… (all of the seat's roots in one cut). By AI agents, Wed Nov 11 2026. No macro, syntax, notation, axiom, sorry.
-/
import Derived.Test.YticcbbcgboddpaaChecked
import GoSem.Claim
import GoSem.ClaimJoined
import GoSem.ClaimMapViews
import Derived.JoinedTies
import Derived.KernelRfl
namespace Go.Proofs.Yticcbbcgboddpaa
/- THE CELL 'sum', in the pinned program and in every row, IS THE sha256 OF THE DUMP (.gsa) THAT YticcbbcgboddpaaProg.lean LOADS. Nothing in Lean hashes anything: it is a label: what it is worth is what the hold of that sum in a sandbox is worth. -/
noncomputable def Try.pinned : Pinned := { name := "yticcbbcgboddpaa", sum := "7c1ac936baa6914d867ebc52ffba000028a6a2bf77ed570b673abb6cdc586f99", checked := Try.checked }
namespace Rows
def none {H : Type} : Left H := { results := [], args := [] }

/-- 'lockkeeperlaw22.LocksPhantom': WHATEVER THE INPUT: true; the input reads as it did. -/
def locksPhantomSpec : ChangeSpec := { name := "locksPhantom", fn := fun _ => fun
  | [d1, d2] => { results := [.lit (.bool true)], args := [d1, d2] }
  | _ => none }
def locksPhantomRow : OpenClaim := { program := "yticcbbcgboddpaa", sum := "7c1ac936baa6914d867ebc52ffba000028a6a2bf77ed570b673abb6cdc586f99", func := "lockkeeper/lockkeeperlaw22.LocksPhantom", spec := "locksPhantom", unfollowed := true, recurses := true, apart := false }
def LocksPhantomSaid : Prop := locksPhantomRow.holds Try.pinned (OpenSpec.ofChange locksPhantomSpec)

/-- ITS FALSE NEIGHBOUR: 'it returns false'. Refute it at one input. -/
def locksPhantomWrong : ChangeSpec := { name := "locksPhantom", fn := fun _ => fun
  | [d1, d2] => { results := [.lit (.bool false)], args := [d1, d2] }
  | _ => none }
def LocksPhantomWrongFalsely : Prop := locksPhantomRow.holds Try.pinned (OpenSpec.ofChange locksPhantomWrong)

/-- 'lockkeeperlaw22.LocksShared': WHATEVER THE INPUT: true; the input reads as it did. -/
def locksSharedSpec : ChangeSpec := { name := "locksShared", fn := fun _ => fun
  | [d] => { results := [.lit (.bool true)], args := [d] }
  | _ => none }
def locksSharedRow : OpenClaim := { program := "yticcbbcgboddpaa", sum := "7c1ac936baa6914d867ebc52ffba000028a6a2bf77ed570b673abb6cdc586f99", func := "lockkeeper/lockkeeperlaw22.LocksShared", spec := "locksShared", unfollowed := true, recurses := true, apart := false }
def LocksSharedSaid : Prop := locksSharedRow.holds Try.pinned (OpenSpec.ofChange locksSharedSpec)

/-- ITS FALSE NEIGHBOUR: 'it returns false'. Refute it at one input. -/
def locksSharedWrong : ChangeSpec := { name := "locksShared", fn := fun _ => fun
  | [d] => { results := [.lit (.bool false)], args := [d] }
  | _ => none }
def LocksSharedWrongFalsely : Prop := locksSharedRow.holds Try.pinned (OpenSpec.ofChange locksSharedWrong)

/-- 'lockkeeperlaw22.LocksLast': WHATEVER THE INPUT: true; the input reads as it did. -/
def locksLastSpec : ChangeSpec := { name := "locksLast", fn := fun _ => fun
  | [d1, d2, d3] => { results := [.lit (.bool true)], args := [d1, d2, d3] }
  | _ => none }
def locksLastRow : OpenClaim := { program := "yticcbbcgboddpaa", sum := "7c1ac936baa6914d867ebc52ffba000028a6a2bf77ed570b673abb6cdc586f99", func := "lockkeeper/lockkeeperlaw22.LocksLast", spec := "locksLast", unfollowed := true, recurses := true, apart := false }
def LocksLastSaid : Prop := locksLastRow.holds Try.pinned (OpenSpec.ofChange locksLastSpec)

/-- ITS FALSE NEIGHBOUR: 'it returns false'. Refute it at one input. -/
def locksLastWrong : ChangeSpec := { name := "locksLast", fn := fun _ => fun
  | [d1, d2, d3] => { results := [.lit (.bool false)], args := [d1, d2, d3] }
  | _ => none }
def LocksLastWrongFalsely : Prop := locksLastRow.holds Try.pinned (OpenSpec.ofChange locksLastWrong)

/-- 'lockkeeperlaw22.LocksTurns': WHATEVER THE INPUT: true; the input reads as it did. -/
def locksTurnsSpec : ChangeSpec := { name := "locksTurns", fn := fun _ => fun
  | [d1, d2] => { results := [.lit (.bool true)], args := [d1, d2] }
  | _ => none }
def locksTurnsRow : OpenClaim := { program := "yticcbbcgboddpaa", sum := "7c1ac936baa6914d867ebc52ffba000028a6a2bf77ed570b673abb6cdc586f99", func := "lockkeeper/lockkeeperlaw22.LocksTurns", spec := "locksTurns", unfollowed := true, recurses := true, apart := false }
def LocksTurnsSaid : Prop := locksTurnsRow.holds Try.pinned (OpenSpec.ofChange locksTurnsSpec)

/-- ITS FALSE NEIGHBOUR: 'it returns false'. Refute it at one input. -/
def locksTurnsWrong : ChangeSpec := { name := "locksTurns", fn := fun _ => fun
  | [d1, d2] => { results := [.lit (.bool false)], args := [d1, d2] }
  | _ => none }
def LocksTurnsWrongFalsely : Prop := locksTurnsRow.holds Try.pinned (OpenSpec.ofChange locksTurnsWrong)

/-- 'lockkeeperlaw22.LocksApart': WHATEVER THE INPUT: true; the input reads as it did. -/
def locksApartSpec : ChangeSpec := { name := "locksApart", fn := fun _ => fun
  | [d1, d2] => { results := [.lit (.bool true)], args := [d1, d2] }
  | _ => none }
def locksApartRow : OpenClaim := { program := "yticcbbcgboddpaa", sum := "7c1ac936baa6914d867ebc52ffba000028a6a2bf77ed570b673abb6cdc586f99", func := "lockkeeper/lockkeeperlaw22.LocksApart", spec := "locksApart", unfollowed := true, recurses := true, apart := false }
def LocksApartSaid : Prop := locksApartRow.holds Try.pinned (OpenSpec.ofChange locksApartSpec)

/-- ITS FALSE NEIGHBOUR: 'it returns false'. Refute it at one input. -/
def locksApartWrong : ChangeSpec := { name := "locksApart", fn := fun _ => fun
  | [d1, d2] => { results := [.lit (.bool false)], args := [d1, d2] }
  | _ => none }
def LocksApartWrongFalsely : Prop := locksApartRow.holds Try.pinned (OpenSpec.ofChange locksApartWrong)

/-- 'lockkeeperlaw22.LocksAsks': WHATEVER THE INPUT: true; the input reads as it did. -/
def locksAsksSpec : ChangeSpec := { name := "locksAsks", fn := fun _ => fun
  | [d1, d2, d3] => { results := [.lit (.bool true)], args := [d1, d2, d3] }
  | _ => none }
def locksAsksRow : OpenClaim := { program := "yticcbbcgboddpaa", sum := "7c1ac936baa6914d867ebc52ffba000028a6a2bf77ed570b673abb6cdc586f99", func := "lockkeeper/lockkeeperlaw22.LocksAsks", spec := "locksAsks", unfollowed := true, recurses := true, apart := false }
def LocksAsksSaid : Prop := locksAsksRow.holds Try.pinned (OpenSpec.ofChange locksAsksSpec)

/-- ITS FALSE NEIGHBOUR: 'it returns false'. Refute it at one input. -/
def locksAsksWrong : ChangeSpec := { name := "locksAsks", fn := fun _ => fun
  | [d1, d2, d3] => { results := [.lit (.bool false)], args := [d1, d2, d3] }
  | _ => none }
def LocksAsksWrongFalsely : Prop := locksAsksRow.holds Try.pinned (OpenSpec.ofChange locksAsksWrong)

/- THE SECOND FORM. 'bulk': how many values and letters a reading holds, each counted each time it is reached (what is shared counts as often as it is met; a slice's spare places count too). A statement '..UptoSaid' is the law's where the arguments, and the package variables that the reading takes, are together of bulk at most 1048576: NARROWER than '..Said'. Prove '..Said' where nothing that the law and all that it calls make is longer than what came in: it says more and counts as full. Else prove '..UptoSaid'. A law counts once. -/
mutual
def uptoBulk {H : Type} : DataW H → Nat
  | .lit (.string bytes) => bytes.length + 1
  | .lit _ => 1
  | .nil => 1
  | .ptr d => uptoBulk d + 1
  | .slice elems spare => uptoBulkAll elems + uptoBulkAll spare + 1
  | .agg parts => uptoBulkAll parts + 1
  | .iface _ d => uptoBulk d + 1
  | .map entries => uptoBulkEntries entries + 1
  | .held _ => 1
def uptoBulkAll {H : Type} : List (DataW H) → Nat
  | [] => 0
  | d :: r => uptoBulk d + uptoBulkAll r
def uptoBulkEntries {H : Type} : List (Lit × DataW H) → Nat
  | [] => 0
  | x :: r => uptoBulkEntry x + uptoBulkEntries r
def uptoBulkEntry {H : Type} : Lit × DataW H → Nat
  | (.string bytes, d) => bytes.length + uptoBulk d + 1
  | (_, d) => uptoBulk d + 1
 end
def uptoSmall : (H : Type) → List (DataW H) → Bool := fun _ ds => decide (uptoBulkAll ds ≤ 1048576)
def OpenSpec.upto (s : _root_.Go.ChangeSpec) : _root_.Go.OpenSpec := { _root_.Go.OpenSpec.ofChange s with cond := some uptoSmall }

/-- 'lockkeeperlaw22.LocksPhantom', WHERE WHAT IT READS IS OF BULK AT MOST 1048576: true; the input reads as it did. -/
def locksPhantomUptoRow : OpenClaim := { program := "yticcbbcgboddpaa", sum := "7c1ac936baa6914d867ebc52ffba000028a6a2bf77ed570b673abb6cdc586f99", func := "lockkeeper/lockkeeperlaw22.LocksPhantom", spec := "locksPhantom", unfollowed := true, recurses := true, apart := false, narrowed := true }
def LocksPhantomUptoSaid : Prop := locksPhantomUptoRow.holds Try.pinned (OpenSpec.upto locksPhantomSpec)

/-- 'lockkeeperlaw22.LocksShared', WHERE WHAT IT READS IS OF BULK AT MOST 1048576: true; the input reads as it did. -/
def locksSharedUptoRow : OpenClaim := { program := "yticcbbcgboddpaa", sum := "7c1ac936baa6914d867ebc52ffba000028a6a2bf77ed570b673abb6cdc586f99", func := "lockkeeper/lockkeeperlaw22.LocksShared", spec := "locksShared", unfollowed := true, recurses := true, apart := false, narrowed := true }
def LocksSharedUptoSaid : Prop := locksSharedUptoRow.holds Try.pinned (OpenSpec.upto locksSharedSpec)

/-- 'lockkeeperlaw22.LocksLast', WHERE WHAT IT READS IS OF BULK AT MOST 1048576: true; the input reads as it did. -/
def locksLastUptoRow : OpenClaim := { program := "yticcbbcgboddpaa", sum := "7c1ac936baa6914d867ebc52ffba000028a6a2bf77ed570b673abb6cdc586f99", func := "lockkeeper/lockkeeperlaw22.LocksLast", spec := "locksLast", unfollowed := true, recurses := true, apart := false, narrowed := true }
def LocksLastUptoSaid : Prop := locksLastUptoRow.holds Try.pinned (OpenSpec.upto locksLastSpec)

/-- 'lockkeeperlaw22.LocksTurns', WHERE WHAT IT READS IS OF BULK AT MOST 1048576: true; the input reads as it did. -/
def locksTurnsUptoRow : OpenClaim := { program := "yticcbbcgboddpaa", sum := "7c1ac936baa6914d867ebc52ffba000028a6a2bf77ed570b673abb6cdc586f99", func := "lockkeeper/lockkeeperlaw22.LocksTurns", spec := "locksTurns", unfollowed := true, recurses := true, apart := false, narrowed := true }
def LocksTurnsUptoSaid : Prop := locksTurnsUptoRow.holds Try.pinned (OpenSpec.upto locksTurnsSpec)

/-- 'lockkeeperlaw22.LocksApart', WHERE WHAT IT READS IS OF BULK AT MOST 1048576: true; the input reads as it did. -/
def locksApartUptoRow : OpenClaim := { program := "yticcbbcgboddpaa", sum := "7c1ac936baa6914d867ebc52ffba000028a6a2bf77ed570b673abb6cdc586f99", func := "lockkeeper/lockkeeperlaw22.LocksApart", spec := "locksApart", unfollowed := true, recurses := true, apart := false, narrowed := true }
def LocksApartUptoSaid : Prop := locksApartUptoRow.holds Try.pinned (OpenSpec.upto locksApartSpec)

/-- 'lockkeeperlaw22.LocksAsks', WHERE WHAT IT READS IS OF BULK AT MOST 1048576: true; the input reads as it did. -/
def locksAsksUptoRow : OpenClaim := { program := "yticcbbcgboddpaa", sum := "7c1ac936baa6914d867ebc52ffba000028a6a2bf77ed570b673abb6cdc586f99", func := "lockkeeper/lockkeeperlaw22.LocksAsks", spec := "locksAsks", unfollowed := true, recurses := true, apart := false, narrowed := true }
def LocksAsksUptoSaid : Prop := locksAsksUptoRow.holds Try.pinned (OpenSpec.upto locksAsksSpec)

end Rows
end Go.Proofs.Yticcbbcgboddpaa
