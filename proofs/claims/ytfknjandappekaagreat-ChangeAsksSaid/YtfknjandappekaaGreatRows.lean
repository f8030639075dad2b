/-
  No cell of these rows narrows 'for every input' (looked for: loops, veiled, ifaces, maps, wideKeys, modest, calm, conditions, laid).
  DERIVED. THE GIVEN ROWS OF THIS SEAT. 3 by the template 'for every input the law returns true; each argument reads behind the call as it read before'; 0 by the template 'total and deterministic' (their statements: YtfknjandappekaaGreatTotals.lean).
  GIVEN WITH THE SEED: the statements are not yours to turn. If you find one false, say at which input.
  Laid BY PROGRAM, IN A SANDBOX (cutbox-rows.mjs): the forced cells as the released guide's own fill.sh prints them over the translation 75c612943cbcf2c9… (all of the seat's roots in one cut). By AI agents, Wed Nov 11 2026. No macro, syntax, notation, axiom, sorry.
-/
import Derived.Test.YtfknjandappekaaGreatChecked
import GoSem.Claim
import GoSem.ClaimJoined
import GoSem.ClaimMapViews
import Derived.JoinedTies
import Derived.KernelRfl
namespace Go.Proofs.YtfknjandappekaaGreat
/- THE CELL 'sum', in the pinned program and in every row, IS THE sha256 OF THE DUMP (.gsa) THAT YtfknjandappekaaGreatProg.lean LOADS. Nothing in Lean hashes anything: it is a label: what it is worth is what the hold of that sum in a sandbox is worth. -/
noncomputable def Tryz.pinned : Pinned := { name := "ytfknjandappekaagreat", sum := "75c612943cbcf2c951c38fec6a140aae931c3197f0a61393970b8483c1e7b23b", checked := Tryz.checked }
namespace Rows
def none {H : Type} : Left H := { results := [], args := [] }

/-- 'lockkeeperlaw17.ChangeMakes': WHATEVER THE INPUT: true; the input reads as it did. -/
def changeMakesSpec : ChangeSpec := { name := "changeMakes", fn := fun _ => fun
  | [d1, d2, d3] => { results := [.lit (.bool true)], args := [d1, d2, d3] }
  | _ => none }
def changeMakesRow : OpenClaim := { program := "ytfknjandappekaagreat", sum := "75c612943cbcf2c951c38fec6a140aae931c3197f0a61393970b8483c1e7b23b", func := "lockkeeper/lockkeeperlaw17.ChangeMakes", spec := "changeMakes", inPlace := ["slices.overlaps[lockkeeper/api.Page]"], unfollowed := true, recurses := true, apart := false }
def ChangeMakesSaid : Prop := changeMakesRow.holds Tryz.pinned (OpenSpec.ofChange changeMakesSpec)

/-- ITS FALSE NEIGHBOUR: 'it returns false'. Refute it at one input. -/
def changeMakesWrong : ChangeSpec := { name := "changeMakes", fn := fun _ => fun
  | [d1, d2, d3] => { results := [.lit (.bool false)], args := [d1, d2, d3] }
  | _ => none }
def ChangeMakesWrongFalsely : Prop := changeMakesRow.holds Tryz.pinned (OpenSpec.ofChange changeMakesWrong)

/-- 'lockkeeperlaw17.ChangeApplies': WHATEVER THE INPUT: true; the input reads as it did. -/
def changeAppliesSpec : ChangeSpec := { name := "changeApplies", fn := fun _ => fun
  | [d1, d2] => { results := [.lit (.bool true)], args := [d1, d2] }
  | _ => none }
def changeAppliesRow : OpenClaim := { program := "ytfknjandappekaagreat", sum := "75c612943cbcf2c951c38fec6a140aae931c3197f0a61393970b8483c1e7b23b", func := "lockkeeper/lockkeeperlaw17.ChangeApplies", spec := "changeApplies", inPlace := ["slices.overlaps[lockkeeper/api.Page]"], unfollowed := true, recurses := true, apart := false }
def ChangeAppliesSaid : Prop := changeAppliesRow.holds Tryz.pinned (OpenSpec.ofChange changeAppliesSpec)

/-- ITS FALSE NEIGHBOUR: 'it returns false'. Refute it at one input. -/
def changeAppliesWrong : ChangeSpec := { name := "changeApplies", fn := fun _ => fun
  | [d1, d2] => { results := [.lit (.bool false)], args := [d1, d2] }
  | _ => none }
def ChangeAppliesWrongFalsely : Prop := changeAppliesRow.holds Tryz.pinned (OpenSpec.ofChange changeAppliesWrong)

/-- 'lockkeeperlaw17.ChangeAsks': WHATEVER THE INPUT: true; the input reads as it did. -/
def changeAsksSpec : ChangeSpec := { name := "changeAsks", fn := fun _ => fun
  | [d1, d2] => { results := [.lit (.bool true)], args := [d1, d2] }
  | _ => none }
def changeAsksRow : OpenClaim := { program := "ytfknjandappekaagreat", sum := "75c612943cbcf2c951c38fec6a140aae931c3197f0a61393970b8483c1e7b23b", func := "lockkeeper/lockkeeperlaw17.ChangeAsks", spec := "changeAsks", inPlace := ["slices.overlaps[lockkeeper/api.Page]"], unfollowed := true, recurses := true, apart := false }
def ChangeAsksSaid : Prop := changeAsksRow.holds Tryz.pinned (OpenSpec.ofChange changeAsksSpec)

/-- ITS FALSE NEIGHBOUR: 'it returns false'. Refute it at one input. -/
def changeAsksWrong : ChangeSpec := { name := "changeAsks", fn := fun _ => fun
  | [d1, d2] => { results := [.lit (.bool false)], args := [d1, d2] }
  | _ => none }
def ChangeAsksWrongFalsely : Prop := changeAsksRow.holds Tryz.pinned (OpenSpec.ofChange changeAsksWrong)

/- THE SECOND FORM. 'bulk': how many values and letters a reading holds, each counted each time it is reached (what is shared counts as often as it is met; a slice's spare places count too). A statement '..UptoSaid' is the law's where the arguments, and the package variables that the reading takes, are together of bulk at most 1048576: NARROWER than '..Said'. Prove '..Said' where nothing that the law and all that it calls make is longer than what came in: it says more and counts as full. Else prove '..UptoSaid'. A law counts once. -/
mutual
def uptoBulk {H : Type} : DataW H → Nat
  | .lit (.string bytes) => bytes.length + 1
  | .lit _ => 1
  | .nil => 1
  | .ptr d => uptoBulk d + 1
  | .slice elems spare => uptoBulkAll elems + uptoBulkAll spare + 1
  | .agg parts => uptoBulkAll parts + 1
  | .iface _ d => uptoBulk d + 1
  | .map entries => uptoBulkEntries entries + 1
  | .held _ => 1
def uptoBulkAll {H : Type} : List (DataW H) → Nat
  | [] => 0
  | d :: r => uptoBulk d + uptoBulkAll r
def uptoBulkEntries {H : Type} : List (Lit × DataW H) → Nat
  | [] => 0
  | x :: r => uptoBulkEntry x + uptoBulkEntries r
def uptoBulkEntry {H : Type} : Lit × DataW H → Nat
  | (.string bytes, d) => bytes.length + uptoBulk d + 1
  | (_, d) => uptoBulk d + 1
 end
def uptoSmall : (H : Type) → List (DataW H) → Bool := fun _ ds => decide (uptoBulkAll ds ≤ 1048576)
def OpenSpec.upto (s : _root_.Go.ChangeSpec) : _root_.Go.OpenSpec := { _root_.Go.OpenSpec.ofChange s with cond := some uptoSmall }

/-- 'lockkeeperlaw17.ChangeMakes', WHERE WHAT IT READS IS OF BULK AT MOST 1048576: true; the input reads as it did. -/
def changeMakesUptoRow : OpenClaim := { program := "ytfknjandappekaagreat", sum := "75c612943cbcf2c951c38fec6a140aae931c3197f0a61393970b8483c1e7b23b", func := "lockkeeper/lockkeeperlaw17.ChangeMakes", spec := "changeMakes", inPlace := ["slices.overlaps[lockkeeper/api.Page]"], unfollowed := true, recurses := true, apart := false, narrowed := true }
def ChangeMakesUptoSaid : Prop := changeMakesUptoRow.holds Tryz.pinned (OpenSpec.upto changeMakesSpec)

/-- 'lockkeeperlaw17.ChangeApplies', WHERE WHAT IT READS IS OF BULK AT MOST 1048576: true; the input reads as it did. -/
def changeAppliesUptoRow : OpenClaim := { program := "ytfknjandappekaagreat", sum := "75c612943cbcf2c951c38fec6a140aae931c3197f0a61393970b8483c1e7b23b", func := "lockkeeper/lockkeeperlaw17.ChangeApplies", spec := "changeApplies", inPlace := ["slices.overlaps[lockkeeper/api.Page]"], unfollowed := true, recurses := true, apart := false, narrowed := true }
def ChangeAppliesUptoSaid : Prop := changeAppliesUptoRow.holds Tryz.pinned (OpenSpec.upto changeAppliesSpec)

/-- 'lockkeeperlaw17.ChangeAsks', WHERE WHAT IT READS IS OF BULK AT MOST 1048576: true; the input reads as it did. -/
def changeAsksUptoRow : OpenClaim := { program := "ytfknjandappekaagreat", sum := "75c612943cbcf2c951c38fec6a140aae931c3197f0a61393970b8483c1e7b23b", func := "lockkeeper/lockkeeperlaw17.ChangeAsks", spec := "changeAsks", inPlace := ["slices.overlaps[lockkeeper/api.Page]"], unfollowed := true, recurses := true, apart := false, narrowed := true }
def ChangeAsksUptoSaid : Prop := changeAsksUptoRow.holds Tryz.pinned (OpenSpec.upto changeAsksSpec)

end Rows
end Go.Proofs.YtfknjandappekaaGreat
