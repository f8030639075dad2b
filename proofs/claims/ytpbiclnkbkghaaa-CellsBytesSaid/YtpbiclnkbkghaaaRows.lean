/-
  No cell of these rows narrows 'for every input' (looked for: loops, veiled, ifaces, maps, wideKeys, modest, calm, conditions, laid).
  DERIVED. THE GIVEN ROWS OF THIS SEAT. 7 by the template 'for every input the law returns true; each argument reads behind the call as it read before'; 0 by the template 'total and deterministic' (their statements: YtpbiclnkbkghaaaTotals.lean).
  GIVEN WITH THE SEED: the statements are not yours to turn. If you find one false, say at which input.
  Laid BY PROGRAM, IN A SANDBOX (cutbox-rows.mjs): the forced cells as the released guide's own fill.sh prints them over the translation 2d792e1902a893ba… (all of the seat's roots in one cut). By AI agents, Wed Nov 11 2026. No macro, syntax, notation, axiom, sorry.
-/
import Derived.Test.YtpbiclnkbkghaaaChecked
import GoSem.Claim
import GoSem.ClaimJoined
import GoSem.ClaimMapViews
import Derived.JoinedTies
import Derived.KernelRfl
namespace Go.Proofs.Ytpbiclnkbkghaaa
/- THE CELL 'sum', in the pinned program and in every row, IS THE sha256 OF THE DUMP (.gsa) THAT YtpbiclnkbkghaaaProg.lean LOADS. Nothing in Lean hashes anything: it is a label: what it is worth is what the hold of that sum in a sandbox is worth. -/
noncomputable def Try.pinned : Pinned := { name := "ytpbiclnkbkghaaa", sum := "2d792e1902a893ba0a325fa07937dadbb26b62aee43003f9d546647c770f5412", checked := Try.checked }
namespace Rows
def none {H : Type} : Left H := { results := [], args := [] }

/-- 'lockkeeperlaw10.CellsAsks': WHATEVER THE INPUT: true; the input reads as it did. -/
def cellsAsksSpec : ChangeSpec := { name := "cellsAsks", fn := fun _ => fun
  | [d1, d2, d3] => { results := [.lit (.bool true)], args := [d1, d2, d3] }
  | _ => none }
def cellsAsksRow : OpenClaim := { program := "ytpbiclnkbkghaaa", sum := "2d792e1902a893ba0a325fa07937dadbb26b62aee43003f9d546647c770f5412", func := "lockkeeper/lockkeeperlaw10.CellsAsks", spec := "cellsAsks", unfollowed := true, recurses := true, apart := false }
def CellsAsksSaid : Prop := cellsAsksRow.holds Try.pinned (OpenSpec.ofChange cellsAsksSpec)

/-- ITS FALSE NEIGHBOUR: 'it returns false'. Refute it at one input. -/
def cellsAsksWrong : ChangeSpec := { name := "cellsAsks", fn := fun _ => fun
  | [d1, d2, d3] => { results := [.lit (.bool false)], args := [d1, d2, d3] }
  | _ => none }
def CellsAsksWrongFalsely : Prop := cellsAsksRow.holds Try.pinned (OpenSpec.ofChange cellsAsksWrong)

/-- 'lockkeeperlaw10.CellsMeans': WHATEVER THE INPUT: true; the input reads as it did. -/
def cellsMeansSpec : ChangeSpec := { name := "cellsMeans", fn := fun _ => fun
  | [d1, d2, d3] => { results := [.lit (.bool true)], args := [d1, d2, d3] }
  | _ => none }
def cellsMeansRow : OpenClaim := { program := "ytpbiclnkbkghaaa", sum := "2d792e1902a893ba0a325fa07937dadbb26b62aee43003f9d546647c770f5412", func := "lockkeeper/lockkeeperlaw10.CellsMeans", spec := "cellsMeans", unfollowed := true, recurses := true, apart := false }
def CellsMeansSaid : Prop := cellsMeansRow.holds Try.pinned (OpenSpec.ofChange cellsMeansSpec)

/-- ITS FALSE NEIGHBOUR: 'it returns false'. Refute it at one input. -/
def cellsMeansWrong : ChangeSpec := { name := "cellsMeans", fn := fun _ => fun
  | [d1, d2, d3] => { results := [.lit (.bool false)], args := [d1, d2, d3] }
  | _ => none }
def CellsMeansWrongFalsely : Prop := cellsMeansRow.holds Try.pinned (OpenSpec.ofChange cellsMeansWrong)

/-- 'lockkeeperlaw10.CellsOrder': WHATEVER THE INPUT: true; the input reads as it did. -/
def cellsOrderSpec : ChangeSpec := { name := "cellsOrder", fn := fun _ => fun
  | [d1, d2, d3] => { results := [.lit (.bool true)], args := [d1, d2, d3] }
  | _ => none }
def cellsOrderRow : OpenClaim := { program := "ytpbiclnkbkghaaa", sum := "2d792e1902a893ba0a325fa07937dadbb26b62aee43003f9d546647c770f5412", func := "lockkeeper/lockkeeperlaw10.CellsOrder", spec := "cellsOrder", unfollowed := true, recurses := true, apart := false }
def CellsOrderSaid : Prop := cellsOrderRow.holds Try.pinned (OpenSpec.ofChange cellsOrderSpec)

/-- ITS FALSE NEIGHBOUR: 'it returns false'. Refute it at one input. -/
def cellsOrderWrong : ChangeSpec := { name := "cellsOrder", fn := fun _ => fun
  | [d1, d2, d3] => { results := [.lit (.bool false)], args := [d1, d2, d3] }
  | _ => none }
def CellsOrderWrongFalsely : Prop := cellsOrderRow.holds Try.pinned (OpenSpec.ofChange cellsOrderWrong)

/-- 'lockkeeperlaw10.CellsTurns': WHATEVER THE INPUT: true; the input reads as it did. -/
def cellsTurnsSpec : ChangeSpec := { name := "cellsTurns", fn := fun _ => fun
  | [d1, d2, d3] => { results := [.lit (.bool true)], args := [d1, d2, d3] }
  | _ => none }
def cellsTurnsRow : OpenClaim := { program := "ytpbiclnkbkghaaa", sum := "2d792e1902a893ba0a325fa07937dadbb26b62aee43003f9d546647c770f5412", func := "lockkeeper/lockkeeperlaw10.CellsTurns", spec := "cellsTurns", unfollowed := true, recurses := true, apart := false }
def CellsTurnsSaid : Prop := cellsTurnsRow.holds Try.pinned (OpenSpec.ofChange cellsTurnsSpec)

/-- ITS FALSE NEIGHBOUR: 'it returns false'. Refute it at one input. -/
def cellsTurnsWrong : ChangeSpec := { name := "cellsTurns", fn := fun _ => fun
  | [d1, d2, d3] => { results := [.lit (.bool false)], args := [d1, d2, d3] }
  | _ => none }
def CellsTurnsWrongFalsely : Prop := cellsTurnsRow.holds Try.pinned (OpenSpec.ofChange cellsTurnsWrong)

/-- 'lockkeeperlaw10.CellsParts': WHATEVER THE INPUT: true; the input reads as it did. -/
def cellsPartsSpec : ChangeSpec := { name := "cellsParts", fn := fun _ => fun
  | [d] => { results := [.lit (.bool true)], args := [d] }
  | _ => none }
def cellsPartsRow : OpenClaim := { program := "ytpbiclnkbkghaaa", sum := "2d792e1902a893ba0a325fa07937dadbb26b62aee43003f9d546647c770f5412", func := "lockkeeper/lockkeeperlaw10.CellsParts", spec := "cellsParts", unfollowed := true, recurses := true, apart := false }
def CellsPartsSaid : Prop := cellsPartsRow.holds Try.pinned (OpenSpec.ofChange cellsPartsSpec)

/-- ITS FALSE NEIGHBOUR: 'it returns false'. Refute it at one input. -/
def cellsPartsWrong : ChangeSpec := { name := "cellsParts", fn := fun _ => fun
  | [d] => { results := [.lit (.bool false)], args := [d] }
  | _ => none }
def CellsPartsWrongFalsely : Prop := cellsPartsRow.holds Try.pinned (OpenSpec.ofChange cellsPartsWrong)

/-- 'lockkeeperlaw10.CellsSizes': WHATEVER THE INPUT: true; the input reads as it did. -/
def cellsSizesSpec : ChangeSpec := { name := "cellsSizes", fn := fun _ => fun
  | [d1, d2] => { results := [.lit (.bool true)], args := [d1, d2] }
  | _ => none }
def cellsSizesRow : OpenClaim := { program := "ytpbiclnkbkghaaa", sum := "2d792e1902a893ba0a325fa07937dadbb26b62aee43003f9d546647c770f5412", func := "lockkeeper/lockkeeperlaw10.CellsSizes", spec := "cellsSizes", unfollowed := true, recurses := true, apart := false }
def CellsSizesSaid : Prop := cellsSizesRow.holds Try.pinned (OpenSpec.ofChange cellsSizesSpec)

/-- ITS FALSE NEIGHBOUR: 'it returns false'. Refute it at one input. -/
def cellsSizesWrong : ChangeSpec := { name := "cellsSizes", fn := fun _ => fun
  | [d1, d2] => { results := [.lit (.bool false)], args := [d1, d2] }
  | _ => none }
def CellsSizesWrongFalsely : Prop := cellsSizesRow.holds Try.pinned (OpenSpec.ofChange cellsSizesWrong)

/-- 'lockkeeperlaw10.CellsBytes': WHATEVER THE INPUT: true; the input reads as it did. -/
def cellsBytesSpec : ChangeSpec := { name := "cellsBytes", fn := fun _ => fun
  | [d1, d2] => { results := [.lit (.bool true)], args := [d1, d2] }
  | _ => none }
def cellsBytesRow : OpenClaim := { program := "ytpbiclnkbkghaaa", sum := "2d792e1902a893ba0a325fa07937dadbb26b62aee43003f9d546647c770f5412", func := "lockkeeper/lockkeeperlaw10.CellsBytes", spec := "cellsBytes", unfollowed := true, recurses := true, apart := false }
def CellsBytesSaid : Prop := cellsBytesRow.holds Try.pinned (OpenSpec.ofChange cellsBytesSpec)

/-- ITS FALSE NEIGHBOUR: 'it returns false'. Refute it at one input. -/
def cellsBytesWrong : ChangeSpec := { name := "cellsBytes", fn := fun _ => fun
  | [d1, d2] => { results := [.lit (.bool false)], args := [d1, d2] }
  | _ => none }
def CellsBytesWrongFalsely : Prop := cellsBytesRow.holds Try.pinned (OpenSpec.ofChange cellsBytesWrong)

/- THE SECOND FORM. 'bulk': how many values and letters a reading holds, each counted each time it is reached (what is shared counts as often as it is met; a slice's spare places count too). A statement '..UptoSaid' is the law's where the arguments, and the package variables that the reading takes, are together of bulk at most 1048576: NARROWER than '..Said'. Prove '..Said' where nothing that the law and all that it calls make is longer than what came in: it says more and counts as full. Else prove '..UptoSaid'. A law counts once. -/
mutual
def uptoBulk {H : Type} : DataW H → Nat
  | .lit (.string bytes) => bytes.length + 1
  | .lit _ => 1
  | .nil => 1
  | .ptr d => uptoBulk d + 1
  | .slice elems spare => uptoBulkAll elems + uptoBulkAll spare + 1
  | .agg parts => uptoBulkAll parts + 1
  | .iface _ d => uptoBulk d + 1
  | .map entries => uptoBulkEntries entries + 1
  | .held _ => 1
def uptoBulkAll {H : Type} : List (DataW H) → Nat
  | [] => 0
  | d :: r => uptoBulk d + uptoBulkAll r
def uptoBulkEntries {H : Type} : List (Lit × DataW H) → Nat
  | [] => 0
  | x :: r => uptoBulkEntry x + uptoBulkEntries r
def uptoBulkEntry {H : Type} : Lit × DataW H → Nat
  | (.string bytes, d) => bytes.length + uptoBulk d + 1
  | (_, d) => uptoBulk d + 1
 end
def uptoSmall : (H : Type) → List (DataW H) → Bool := fun _ ds => decide (uptoBulkAll ds ≤ 1048576)
def OpenSpec.upto (s : _root_.Go.ChangeSpec) : _root_.Go.OpenSpec := { _root_.Go.OpenSpec.ofChange s with cond := some uptoSmall }

/-- 'lockkeeperlaw10.CellsAsks', WHERE WHAT IT READS IS OF BULK AT MOST 1048576: true; the input reads as it did. -/
def cellsAsksUptoRow : OpenClaim := { program := "ytpbiclnkbkghaaa", sum := "2d792e1902a893ba0a325fa07937dadbb26b62aee43003f9d546647c770f5412", func := "lockkeeper/lockkeeperlaw10.CellsAsks", spec := "cellsAsks", unfollowed := true, recurses := true, apart := false, narrowed := true }
def CellsAsksUptoSaid : Prop := cellsAsksUptoRow.holds Try.pinned (OpenSpec.upto cellsAsksSpec)

/-- 'lockkeeperlaw10.CellsMeans', WHERE WHAT IT READS IS OF BULK AT MOST 1048576: true; the input reads as it did. -/
def cellsMeansUptoRow : OpenClaim := { program := "ytpbiclnkbkghaaa", sum := "2d792e1902a893ba0a325fa07937dadbb26b62aee43003f9d546647c770f5412", func := "lockkeeper/lockkeeperlaw10.CellsMeans", spec := "cellsMeans", unfollowed := true, recurses := true, apart := false, narrowed := true }
def CellsMeansUptoSaid : Prop := cellsMeansUptoRow.holds Try.pinned (OpenSpec.upto cellsMeansSpec)

/-- 'lockkeeperlaw10.CellsOrder', WHERE WHAT IT READS IS OF BULK AT MOST 1048576: true; the input reads as it did. -/
def cellsOrderUptoRow : OpenClaim := { program := "ytpbiclnkbkghaaa", sum := "2d792e1902a893ba0a325fa07937dadbb26b62aee43003f9d546647c770f5412", func := "lockkeeper/lockkeeperlaw10.CellsOrder", spec := "cellsOrder", unfollowed := true, recurses := true, apart := false, narrowed := true }
def CellsOrderUptoSaid : Prop := cellsOrderUptoRow.holds Try.pinned (OpenSpec.upto cellsOrderSpec)

/-- 'lockkeeperlaw10.CellsTurns', WHERE WHAT IT READS IS OF BULK AT MOST 1048576: true; the input reads as it did. -/
def cellsTurnsUptoRow : OpenClaim := { program := "ytpbiclnkbkghaaa", sum := "2d792e1902a893ba0a325fa07937dadbb26b62aee43003f9d546647c770f5412", func := "lockkeeper/lockkeeperlaw10.CellsTurns", spec := "cellsTurns", unfollowed := true, recurses := true, apart := false, narrowed := true }
def CellsTurnsUptoSaid : Prop := cellsTurnsUptoRow.holds Try.pinned (OpenSpec.upto cellsTurnsSpec)

/-- 'lockkeeperlaw10.CellsParts', WHERE WHAT IT READS IS OF BULK AT MOST 1048576: true; the input reads as it did. -/
def cellsPartsUptoRow : OpenClaim := { program := "ytpbiclnkbkghaaa", sum := "2d792e1902a893ba0a325fa07937dadbb26b62aee43003f9d546647c770f5412", func := "lockkeeper/lockkeeperlaw10.CellsParts", spec := "cellsParts", unfollowed := true, recurses := true, apart := false, narrowed := true }
def CellsPartsUptoSaid : Prop := cellsPartsUptoRow.holds Try.pinned (OpenSpec.upto cellsPartsSpec)

/-- 'lockkeeperlaw10.CellsSizes', WHERE WHAT IT READS IS OF BULK AT MOST 1048576: true; the input reads as it did. -/
def cellsSizesUptoRow : OpenClaim := { program := "ytpbiclnkbkghaaa", sum := "2d792e1902a893ba0a325fa07937dadbb26b62aee43003f9d546647c770f5412", func := "lockkeeper/lockkeeperlaw10.CellsSizes", spec := "cellsSizes", unfollowed := true, recurses := true, apart := false, narrowed := true }
def CellsSizesUptoSaid : Prop := cellsSizesUptoRow.holds Try.pinned (OpenSpec.upto cellsSizesSpec)

/-- 'lockkeeperlaw10.CellsBytes', WHERE WHAT IT READS IS OF BULK AT MOST 1048576: true; the input reads as it did. -/
def cellsBytesUptoRow : OpenClaim := { program := "ytpbiclnkbkghaaa", sum := "2d792e1902a893ba0a325fa07937dadbb26b62aee43003f9d546647c770f5412", func := "lockkeeper/lockkeeperlaw10.CellsBytes", spec := "cellsBytes", unfollowed := true, recurses := true, apart := false, narrowed := true }
def CellsBytesUptoSaid : Prop := cellsBytesUptoRow.holds Try.pinned (OpenSpec.upto cellsBytesSpec)

end Rows
end Go.Proofs.Ytpbiclnkbkghaaa
