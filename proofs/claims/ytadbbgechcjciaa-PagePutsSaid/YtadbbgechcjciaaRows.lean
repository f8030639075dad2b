/-
  No cell of these rows narrows 'for every input' (looked for: loops, veiled, ifaces, maps, wideKeys, modest, calm, conditions, laid).
  DERIVED. THE GIVEN ROWS OF THIS SEAT. 3 by the template 'for every input the law returns true; each argument reads behind the call as it read before'; 0 by the template 'total and deterministic' (their statements: YtadbbgechcjciaaTotals.lean).
  GIVEN WITH THE SEED: the statements are not yours to turn. If you find one false, say at which input.
  Laid BY PROGRAM, IN A SANDBOX (cutbox-rows.mjs): the forced cells as the released guide's own fill.sh prints them over the translation bf74bdc71fa4e5c4… (all of the seat's roots in one cut). By AI agents, Wed Nov 11 2026. No macro, syntax, notation, axiom, sorry.
-/
import Derived.Test.YtadbbgechcjciaaChecked
import GoSem.Claim
import GoSem.ClaimJoined
import GoSem.ClaimMapViews
import Derived.JoinedTies
import Derived.KernelRfl
namespace Go.Proofs.Ytadbbgechcjciaa
/- THE CELL 'sum', in the pinned program and in every row, IS THE sha256 OF THE DUMP (.gsa) THAT YtadbbgechcjciaaProg.lean LOADS. Nothing in Lean hashes anything: it is a label: what it is worth is what the hold of that sum in a sandbox is worth. -/
noncomputable def Try.pinned : Pinned := { name := "ytadbbgechcjciaa", sum := "bf74bdc71fa4e5c4faafddf3f5fa20a638ca0c0e46ad35c730a566691aa09354", checked := Try.checked }
namespace Rows
def none {H : Type} : Left H := { results := [], args := [] }

/-- 'lockkeeperlaw11.PagePuts': WHATEVER THE INPUT: true; the input reads as it did. -/
def pagePutsSpec : ChangeSpec := { name := "pagePuts", fn := fun _ => fun
  | [d] => { results := [.lit (.bool true)], args := [d] }
  | _ => none }
def pagePutsRow : OpenClaim := { program := "ytadbbgechcjciaa", sum := "bf74bdc71fa4e5c4faafddf3f5fa20a638ca0c0e46ad35c730a566691aa09354", func := "lockkeeper/lockkeeperlaw11.PagePuts", spec := "pagePuts", unfollowed := true, recurses := true, apart := false }
def PagePutsSaid : Prop := pagePutsRow.holds Try.pinned (OpenSpec.ofChange pagePutsSpec)

/-- ITS FALSE NEIGHBOUR: 'it returns false'. Refute it at one input. -/
def pagePutsWrong : ChangeSpec := { name := "pagePuts", fn := fun _ => fun
  | [d] => { results := [.lit (.bool false)], args := [d] }
  | _ => none }
def PagePutsWrongFalsely : Prop := pagePutsRow.holds Try.pinned (OpenSpec.ofChange pagePutsWrong)

/-- 'lockkeeperlaw11.PageChild': WHATEVER THE INPUT: true; the input reads as it did. -/
def pageChildSpec : ChangeSpec := { name := "pageChild", fn := fun _ => fun
  | [d1, d2, d3] => { results := [.lit (.bool true)], args := [d1, d2, d3] }
  | _ => none }
def pageChildRow : OpenClaim := { program := "ytadbbgechcjciaa", sum := "bf74bdc71fa4e5c4faafddf3f5fa20a638ca0c0e46ad35c730a566691aa09354", func := "lockkeeper/lockkeeperlaw11.PageChild", spec := "pageChild", unfollowed := true, recurses := true, apart := false }
def PageChildSaid : Prop := pageChildRow.holds Try.pinned (OpenSpec.ofChange pageChildSpec)

/-- ITS FALSE NEIGHBOUR: 'it returns false'. Refute it at one input. -/
def pageChildWrong : ChangeSpec := { name := "pageChild", fn := fun _ => fun
  | [d1, d2, d3] => { results := [.lit (.bool false)], args := [d1, d2, d3] }
  | _ => none }
def PageChildWrongFalsely : Prop := pageChildRow.holds Try.pinned (OpenSpec.ofChange pageChildWrong)

/-- 'lockkeeperlaw11.PageKids': WHATEVER THE INPUT: true; the input reads as it did. -/
def pageKidsSpec : ChangeSpec := { name := "pageKids", fn := fun _ => fun
  | [d1, d2] => { results := [.lit (.bool true)], args := [d1, d2] }
  | _ => none }
def pageKidsRow : OpenClaim := { program := "ytadbbgechcjciaa", sum := "bf74bdc71fa4e5c4faafddf3f5fa20a638ca0c0e46ad35c730a566691aa09354", func := "lockkeeper/lockkeeperlaw11.PageKids", spec := "pageKids", unfollowed := true, recurses := true, apart := false }
def PageKidsSaid : Prop := pageKidsRow.holds Try.pinned (OpenSpec.ofChange pageKidsSpec)

/-- ITS FALSE NEIGHBOUR: 'it returns false'. Refute it at one input. -/
def pageKidsWrong : ChangeSpec := { name := "pageKids", fn := fun _ => fun
  | [d1, d2] => { results := [.lit (.bool false)], args := [d1, d2] }
  | _ => none }
def PageKidsWrongFalsely : Prop := pageKidsRow.holds Try.pinned (OpenSpec.ofChange pageKidsWrong)

/- THE SECOND FORM. 'bulk': how many values and letters a reading holds, each counted each time it is reached (what is shared counts as often as it is met; a slice's spare places count too). A statement '..UptoSaid' is the law's where the arguments, and the package variables that the reading takes, are together of bulk at most 1048576: NARROWER than '..Said'. Prove '..Said' where nothing that the law and all that it calls make is longer than what came in: it says more and counts as full. Else prove '..UptoSaid'. A law counts once. -/
mutual
def uptoBulk {H : Type} : DataW H → Nat
  | .lit (.string bytes) => bytes.length + 1
  | .lit _ => 1
  | .nil => 1
  | .ptr d => uptoBulk d + 1
  | .slice elems spare => uptoBulkAll elems + uptoBulkAll spare + 1
  | .agg parts => uptoBulkAll parts + 1
  | .iface _ d => uptoBulk d + 1
  | .map entries => uptoBulkEntries entries + 1
  | .held _ => 1
def uptoBulkAll {H : Type} : List (DataW H) → Nat
  | [] => 0
  | d :: r => uptoBulk d + uptoBulkAll r
def uptoBulkEntries {H : Type} : List (Lit × DataW H) → Nat
  | [] => 0
  | x :: r => uptoBulkEntry x + uptoBulkEntries r
def uptoBulkEntry {H : Type} : Lit × DataW H → Nat
  | (.string bytes, d) => bytes.length + uptoBulk d + 1
  | (_, d) => uptoBulk d + 1
 end
def uptoSmall : (H : Type) → List (DataW H) → Bool := fun _ ds => decide (uptoBulkAll ds ≤ 1048576)
def OpenSpec.upto (s : _root_.Go.ChangeSpec) : _root_.Go.OpenSpec := { _root_.Go.OpenSpec.ofChange s with cond := some uptoSmall }

/-- 'lockkeeperlaw11.PagePuts', WHERE WHAT IT READS IS OF BULK AT MOST 1048576: true; the input reads as it did. -/
def pagePutsUptoRow : OpenClaim := { program := "ytadbbgechcjciaa", sum := "bf74bdc71fa4e5c4faafddf3f5fa20a638ca0c0e46ad35c730a566691aa09354", func := "lockkeeper/lockkeeperlaw11.PagePuts", spec := "pagePuts", unfollowed := true, recurses := true, apart := false, narrowed := true }
def PagePutsUptoSaid : Prop := pagePutsUptoRow.holds Try.pinned (OpenSpec.upto pagePutsSpec)

/-- 'lockkeeperlaw11.PageChild', WHERE WHAT IT READS IS OF BULK AT MOST 1048576: true; the input reads as it did. -/
def pageChildUptoRow : OpenClaim := { program := "ytadbbgechcjciaa", sum := "bf74bdc71fa4e5c4faafddf3f5fa20a638ca0c0e46ad35c730a566691aa09354", func := "lockkeeper/lockkeeperlaw11.PageChild", spec := "pageChild", unfollowed := true, recurses := true, apart := false, narrowed := true }
def PageChildUptoSaid : Prop := pageChildUptoRow.holds Try.pinned (OpenSpec.upto pageChildSpec)

/-- 'lockkeeperlaw11.PageKids', WHERE WHAT IT READS IS OF BULK AT MOST 1048576: true; the input reads as it did. -/
def pageKidsUptoRow : OpenClaim := { program := "ytadbbgechcjciaa", sum := "bf74bdc71fa4e5c4faafddf3f5fa20a638ca0c0e46ad35c730a566691aa09354", func := "lockkeeper/lockkeeperlaw11.PageKids", spec := "pageKids", unfollowed := true, recurses := true, apart := false, narrowed := true }
def PageKidsUptoSaid : Prop := pageKidsUptoRow.holds Try.pinned (OpenSpec.upto pageKidsSpec)

end Rows
end Go.Proofs.Ytadbbgechcjciaa
