/-
  No cell of these rows narrows 'for every input' (looked for: loops, veiled, ifaces, maps, wideKeys, modest, calm, conditions, laid).
  DERIVED. THE GIVEN ROWS OF THIS SEAT. 5 by the template 'for every input the law returns true; each argument reads behind the call as it read before'; 0 by the template 'total and deterministic' (their statements: YtikfnhhebnhlmaaTotals.lean).
  GIVEN WITH THE SEED: the statements are not yours to turn. If you find one false, say at which input.
  Laid BY PROGRAM, IN A SANDBOX (cutbox-rows.mjs): the forced cells as the released guide's own fill.sh prints them over the translation d9355a63ece4725b… (all of the seat's roots in one cut). By AI agents, Wed Nov 11 2026. No macro, syntax, notation, axiom, sorry.
-/
import Derived.Test.YtikfnhhebnhlmaaChecked
import GoSem.Claim
import GoSem.ClaimJoined
import GoSem.ClaimMapViews
import Derived.JoinedTies
import Derived.KernelRfl
namespace Go.Proofs.Ytikfnhhebnhlmaa
/- THE CELL 'sum', in the pinned program and in every row, IS THE sha256 OF THE DUMP (.gsa) THAT YtikfnhhebnhlmaaProg.lean LOADS. Nothing in Lean hashes anything: it is a label: what it is worth is what the hold of that sum in a sandbox is worth. -/
noncomputable def Try.pinned : Pinned := { name := "ytikfnhhebnhlmaa", sum := "d9355a63ece4725bf7b97da8d936c08a3dedecda36fbdef64ae592d2fb7fc310", checked := Try.checked }
namespace Rows
def none {H : Type} : Left H := { results := [], args := [] }

/-- 'lockkeeperlaw15.SplitTurns': WHATEVER THE INPUT: true; the input reads as it did. -/
def splitTurnsSpec : ChangeSpec := { name := "splitTurns", fn := fun _ => fun
  | [d1, d2] => { results := [.lit (.bool true)], args := [d1, d2] }
  | _ => none }
def splitTurnsRow : OpenClaim := { program := "ytikfnhhebnhlmaa", sum := "d9355a63ece4725bf7b97da8d936c08a3dedecda36fbdef64ae592d2fb7fc310", func := "lockkeeper/lockkeeperlaw15.SplitTurns", spec := "splitTurns", unfollowed := true, recurses := true, apart := false }
def SplitTurnsSaid : Prop := splitTurnsRow.holds Try.pinned (OpenSpec.ofChange splitTurnsSpec)

/-- ITS FALSE NEIGHBOUR: 'it returns false'. Refute it at one input. -/
def splitTurnsWrong : ChangeSpec := { name := "splitTurns", fn := fun _ => fun
  | [d1, d2] => { results := [.lit (.bool false)], args := [d1, d2] }
  | _ => none }
def SplitTurnsWrongFalsely : Prop := splitTurnsRow.holds Try.pinned (OpenSpec.ofChange splitTurnsWrong)

/-- 'lockkeeperlaw15.SplitPosts': WHATEVER THE INPUT: true; the input reads as it did. -/
def splitPostsSpec : ChangeSpec := { name := "splitPosts", fn := fun _ => fun
  | [d1, d2, d3] => { results := [.lit (.bool true)], args := [d1, d2, d3] }
  | _ => none }
def splitPostsRow : OpenClaim := { program := "ytikfnhhebnhlmaa", sum := "d9355a63ece4725bf7b97da8d936c08a3dedecda36fbdef64ae592d2fb7fc310", func := "lockkeeper/lockkeeperlaw15.SplitPosts", spec := "splitPosts", unfollowed := true, recurses := true, apart := false }
def SplitPostsSaid : Prop := splitPostsRow.holds Try.pinned (OpenSpec.ofChange splitPostsSpec)

/-- ITS FALSE NEIGHBOUR: 'it returns false'. Refute it at one input. -/
def splitPostsWrong : ChangeSpec := { name := "splitPosts", fn := fun _ => fun
  | [d1, d2, d3] => { results := [.lit (.bool false)], args := [d1, d2, d3] }
  | _ => none }
def SplitPostsWrongFalsely : Prop := splitPostsRow.holds Try.pinned (OpenSpec.ofChange splitPostsWrong)

/-- 'lockkeeperlaw15.SplitKeeps': WHATEVER THE INPUT: true; the input reads as it did. -/
def splitKeepsSpec : ChangeSpec := { name := "splitKeeps", fn := fun _ => fun
  | [d1, d2, d3] => { results := [.lit (.bool true)], args := [d1, d2, d3] }
  | _ => none }
def splitKeepsRow : OpenClaim := { program := "ytikfnhhebnhlmaa", sum := "d9355a63ece4725bf7b97da8d936c08a3dedecda36fbdef64ae592d2fb7fc310", func := "lockkeeper/lockkeeperlaw15.SplitKeeps", spec := "splitKeeps", unfollowed := true, recurses := true, apart := false }
def SplitKeepsSaid : Prop := splitKeepsRow.holds Try.pinned (OpenSpec.ofChange splitKeepsSpec)

/-- ITS FALSE NEIGHBOUR: 'it returns false'. Refute it at one input. -/
def splitKeepsWrong : ChangeSpec := { name := "splitKeeps", fn := fun _ => fun
  | [d1, d2, d3] => { results := [.lit (.bool false)], args := [d1, d2, d3] }
  | _ => none }
def SplitKeepsWrongFalsely : Prop := splitKeepsRow.holds Try.pinned (OpenSpec.ofChange splitKeepsWrong)

/-- 'lockkeeperlaw15.SplitForest': WHATEVER THE INPUT: true; the input reads as it did. -/
def splitForestSpec : ChangeSpec := { name := "splitForest", fn := fun _ => fun
  | [d1, d2, d3] => { results := [.lit (.bool true)], args := [d1, d2, d3] }
  | _ => none }
def splitForestRow : OpenClaim := { program := "ytikfnhhebnhlmaa", sum := "d9355a63ece4725bf7b97da8d936c08a3dedecda36fbdef64ae592d2fb7fc310", func := "lockkeeper/lockkeeperlaw15.SplitForest", spec := "splitForest", unfollowed := true, recurses := true, apart := false }
def SplitForestSaid : Prop := splitForestRow.holds Try.pinned (OpenSpec.ofChange splitForestSpec)

/-- ITS FALSE NEIGHBOUR: 'it returns false'. Refute it at one input. -/
def splitForestWrong : ChangeSpec := { name := "splitForest", fn := fun _ => fun
  | [d1, d2, d3] => { results := [.lit (.bool false)], args := [d1, d2, d3] }
  | _ => none }
def SplitForestWrongFalsely : Prop := splitForestRow.holds Try.pinned (OpenSpec.ofChange splitForestWrong)

/-- 'lockkeeperlaw15.SplitSizes': WHATEVER THE INPUT: true; the input reads as it did. -/
def splitSizesSpec : ChangeSpec := { name := "splitSizes", fn := fun _ => fun
  | [d1, d2] => { results := [.lit (.bool true)], args := [d1, d2] }
  | _ => none }
def splitSizesRow : OpenClaim := { program := "ytikfnhhebnhlmaa", sum := "d9355a63ece4725bf7b97da8d936c08a3dedecda36fbdef64ae592d2fb7fc310", func := "lockkeeper/lockkeeperlaw15.SplitSizes", spec := "splitSizes", unfollowed := true, recurses := true, apart := false }
def SplitSizesSaid : Prop := splitSizesRow.holds Try.pinned (OpenSpec.ofChange splitSizesSpec)

/-- ITS FALSE NEIGHBOUR: 'it returns false'. Refute it at one input. -/
def splitSizesWrong : ChangeSpec := { name := "splitSizes", fn := fun _ => fun
  | [d1, d2] => { results := [.lit (.bool false)], args := [d1, d2] }
  | _ => none }
def SplitSizesWrongFalsely : Prop := splitSizesRow.holds Try.pinned (OpenSpec.ofChange splitSizesWrong)

/- THE SECOND FORM. 'bulk': how many values and letters a reading holds, each counted each time it is reached (what is shared counts as often as it is met; a slice's spare places count too). A statement '..UptoSaid' is the law's where the arguments, and the package variables that the reading takes, are together of bulk at most 1048576: NARROWER than '..Said'. Prove '..Said' where nothing that the law and all that it calls make is longer than what came in: it says more and counts as full. Else prove '..UptoSaid'. A law counts once. -/
mutual
def uptoBulk {H : Type} : DataW H → Nat
  | .lit (.string bytes) => bytes.length + 1
  | .lit _ => 1
  | .nil => 1
  | .ptr d => uptoBulk d + 1
  | .slice elems spare => uptoBulkAll elems + uptoBulkAll spare + 1
  | .agg parts => uptoBulkAll parts + 1
  | .iface _ d => uptoBulk d + 1
  | .map entries => uptoBulkEntries entries + 1
  | .held _ => 1
def uptoBulkAll {H : Type} : List (DataW H) → Nat
  | [] => 0
  | d :: r => uptoBulk d + uptoBulkAll r
def uptoBulkEntries {H : Type} : List (Lit × DataW H) → Nat
  | [] => 0
  | x :: r => uptoBulkEntry x + uptoBulkEntries r
def uptoBulkEntry {H : Type} : Lit × DataW H → Nat
  | (.string bytes, d) => bytes.length + uptoBulk d + 1
  | (_, d) => uptoBulk d + 1
 end
def uptoSmall : (H : Type) → List (DataW H) → Bool := fun _ ds => decide (uptoBulkAll ds ≤ 1048576)
def OpenSpec.upto (s : _root_.Go.ChangeSpec) : _root_.Go.OpenSpec := { _root_.Go.OpenSpec.ofChange s with cond := some uptoSmall }

/-- 'lockkeeperlaw15.SplitTurns', WHERE WHAT IT READS IS OF BULK AT MOST 1048576: true; the input reads as it did. -/
def splitTurnsUptoRow : OpenClaim := { program := "ytikfnhhebnhlmaa", sum := "d9355a63ece4725bf7b97da8d936c08a3dedecda36fbdef64ae592d2fb7fc310", func := "lockkeeper/lockkeeperlaw15.SplitTurns", spec := "splitTurns", unfollowed := true, recurses := true, apart := false, narrowed := true }
def SplitTurnsUptoSaid : Prop := splitTurnsUptoRow.holds Try.pinned (OpenSpec.upto splitTurnsSpec)

/-- 'lockkeeperlaw15.SplitPosts', WHERE WHAT IT READS IS OF BULK AT MOST 1048576: true; the input reads as it did. -/
def splitPostsUptoRow : OpenClaim := { program := "ytikfnhhebnhlmaa", sum := "d9355a63ece4725bf7b97da8d936c08a3dedecda36fbdef64ae592d2fb7fc310", func := "lockkeeper/lockkeeperlaw15.SplitPosts", spec := "splitPosts", unfollowed := true, recurses := true, apart := false, narrowed := true }
def SplitPostsUptoSaid : Prop := splitPostsUptoRow.holds Try.pinned (OpenSpec.upto splitPostsSpec)

/-- 'lockkeeperlaw15.SplitKeeps', WHERE WHAT IT READS IS OF BULK AT MOST 1048576: true; the input reads as it did. -/
def splitKeepsUptoRow : OpenClaim := { program := "ytikfnhhebnhlmaa", sum := "d9355a63ece4725bf7b97da8d936c08a3dedecda36fbdef64ae592d2fb7fc310", func := "lockkeeper/lockkeeperlaw15.SplitKeeps", spec := "splitKeeps", unfollowed := true, recurses := true, apart := false, narrowed := true }
def SplitKeepsUptoSaid : Prop := splitKeepsUptoRow.holds Try.pinned (OpenSpec.upto splitKeepsSpec)

/-- 'lockkeeperlaw15.SplitForest', WHERE WHAT IT READS IS OF BULK AT MOST 1048576: true; the input reads as it did. -/
def splitForestUptoRow : OpenClaim := { program := "ytikfnhhebnhlmaa", sum := "d9355a63ece4725bf7b97da8d936c08a3dedecda36fbdef64ae592d2fb7fc310", func := "lockkeeper/lockkeeperlaw15.SplitForest", spec := "splitForest", unfollowed := true, recurses := true, apart := false, narrowed := true }
def SplitForestUptoSaid : Prop := splitForestUptoRow.holds Try.pinned (OpenSpec.upto splitForestSpec)

/-- 'lockkeeperlaw15.SplitSizes', WHERE WHAT IT READS IS OF BULK AT MOST 1048576: true; the input reads as it did. -/
def splitSizesUptoRow : OpenClaim := { program := "ytikfnhhebnhlmaa", sum := "d9355a63ece4725bf7b97da8d936c08a3dedecda36fbdef64ae592d2fb7fc310", func := "lockkeeper/lockkeeperlaw15.SplitSizes", spec := "splitSizes", unfollowed := true, recurses := true, apart := false, narrowed := true }
def SplitSizesUptoSaid : Prop := splitSizesUptoRow.holds Try.pinned (OpenSpec.upto splitSizesSpec)

end Rows
end Go.Proofs.Ytikfnhhebnhlmaa
