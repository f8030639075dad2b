/- The row of the law lockkeeper/lockkeeperlaw03.SpanMembers: for every input the call hands back true and leaves what it was handed as it was. Out of its pure statement and the walk. No conditions. -/
import Derived.Test.YtmekkbhgeijndaaRows
import Derived.Test.YtmekkbhgeijndaaZ8
import Derived.Test.YtmekkbhgeijndaaPureSpanMembers
import Derived.Test.YtmekkbhgeijndaaXOpen
import Derived.WalkKit
import Derived.ProofKit
import Derived.OpenShut
import Derived.ShutString
import Derived.ChangeOld
import Derived.Below
import Derived.SizedLaws
import Derived.Carry
namespace Go.Proofs.Ytmekkbhgeijndaa.spanMembers
open Go.ChangeShapes Go.WideShapes Go.ChangeAt Go.RowKit
open Go.ChangeMaps (open_string shut_string)
open Go.Proofs.YtmekkbhgeijndaaW.XOpen Go.Proofs.YtmekkbhgeijndaaW.PrintWords
set_option linter.unusedVariables false
theorem own : ownKnob Try.prog.godebug = none := by kernel_rfl
theorem laidOut : laidOutB Try.prog = true := by kernel_rfl
set_option maxRecDepth 100000 in
theorem lifted (os : Os) (started : os.Started) (H : Type) (enc : TypeId × Value → H) :
    ReturnsInHanded {} Try.checked os 6 .any (Rows.spanMembersSpec.pre6 enc Try.prog Try.f6 Rows.spanMembersRow.domain false) (Rows.spanMembersSpec.post enc Try.prog Try.f6 false true false false) := by
  refine returnsInHanded_of_change_sized (C := Try.checked) own started (by kernel_rfl) Try.func6
    (ChangeSpec.witness6 (enc := enc) (C := Try.checked) false ⟨#[], #[.agg #[.string ByteArray.empty, .string ByteArray.empty, .bool false], .agg #[.string ByteArray.empty, .string ByteArray.empty, .bool false], .string ByteArray.empty], []⟩ 8 (by kernel_rfl) (by kernel_rfl) (by kernel_rfl) (by kernel_rfl)) ?_
  intro W base args ds gs before hval0 hW hcnd hsz0 _
  have hsz : (DataW.weightsEach Try.prog (Try.f6.params.toList ++ Rows.spanMembersSpec.plain.varTypes Try.prog) (ds ++ gs)).all (· ≤ reachBytes) = true := hsz0
  have hval : ∀ (j : Nat) t v, Try.f6.params[j]? = some t → args[j]? = some v → Value.okWide Try.prog W .any base t v := hval0
  have hW' := hW
  obtain ⟨p, q, hA0, hV, rfl, hfz, hnd⟩ := hW
  have hA : DataW.TrodAll enc Try.prog W 0 (fun _ => true) true Try.f6.params.toList args.toList ds p := hA0
  rw [Try.params6] at hA hval hsz
  obtain ⟨v0, vs0, d0, ds0, p0, q0, hargs, rfl, rfl, h0, r0⟩ := trodAll_cons hA
  obtain ⟨v1, vs1, d1, ds1, p1, q1, rfl, rfl, rfl, h1, r1⟩ := trodAll_cons r0
  obtain ⟨v2, vs2, d2, ds2, p2, q2, rfl, rfl, rfl, h2, r2⟩ := trodAll_cons r1
  obtain ⟨rfl, rfl, rfl⟩ := trodAll_nil r2
  obtain rfl : args = #[v0, v1, v2] := by cases args; simp_all
  obtain ⟨rfl, rfl⟩ := trodVars_none hV
  have k0 := h0
  have lt0 : ∀ x ∈ p0, x.block < W.heap.size := by obtain ⟨m, hm⟩ := k0; exact DataW.trod_lt m _ _ _ hm
  obtain ⟨x0, hK0, hS0⟩ := opened (j := 0) (t := 31) (show Opens Try.prog 31 Z.k31 (fun x_ => Z.Sm31 x_) from Z.opens31) hsz rfl rfl h0
  obtain ⟨cs0, hcs0⟩ : ∃ cs, cs = v0.cells.toList := ⟨_, rfl⟩
  rw [← hcs0] at hK0
  obtain ⟨_, _, rfl, rfl, ⟨_, _, rfl, rfl, rfl⟩⟩ := hK0
  obtain rfl : v0 = .agg #[.string x0.f0, .string x0.f1, .bool x0.f2] := opened_agg Try.underlying31 (hval 0 31 v0 rfl rfl) (l := [.string x0.f0, .string x0.f1, .bool x0.f2]) hcs0.symm
  have k1 := h1
  have lt1 : ∀ x ∈ p1, x.block < W.heap.size := by obtain ⟨m, hm⟩ := k1; exact DataW.trod_lt m _ _ _ hm
  obtain ⟨x1, hK1, hS1⟩ := opened (j := 1) (t := 31) (show Opens Try.prog 31 Z.k31 (fun x_ => Z.Sm31 x_) from Z.opens31) hsz rfl rfl h1
  obtain ⟨cs1, hcs1⟩ : ∃ cs, cs = v1.cells.toList := ⟨_, rfl⟩
  rw [← hcs1] at hK1
  obtain ⟨_, _, rfl, rfl, ⟨_, _, rfl, rfl, rfl⟩⟩ := hK1
  obtain rfl : v1 = .agg #[.string x1.f0, .string x1.f1, .bool x1.f2] := opened_agg Try.underlying31 (hval 1 31 v1 rfl rfl) (l := [.string x1.f0, .string x1.f1, .bool x1.f2]) hcs1.symm
  obtain ⟨a2, rfl, rfl, rfl, y2⟩ := open_string Try.underlying9 (hval 2 9 v2 rfl rfl) h2
  have w2 : a2.size ≤ 140737488351232 := by
    have z := sized_string hsz (j := 2) (t := 9) rfl rfl
    rw [Array.length_toList] at z
    exact z
  clear hA0 hval0 hsz0
  obtain ⟨k, h⟩ := Pure.SpanMembers x0.f0 x0.f1 x0.f2 x1.f0 x1.f1 x1.f2 a2 hS0.1 hS0.2.1 hS1.1 hS1.2.1 w2
  refine (Z.k3_SM.calls k x0.f0 x0.f1 x0.f2 x1.f0 x1.f1 x1.f2 a2 true W  h).mono fun e W' ⟨he, bel0⟩ => ?_
  have bel : Below W.heap.size W W' := bel0
  subst he
  exact ⟨_, rfl, _, _, _, [], _, [], hW', trodAll_mk1 (shut_bool Try.underlying4 _), (trodAll_cons_mk (Below.trod laidOut (by kernel_rfl) (of_decide_eq_true (by kernel_rfl)) k0 bel lt0) (trodAll_cons_mk (Below.trod laidOut (by kernel_rfl) (of_decide_eq_true (by kernel_rfl)) k1 bel lt1) (trodAll_cons_mk (shut_string Try.underlying9 y2) trodAll_mk0))), rfl, bel.frame _, fun h => by cases h⟩
theorem over : Rows.spanMembersRow.holds Try.pinned (OpenSpec.ofChange Rows.spanMembersSpec) :=
  OpenClaim.holds_of_wide 6 Try.f6 rfl rfl rfl rfl rfl rfl rfl ⟨rfl, rfl, rfl, rfl, rfl⟩ rfl rfl rfl rfl rfl (by kernel_rfl) Try.func6 (by kernel_rfl)
    (of_decide_eq_true (by kernel_rfl)) (by unfold Func.isWrapper; first | (rw [if_pos (by decide +kernel)]; kernel_rfl) | (rw [if_neg (by decide +kernel)]; exact ⟨rfl, rfl⟩))
    (fun os started H enc _ => lifted os started H enc)
theorem proved : Rows.SpanMembersSaid := over
#print axioms proved
end Go.Proofs.Ytmekkbhgeijndaa.spanMembers
namespace Go.Proofs.Ytmekkbhgeijndaa
/-- The row, under a short name, for the claim. -/
theorem spanMembers_holds : Rows.SpanMembersSaid := spanMembers.proved
end Go.Proofs.Ytmekkbhgeijndaa
