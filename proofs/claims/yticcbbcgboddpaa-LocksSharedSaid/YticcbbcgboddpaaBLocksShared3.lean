/- For every row of locks, each made a shared one, Ask grants each that may be, none waits, and Holds tells of each that it is held: the law's function hands back true and leaves what it was handed. No conditions. -/
import Derived.Test.YticcbbcgboddpaaBLocksShared2
import Derived.KernelRfl
import Derived.Test.YticcbbcgboddpaaRows
import Derived.WalkKit
import Derived.ProofKit
import Derived.OpenShut
import Derived.ShutString
import Derived.ChangeOld
import Derived.Below
import Derived.SizedLaws
import Derived.Carry
set_option linter.unusedVariables false
set_option maxRecDepth 20000
namespace Go.Proofs.YticcbbcgboddpaaC
open Go Go.Ev Go.Proofs
variable {ρ : Type}
noncomputable def locks_Ask_r0 (k : Nat) (s : TLocks) (a : TLock) (κ : AV → Heap → Option ρ) (v : AV) : Option ρ := resAt ctx k n_locks_Ask 0 [.r, .l, .l] 1 [] ⟨(envOf 69 [(2, .ref 0 0), (3, .ref 1 0), (4, .ref 2 0), (10, .agg (eLocks s)), (11, v)]), [some (.box [.sl 5 s.Held.n (rowOf eLock s.Held.w) s.Held.u, .sl 5 s.Waits.n (rowOf eLock s.Waits.w) s.Waits.u]), some (.box (eLock a)), some (.box [.sl 5 0 (rowOf eLock (fun _ => zLock)) true, .sl 5 0 (rowOf eLock (fun _ => zLock)) true])]⟩ κ
noncomputable def locks_Ask_r1 (k : Nat) (s : TLocks) (a : TLock) (r0 : Int) (κ : AV → Heap → Option ρ) (v : AV) : Option ρ := resAt ctx k n_locks_Ask 0 [.r, .l, .r, .r, .l] 1 [] ⟨(envOf 69 [(2, .ref 0 0), (3, .ref 1 0), (4, .ref 2 0), (9, .bool (!decide (r0 = 0))), (15, .agg (eLock a)), (16, v)]), [some (.box [.sl 5 s.Held.n (rowOf eLock s.Held.w) s.Held.u, .sl 5 s.Waits.n (rowOf eLock s.Waits.w) s.Waits.u]), some (.box (eLock a)), some (.box [.sl 5 0 (rowOf eLock (fun _ => zLock)) true, .sl 5 0 (rowOf eLock (fun _ => zLock)) true])]⟩ κ
noncomputable def locks_Ask_r2 (k : Nat) (s : TLocks) (a : TLock) (r1 : Bool) (κ : AV → Heap → Option ρ) (v : AV) (W : Heap) : Option ρ := backH [1] [some (.box [.sl 5 s.Held.n (rowOf eLock s.Held.w) s.Held.u, .sl 5 s.Waits.n (rowOf eLock s.Waits.w) s.Waits.u]), some (.box (eLock a)), some (.box [.sl 5 0 (rowOf eLock (fun _ => zLock)) true, .sl 5 0 (rowOf eLock (fun _ => zLock)) true])] (fun v H => resAt ctx k n_locks_Ask 0 [.r, .l, .r, .r, .r, .r, .l] 3 [] ⟨(envOf 69 [(2, .ref 0 0), (3, .ref 1 0), (4, .ref 2 0), (14, .bool (!r1)), (20, .ref 0 1), (21, .sl 5 s.Waits.n (rowOf eLock s.Waits.w) s.Waits.u), (22, .fn n_locks_Ask_1 [] [.ref 1 0]), (23, v)]), H⟩ κ) v W
noncomputable def locks_Ask_r3 (k : Nat) (s : TLocks) (a : TLock) (r2 : Bool) (κ : AV → Heap → Option ρ) (v : AV) (W : Heap) : Option ρ := backF [.agg (eLocks s)] [some (.box [.sl 5 s.Held.n (rowOf eLock s.Held.w) s.Held.u, .sl 5 s.Waits.n (rowOf eLock s.Waits.w) s.Waits.u]), some (.box (eLock a)), some (.box [.sl 5 0 (rowOf eLock (fun _ => zLock)) true, .sl 5 0 (rowOf eLock (fun _ => zLock)) true])] (fun v H => resAt ctx k n_locks_Ask 0 [.r, .r, .l] 1 [] ⟨(envOf 69 [(2, .ref 0 0), (3, .ref 1 0), (4, .ref 2 0), (19, .bool r2), (25, .agg (eLocks s)), (26, v)]), H⟩ κ) v W
noncomputable def locks_Ask_r4 (k : Nat) (s : TLocks) (a : TLock) (κ : AV → Heap → Option ρ) (v : AV) : Option ρ := resAt ctx k n_locks_Ask 0 [.r, .r, .r, .l, .l] 2 [] ⟨(envOf 69 [(2, .ref 0 0), (3, .ref 1 0), (4, .ref 2 0), (7, .ref 3 0), (28, .agg (eLocks s)), (29, .agg (eLock a)), (30, v)]), [some (.box [.sl 5 s.Held.n (rowOf eLock s.Held.w) s.Held.u, .sl 5 s.Waits.n (rowOf eLock s.Waits.w) s.Waits.u]), some (.box (eLock a)), some (.box [.sl 5 0 (rowOf eLock (fun _ => zLock)) true, .sl 5 0 (rowOf eLock (fun _ => zLock)) true]), some (.box [.sl 5 0 (rowOf eLock (fun _ => zLock)) true, .sl 5 0 (rowOf eLock (fun _ => zLock)) true])]⟩ κ
noncomputable def locks_Ask_r5 (k : Nat) (s : TLocks) (a : TLock) (κ : AV → Heap → Option ρ) (v : AV) : Option ρ := resAt ctx k n_locks_Ask 0 [.r, .r, .r, .l, .l] 2 [] ⟨(envOf 69 [(2, .ref 0 0), (3, .ref 1 0), (4, .ref 2 0), (7, .ref 3 0), (28, .agg (eLocks s)), (29, .agg (eLock a)), (30, v)]), [some (.box [.sl 5 s.Held.n (rowOf eLock s.Held.w) s.Held.u, .sl 5 s.Waits.n (rowOf eLock s.Waits.w) s.Waits.u]), some (.box (eLock a)), some (.box [.sl 5 0 (rowOf eLock (fun _ => zLock)) true, .sl 5 0 (rowOf eLock (fun _ => zLock)) true]), some (.box [.sl 5 0 (rowOf eLock (fun _ => zLock)) true, .osl 5 4 0 s.Waits.n false]), some (.arr 5 s.Waits.n (rowOf eLock s.Waits.w))]⟩ κ
noncomputable def locks_Ask_r6 (k : Nat) (s : TLocks) (a : TLock) (κ : AV → Heap → Option ρ) (v : AV) : Option ρ := resAt ctx k n_locks_Ask 0 [.r, .r, .r, .l, .l] 2 [] ⟨(envOf 69 [(2, .ref 0 0), (3, .ref 1 0), (4, .ref 2 0), (7, .ref 3 0), (28, .agg (eLocks s)), (29, .agg (eLock a)), (30, v)]), [some (.box [.sl 5 s.Held.n (rowOf eLock s.Held.w) s.Held.u, .sl 5 s.Waits.n (rowOf eLock s.Waits.w) s.Waits.u]), some (.box (eLock a)), some (.box [.sl 5 0 (rowOf eLock (fun _ => zLock)) true, .sl 5 0 (rowOf eLock (fun _ => zLock)) true]), some (.box [.osl 5 4 0 s.Held.n false, .sl 5 0 (rowOf eLock (fun _ => zLock)) true]), some (.arr 5 s.Held.n (rowOf eLock s.Held.w))]⟩ κ
noncomputable def locks_Ask_r7 (k : Nat) (s : TLocks) (a : TLock) (κ : AV → Heap → Option ρ) (v : AV) : Option ρ := resAt ctx k n_locks_Ask 0 [.r, .r, .r, .l, .l] 2 [] ⟨(envOf 69 [(2, .ref 0 0), (3, .ref 1 0), (4, .ref 2 0), (7, .ref 3 0), (28, .agg (eLocks s)), (29, .agg (eLock a)), (30, v)]), [some (.box [.sl 5 s.Held.n (rowOf eLock s.Held.w) s.Held.u, .sl 5 s.Waits.n (rowOf eLock s.Waits.w) s.Waits.u]), some (.box (eLock a)), some (.box [.sl 5 0 (rowOf eLock (fun _ => zLock)) true, .sl 5 0 (rowOf eLock (fun _ => zLock)) true]), some (.box [.osl 5 4 0 s.Held.n false, .osl 5 5 0 s.Waits.n false]), some (.arr 5 s.Held.n (rowOf eLock s.Held.w)), some (.arr 5 s.Waits.n (rowOf eLock s.Waits.w))]⟩ κ
noncomputable def locks_Ask_r8 (k : Nat) (s : TLocks) (a : TLock) (κ : AV → Heap → Option ρ) (v : AV) : Option ρ := resAt ctx k n_locks_Ask 0 [.r, .r, .r, .l, .r, .r, .r, .r, .l] 5 [] ⟨(envOf 69 [(2, .ref 0 0), (3, .ref 1 0), (4, .ref 2 0), (7, .ref 3 0), (32, .bool (decide (wi64 ((s.Held.n : Int) + (s.Waits.n : Int)) = 200))), (43, .agg (eLock a)), (44, .ref 0 0), (45, .sl 5 s.Held.n (rowOf eLock s.Held.w) s.Held.u), (46, .ref 0 1), (47, .sl 5 s.Waits.n (rowOf eLock s.Waits.w) s.Waits.u), (48, v)]), [some (.box [.sl 5 s.Held.n (rowOf eLock s.Held.w) s.Held.u, .sl 5 s.Waits.n (rowOf eLock s.Waits.w) s.Waits.u]), some (.box (eLock a)), some (.box [.sl 5 0 (rowOf eLock (fun _ => zLock)) true, .sl 5 0 (rowOf eLock (fun _ => zLock)) true]), some (.box [.sl 5 0 (rowOf eLock (fun _ => zLock)) true, .sl 5 0 (rowOf eLock (fun _ => zLock)) true])]⟩ κ
noncomputable def locks_Ask_r9 (k : Nat) (s : TLocks) (a : TLock) (κ : AV → Heap → Option ρ) (v : AV) : Option ρ := resAt ctx k n_locks_Ask 0 [.r, .r, .r, .l, .r, .r, .r, .r, .l] 5 [] ⟨(envOf 69 [(2, .ref 0 0), (3, .ref 1 0), (4, .ref 2 0), (7, .ref 3 0), (32, .bool (decide (wi64 ((s.Held.n : Int) + (s.Waits.n : Int)) = 200))), (43, .agg (eLock a)), (44, .ref 0 0), (45, .sl 5 s.Held.n (rowOf eLock s.Held.w) s.Held.u), (46, .ref 0 1), (47, .sl 5 s.Waits.n (rowOf eLock s.Waits.w) s.Waits.u), (48, v)]), [some (.box [.sl 5 s.Held.n (rowOf eLock s.Held.w) s.Held.u, .sl 5 s.Waits.n (rowOf eLock s.Waits.w) s.Waits.u]), some (.box (eLock a)), some (.box [.sl 5 0 (rowOf eLock (fun _ => zLock)) true, .sl 5 0 (rowOf eLock (fun _ => zLock)) true]), some (.box [.sl 5 0 (rowOf eLock (fun _ => zLock)) true, .osl 5 4 0 s.Waits.n false]), some (.arr 5 s.Waits.n (rowOf eLock s.Waits.w))]⟩ κ
noncomputable def locks_Ask_r10 (k : Nat) (s : TLocks) (a : TLock) (κ : AV → Heap → Option ρ) (v : AV) : Option ρ := resAt ctx k n_locks_Ask 0 [.r, .r, .r, .l, .r, .r, .r, .r, .l] 5 [] ⟨(envOf 69 [(2, .ref 0 0), (3, .ref 1 0), (4, .ref 2 0), (7, .ref 3 0), (32, .bool (decide (wi64 ((s.Held.n : Int) + (s.Waits.n : Int)) = 200))), (43, .agg (eLock a)), (44, .ref 0 0), (45, .sl 5 s.Held.n (rowOf eLock s.Held.w) s.Held.u), (46, .ref 0 1), (47, .sl 5 s.Waits.n (rowOf eLock s.Waits.w) s.Waits.u), (48, v)]), [some (.box [.sl 5 s.Held.n (rowOf eLock s.Held.w) s.Held.u, .sl 5 s.Waits.n (rowOf eLock s.Waits.w) s.Waits.u]), some (.box (eLock a)), some (.box [.sl 5 0 (rowOf eLock (fun _ => zLock)) true, .sl 5 0 (rowOf eLock (fun _ => zLock)) true]), some (.box [.osl 5 4 0 s.Held.n false, .sl 5 0 (rowOf eLock (fun _ => zLock)) true]), some (.arr 5 s.Held.n (rowOf eLock s.Held.w))]⟩ κ
noncomputable def locks_Ask_r11 (k : Nat) (s : TLocks) (a : TLock) (κ : AV → Heap → Option ρ) (v : AV) : Option ρ := resAt ctx k n_locks_Ask 0 [.r, .r, .r, .l, .r, .r, .r, .r, .l] 5 [] ⟨(envOf 69 [(2, .ref 0 0), (3, .ref 1 0), (4, .ref 2 0), (7, .ref 3 0), (32, .bool (decide (wi64 ((s.Held.n : Int) + (s.Waits.n : Int)) = 200))), (43, .agg (eLock a)), (44, .ref 0 0), (45, .sl 5 s.Held.n (rowOf eLock s.Held.w) s.Held.u), (46, .ref 0 1), (47, .sl 5 s.Waits.n (rowOf eLock s.Waits.w) s.Waits.u), (48, v)]), [some (.box [.sl 5 s.Held.n (rowOf eLock s.Held.w) s.Held.u, .sl 5 s.Waits.n (rowOf eLock s.Waits.w) s.Waits.u]), some (.box (eLock a)), some (.box [.sl 5 0 (rowOf eLock (fun _ => zLock)) true, .sl 5 0 (rowOf eLock (fun _ => zLock)) true]), some (.box [.osl 5 4 0 s.Held.n false, .osl 5 5 0 s.Waits.n false]), some (.arr 5 s.Held.n (rowOf eLock s.Held.w)), some (.arr 5 s.Waits.n (rowOf eLock s.Waits.w))]⟩ κ
theorem locks_Ask_r0_s (k : Nat) (s : TLocks) (a : TLock) (r0 : Int) (κ : AV → Heap → Option ρ) : locks_Ask_r0 k s a κ (.int .i64 r0) =
  (bif !decide (r0 = 0) then
   κ (.tup [.agg (eLocks zLocks), .bool false, .int .i64 220]) [some (.box [.sl 5 0 (rowOf eLock (fun _ => zLock)) true, .sl 5 0 (rowOf eLock (fun _ => zLock)) true])]
  else callP ctx k n_locks_lock_may [.agg (eLock a)] (locks_Ask_r1 k s a r0 κ)) := by kernel_rfl
theorem locks_Ask_r1_s (k : Nat) (s : TLocks) (a : TLock) (r0 : Int) (r1 : Bool) (κ : AV → Heap → Option ρ) : locks_Ask_r1 k s a r0 κ (.bool r1) =
  (bif !r1 then
   κ (.tup [.agg (eLocks zLocks), .bool false, .int .i64 2]) [some (.box [.sl 5 0 (rowOf eLock (fun _ => zLock)) true, .sl 5 0 (rowOf eLock (fun _ => zLock)) true])]
  else evalF ctx k n_slices_ContainsFunc_Lock [.sl 5 s.Waits.n (rowOf eLock s.Waits.w) s.Waits.u, .fn n_locks_Ask_1 [] [.ref 0 0]] [some (.box (eLock a))] (locks_Ask_r2 k s a r1 κ)) := by kernel_rfl
theorem locks_Ask_r2_s (k : Nat) (s : TLocks) (a : TLock) (r1 : Bool) (r2 : Bool) (κ : AV → Heap → Option ρ) : locks_Ask_r2 k s a r1 κ (.bool r2) [some (.box (eLock a))] =
  (bif r2 then
   κ (.tup [.agg (eLocks zLocks), .bool false, .int .i64 9]) [some (.box [.sl 5 0 (rowOf eLock (fun _ => zLock)) true, .sl 5 0 (rowOf eLock (fun _ => zLock)) true])]
  else evalF ctx k n_locks_own [.agg (eLocks s)] [] (locks_Ask_r3 k s a r2 κ)) := by kernel_rfl
theorem locks_Ask_r3_s (k : Nat) (s : TLocks) (a : TLock) (r2 : Bool) (κ : AV → Heap → Option ρ) : locks_Ask_r3 k s a r2 κ (.agg (eLocks zLocks)) [some (.box [.sl 5 0 (rowOf eLock (fun _ => zLock)) true, .sl 5 0 (rowOf eLock (fun _ => zLock)) true])] =
  callP ctx k n_locks_covered [.agg (eLocks s), .agg (eLock a)] (locks_Ask_r4 k s a κ) := by kernel_rfl
theorem locks_Ask_r3_s1 (k : Nat) (s : TLocks) (a : TLock) (r2 : Bool) (κ : AV → Heap → Option ρ) : locks_Ask_r3 k s a r2 κ (.agg [.sl 5 0 (rowOf eLock (fun _ => zLock)) true, .osl 5 1 0 s.Waits.n false]) [some (.box [.sl 5 0 (rowOf eLock (fun _ => zLock)) true, .osl 5 1 0 s.Waits.n false]), some (.arr 5 s.Waits.n (rowOf eLock s.Waits.w))] =
  callP ctx k n_locks_covered [.agg (eLocks s), .agg (eLock a)] (locks_Ask_r5 k s a κ) := by kernel_rfl
theorem locks_Ask_r3_s2 (k : Nat) (s : TLocks) (a : TLock) (r2 : Bool) (κ : AV → Heap → Option ρ) : locks_Ask_r3 k s a r2 κ (.agg [.osl 5 1 0 s.Held.n false, .sl 5 0 (rowOf eLock (fun _ => zLock)) true]) [some (.box [.osl 5 1 0 s.Held.n false, .sl 5 0 (rowOf eLock (fun _ => zLock)) true]), some (.arr 5 s.Held.n (rowOf eLock s.Held.w))] =
  callP ctx k n_locks_covered [.agg (eLocks s), .agg (eLock a)] (locks_Ask_r6 k s a κ) := by kernel_rfl
theorem locks_Ask_r3_s3 (k : Nat) (s : TLocks) (a : TLock) (r2 : Bool) (κ : AV → Heap → Option ρ) : locks_Ask_r3 k s a r2 κ (.agg [.osl 5 1 0 s.Held.n false, .osl 5 2 0 s.Waits.n false]) [some (.box [.osl 5 1 0 s.Held.n false, .osl 5 2 0 s.Waits.n false]), some (.arr 5 s.Held.n (rowOf eLock s.Held.w)), some (.arr 5 s.Waits.n (rowOf eLock s.Waits.w))] =
  callP ctx k n_locks_covered [.agg (eLocks s), .agg (eLock a)] (locks_Ask_r7 k s a κ) := by kernel_rfl
theorem locks_Ask_r4_s (k : Nat) (s : TLocks) (a : TLock) (r4 : Bool) (κ : AV → Heap → Option ρ) : locks_Ask_r4 k s a κ (.bool r4) =
  (bif r4 then
   κ (.tup [.agg (eLocks zLocks), .bool true, .int .i64 0]) [some (.box [.sl 5 0 (rowOf eLock (fun _ => zLock)) true, .sl 5 0 (rowOf eLock (fun _ => zLock)) true])]
  else (bif decide (wi64 ((s.Held.n : Int) + (s.Waits.n : Int)) = 200) then
    κ (.tup [.agg (eLocks zLocks), .bool false, .int .i64 6]) [some (.box [.sl 5 0 (rowOf eLock (fun _ => zLock)) true, .sl 5 0 (rowOf eLock (fun _ => zLock)) true])]
   else callP ctx k n_locks_grants [.agg (eLock a), .sl 5 s.Held.n (rowOf eLock s.Held.w) s.Held.u, .sl 5 s.Waits.n (rowOf eLock s.Waits.w) s.Waits.u] (locks_Ask_r8 k s a κ))) := by kernel_rfl
theorem locks_Ask_r5_s (k : Nat) (s : TLocks) (a : TLock) (r5 : Bool) (κ : AV → Heap → Option ρ) : locks_Ask_r5 k s a κ (.bool r5) =
  (bif r5 then
   κ (.tup [.agg [.sl 5 0 (rowOf eLock (fun _ => zLock)) true, .osl 5 1 0 s.Waits.n false], .bool true, .int .i64 0]) [some (.box [.sl 5 0 (rowOf eLock (fun _ => zLock)) true, .osl 5 1 0 s.Waits.n false]), some (.arr 5 s.Waits.n (rowOf eLock s.Waits.w))]
  else (bif decide (wi64 ((s.Held.n : Int) + (s.Waits.n : Int)) = 200) then
    κ (.tup [.agg (eLocks zLocks), .bool false, .int .i64 6]) [some (.box [.sl 5 0 (rowOf eLock (fun _ => zLock)) true, .sl 5 0 (rowOf eLock (fun _ => zLock)) true])]
   else callP ctx k n_locks_grants [.agg (eLock a), .sl 5 s.Held.n (rowOf eLock s.Held.w) s.Held.u, .sl 5 s.Waits.n (rowOf eLock s.Waits.w) s.Waits.u] (locks_Ask_r9 k s a κ))) := by kernel_rfl
theorem locks_Ask_r6_s (k : Nat) (s : TLocks) (a : TLock) (r6 : Bool) (κ : AV → Heap → Option ρ) : locks_Ask_r6 k s a κ (.bool r6) =
  (bif r6 then
   κ (.tup [.agg [.osl 5 1 0 s.Held.n false, .sl 5 0 (rowOf eLock (fun _ => zLock)) true], .bool true, .int .i64 0]) [some (.box [.osl 5 1 0 s.Held.n false, .sl 5 0 (rowOf eLock (fun _ => zLock)) true]), some (.arr 5 s.Held.n (rowOf eLock s.Held.w))]
  else (bif decide (wi64 ((s.Held.n : Int) + (s.Waits.n : Int)) = 200) then
    κ (.tup [.agg (eLocks zLocks), .bool false, .int .i64 6]) [some (.box [.sl 5 0 (rowOf eLock (fun _ => zLock)) true, .sl 5 0 (rowOf eLock (fun _ => zLock)) true])]
   else callP ctx k n_locks_grants [.agg (eLock a), .sl 5 s.Held.n (rowOf eLock s.Held.w) s.Held.u, .sl 5 s.Waits.n (rowOf eLock s.Waits.w) s.Waits.u] (locks_Ask_r10 k s a κ))) := by kernel_rfl
theorem locks_Ask_r7_s (k : Nat) (s : TLocks) (a : TLock) (r7 : Bool) (κ : AV → Heap → Option ρ) : locks_Ask_r7 k s a κ (.bool r7) =
  (bif r7 then
   κ (.tup [.agg [.osl 5 1 0 s.Held.n false, .osl 5 2 0 s.Waits.n false], .bool true, .int .i64 0]) [some (.box [.osl 5 1 0 s.Held.n false, .osl 5 2 0 s.Waits.n false]), some (.arr 5 s.Held.n (rowOf eLock s.Held.w)), some (.arr 5 s.Waits.n (rowOf eLock s.Waits.w))]
  else (bif decide (wi64 ((s.Held.n : Int) + (s.Waits.n : Int)) = 200) then
    κ (.tup [.agg (eLocks zLocks), .bool false, .int .i64 6]) [some (.box [.sl 5 0 (rowOf eLock (fun _ => zLock)) true, .sl 5 0 (rowOf eLock (fun _ => zLock)) true])]
   else callP ctx k n_locks_grants [.agg (eLock a), .sl 5 s.Held.n (rowOf eLock s.Held.w) s.Held.u, .sl 5 s.Waits.n (rowOf eLock s.Waits.w) s.Waits.u] (locks_Ask_r11 k s a κ))) := by kernel_rfl
theorem locks_Ask_r8_s (k : Nat) (s : TLocks) (a : TLock) (r8 : Bool) (κ : AV → Heap → Option ρ) : locks_Ask_r8 k s a κ (.bool r8) =
  (bif r8 then
   (bif cutOK 0 0 (s.Held.n : Int) (s.Held.n : Int) then
    (bif ((decide ((s.Held.n : Int) = (s.Held.n : Int))) && (roomOf (s.Held.n + 1) 56)) then
     κ (.tup [.agg [.osl 5 1 0 (s.Held.n + 1) false, .sl 5 0 (rowOf eLock (fun _ => zLock)) true], .bool true, .int .i64 0]) [some (.box [.osl 5 1 0 (s.Held.n + 1) false, .sl 5 0 (rowOf eLock (fun _ => zLock)) true]), some (.arr 5 (s.Held.n + 1) (catRow s.Held.n (shRow 0 (rowOf eLock (fun _ => zLock))) (litRow eLock [a] zLock)))]
    else none)
   else none)
  else κ (.tup [.agg [.sl 5 0 (rowOf eLock (fun _ => zLock)) true, .osl 5 1 0 1 false], .bool false, .int .i64 0]) [some (.box [.sl 5 0 (rowOf eLock (fun _ => zLock)) true, .osl 5 1 0 1 false]), some (.arr 5 1 (catRow 0 (rowOf eLock (fun _ => zLock)) (litRow eLock [a] zLock)))]) := by kernel_rfl
theorem locks_Ask_r9_s (k : Nat) (s : TLocks) (a : TLock) (r9 : Bool) (κ : AV → Heap → Option ρ) : locks_Ask_r9 k s a κ (.bool r9) =
  (bif r9 then
   (bif cutOK 0 0 (s.Held.n : Int) (s.Held.n : Int) then
    (bif ((decide ((s.Held.n : Int) = (s.Held.n : Int))) && (roomOf (s.Held.n + 1) 56)) then
     κ (.tup [.agg [.osl 5 1 0 (s.Held.n + 1) false, .osl 5 2 0 s.Waits.n false], .bool true, .int .i64 0]) [some (.box [.osl 5 1 0 (s.Held.n + 1) false, .osl 5 2 0 s.Waits.n false]), some (.arr 5 (s.Held.n + 1) (catRow s.Held.n (shRow 0 (rowOf eLock (fun _ => zLock))) (litRow eLock [a] zLock))), some (.arr 5 s.Waits.n (rowOf eLock s.Waits.w))]
    else none)
   else none)
  else (bif decide (((0 + s.Waits.n) + 1) ≤ s.Waits.n) then
    κ (.tup [.agg [.sl 5 0 (rowOf eLock (fun _ => zLock)) true, .osl 5 1 0 (s.Waits.n + 1) false], .bool false, .int .i64 0]) [some (.box [.sl 5 0 (rowOf eLock (fun _ => zLock)) true, .osl 5 1 0 (s.Waits.n + 1) false]), some (.arr 5 s.Waits.n (putRow (0 + s.Waits.n) ((0 + s.Waits.n) + 1) (litRow eLock [a] zLock) (rowOf eLock s.Waits.w)))]
   else (bif ((decide (s.Waits.n = s.Waits.n)) && (roomOf (s.Waits.n + 1) 56)) then
     κ (.tup [.agg [.sl 5 0 (rowOf eLock (fun _ => zLock)) true, .osl 5 1 0 (s.Waits.n + 1) false], .bool false, .int .i64 0]) [some (.box [.sl 5 0 (rowOf eLock (fun _ => zLock)) true, .osl 5 1 0 (s.Waits.n + 1) false]), some (.arr 5 (s.Waits.n + 1) (catRow s.Waits.n (rowOf eLock s.Waits.w) (litRow eLock [a] zLock)))]
    else none))) := by kernel_rfl
theorem locks_Ask_r10_s (k : Nat) (s : TLocks) (a : TLock) (r10 : Bool) (κ : AV → Heap → Option ρ) : locks_Ask_r10 k s a κ (.bool r10) =
  (bif r10 then
   (bif (cutOK s.Held.n 0 (s.Held.n : Int) (s.Held.n : Int) && (decide ((s.Held.n : Int) = (s.Held.n : Int)))) then
    (bif roomOf (s.Held.n + 1) 56 then
     κ (.tup [.agg [.osl 5 1 0 (s.Held.n + 1) false, .sl 5 0 (rowOf eLock (fun _ => zLock)) true], .bool true, .int .i64 0]) [some (.box [.osl 5 1 0 (s.Held.n + 1) false, .sl 5 0 (rowOf eLock (fun _ => zLock)) true]), some (.arr 5 (s.Held.n + 1) (catRow s.Held.n (rowOf eLock (fun i => s.Held.w (0 + i))) (litRow eLock [a] zLock)))]
    else none)
   else none)
  else κ (.tup [.agg [.osl 5 1 0 s.Held.n false, .osl 5 2 0 1 false], .bool false, .int .i64 0]) [some (.box [.osl 5 1 0 s.Held.n false, .osl 5 2 0 1 false]), some (.arr 5 s.Held.n (rowOf eLock s.Held.w)), some (.arr 5 1 (catRow 0 (rowOf eLock (fun _ => zLock)) (litRow eLock [a] zLock)))]) := by kernel_rfl
theorem locks_Ask_r11_s (k : Nat) (s : TLocks) (a : TLock) (r11 : Bool) (κ : AV → Heap → Option ρ) : locks_Ask_r11 k s a κ (.bool r11) =
  (bif r11 then
   (bif (cutOK s.Held.n 0 (s.Held.n : Int) (s.Held.n : Int) && (decide ((s.Held.n : Int) = (s.Held.n : Int)))) then
    (bif roomOf (s.Held.n + 1) 56 then
     κ (.tup [.agg [.osl 5 1 0 (s.Held.n + 1) false, .osl 5 2 0 s.Waits.n false], .bool true, .int .i64 0]) [some (.box [.osl 5 1 0 (s.Held.n + 1) false, .osl 5 2 0 s.Waits.n false]), some (.arr 5 (s.Held.n + 1) (catRow s.Held.n (rowOf eLock (fun i => s.Held.w (0 + i))) (litRow eLock [a] zLock))), some (.arr 5 s.Waits.n (rowOf eLock s.Waits.w))]
    else none)
   else none)
  else (bif decide (((0 + s.Waits.n) + 1) ≤ s.Waits.n) then
    κ (.tup [.agg [.osl 5 1 0 s.Held.n false, .osl 5 2 0 (s.Waits.n + 1) false], .bool false, .int .i64 0]) [some (.box [.osl 5 1 0 s.Held.n false, .osl 5 2 0 (s.Waits.n + 1) false]), some (.arr 5 s.Held.n (rowOf eLock s.Held.w)), some (.arr 5 s.Waits.n (putRow (0 + s.Waits.n) ((0 + s.Waits.n) + 1) (litRow eLock [a] zLock) (rowOf eLock s.Waits.w)))]
   else (bif ((decide (s.Waits.n = s.Waits.n)) && (roomOf (s.Waits.n + 1) 56)) then
     κ (.tup [.agg [.osl 5 1 0 s.Held.n false, .osl 5 2 0 (s.Waits.n + 1) false], .bool false, .int .i64 0]) [some (.box [.osl 5 1 0 s.Held.n false, .osl 5 2 0 (s.Waits.n + 1) false]), some (.arr 5 s.Held.n (rowOf eLock s.Held.w)), some (.arr 5 (s.Waits.n + 1) (catRow s.Waits.n (rowOf eLock s.Waits.w) (litRow eLock [a] zLock)))]
    else none))) := by kernel_rfl
theorem locks_Ask_e (k : Nat) (s : TLocks) (a : TLock) (κ : AV → Heap → Option ρ) : evalF ctx (k + 1) n_locks_Ask [.agg (eLocks s), .agg (eLock a)] [] κ =
  callP ctx k n_locks_Check [.agg (eLocks s)] (locks_Ask_r0 k s a κ) := by kernel_rfl
theorem law22_great_e (k : Nat) (a : TLock) (κ : AV → Heap → Option ρ) : evalF ctx (k + 1) n_law22_great [.agg (eLock a)] [] κ =
  (bif decide (2000 < (a.R.From.size : Int)) then
   κ (.bool true) []
  else κ (.bool (decide (2000 < (a.R.To.size : Int)))) []) := by kernel_rfl
end Go.Proofs.YticcbbcgboddpaaC

set_option linter.unusedVariables false
set_option linter.unusedSimpArgs false
set_option maxRecDepth 20000
namespace Go.Proofs.YticcbbcgboddpaaC
open Go Go.Ev Go.Proofs
variable {ρ : Type}
def addW (n : Nat) (v : Nat → TLock) (a : TLock) : Nat → TLock := catW n v (fun i => [a].getD i zLock)
theorem lst_add (n : Nat) (v : Nat → TLock) (a : TLock) : lst (n + 1) (addW n v a) = lst n v ++ [a] := l_cat n 1 v (fun i => [a].getD i zLock) false
theorem clone_lock (k n : Nat) (w : Nat → TLock) (u : Bool) (hn : n ≤ 10000) (κ : AV → Heap → Option ρ) : evalF ctx (k + 1) n_slices_Clone_Lock [.sl 5 n (rowOf eLock w) u] [] κ = if n = 0 then κ (.sl 5 0 (rowOf eLock (fun _ => zLock)) true) [] else κ (.osl 5 0 0 n false) [some (.arr 5 n (rowOf eLock w))] := by
  refine (clone_ev ctx (f := n_slices_Clone_Lock) (sz := 5) (by_ := 56) (z := eLock zLock) (by kernel_rfl) k n (rowOf eLock w) u κ).trans ?_
  rw [room_of (by omega) (by omega), if_pos (rfl : true = true)]
  rfl
theorem own_run (k : Nat) (s : TLocks) (hn : s.Held.n ≤ 10000) (hm : s.Waits.n ≤ 10000) (hk : 3 ≤ k) (κ : AV → Heap → Option ρ) : evalF ctx k n_locks_own [.agg (eLocks s)] [] κ =
    if s.Held.n = 0 then (if s.Waits.n = 0 then κ (.agg (eLocks zLocks)) [some (.box [.sl 5 0 (rowOf eLock (fun _ => zLock)) true, .sl 5 0 (rowOf eLock (fun _ => zLock)) true])]
      else κ (.agg [.sl 5 0 (rowOf eLock (fun _ => zLock)) true, .osl 5 1 0 s.Waits.n false]) [some (.box [.sl 5 0 (rowOf eLock (fun _ => zLock)) true, .osl 5 1 0 s.Waits.n false]), some (.arr 5 s.Waits.n (rowOf eLock s.Waits.w))])
    else if s.Waits.n = 0 then κ (.agg [.osl 5 1 0 s.Held.n false, .sl 5 0 (rowOf eLock (fun _ => zLock)) true]) [some (.box [.osl 5 1 0 s.Held.n false, .sl 5 0 (rowOf eLock (fun _ => zLock)) true]), some (.arr 5 s.Held.n (rowOf eLock s.Held.w))]
      else κ (.agg [.osl 5 1 0 s.Held.n false, .osl 5 2 0 s.Waits.n false]) [some (.box [.osl 5 1 0 s.Held.n false, .osl 5 2 0 s.Waits.n false]), some (.arr 5 s.Held.n (rowOf eLock s.Held.w)), some (.arr 5 s.Waits.n (rowOf eLock s.Waits.w))] := by
  obtain ⟨k, rfl⟩ : ∃ k', k = k' + 2 := ⟨k - 2, by omega⟩
  refine (locks_own_e (k + 1) s κ).trans ?_
  rw [clone_lock k _ _ _ hn]
  by_cases h1 : s.Held.n = 0
  · rw [if_pos h1, if_pos h1, locks_own_r0_s, clone_lock k _ _ _ hm]
    by_cases h2 : s.Waits.n = 0
    · rw [if_pos h2, if_pos h2, locks_own_r1_s]
    · rw [if_neg h2, if_neg h2, locks_own_r1_s1]
  · rw [if_neg h1, if_neg h1, locks_own_r0_s1, clone_lock k _ _ _ hm]
    by_cases h2 : s.Waits.n = 0
    · rw [if_pos h2, if_pos h2, locks_own_r2_s]
    · rw [if_neg h2, if_neg h2, locks_own_r2_s1]
def okB (s : TLocks) (a : TLock) : Bool := grantsB a s.Held.n s.Held.w s.Waits.n s.Waits.w
def askE (s : TLocks) (a : TLock) : Int :=
  if checkB s = false then 220 else if mayB a = false then 2 else if (anyN s.Waits.n fun i => decide ((s.Waits.w i).Tx = a.Tx)) = true then 9
  else if coveredB s a = true then 0 else if s.Held.n + s.Waits.n = 200 then 6 else 0
def askG (s : TLocks) (a : TLock) : Bool := decide (askE s a = 0) && (coveredB s a || okB s a)
def askH (s : TLocks) (a : TLock) : List TLock := if askE s a ≠ 0 then [] else if (!coveredB s a && okB s a) = true then s.Held.l ++ [a] else s.Held.l
def askW (s : TLocks) (a : TLock) : List TLock := if askE s a ≠ 0 then [] else if (coveredB s a || okB s a) = true then s.Waits.l else s.Waits.l ++ [a]
theorem Ask_ok (k : Nat) (s : TLocks) (a : TLock) (hn : s.Held.n ≤ 10000) (hm : s.Waits.n ≤ 10000) (hk : s.Held.n + s.Waits.n + 80 ≤ k) :
    ∃ n v m w, lst n v = askH s a ∧ lst m w = askW s a ∧ ∀ κ : AV → Option ρ, callP ctx k n_locks_Ask [.agg (eLocks s), .agg (eLock a)] κ = κ (.tup [.agg (eLocks ⟨⟨n, v, false⟩, ⟨m, w, false⟩⟩), .bool (askG s a), .int .i64 (askE s a)]) := by
  obtain ⟨k, rfl⟩ : ∃ k', k = k' + 1 := ⟨k - 1, by omega⟩
  have err : ∀ c : Int, c ≠ 0 → askE s a = c → (∀ κ : AV → Option ρ, callP ctx (k + 1) n_locks_Ask [.agg (eLocks s), .agg (eLock a)] κ = κ (.tup [.agg (eLocks ⟨⟨0, fun _ => zLock, false⟩, ⟨0, fun _ => zLock, false⟩⟩), .bool false, .int .i64 c])) →
      ∃ n v m w, lst n v = askH s a ∧ lst m w = askW s a ∧ ∀ κ : AV → Option ρ, callP ctx (k + 1) n_locks_Ask [.agg (eLocks s), .agg (eLock a)] κ = κ (.tup [.agg (eLocks ⟨⟨n, v, false⟩, ⟨m, w, false⟩⟩), .bool (askG s a), .int .i64 (askE s a)]) := by
    intro c hc he h
    refine ⟨0, fun _ => zLock, 0, fun _ => zLock, ?_, ?_, fun κ => ?_⟩
    · unfold askH; rw [he, if_pos hc]; rfl
    · unfold askW; rw [he, if_pos hc]; rfl
    · unfold askG
      rw [h, he, decide_eq_false hc, Bool.false_and]
  have start : ∀ κ : AV → Option ρ, callP ctx (k + 1) n_locks_Ask [.agg (eLocks s), .agg (eLock a)] κ = callP ctx k n_locks_Check [.agg (eLocks s)] (locks_Ask_r0 k s a (pk κ)) := fun κ => by
    rw [callP_eq]; exact locks_Ask_e k s a (pk κ)
  have st1 : ∀ κ : AV → Option ρ, callP ctx (k + 1) n_locks_Ask [.agg (eLocks s), .agg (eLock a)] κ = locks_Ask_r0 k s a (pk κ) (.int .i64 (checkE' s)) := fun κ => by
    rw [start, locks_Check_ok k s hn hm (by omega)]
  cases hc : checkB s with
  | false =>
    refine err 220 (by decide) (by unfold askE; rw [hc, if_pos rfl]) fun κ => ?_
    rw [st1]
    unfold checkE'
    rw [hc, locks_Ask_r0_s]; rfl
  | true =>
    have st2 : ∀ κ : AV → Option ρ, callP ctx (k + 1) n_locks_Ask [.agg (eLocks s), .agg (eLock a)] κ = locks_Ask_r1 k s a 0 (pk κ) (.bool (mayB a)) := fun κ => by
      rw [st1]
      unfold checkE'
      rw [hc, if_pos rfl, locks_Ask_r0_s, dec_int, Bool.not_true, cond_false, may_ok k a (by omega)]
    cases hmay : mayB a with
    | false =>
      refine err 2 (by decide) (by unfold askE; rw [hc, hmay, if_neg (by decide), if_pos rfl]) fun κ => ?_
      rw [st2, hmay, locks_Ask_r1_s]; rfl
    | true =>
      have st3 : ∀ κ : AV → Option ρ, callP ctx (k + 1) n_locks_Ask [.agg (eLocks s), .agg (eLock a)] κ = locks_Ask_r2 k s a true (pk κ) (.bool (anyN s.Waits.n fun i => decide ((s.Waits.w i).Tx = a.Tx))) [some (.box (eLock a))] := fun κ => by
        rw [st2, hmay, locks_Ask_r1_s, Bool.not_true, cond_false, ask_row k _ _ _ a hm (by omega)]
      cases hany : anyN s.Waits.n fun i => decide ((s.Waits.w i).Tx = a.Tx) with
      | true =>
        refine err 9 (by decide) (by unfold askE; rw [hc, hmay, hany, if_neg (by decide), if_neg (by decide), if_pos rfl]) fun κ => ?_
        rw [st3, hany, locks_Ask_r2_s]; rfl
      | false =>
        have st4 : ∀ κ : AV → Option ρ, callP ctx (k + 1) n_locks_Ask [.agg (eLocks s), .agg (eLock a)] κ = evalF ctx k n_locks_own [.agg (eLocks s)] [] (locks_Ask_r3 k s a false (pk κ)) := fun κ => by
          rw [st3, hany, locks_Ask_r2_s, cond_false]
        have hE : askE s a = if coveredB s a = true then 0 else if s.Held.n + s.Waits.n = 200 then 6 else 0 := by
          unfold askE
          rw [hc, hmay, hany, if_neg (by decide), if_neg (by decide), if_neg (by decide)]
        have hsum : wi64 ((s.Held.n : Int) + (s.Waits.n : Int)) = ((s.Held.n + s.Waits.n : Nat) : Int) := by rw [wi64_in (by omega) (by omega)]; omega
        have cov := covered_ok (ρ := ρ) k s a hn (by omega)
        have grt := grants_ok (ρ := ρ) k a s.Held.n s.Waits.n s.Held.w s.Waits.w s.Held.u s.Waits.u hn hm (by omega)
        by_cases h6 : ¬ coveredB s a = true ∧ s.Held.n + s.Waits.n = 200
        · refine err 6 (by decide) (by rw [hE, if_neg h6.1, if_pos h6.2]) fun κ => ?_
          have hcf : coveredB s a = false := by simpa using h6.1
          rw [st4, own_run k s hn hm (by omega)]
          have d : decide (wi64 ((s.Held.n : Int) + (s.Waits.n : Int)) = 200) = true := decide_eq_true (by rw [hsum]; omega)
          by_cases q1 : s.Held.n = 0
          · rw [if_pos q1]
            by_cases q2 : s.Waits.n = 0
            · rw [if_pos q2, locks_Ask_r3_s, cov, hcf, locks_Ask_r4_s, d]; rfl
            · rw [if_neg q2, locks_Ask_r3_s1, cov, hcf, locks_Ask_r5_s, d]; rfl
          · rw [if_neg q1]
            by_cases q2 : s.Waits.n = 0
            · rw [if_pos q2, locks_Ask_r3_s2, cov, hcf, locks_Ask_r6_s, d]; rfl
            · rw [if_neg q2, locks_Ask_r3_s3, cov, hcf, locks_Ask_r7_s, d]; rfl
        · have hE0 : askE s a = 0 := by
            rw [hE]
            by_cases q : coveredB s a = true
            · rw [if_pos q]
            · rw [if_neg q, if_neg (fun h => h6 ⟨q, h⟩)]
          unfold askH askW askG
          rw [hE0, if_neg (show ¬ ((0 : Int) ≠ 0) by decide), if_neg (show ¬ ((0 : Int) ≠ 0) by decide), dec_int, Bool.true_and]
          cases hcv : coveredB s a with
          | true =>
            refine ⟨s.Held.n, if s.Held.n = 0 then fun _ => zLock else s.Held.w, s.Waits.n, if s.Waits.n = 0 then fun _ => zLock else s.Waits.w, ?_, ?_, fun κ => ?_⟩
            · rw [Bool.not_true, Bool.false_and, if_neg (show ¬ (false = true) by decide)]
              by_cases q1 : s.Held.n = 0
              · unfold Sl.l; rw [q1]; rfl
              · rw [if_neg q1]
            · rw [Bool.true_or, if_pos rfl]
              by_cases q1 : s.Waits.n = 0
              · unfold Sl.l; rw [q1]; rfl
              · rw [if_neg q1]
            · rw [st4, own_run k s hn hm (by omega), Bool.true_or]
              by_cases q1 : s.Held.n = 0
              · rw [if_pos q1, if_pos q1]
                by_cases q2 : s.Waits.n = 0
                · rw [if_pos q2, if_pos q2, locks_Ask_r3_s, cov, hcv, locks_Ask_r4_s, q1, q2]; rfl
                · rw [if_neg q2, if_neg q2, locks_Ask_r3_s1, cov, hcv, locks_Ask_r5_s, q1]
                  show κ (.tup [.agg [.sl 5 0 (rowOf eLock fun _ => zLock) false, .sl 5 s.Waits.n (fun i => rowOf eLock s.Waits.w (0 + i)) false], .bool true, .int .i64 0]) = _
                  rw [zrow]; rfl
              · rw [if_neg q1, if_neg q1]
                by_cases q2 : s.Waits.n = 0
                · rw [if_pos q2, if_pos q2, locks_Ask_r3_s2, cov, hcv, locks_Ask_r6_s, q2]
                  show κ (.tup [.agg [.sl 5 s.Held.n (fun i => rowOf eLock s.Held.w (0 + i)) false, .sl 5 0 (rowOf eLock fun _ => zLock) false], .bool true, .int .i64 0]) = _
                  rw [zrow]; rfl
                · rw [if_neg q2, if_neg q2, locks_Ask_r3_s3, cov, hcv, locks_Ask_r7_s]
                  show κ (.tup [.agg [.sl 5 s.Held.n (fun i => rowOf eLock s.Held.w (0 + i)) false, .sl 5 s.Waits.n (fun i => rowOf eLock s.Waits.w (0 + i)) false], .bool true, .int .i64 0]) = _
                  rw [zrow, zrow]; rfl
          | false =>
            have d : decide (wi64 ((s.Held.n : Int) + (s.Waits.n : Int)) = 200) = false := decide_eq_false (by rw [hsum]; intro h; exact h6 ⟨by rw [hcv]; simp, by omega⟩)
            have hn1 : roomOf (s.Held.n + 1) 56 = true := room_of (by omega) (by omega)
            have hm1 : roomOf (s.Waits.n + 1) 56 = true := room_of (by omega) (by omega)
            have c1 : cutOK s.Held.n 0 (s.Held.n : Int) (s.Held.n : Int) = true := cut_ok (by omega) (by omega) (by omega) (by omega)
            have dm : decide (((0 + s.Waits.n) + 1) ≤ s.Waits.n) = false := decide_eq_false (by omega)
            have dn : decide (s.Waits.n = s.Waits.n) = true := decide_eq_true rfl
            have grt' : ∀ κ : AV → Option ρ, callP ctx k n_locks_grants [.agg (eLock a), .sl 5 s.Held.n (rowOf eLock s.Held.w) s.Held.u, .sl 5 s.Waits.n (rowOf eLock s.Waits.w) s.Waits.u] κ = κ (.bool (okB s a)) := grt
            cases hok : okB s a with
            | true =>
              refine ⟨s.Held.n + 1, if s.Held.n = 0 then addW s.Held.n (fun _ => zLock) a else addW s.Held.n s.Held.w a, s.Waits.n, if s.Waits.n = 0 then fun _ => zLock else s.Waits.w, ?_, ?_, fun κ => ?_⟩
              · rw [Bool.not_false, Bool.true_and, if_pos rfl]
                by_cases q1 : s.Held.n = 0
                · rw [if_pos q1, lst_add]; unfold Sl.l; rw [q1]; rfl
                · rw [if_neg q1, lst_add]
              · rw [Bool.or_true, if_pos rfl]
                by_cases q1 : s.Waits.n = 0
                · unfold Sl.l; rw [q1]; rfl
                · rw [if_neg q1]
              · rw [st4, own_run k s hn hm (by omega), Bool.or_true]
                by_cases q1 : s.Held.n = 0
                · have c0 : cutOK 0 0 (s.Held.n : Int) (s.Held.n : Int) = true := by rw [q1]; rfl
                  rw [if_pos q1, if_pos q1]
                  by_cases q2 : s.Waits.n = 0
                  · rw [if_pos q2, if_pos q2, locks_Ask_r3_s, cov, hcv, locks_Ask_r4_s, cond_false, d, cond_false, grt', hok, locks_Ask_r8_s, cond_true, c0, cond_true, dec_int, hn1, Bool.and_self, cond_true, sh0_row, lit_row, cat_row]
                    show κ (.tup [.agg [.sl 5 (s.Held.n + 1) (fun i => rowOf eLock (addW s.Held.n (fun _ => zLock) a) (0 + i)) false, .sl 5 0 (rowOf eLock fun _ => zLock) false], .bool true, .int .i64 0]) = _
                    rw [zrow, q2]; rfl
                  · rw [if_neg q2, if_neg q2, locks_Ask_r3_s1, cov, hcv, locks_Ask_r5_s, cond_false, d, cond_false, grt', hok, locks_Ask_r9_s, cond_true, c0, cond_true, dec_int, hn1, Bool.and_self, cond_true, sh0_row, lit_row, cat_row]
                    show κ (.tup [.agg [.sl 5 (s.Held.n + 1) (fun i => rowOf eLock (addW s.Held.n (fun _ => zLock) a) (0 + i)) false, .sl 5 s.Waits.n (fun i => rowOf eLock s.Waits.w (0 + i)) false], .bool true, .int .i64 0]) = _
                    rw [zrow, zrow]; rfl
                · rw [if_neg q1, if_neg q1]
                  by_cases q2 : s.Waits.n = 0
                  · rw [if_pos q2, if_pos q2, locks_Ask_r3_s2, cov, hcv, locks_Ask_r6_s, cond_false, d, cond_false, grt', hok, locks_Ask_r10_s, cond_true, c1, dec_int, Bool.and_self, cond_true, hn1, cond_true, zrow, lit_row, cat_row]
                    show κ (.tup [.agg [.sl 5 (s.Held.n + 1) (fun i => rowOf eLock (addW s.Held.n s.Held.w a) (0 + i)) false, .sl 5 0 (rowOf eLock fun _ => zLock) false], .bool true, .int .i64 0]) = _
                    rw [zrow, q2]; rfl
                  · rw [if_neg q2, if_neg q2, locks_Ask_r3_s3, cov, hcv, locks_Ask_r7_s, cond_false, d, cond_false, grt', hok, locks_Ask_r11_s, cond_true, c1, dec_int, Bool.and_self, cond_true, hn1, cond_true, zrow, lit_row, cat_row]
                    show κ (.tup [.agg [.sl 5 (s.Held.n + 1) (fun i => rowOf eLock (addW s.Held.n s.Held.w a) (0 + i)) false, .sl 5 s.Waits.n (fun i => rowOf eLock s.Waits.w (0 + i)) false], .bool true, .int .i64 0]) = _
                    rw [zrow, zrow]; rfl
            | false =>
              refine ⟨s.Held.n, if s.Held.n = 0 then fun _ => zLock else s.Held.w, s.Waits.n + 1, if s.Waits.n = 0 then addW 0 (fun _ => zLock) a else addW s.Waits.n s.Waits.w a, ?_, ?_, fun κ => ?_⟩
              · rw [Bool.and_false, if_neg (show ¬ (false = true) by decide)]
                by_cases q1 : s.Held.n = 0
                · unfold Sl.l; rw [q1]; rfl
                · rw [if_neg q1]
              · rw [Bool.or_false, if_neg (show ¬ (false = true) by decide)]
                by_cases q1 : s.Waits.n = 0
                · rw [if_pos q1, q1, lst_add]; unfold Sl.l; rw [q1]; rfl
                · rw [if_neg q1, lst_add]
              · rw [st4, own_run k s hn hm (by omega), Bool.or_false]
                by_cases q1 : s.Held.n = 0
                · rw [if_pos q1, if_pos q1]
                  by_cases q2 : s.Waits.n = 0
                  · rw [if_pos q2, if_pos q2, locks_Ask_r3_s, cov, hcv, locks_Ask_r4_s, cond_false, d, cond_false, grt', hok, locks_Ask_r8_s, cond_false, lit_row, cat_row]
                    show κ (.tup [.agg [.sl 5 0 (rowOf eLock fun _ => zLock) false, .sl 5 1 (fun i => rowOf eLock (addW 0 (fun _ => zLock) a) (0 + i)) false], .bool false, .int .i64 0]) = _
                    rw [zrow, q1, q2]; rfl
                  · rw [if_neg q2, if_neg q2, locks_Ask_r3_s1, cov, hcv, locks_Ask_r5_s, cond_false, d, cond_false, grt', hok, locks_Ask_r9_s, cond_false, dm, cond_false, dn, hm1, Bool.and_self, cond_true, lit_row, cat_row]
                    show κ (.tup [.agg [.sl 5 0 (rowOf eLock fun _ => zLock) false, .sl 5 (s.Waits.n + 1) (fun i => rowOf eLock (addW s.Waits.n s.Waits.w a) (0 + i)) false], .bool false, .int .i64 0]) = _
                    rw [zrow, q1]; rfl
                · rw [if_neg q1, if_neg q1]
                  by_cases q2 : s.Waits.n = 0
                  · rw [if_pos q2, if_pos q2, locks_Ask_r3_s2, cov, hcv, locks_Ask_r6_s, cond_false, d, cond_false, grt', hok, locks_Ask_r10_s, cond_false, lit_row, cat_row]
                    show κ (.tup [.agg [.sl 5 s.Held.n (fun i => rowOf eLock s.Held.w (0 + i)) false, .sl 5 1 (fun i => rowOf eLock (addW 0 (fun _ => zLock) a) (0 + i)) false], .bool false, .int .i64 0]) = _
                    rw [zrow, zrow, q2]; rfl
                  · rw [if_neg q2, if_neg q2, locks_Ask_r3_s3, cov, hcv, locks_Ask_r7_s, cond_false, d, cond_false, grt', hok, locks_Ask_r11_s, cond_false, dm, cond_false, dn, hm1, Bool.and_self, cond_true, lit_row, cat_row]
                    show κ (.tup [.agg [.sl 5 s.Held.n (fun i => rowOf eLock s.Held.w (0 + i)) false, .sl 5 (s.Waits.n + 1) (fun i => rowOf eLock (addW s.Waits.n s.Waits.w a) (0 + i)) false], .bool false, .int .i64 0]) = _
                    rw [zrow, zrow]; rfl
end Go.Proofs.YticcbbcgboddpaaC

set_option maxRecDepth 40000
namespace Go.Proofs.YticcbbcgboddpaaC
open Go Go.Ev Go.Proofs
variable {ρ : Type}
theorem head_ok (k : Nat) (κ : AV → Option ρ) : callP ctx (k + 300) n_law22_head [] κ = κ (.bool true) := by kernel_rfl
end Go.Proofs.YticcbbcgboddpaaC

set_option linter.unusedVariables false
set_option maxRecDepth 20000
namespace Go.Proofs.YticcbbcgboddpaaC
open Go Go.Ev Go.Proofs
variable {ρ : Type}
noncomputable def law22_LocksShared_h0 (k j : Nat) (l : (Sl TLock)) (x4 : Int) (κ : AV → Heap → Option ρ) : Option ρ := headAt ctx k n_law22_LocksShared 0 [.r, .r, .l, .r] j ⟨(envOf 54 [(0, .sl 5 l.n (rowOf eLock l.w) l.u), (3, .ref 0 0), (4, .int .i64 x4)]), [some (.box [.sl 5 0 (rowOf eLock (fun _ => zLock)) true, .sl 5 0 (rowOf eLock (fun _ => zLock)) true])]⟩ κ
noncomputable def law22_LocksShared_h1 (k j : Nat) (l : (Sl TLock)) (x4 : Int) (b0_0 : Sl TLock) (b0_1 : Sl TLock) (κ : AV → Heap → Option ρ) : Option ρ := headAt ctx k n_law22_LocksShared 0 [.r, .r, .l, .r] j ⟨(envOf 54 [(0, .sl 5 l.n (rowOf eLock l.w) l.u), (3, .ref 0 0), (4, .int .i64 x4)]), [some (.box [.sl 5 b0_0.n (rowOf eLock b0_0.w) false, .sl 5 b0_1.n (rowOf eLock b0_1.w) false])]⟩ κ
noncomputable def law22_LocksShared_r0 (k j1 : Nat) (l : (Sl TLock)) (x4 : Int) (κ : AV → Heap → Option ρ) (v : AV) : Option ρ := resAt ctx k n_law22_LocksShared 0 [.r, .r, .l, .r, .into j1, .r, .l, .r, .r, .l, .l] 1 [] ⟨(envOf 54 [(0, .sl 5 l.n (rowOf eLock l.w) l.u), (3, .ref 0 0), (4, .int .i64 x4), (5, .ref 1 0), (23, .ref 1 4), (24, .agg (eLock ⟨((l.w ((x4).toNat)).Tx), ⟨(((l.w ((x4).toNat)).R).From), (((l.w ((x4).toNat)).R).To), (((l.w ((x4).toNat)).R).End)⟩, false⟩)), (25, v)]), [some (.box [.sl 5 0 (rowOf eLock (fun _ => zLock)) true, .sl 5 0 (rowOf eLock (fun _ => zLock)) true]), some (.box (eLock ⟨((l.w ((x4).toNat)).Tx), ⟨(((l.w ((x4).toNat)).R).From), (((l.w ((x4).toNat)).R).To), (((l.w ((x4).toNat)).R).End)⟩, false⟩))]⟩ κ
noncomputable def law22_LocksShared_r1 (k : Nat) (l : (Sl TLock)) (x4 : Int) (x16 : Bool) (κ : AV → Heap → Option ρ) (v : AV) : Option ρ := resAt ctx k n_law22_LocksShared 0 [.r, .r, .r, .l] 0 [] ⟨(envOf 54 [(0, .sl 5 l.n (rowOf eLock l.w) l.u), (3, .ref 0 0), (4, .int .i64 x4), (16, .bool x16), (53, v)]), [some (.box [.sl 5 0 (rowOf eLock (fun _ => zLock)) true, .sl 5 0 (rowOf eLock (fun _ => zLock)) true])]⟩ κ
noncomputable def law22_LocksShared_r2 (k j1 : Nat) (l : (Sl TLock)) (x4 : Int) (b0_0 : Sl TLock) (b0_1 : Sl TLock) (κ : AV → Heap → Option ρ) (v : AV) : Option ρ := resAt ctx k n_law22_LocksShared 0 [.r, .r, .l, .r, .into j1, .r, .l, .r, .r, .l, .l] 1 [] ⟨(envOf 54 [(0, .sl 5 l.n (rowOf eLock l.w) l.u), (3, .ref 0 0), (4, .int .i64 x4), (5, .ref 1 0), (23, .ref 1 4), (24, .agg (eLock ⟨((l.w ((x4).toNat)).Tx), ⟨(((l.w ((x4).toNat)).R).From), (((l.w ((x4).toNat)).R).To), (((l.w ((x4).toNat)).R).End)⟩, false⟩)), (25, v)]), [some (.box [.sl 5 b0_0.n (rowOf eLock b0_0.w) false, .sl 5 b0_1.n (rowOf eLock b0_1.w) false]), some (.box (eLock ⟨((l.w ((x4).toNat)).Tx), ⟨(((l.w ((x4).toNat)).R).From), (((l.w ((x4).toNat)).R).To), (((l.w ((x4).toNat)).R).End)⟩, false⟩))]⟩ κ
noncomputable def law22_LocksShared_r3 (k : Nat) (l : (Sl TLock)) (x4 : Int) (b0_0 : Sl TLock) (b0_1 : Sl TLock) (x16 : Bool) (κ : AV → Heap → Option ρ) (v : AV) : Option ρ := resAt ctx k n_law22_LocksShared 0 [.r, .r, .r, .l] 0 [] ⟨(envOf 54 [(0, .sl 5 l.n (rowOf eLock l.w) l.u), (3, .ref 0 0), (4, .int .i64 x4), (16, .bool x16), (53, v)]), [some (.box [.sl 5 b0_0.n (rowOf eLock b0_0.w) false, .sl 5 b0_1.n (rowOf eLock b0_1.w) false])]⟩ κ
noncomputable def law22_LocksShared_r4 (k j1 : Nat) (l : (Sl TLock)) (r0 : Bool) (x4 : Int) (κ : AV → Heap → Option ρ) (v : AV) : Option ρ := resAt ctx k n_law22_LocksShared 0 [.r, .r, .l, .r, .into j1, .r, .l, .r, .r, .l, .r, .l, .l] 0 [] ⟨(envOf 54 [(0, .sl 5 l.n (rowOf eLock l.w) l.u), (3, .ref 0 0), (4, .int .i64 x4), (5, .ref 1 0), (23, .ref 1 4), (24, .agg (eLock ⟨((l.w ((x4).toNat)).Tx), ⟨(((l.w ((x4).toNat)).R).From), (((l.w ((x4).toNat)).R).To), (((l.w ((x4).toNat)).R).End)⟩, false⟩)), (25, .bool r0), (26, v)]), [some (.box [.sl 5 0 (rowOf eLock (fun _ => zLock)) true, .sl 5 0 (rowOf eLock (fun _ => zLock)) true]), some (.box (eLock ⟨((l.w ((x4).toNat)).Tx), ⟨(((l.w ((x4).toNat)).R).From), (((l.w ((x4).toNat)).R).To), (((l.w ((x4).toNat)).R).End)⟩, false⟩))]⟩ κ
noncomputable def law22_LocksShared_r5 (k j1 : Nat) (l : (Sl TLock)) (r0 : Bool) (x4 : Int) (κ : AV → Heap → Option ρ) (v : AV) : Option ρ := resAt ctx k n_law22_LocksShared 0 [.r, .r, .l, .r, .into j1, .r, .l, .r, .r, .r, .l] 2 [] ⟨(envOf 54 [(0, .sl 5 l.n (rowOf eLock l.w) l.u), (3, .ref 0 0), (4, .int .i64 x4), (5, .ref 1 0), (23, .ref 1 4), (24, .agg (eLock ⟨((l.w ((x4).toNat)).Tx), ⟨(((l.w ((x4).toNat)).R).From), (((l.w ((x4).toNat)).R).To), (((l.w ((x4).toNat)).R).End)⟩, false⟩)), (25, .bool r0), (28, .agg (eLocks zLocks)), (29, .agg (eLock ⟨((l.w ((x4).toNat)).Tx), ⟨(((l.w ((x4).toNat)).R).From), (((l.w ((x4).toNat)).R).To), (((l.w ((x4).toNat)).R).End)⟩, false⟩)), (30, v)]), [some (.box [.sl 5 0 (rowOf eLock (fun _ => zLock)) true, .sl 5 0 (rowOf eLock (fun _ => zLock)) true]), some (.box (eLock ⟨((l.w ((x4).toNat)).Tx), ⟨(((l.w ((x4).toNat)).R).From), (((l.w ((x4).toNat)).R).To), (((l.w ((x4).toNat)).R).End)⟩, false⟩))]⟩ κ
noncomputable def law22_LocksShared_r6 (k j1 : Nat) (l : (Sl TLock)) (r2 : Bool) (x4 : Int) (b0_0 : Sl TLock) (b0_1 : Sl TLock) (κ : AV → Heap → Option ρ) (v : AV) : Option ρ := resAt ctx k n_law22_LocksShared 0 [.r, .r, .l, .r, .into j1, .r, .l, .r, .r, .l, .r, .l, .l] 0 [] ⟨(envOf 54 [(0, .sl 5 l.n (rowOf eLock l.w) l.u), (3, .ref 0 0), (4, .int .i64 x4), (5, .ref 1 0), (23, .ref 1 4), (24, .agg (eLock ⟨((l.w ((x4).toNat)).Tx), ⟨(((l.w ((x4).toNat)).R).From), (((l.w ((x4).toNat)).R).To), (((l.w ((x4).toNat)).R).End)⟩, false⟩)), (25, .bool r2), (26, v)]), [some (.box [.sl 5 b0_0.n (rowOf eLock b0_0.w) false, .sl 5 b0_1.n (rowOf eLock b0_1.w) false]), some (.box (eLock ⟨((l.w ((x4).toNat)).Tx), ⟨(((l.w ((x4).toNat)).R).From), (((l.w ((x4).toNat)).R).To), (((l.w ((x4).toNat)).R).End)⟩, false⟩))]⟩ κ
noncomputable def law22_LocksShared_r7 (k j1 : Nat) (l : (Sl TLock)) (r2 : Bool) (x4 : Int) (b0_0 : Sl TLock) (b0_1 : Sl TLock) (κ : AV → Heap → Option ρ) (v : AV) : Option ρ := resAt ctx k n_law22_LocksShared 0 [.r, .r, .l, .r, .into j1, .r, .l, .r, .r, .r, .l] 2 [] ⟨(envOf 54 [(0, .sl 5 l.n (rowOf eLock l.w) l.u), (3, .ref 0 0), (4, .int .i64 x4), (5, .ref 1 0), (23, .ref 1 4), (24, .agg (eLock ⟨((l.w ((x4).toNat)).Tx), ⟨(((l.w ((x4).toNat)).R).From), (((l.w ((x4).toNat)).R).To), (((l.w ((x4).toNat)).R).End)⟩, false⟩)), (25, .bool r2), (28, .agg (eLocks ⟨⟨b0_0.n, b0_0.w, false⟩, ⟨b0_1.n, b0_1.w, false⟩⟩)), (29, .agg (eLock ⟨((l.w ((x4).toNat)).Tx), ⟨(((l.w ((x4).toNat)).R).From), (((l.w ((x4).toNat)).R).To), (((l.w ((x4).toNat)).R).End)⟩, false⟩)), (30, v)]), [some (.box [.sl 5 b0_0.n (rowOf eLock b0_0.w) false, .sl 5 b0_1.n (rowOf eLock b0_1.w) false]), some (.box (eLock ⟨((l.w ((x4).toNat)).Tx), ⟨(((l.w ((x4).toNat)).R).From), (((l.w ((x4).toNat)).R).To), (((l.w ((x4).toNat)).R).End)⟩, false⟩))]⟩ κ
noncomputable def law22_LocksShared_r8 (k j1 : Nat) (l : (Sl TLock)) (x4 : Int) (r5a : TLocks) (r5b : Bool) (r5c : Int) (κ : AV → Heap → Option ρ) (v : AV) : Option ρ := resAt ctx k n_law22_LocksShared 0 [.r, .r, .l, .r, .into j1, .r, .l, .r, .r, .r, .r, .r, .l, .l] 11 [(46, false), (40, false)] ⟨(envOf 54 [(0, .sl 5 l.n (rowOf eLock l.w) l.u), (3, .ref 0 0), (4, .int .i64 x4), (5, .ref 1 0), (6, .ref 2 0), (7, .bool r5b), (8, .int .i64 r5c), (34, .int .i64 r5c), (35, .bool (!decide (r5c = 0))), (38, .bool r5b), (39, .bool (!r5b)), (40, .bool (!r5b)), (41, .ref 2 1), (42, .sl 5 r5a.Waits.n (rowOf eLock r5a.Waits.w) false), (43, .int .i64 (r5a.Waits.n : Int)), (44, .bool (!decide ((r5a.Waits.n : Int) = 0))), (45, .bool (!decide ((r5a.Waits.n : Int) = 0))), (46, .bool (!decide ((r5a.Waits.n : Int) = 0))), (47, .agg (eLocks ⟨⟨r5a.Held.n, r5a.Held.w, false⟩, ⟨r5a.Waits.n, r5a.Waits.w, false⟩⟩)), (48, .agg (eLock ⟨((l.w ((x4).toNat)).Tx), ⟨(((l.w ((x4).toNat)).R).From), (((l.w ((x4).toNat)).R).To), (((l.w ((x4).toNat)).R).End)⟩, false⟩)), (49, v)]), [some (.box [.sl 5 0 (rowOf eLock (fun _ => zLock)) true, .sl 5 0 (rowOf eLock (fun _ => zLock)) true]), some (.box (eLock ⟨((l.w ((x4).toNat)).Tx), ⟨(((l.w ((x4).toNat)).R).From), (((l.w ((x4).toNat)).R).To), (((l.w ((x4).toNat)).R).End)⟩, false⟩)), some (.box [.sl 5 r5a.Held.n (rowOf eLock r5a.Held.w) false, .sl 5 r5a.Waits.n (rowOf eLock r5a.Waits.w) false])]⟩ κ
noncomputable def law22_LocksShared_r9 (k j1 : Nat) (l : (Sl TLock)) (x4 : Int) (b0_0 : Sl TLock) (b0_1 : Sl TLock) (r7a : TLocks) (r7b : Bool) (r7c : Int) (κ : AV → Heap → Option ρ) (v : AV) : Option ρ := resAt ctx k n_law22_LocksShared 0 [.r, .r, .l, .r, .into j1, .r, .l, .r, .r, .r, .r, .r, .l, .l] 11 [(46, false), (40, false)] ⟨(envOf 54 [(0, .sl 5 l.n (rowOf eLock l.w) l.u), (3, .ref 0 0), (4, .int .i64 x4), (5, .ref 1 0), (6, .ref 2 0), (7, .bool r7b), (8, .int .i64 r7c), (34, .int .i64 r7c), (35, .bool (!decide (r7c = 0))), (38, .bool r7b), (39, .bool (!r7b)), (40, .bool (!r7b)), (41, .ref 2 1), (42, .sl 5 r7a.Waits.n (rowOf eLock r7a.Waits.w) false), (43, .int .i64 (r7a.Waits.n : Int)), (44, .bool (!decide ((r7a.Waits.n : Int) = 0))), (45, .bool (!decide ((r7a.Waits.n : Int) = 0))), (46, .bool (!decide ((r7a.Waits.n : Int) = 0))), (47, .agg (eLocks ⟨⟨r7a.Held.n, r7a.Held.w, false⟩, ⟨r7a.Waits.n, r7a.Waits.w, false⟩⟩)), (48, .agg (eLock ⟨((l.w ((x4).toNat)).Tx), ⟨(((l.w ((x4).toNat)).R).From), (((l.w ((x4).toNat)).R).To), (((l.w ((x4).toNat)).R).End)⟩, false⟩)), (49, v)]), [some (.box [.sl 5 b0_0.n (rowOf eLock b0_0.w) false, .sl 5 b0_1.n (rowOf eLock b0_1.w) false]), some (.box (eLock ⟨((l.w ((x4).toNat)).Tx), ⟨(((l.w ((x4).toNat)).R).From), (((l.w ((x4).toNat)).R).To), (((l.w ((x4).toNat)).R).End)⟩, false⟩)), some (.box [.sl 5 r7a.Held.n (rowOf eLock r7a.Held.w) false, .sl 5 r7a.Waits.n (rowOf eLock r7a.Waits.w) false])]⟩ κ
theorem law22_LocksShared_h0_s (k j : Nat) (l : (Sl TLock)) (x4 : Int) (κ : AV → Heap → Option ρ) : law22_LocksShared_h0 k (j + 1) l x4 κ =
  (bif decide (x4 < (l.n : Int)) then
   (bif decide (x4 < 60) then
    (bif idxOK x4 l.n then
     callP ctx k n_law22_great [.agg (eLock ⟨((l.w ((x4).toNat)).Tx), ⟨(((l.w ((x4).toNat)).R).From), (((l.w ((x4).toNat)).R).To), (((l.w ((x4).toNat)).R).End)⟩, false⟩)] (law22_LocksShared_r0 k j l x4 κ)
    else none)
   else callP ctx k n_law22_head [] (law22_LocksShared_r1 k l x4 (decide (x4 < 60)) κ))
  else callP ctx k n_law22_head [] (law22_LocksShared_r1 k l x4 false κ)) := by kernel_rfl
theorem law22_LocksShared_h1_s (k j : Nat) (l : (Sl TLock)) (x4 : Int) (b0_0 : Sl TLock) (b0_1 : Sl TLock) (κ : AV → Heap → Option ρ) : law22_LocksShared_h1 k (j + 1) l x4 b0_0 b0_1 κ =
  (bif decide (x4 < (l.n : Int)) then
   (bif decide (x4 < 60) then
    (bif idxOK x4 l.n then
     callP ctx k n_law22_great [.agg (eLock ⟨((l.w ((x4).toNat)).Tx), ⟨(((l.w ((x4).toNat)).R).From), (((l.w ((x4).toNat)).R).To), (((l.w ((x4).toNat)).R).End)⟩, false⟩)] (law22_LocksShared_r2 k j l x4 b0_0 b0_1 κ)
    else none)
   else callP ctx k n_law22_head [] (law22_LocksShared_r3 k l x4 b0_0 b0_1 (decide (x4 < 60)) κ))
  else callP ctx k n_law22_head [] (law22_LocksShared_r3 k l x4 b0_0 b0_1 false κ)) := by kernel_rfl
theorem law22_LocksShared_r0_s (k j1 : Nat) (l : (Sl TLock)) (x4 : Int) (r0 : Bool) (κ : AV → Heap → Option ρ) : law22_LocksShared_r0 k j1 l x4 κ (.bool r0) =
  (bif r0 then
   callP ctx k n_law22_head [] (law22_LocksShared_r4 k j1 l r0 x4 κ)
  else callP ctx k n_locks_Ask [.agg (eLocks zLocks), .agg (eLock ⟨((l.w ((x4).toNat)).Tx), ⟨(((l.w ((x4).toNat)).R).From), (((l.w ((x4).toNat)).R).To), (((l.w ((x4).toNat)).R).End)⟩, false⟩)] (law22_LocksShared_r5 k j1 l r0 x4 κ)) := by kernel_rfl
theorem law22_LocksShared_r1_s (k : Nat) (l : (Sl TLock)) (x4 : Int) (x16 : Bool) (r1 : Bool) (κ : AV → Heap → Option ρ) : law22_LocksShared_r1 k l x4 x16 κ (.bool r1) =
  κ (.bool r1) [some (.box [.sl 5 0 (rowOf eLock (fun _ => zLock)) true, .sl 5 0 (rowOf eLock (fun _ => zLock)) true])] := by kernel_rfl
theorem law22_LocksShared_r2_s (k j1 : Nat) (l : (Sl TLock)) (x4 : Int) (b0_0 : Sl TLock) (b0_1 : Sl TLock) (r2 : Bool) (κ : AV → Heap → Option ρ) : law22_LocksShared_r2 k j1 l x4 b0_0 b0_1 κ (.bool r2) =
  (bif r2 then
   callP ctx k n_law22_head [] (law22_LocksShared_r6 k j1 l r2 x4 b0_0 b0_1 κ)
  else callP ctx k n_locks_Ask [.agg (eLocks ⟨⟨b0_0.n, b0_0.w, false⟩, ⟨b0_1.n, b0_1.w, false⟩⟩), .agg (eLock ⟨((l.w ((x4).toNat)).Tx), ⟨(((l.w ((x4).toNat)).R).From), (((l.w ((x4).toNat)).R).To), (((l.w ((x4).toNat)).R).End)⟩, false⟩)] (law22_LocksShared_r7 k j1 l r2 x4 b0_0 b0_1 κ)) := by kernel_rfl
theorem law22_LocksShared_r3_s (k : Nat) (l : (Sl TLock)) (x4 : Int) (b0_0 : Sl TLock) (b0_1 : Sl TLock) (x16 : Bool) (r3 : Bool) (κ : AV → Heap → Option ρ) : law22_LocksShared_r3 k l x4 b0_0 b0_1 x16 κ (.bool r3) =
  κ (.bool r3) [some (.box [.sl 5 b0_0.n (rowOf eLock b0_0.w) false, .sl 5 b0_1.n (rowOf eLock b0_1.w) false])] := by kernel_rfl
theorem law22_LocksShared_r4_s (k j1 : Nat) (l : (Sl TLock)) (r0 : Bool) (x4 : Int) (r4 : Bool) (κ : AV → Heap → Option ρ) : law22_LocksShared_r4 k j1 l r0 x4 κ (.bool r4) =
  κ (.bool r4) [some (.box [.sl 5 0 (rowOf eLock (fun _ => zLock)) true, .sl 5 0 (rowOf eLock (fun _ => zLock)) true]), some (.box (eLock ⟨((l.w ((x4).toNat)).Tx), ⟨(((l.w ((x4).toNat)).R).From), (((l.w ((x4).toNat)).R).To), (((l.w ((x4).toNat)).R).End)⟩, false⟩))] := by kernel_rfl
theorem law22_LocksShared_r5_s (k j1 : Nat) (l : (Sl TLock)) (r0 : Bool) (x4 : Int) (r5a : TLocks) (r5b : Bool) (r5c : Int) (κ : AV → Heap → Option ρ) : law22_LocksShared_r5 k j1 l r0 x4 κ (.tup [.agg (eLocks ⟨⟨r5a.Held.n, r5a.Held.w, false⟩, ⟨r5a.Waits.n, r5a.Waits.w, false⟩⟩), .bool r5b, .int .i64 r5c]) =
  (bif !decide (r5c = 0) then
   (bif !decide (r5c = 2) then
    κ (.bool false) [some (.box [.sl 5 0 (rowOf eLock (fun _ => zLock)) true, .sl 5 0 (rowOf eLock (fun _ => zLock)) true]), some (.box (eLock ⟨((l.w ((x4).toNat)).Tx), ⟨(((l.w ((x4).toNat)).R).From), (((l.w ((x4).toNat)).R).To), (((l.w ((x4).toNat)).R).End)⟩, false⟩)), some (.box [.sl 5 r5a.Held.n (rowOf eLock r5a.Held.w) false, .sl 5 r5a.Waits.n (rowOf eLock r5a.Waits.w) false])]
   else law22_LocksShared_h0 k j1 l (wi64 (x4 + 1)) κ)
  else (bif !r5b then
    κ (.bool false) [some (.box [.sl 5 0 (rowOf eLock (fun _ => zLock)) true, .sl 5 0 (rowOf eLock (fun _ => zLock)) true]), some (.box [.sl 5 r5a.Held.n (rowOf eLock r5a.Held.w) false, .sl 5 r5a.Waits.n (rowOf eLock r5a.Waits.w) false])]
   else (bif !decide ((r5a.Waits.n : Int) = 0) then
     κ (.bool false) [some (.box [.sl 5 0 (rowOf eLock (fun _ => zLock)) true, .sl 5 0 (rowOf eLock (fun _ => zLock)) true]), some (.box [.sl 5 r5a.Held.n (rowOf eLock r5a.Held.w) false, .sl 5 r5a.Waits.n (rowOf eLock r5a.Waits.w) false])]
    else callP ctx k n_locks_Holds [.agg (eLocks ⟨⟨r5a.Held.n, r5a.Held.w, false⟩, ⟨r5a.Waits.n, r5a.Waits.w, false⟩⟩), .agg (eLock ⟨((l.w ((x4).toNat)).Tx), ⟨(((l.w ((x4).toNat)).R).From), (((l.w ((x4).toNat)).R).To), (((l.w ((x4).toNat)).R).End)⟩, false⟩)] (law22_LocksShared_r8 k j1 l x4 r5a r5b r5c κ)))) := by kernel_rfl
theorem law22_LocksShared_r6_s (k j1 : Nat) (l : (Sl TLock)) (r2 : Bool) (x4 : Int) (b0_0 : Sl TLock) (b0_1 : Sl TLock) (r6 : Bool) (κ : AV → Heap → Option ρ) : law22_LocksShared_r6 k j1 l r2 x4 b0_0 b0_1 κ (.bool r6) =
  κ (.bool r6) [some (.box [.sl 5 b0_0.n (rowOf eLock b0_0.w) false, .sl 5 b0_1.n (rowOf eLock b0_1.w) false]), some (.box (eLock ⟨((l.w ((x4).toNat)).Tx), ⟨(((l.w ((x4).toNat)).R).From), (((l.w ((x4).toNat)).R).To), (((l.w ((x4).toNat)).R).End)⟩, false⟩))] := by kernel_rfl
theorem law22_LocksShared_r7_s (k j1 : Nat) (l : (Sl TLock)) (r2 : Bool) (x4 : Int) (b0_0 : Sl TLock) (b0_1 : Sl TLock) (r7a : TLocks) (r7b : Bool) (r7c : Int) (κ : AV → Heap → Option ρ) : law22_LocksShared_r7 k j1 l r2 x4 b0_0 b0_1 κ (.tup [.agg (eLocks ⟨⟨r7a.Held.n, r7a.Held.w, false⟩, ⟨r7a.Waits.n, r7a.Waits.w, false⟩⟩), .bool r7b, .int .i64 r7c]) =
  (bif !decide (r7c = 0) then
   (bif !decide (r7c = 2) then
    κ (.bool false) [some (.box [.sl 5 b0_0.n (rowOf eLock b0_0.w) false, .sl 5 b0_1.n (rowOf eLock b0_1.w) false]), some (.box (eLock ⟨((l.w ((x4).toNat)).Tx), ⟨(((l.w ((x4).toNat)).R).From), (((l.w ((x4).toNat)).R).To), (((l.w ((x4).toNat)).R).End)⟩, false⟩)), some (.box [.sl 5 r7a.Held.n (rowOf eLock r7a.Held.w) false, .sl 5 r7a.Waits.n (rowOf eLock r7a.Waits.w) false])]
   else law22_LocksShared_h1 k j1 l (wi64 (x4 + 1)) ⟨b0_0.n, b0_0.w, false⟩ ⟨b0_1.n, b0_1.w, false⟩ κ)
  else (bif !r7b then
    κ (.bool false) [some (.box [.sl 5 b0_0.n (rowOf eLock b0_0.w) false, .sl 5 b0_1.n (rowOf eLock b0_1.w) false]), some (.box [.sl 5 r7a.Held.n (rowOf eLock r7a.Held.w) false, .sl 5 r7a.Waits.n (rowOf eLock r7a.Waits.w) false])]
   else (bif !decide ((r7a.Waits.n : Int) = 0) then
     κ (.bool false) [some (.box [.sl 5 b0_0.n (rowOf eLock b0_0.w) false, .sl 5 b0_1.n (rowOf eLock b0_1.w) false]), some (.box [.sl 5 r7a.Held.n (rowOf eLock r7a.Held.w) false, .sl 5 r7a.Waits.n (rowOf eLock r7a.Waits.w) false])]
    else callP ctx k n_locks_Holds [.agg (eLocks ⟨⟨r7a.Held.n, r7a.Held.w, false⟩, ⟨r7a.Waits.n, r7a.Waits.w, false⟩⟩), .agg (eLock ⟨((l.w ((x4).toNat)).Tx), ⟨(((l.w ((x4).toNat)).R).From), (((l.w ((x4).toNat)).R).To), (((l.w ((x4).toNat)).R).End)⟩, false⟩)] (law22_LocksShared_r9 k j1 l x4 b0_0 b0_1 r7a r7b r7c κ)))) := by kernel_rfl
theorem law22_LocksShared_r8_s (k j1 : Nat) (l : (Sl TLock)) (x4 : Int) (r5a : TLocks) (r5b : Bool) (r5c : Int) (r8 : Bool) (κ : AV → Heap → Option ρ) : law22_LocksShared_r8 k j1 l x4 r5a r5b r5c κ (.bool r8) =
  (bif !r8 then
   κ (.bool false) [some (.box [.sl 5 0 (rowOf eLock (fun _ => zLock)) true, .sl 5 0 (rowOf eLock (fun _ => zLock)) true]), some (.box [.sl 5 r5a.Held.n (rowOf eLock r5a.Held.w) false, .sl 5 r5a.Waits.n (rowOf eLock r5a.Waits.w) false])]
  else law22_LocksShared_h1 k j1 l (wi64 (x4 + 1)) ⟨r5a.Held.n, r5a.Held.w, false⟩ ⟨r5a.Waits.n, r5a.Waits.w, false⟩ κ) := by kernel_rfl
theorem law22_LocksShared_r9_s (k j1 : Nat) (l : (Sl TLock)) (x4 : Int) (b0_0 : Sl TLock) (b0_1 : Sl TLock) (r7a : TLocks) (r7b : Bool) (r7c : Int) (r9 : Bool) (κ : AV → Heap → Option ρ) : law22_LocksShared_r9 k j1 l x4 b0_0 b0_1 r7a r7b r7c κ (.bool r9) =
  (bif !r9 then
   κ (.bool false) [some (.box [.sl 5 b0_0.n (rowOf eLock b0_0.w) false, .sl 5 b0_1.n (rowOf eLock b0_1.w) false]), some (.box [.sl 5 r7a.Held.n (rowOf eLock r7a.Held.w) false, .sl 5 r7a.Waits.n (rowOf eLock r7a.Waits.w) false])]
  else law22_LocksShared_h1 k j1 l (wi64 (x4 + 1)) ⟨r7a.Held.n, r7a.Held.w, false⟩ ⟨r7a.Waits.n, r7a.Waits.w, false⟩ κ) := by kernel_rfl
theorem law22_LocksShared_e (k : Nat) (l : (Sl TLock)) (κ : AV → Heap → Option ρ) : evalF ctx (k + 1) n_law22_LocksShared [.sl 5 l.n (rowOf eLock l.w) l.u] [] κ =
  law22_LocksShared_h0 k k l 0 κ := by kernel_rfl
end Go.Proofs.YticcbbcgboddpaaC

set_option linter.unusedVariables false
set_option linter.unusedSimpArgs false
set_option maxRecDepth 20000
namespace Go.Proofs.YticcbbcgboddpaaC
open Go Go.Ev Go.Proofs
/-- from an answer told for any rest to the answer -/
theorem told_true {c : Ctx} {K f : Nat} {xs : List AV} (h : ∀ (κ : AV → Heap → Option Bool), (∀ b H, κ (.bool b) H = some b) → evalF c K f xs [] κ = some true) : evalF c K f xs [] (fun v _ => some v) = some (.bool true) := by
  have h := h (fun v _ => match v with | .bool b => some b | _ => none) (fun _ _ => rfl)
  rw [evalF_bind] at h ⊢
  obtain ⟨r, H1, hr, hk⟩ := on_some h
  unfold Call1.on
  rw [hr]
  cases r <;> first | (cases hk; rfl) | cases hk
theorem any_lst {α : Type} (n : Nat) (w : Nat → α) (P : α → Bool) : anyN n (fun i => P (w i)) = (lst n w).any P := by
  unfold anyN lst
  rw [List.any_map]; rfl
def Good (s : TLocks) (i : Nat) : Prop := s.Waits.n = 0 ∧ s.Held.n ≤ i ∧ ∀ x ∈ lst s.Held.n s.Held.w, x.X = false ∧ mayB x = true
theorem shared_ok {a b : TLock} (ha : a.X = false) (hb : b.X = false) : againstB a b = false := by
  unfold againstB
  rw [ha, hb]; cases decide (a.Tx = b.Tx) <;> rfl
theorem any_none {n : Nat} {P : Nat → Bool} (h : ∀ i, i < n → P i = false) : anyN n P = false := by
  cases hh : anyN n P with
  | false => rfl
  | true =>
    obtain ⟨i, hi, hp⟩ := anyN_true.1 hh
    rw [h i hi] at hp; cases hp
theorem good_at {s : TLocks} {i : Nat} (h : Good s i) {j : Nat} (hj : j < s.Held.n) : (s.Held.w j).X = false ∧ mayB (s.Held.w j) = true := h.2.2 _ (lst_mem.2 ⟨j, hj, rfl⟩)
theorem good_grants {s : TLocks} {i : Nat} (h : Good s i) {a : TLock} (ha : a.X = false) {j : Nat} (hj : j ≤ s.Held.n) (m : Nat) (hm : m = 0) (w : Nat → TLock) : grantsB a j s.Held.w m w = true := by
  subst hm
  unfold grantsB
  rw [any_none (fun i hi => shared_ok ha (good_at h (by omega)).1), any_none (fun i hi => by omega)]; rfl
theorem good_check {s : TLocks} {i : Nat} (h : Good s i) (hi : i ≤ 60) : checkB s = true := by
  have h1 := h.1
  have h2 := h.2.1
  unfold checkB
  rw [decide_eq_true (by omega), h1, Bool.true_and, Bool.and_eq_true]
  refine ⟨allN_true.2 fun j hj => ?_, allN_true.2 fun j hj => by omega⟩
  unfold heldP
  rw [(good_at h hj).2, good_grants h (good_at h hj).1 (by omega) 0 rfl]; rfl
theorem covers_self {a : TLock} (ha : a.X = false) (hm : mayB a = true) : coversB a a = true := by
  have hr : rRight a.R = true := by
    unfold mayB at hm
    simp only [Bool.and_eq_true] at hm
    exact hm.2
  unfold coversB withinB
  rw [dec_int, ha, hr, bl_irrefl, bl_irrefl]
  cases a.R.End <;> rfl
theorem step_ok {s : TLocks} {i : Nat} (h : Good s i) (hi : i < 60) {a : TLock} (ha : a.X = false) :
    (mayB a = false → askE s a = 2) ∧ (mayB a = true → askE s a = 0 ∧ askG s a = true ∧ askW s a = [] ∧
      ∀ n v m w u u', lst n v = askH s a → lst m w = askW s a → Good ⟨⟨n, v, u⟩, ⟨m, w, u'⟩⟩ (i + 1) ∧ coveredB ⟨⟨n, v, u⟩, ⟨m, w, u'⟩⟩ a = true) := by
  have hc := good_check h (by omega)
  have h1 := h.1
  have h2 := h.2.1
  constructor
  · intro hm
    unfold askE
    rw [hc, hm]; rfl
  · intro hm
    have hE : askE s a = 0 := by
      unfold askE
      rw [hc, hm, any_none (fun i hi => by omega), if_neg (by decide), if_neg (by decide), if_neg (by decide), if_neg (show ¬ s.Held.n + s.Waits.n = 200 by omega)]
      split <;> rfl
    have hok : okB s a = true := good_grants h ha (Nat.le_refl _) _ h1 _
    have hW : askW s a = [] := by
      unfold askW
      rw [hE, if_neg (show ¬ ((0 : Int) ≠ 0) by decide), hok, Bool.or_true, if_pos rfl]
      unfold Sl.l; rw [h1]; rfl
    refine ⟨hE, by unfold askG; rw [hE, hok, dec_int, Bool.or_true]; rfl, hW, fun n v m w u u' hn hw => ?_⟩
    rw [hW] at hw
    have hm0 : m = 0 := by have := congrArg List.length hw; rw [lst_len] at this; exact this
    have hH : askH s a = if coveredB s a = true then s.Held.l else s.Held.l ++ [a] := by
      unfold askH
      rw [hE, if_neg (show ¬ ((0 : Int) ≠ 0) by decide), hok, Bool.and_true]
      cases coveredB s a <;> rfl
    rw [hH] at hn
    have hlen : n ≤ s.Held.n + 1 := by
      have := congrArg List.length hn
      rw [lst_len] at this
      split at this <;> simp [lst_len] at this <;> omega
    refine ⟨⟨hm0, by show n ≤ i + 1; omega, fun x hx => ?_⟩, ?_⟩
    · have hx : x ∈ lst n v := hx
      rw [hn] at hx
      split at hx
      · exact h.2.2 x hx
      · rcases List.mem_append.1 hx with hx | hx
        · exact h.2.2 x hx
        · rw [List.mem_singleton.1 hx]; exact ⟨ha, hm⟩
    · show anyN n (fun i => coversB (v i) a) = true
      rw [any_lst n v (fun x => coversB x a), hn]
      split
      · rename_i hcv
        unfold coveredB at hcv
        rw [any_lst s.Held.n s.Held.w (fun x => coversB x a)] at hcv
        exact hcv
      · rw [List.any_append]
        simp [covers_self ha hm]
theorem great_ok (k : Nat) (a : TLock) (hk : 1 ≤ k) {ρ : Type} (κ : AV → Option ρ) : callP ctx k n_law22_great [.agg (eLock a)] κ = κ (.bool (decide (2000 < a.R.From.size) || decide (2000 < a.R.To.size))) := by
  obtain ⟨k, rfl⟩ : ∃ k', k = k' + 1 := ⟨k - 1, by omega⟩
  rw [callP_eq, law22_great_e]
  rw [show decide (2000 < (a.R.From.size : Int)) = decide (2000 < a.R.From.size) from decide_eq_decide.2 (by omega), show decide (2000 < (a.R.To.size : Int)) = decide (2000 < a.R.To.size) from decide_eq_decide.2 (by omega)]
  cases decide (2000 < a.R.From.size) <;> rfl
theorem locksShared_pure (l : Sl TLock) (h0 : (SSl 56 SLock) l) : ∃ k, evalF ctx k n_law22_LocksShared [.sl 5 l.n (rowOf eLock l.w) l.u] [] (fun v _ => some v) = some (.bool true) := by
  suffices h : ∀ K, l.n + 1000 ≤ K → ∀ (κ : AV → Heap → Option Bool), (∀ b H, κ (.bool b) H = some b) → evalF ctx (K + 1) n_law22_LocksShared [.sl 5 l.n (rowOf eLock l.w) l.u] [] κ = some true by
    exact ⟨l.n + 1000 + 1, told_true (h (l.n + 1000) (Nat.le_refl _))⟩
  intro K hK κ hκ
  have hh : ∀ κ : AV → Option Bool, callP ctx K n_law22_head [] κ = κ (.bool true) := by
    intro κ
    obtain ⟨K0, rfl⟩ : ∃ K0, K = K0 + 300 := ⟨K - 300, by omega⟩
    exact head_ok K0 κ
  refine (law22_LocksShared_e K l κ).trans ?_
  have one : ∀ j i (s : TLocks), i ≤ l.n → l.n < i + j → Good s i → law22_LocksShared_h1 K j l (i : Int) s.Held s.Waits κ = some true := by
    intro j
    induction j with
    | zero => intro i s h1 h2; omega
    | succ j ih =>
      intro i s h1 h2 hg
      have g1 := hg.1
      have g2 := hg.2.1
      rw [law22_LocksShared_h1_s]
      by_cases hi : i < l.n
      · rw [dec_t (show (i : Int) < (l.n : Int) by omega), cond_true]
        by_cases h60 : i < 60
        · rw [dec_t (show (i : Int) < 60 by omega), cond_true, idx_ok (by omega) (by omega), cond_true]
          simp only [Int.toNat_natCast]
          generalize hA : (⟨(l.w i).Tx, ⟨(l.w i).R.From, (l.w i).R.To, (l.w i).R.End⟩, false⟩ : TLock) = A
          have hAX : A.X = false := by rw [← hA]
          rw [great_ok K A (by omega)]
          cases hgr : (decide (2000 < A.R.From.size) || decide (2000 < A.R.To.size)) with
          | true =>
            rw [law22_LocksShared_r2_s, cond_true, hh, law22_LocksShared_r6_s, hκ]
          | false =>
            rw [law22_LocksShared_r2_s, cond_false, Int.toNat_natCast, hA]
            obtain ⟨n, v, m, w, q1, q2, q3⟩ := Ask_ok (ρ := Bool) K ⟨⟨s.Held.n, s.Held.w, false⟩, ⟨s.Waits.n, s.Waits.w, false⟩⟩ A (by show s.Held.n ≤ _; omega) (by show s.Waits.n ≤ _; omega) (by show s.Held.n + s.Waits.n + 80 ≤ K; omega)
            have hg' : Good ⟨⟨s.Held.n, s.Held.w, false⟩, ⟨s.Waits.n, s.Waits.w, false⟩⟩ i := hg
            obtain ⟨e1, e2⟩ := step_ok hg' h60 hAX
            rw [q3]
            refine (law22_LocksShared_r7_s K j l false (i : Int) s.Held s.Waits ⟨⟨n, v, false⟩, ⟨m, w, false⟩⟩ _ _ κ).trans ?_
            cases hm : mayB A with
            | false =>
              rw [e1 hm, dec_f (show ¬ (2 : Int) = 0 by decide), Bool.not_false, cond_true, dec_int, Bool.not_true, cond_false, wi64_succ (by omega)]
              exact ih (i + 1) ⟨⟨s.Held.n, s.Held.w, false⟩, ⟨s.Waits.n, s.Waits.w, false⟩⟩ hi (by omega) ⟨g1, by show s.Held.n ≤ i + 1; omega, hg.2.2⟩
            | true =>
              obtain ⟨f1, f2, f3, f4⟩ := e2 hm
              obtain ⟨f5, f6⟩ := f4 n v m w false false q1 q2
              have hm0 : m = 0 := f5.1
              have hn1 : n ≤ i + 1 := f5.2.1
              rw [f1, f2, dec_int, Bool.not_true, cond_false, cond_false, dec_t (show (m : Int) = 0 by omega), Bool.not_true, cond_false, Int.toNat_natCast, hA]
              refine (locks_Holds_ok K ⟨⟨n, v, false⟩, ⟨m, w, false⟩⟩ A (by show n ≤ _; omega) (by show m ≤ _; omega) (by show n + m + 60 ≤ K; omega) _).trans ?_
              rw [good_check f5 (by omega), hm, f6]
              refine (law22_LocksShared_r9_s K j l (i : Int) s.Held s.Waits ⟨⟨n, v, false⟩, ⟨m, w, false⟩⟩ _ _ true κ).trans ?_
              rw [Bool.not_true, cond_false, wi64_succ (by omega)]
              exact ih (i + 1) ⟨⟨n, v, false⟩, ⟨m, w, false⟩⟩ hi (by omega) f5
        · rw [dec_f (show ¬ (i : Int) < 60 by omega), cond_false, hh, law22_LocksShared_r3_s, hκ]
      · rw [dec_f (show ¬ (i : Int) < (l.n : Int) by omega), cond_false, hh, law22_LocksShared_r3_s, hκ]
  have zero : ∀ j i, i ≤ l.n → l.n < i + j → law22_LocksShared_h0 K j l (i : Int) κ = some true := by
    intro j
    induction j with
    | zero => intro i h1 h2; omega
    | succ j ih =>
      intro i h1 h2
      have hg : Good zLocks i := ⟨rfl, Nat.zero_le _, fun x hx => by cases hx⟩
      rw [law22_LocksShared_h0_s]
      by_cases hi : i < l.n
      · rw [dec_t (show (i : Int) < (l.n : Int) by omega), cond_true]
        by_cases h60 : i < 60
        · rw [dec_t (show (i : Int) < 60 by omega), cond_true, idx_ok (by omega) (by omega), cond_true]
          simp only [Int.toNat_natCast]
          generalize hA : (⟨(l.w i).Tx, ⟨(l.w i).R.From, (l.w i).R.To, (l.w i).R.End⟩, false⟩ : TLock) = A
          have hAX : A.X = false := by rw [← hA]
          rw [great_ok K A (by omega)]
          cases hgr : (decide (2000 < A.R.From.size) || decide (2000 < A.R.To.size)) with
          | true =>
            rw [law22_LocksShared_r0_s, cond_true, hh, law22_LocksShared_r4_s, hκ]
          | false =>
            rw [law22_LocksShared_r0_s, cond_false, Int.toNat_natCast, hA]
            obtain ⟨n, v, m, w, q1, q2, q3⟩ := Ask_ok (ρ := Bool) K zLocks A (by decide) (by decide) (by show 0 + 0 + 80 ≤ K; omega)
            obtain ⟨e1, e2⟩ := step_ok hg h60 hAX
            rw [q3]
            refine (law22_LocksShared_r5_s K j l false (i : Int) ⟨⟨n, v, false⟩, ⟨m, w, false⟩⟩ _ _ κ).trans ?_
            cases hm : mayB A with
            | false =>
              rw [e1 hm, dec_f (show ¬ (2 : Int) = 0 by decide), Bool.not_false, cond_true, dec_int, Bool.not_true, cond_false, wi64_succ (by omega)]
              exact ih (i + 1) hi (by omega)
            | true =>
              obtain ⟨f1, f2, f3, f4⟩ := e2 hm
              obtain ⟨f5, f6⟩ := f4 n v m w false false q1 q2
              have hm0 : m = 0 := f5.1
              have hn1 : n ≤ i + 1 := f5.2.1
              rw [f1, f2, dec_int, Bool.not_true, cond_false, cond_false, dec_t (show (m : Int) = 0 by omega), Bool.not_true, cond_false, Int.toNat_natCast, hA]
              refine (locks_Holds_ok K ⟨⟨n, v, false⟩, ⟨m, w, false⟩⟩ A (by show n ≤ _; omega) (by show m ≤ _; omega) (by show n + m + 60 ≤ K; omega) _).trans ?_
              rw [good_check f5 (by omega), hm, f6]
              refine (law22_LocksShared_r8_s K j l (i : Int) ⟨⟨n, v, false⟩, ⟨m, w, false⟩⟩ _ _ true κ).trans ?_
              rw [Bool.not_true, cond_false, wi64_succ (by omega)]
              exact one j (i + 1) ⟨⟨n, v, false⟩, ⟨m, w, false⟩⟩ hi (by omega) f5
        · rw [dec_f (show ¬ (i : Int) < 60 by omega), cond_false, hh, law22_LocksShared_r1_s, hκ]
      · rw [dec_f (show ¬ (i : Int) < (l.n : Int) by omega), cond_false, hh, law22_LocksShared_r1_s, hκ]
  exact zero K 0 (by omega) (by omega)
end Go.Proofs.YticcbbcgboddpaaC

namespace Go.Proofs.Yticcbbcgboddpaa.locksShared
open Go Go.ChangeShapes Go.WideShapes Go.ChangeAt Go.RowKit Go.Ev Go.Proofs.YticcbbcgboddpaaC
open Go.ChangeMaps (open_string shut_string)
set_option linter.unusedVariables false
theorem own : ownKnob Try.prog.godebug = none := by kernel_rfl
theorem laidOut : laidOutB Try.prog = true := by kernel_rfl
set_option maxRecDepth 100000 in
theorem lifted (os : Os) (started : os.Started) (H : Type) (enc : TypeId × Value → H) :
    ReturnsInHanded {} Try.checked os 4 .any (Rows.locksSharedSpec.pre6 enc Try.prog Try.f4 Rows.locksSharedRow.domain false) (Rows.locksSharedSpec.post enc Try.prog Try.f4 false true false false) := by
  refine returnsInHanded_of_change_sized (C := Try.checked) own started (by kernel_rfl) Try.func4
    (ChangeSpec.witness6 (enc := enc) (C := Try.checked) false ⟨#[], #[.slice none 0 0], []⟩ 8 (by kernel_rfl) (by kernel_rfl) (by kernel_rfl) (by kernel_rfl)) ?_
  intro W base args ds gs before hval0 hW hcnd hsz0 _
  have hsz : (DataW.weightsEach Try.prog (Try.f4.params.toList ++ Rows.locksSharedSpec.plain.varTypes Try.prog) (ds ++ gs)).all (· ≤ reachBytes) = true := hsz0
  have hval : ∀ (j : Nat) t v, Try.f4.params[j]? = some t → args[j]? = some v → Value.okWide Try.prog W .any base t v := hval0
  have hW' := hW
  obtain ⟨p, q, hA0, hV, rfl, hfz, hnd⟩ := hW
  have hA : DataW.TrodAll enc Try.prog W 0 (fun _ => true) true Try.f4.params.toList args.toList ds p := hA0
  rw [Try.params4] at hA hval hsz
  obtain ⟨v0, vs0, d0, ds0, p0, q0, hargs, rfl, rfl, h0, r0⟩ := trodAll_cons hA
  obtain ⟨rfl, rfl, rfl⟩ := trodAll_nil r0
  obtain rfl : args = #[v0] := by cases args; simp_all
  obtain ⟨rfl, rfl⟩ := trodVars_none hV
  have k0 := h0
  have lt0 : ∀ x ∈ p0, x.block < W.heap.size := by obtain ⟨m, hm⟩ := k0; exact DataW.trod_lt m _ _ _ hm
  obtain ⟨a0, hK0, hS0⟩ := opened (j := 0) (t := 26) (Opens.eL Try.underlying26 rfl rfl (by decide) opens34) hsz rfl rfl h0
  clear hA0 hval0 hsz0
  obtain ⟨k, h⟩ := locksShared_pure a0 hS0
  refine (top ((arg_slice Try.underlying26 (hval 0 26 v0 rfl rfl) hK0)) h).mono fun e W' ⟨he, bel⟩ => ?_
  subst he
  exact ⟨_, rfl, _, _, _, [], _, [], hW', trodAll_mk1 (shut_bool Try.underlying4 _), (trodAll_cons_mk (Below.trod laidOut (by kernel_rfl) (of_decide_eq_true (by kernel_rfl)) k0 bel lt0) trodAll_mk0), rfl, bel.frame _, fun h => by cases h⟩
theorem over : Rows.locksSharedRow.holds Try.pinned (OpenSpec.ofChange Rows.locksSharedSpec) :=
  OpenClaim.holds_of_wide 4 Try.f4 rfl rfl rfl rfl rfl rfl rfl ⟨rfl, rfl, rfl, rfl, rfl⟩ rfl rfl rfl rfl rfl (by kernel_rfl) Try.func4 (by kernel_rfl)
    (of_decide_eq_true (by kernel_rfl)) (by unfold Func.isWrapper; first | (rw [if_pos (by decide +kernel)]; kernel_rfl) | (rw [if_neg (by decide +kernel)]; exact ⟨rfl, rfl⟩))
    (fun os started H enc _ => lifted os started H enc)
theorem proved : Rows.LocksSharedSaid := over
end Go.Proofs.Yticcbbcgboddpaa.locksShared
namespace Go.Proofs.Yticcbbcgboddpaa
/-- The row, under a short name, for the claim. -/
theorem locksShared_holds : Rows.LocksSharedSaid := locksShared.proved
#print axioms locksShared_holds
end Go.Proofs.Yticcbbcgboddpaa
