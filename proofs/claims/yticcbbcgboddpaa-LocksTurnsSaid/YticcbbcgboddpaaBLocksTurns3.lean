/- What functions come to from one cut to the next. No conditions. -/
import Derived.Test.YticcbbcgboddpaaBLocksTurns2
import Derived.KernelRfl
set_option linter.unusedVariables false
set_option maxRecDepth 20000
namespace Go.Proofs.YticcbbcgboddpaaC
open Go Go.Ev Go.Proofs
variable {ρ : Type}
noncomputable def locks_Ask_r0 (k : Nat) (s : TLocks) (a : TLock) (κ : AV → Heap → Option ρ) (v : AV) : Option ρ := resAt ctx k n_locks_Ask 0 [.r, .l, .l] 1 [] ⟨(envOf 69 [(2, .ref 0 0), (3, .ref 1 0), (4, .ref 2 0), (10, .agg (eLocks s)), (11, v)]), [some (.box [.sl 5 s.Held.n (rowOf eLock s.Held.w) s.Held.u, .sl 5 s.Waits.n (rowOf eLock s.Waits.w) s.Waits.u]), some (.box (eLock a)), some (.box [.sl 5 0 (rowOf eLock (fun _ => zLock)) true, .sl 5 0 (rowOf eLock (fun _ => zLock)) true])]⟩ κ
noncomputable def locks_Ask_r1 (k : Nat) (s : TLocks) (a : TLock) (r0 : Int) (κ : AV → Heap → Option ρ) (v : AV) : Option ρ := resAt ctx k n_locks_Ask 0 [.r, .l, .r, .r, .l] 1 [] ⟨(envOf 69 [(2, .ref 0 0), (3, .ref 1 0), (4, .ref 2 0), (9, .bool (!decide (r0 = 0))), (15, .agg (eLock a)), (16, v)]), [some (.box [.sl 5 s.Held.n (rowOf eLock s.Held.w) s.Held.u, .sl 5 s.Waits.n (rowOf eLock s.Waits.w) s.Waits.u]), some (.box (eLock a)), some (.box [.sl 5 0 (rowOf eLock (fun _ => zLock)) true, .sl 5 0 (rowOf eLock (fun _ => zLock)) true])]⟩ κ
noncomputable def locks_Ask_r2 (k : Nat) (s : TLocks) (a : TLock) (r1 : Bool) (κ : AV → Heap → Option ρ) (v : AV) (W : Heap) : Option ρ := backH [1] [some (.box [.sl 5 s.Held.n (rowOf eLock s.Held.w) s.Held.u, .sl 5 s.Waits.n (rowOf eLock s.Waits.w) s.Waits.u]), some (.box (eLock a)), some (.box [.sl 5 0 (rowOf eLock (fun _ => zLock)) true, .sl 5 0 (rowOf eLock (fun _ => zLock)) true])] (fun v H => resAt ctx k n_locks_Ask 0 [.r, .l, .r, .r, .r, .r, .l] 3 [] ⟨(envOf 69 [(2, .ref 0 0), (3, .ref 1 0), (4, .ref 2 0), (14, .bool (!r1)), (20, .ref 0 1), (21, .sl 5 s.Waits.n (rowOf eLock s.Waits.w) s.Waits.u), (22, .fn n_locks_Ask_1 [] [.ref 1 0]), (23, v)]), H⟩ κ) v W
noncomputable def locks_Ask_r3 (k : Nat) (s : TLocks) (a : TLock) (r2 : Bool) (κ : AV → Heap → Option ρ) (v : AV) (W : Heap) : Option ρ := backF [.agg (eLocks s)] [some (.box [.sl 5 s.Held.n (rowOf eLock s.Held.w) s.Held.u, .sl 5 s.Waits.n (rowOf eLock s.Waits.w) s.Waits.u]), some (.box (eLock a)), some (.box [.sl 5 0 (rowOf eLock (fun _ => zLock)) true, .sl 5 0 (rowOf eLock (fun _ => zLock)) true])] (fun v H => resAt ctx k n_locks_Ask 0 [.r, .r, .l] 1 [] ⟨(envOf 69 [(2, .ref 0 0), (3, .ref 1 0), (4, .ref 2 0), (19, .bool r2), (25, .agg (eLocks s)), (26, v)]), H⟩ κ) v W
noncomputable def locks_Ask_r4 (k : Nat) (s : TLocks) (a : TLock) (κ : AV → Heap → Option ρ) (v : AV) : Option ρ := resAt ctx k n_locks_Ask 0 [.r, .r, .r, .l, .l] 2 [] ⟨(envOf 69 [(2, .ref 0 0), (3, .ref 1 0), (4, .ref 2 0), (7, .ref 3 0), (28, .agg (eLocks s)), (29, .agg (eLock a)), (30, v)]), [some (.box [.sl 5 s.Held.n (rowOf eLock s.Held.w) s.Held.u, .sl 5 s.Waits.n (rowOf eLock s.Waits.w) s.Waits.u]), some (.box (eLock a)), some (.box [.sl 5 0 (rowOf eLock (fun _ => zLock)) true, .sl 5 0 (rowOf eLock (fun _ => zLock)) true]), some (.box [.sl 5 0 (rowOf eLock (fun _ => zLock)) true, .sl 5 0 (rowOf eLock (fun _ => zLock)) true])]⟩ κ
noncomputable def locks_Ask_r5 (k : Nat) (s : TLocks) (a : TLock) (κ : AV → Heap → Option ρ) (v : AV) : Option ρ := resAt ctx k n_locks_Ask 0 [.r, .r, .r, .l, .l] 2 [] ⟨(envOf 69 [(2, .ref 0 0), (3, .ref 1 0), (4, .ref 2 0), (7, .ref 3 0), (28, .agg (eLocks s)), (29, .agg (eLock a)), (30, v)]), [some (.box [.sl 5 s.Held.n (rowOf eLock s.Held.w) s.Held.u, .sl 5 s.Waits.n (rowOf eLock s.Waits.w) s.Waits.u]), some (.box (eLock a)), some (.box [.sl 5 0 (rowOf eLock (fun _ => zLock)) true, .sl 5 0 (rowOf eLock (fun _ => zLock)) true]), some (.box [.sl 5 0 (rowOf eLock (fun _ => zLock)) true, .osl 5 4 0 s.Waits.n false]), some (.arr 5 s.Waits.n (rowOf eLock s.Waits.w))]⟩ κ
noncomputable def locks_Ask_r6 (k : Nat) (s : TLocks) (a : TLock) (κ : AV → Heap → Option ρ) (v : AV) : Option ρ := resAt ctx k n_locks_Ask 0 [.r, .r, .r, .l, .l] 2 [] ⟨(envOf 69 [(2, .ref 0 0), (3, .ref 1 0), (4, .ref 2 0), (7, .ref 3 0), (28, .agg (eLocks s)), (29, .agg (eLock a)), (30, v)]), [some (.box [.sl 5 s.Held.n (rowOf eLock s.Held.w) s.Held.u, .sl 5 s.Waits.n (rowOf eLock s.Waits.w) s.Waits.u]), some (.box (eLock a)), some (.box [.sl 5 0 (rowOf eLock (fun _ => zLock)) true, .sl 5 0 (rowOf eLock (fun _ => zLock)) true]), some (.box [.osl 5 4 0 s.Held.n false, .sl 5 0 (rowOf eLock (fun _ => zLock)) true]), some (.arr 5 s.Held.n (rowOf eLock s.Held.w))]⟩ κ
noncomputable def locks_Ask_r7 (k : Nat) (s : TLocks) (a : TLock) (κ : AV → Heap → Option ρ) (v : AV) : Option ρ := resAt ctx k n_locks_Ask 0 [.r, .r, .r, .l, .l] 2 [] ⟨(envOf 69 [(2, .ref 0 0), (3, .ref 1 0), (4, .ref 2 0), (7, .ref 3 0), (28, .agg (eLocks s)), (29, .agg (eLock a)), (30, v)]), [some (.box [.sl 5 s.Held.n (rowOf eLock s.Held.w) s.Held.u, .sl 5 s.Waits.n (rowOf eLock s.Waits.w) s.Waits.u]), some (.box (eLock a)), some (.box [.sl 5 0 (rowOf eLock (fun _ => zLock)) true, .sl 5 0 (rowOf eLock (fun _ => zLock)) true]), some (.box [.osl 5 4 0 s.Held.n false, .osl 5 5 0 s.Waits.n false]), some (.arr 5 s.Held.n (rowOf eLock s.Held.w)), some (.arr 5 s.Waits.n (rowOf eLock s.Waits.w))]⟩ κ
noncomputable def locks_Ask_r8 (k : Nat) (s : TLocks) (a : TLock) (κ : AV → Heap → Option ρ) (v : AV) : Option ρ := resAt ctx k n_locks_Ask 0 [.r, .r, .r, .l, .r, .r, .r, .r, .l] 5 [] ⟨(envOf 69 [(2, .ref 0 0), (3, .ref 1 0), (4, .ref 2 0), (7, .ref 3 0), (32, .bool (decide (wi64 ((s.Held.n : Int) + (s.Waits.n : Int)) = 200))), (43, .agg (eLock a)), (44, .ref 0 0), (45, .sl 5 s.Held.n (rowOf eLock s.Held.w) s.Held.u), (46, .ref 0 1), (47, .sl 5 s.Waits.n (rowOf eLock s.Waits.w) s.Waits.u), (48, v)]), [some (.box [.sl 5 s.Held.n (rowOf eLock s.Held.w) s.Held.u, .sl 5 s.Waits.n (rowOf eLock s.Waits.w) s.Waits.u]), some (.box (eLock a)), some (.box [.sl 5 0 (rowOf eLock (fun _ => zLock)) true, .sl 5 0 (rowOf eLock (fun _ => zLock)) true]), some (.box [.sl 5 0 (rowOf eLock (fun _ => zLock)) true, .sl 5 0 (rowOf eLock (fun _ => zLock)) true])]⟩ κ
noncomputable def locks_Ask_r9 (k : Nat) (s : TLocks) (a : TLock) (κ : AV → Heap → Option ρ) (v : AV) : Option ρ := resAt ctx k n_locks_Ask 0 [.r, .r, .r, .l, .r, .r, .r, .r, .l] 5 [] ⟨(envOf 69 [(2, .ref 0 0), (3, .ref 1 0), (4, .ref 2 0), (7, .ref 3 0), (32, .bool (decide (wi64 ((s.Held.n : Int) + (s.Waits.n : Int)) = 200))), (43, .agg (eLock a)), (44, .ref 0 0), (45, .sl 5 s.Held.n (rowOf eLock s.Held.w) s.Held.u), (46, .ref 0 1), (47, .sl 5 s.Waits.n (rowOf eLock s.Waits.w) s.Waits.u), (48, v)]), [some (.box [.sl 5 s.Held.n (rowOf eLock s.Held.w) s.Held.u, .sl 5 s.Waits.n (rowOf eLock s.Waits.w) s.Waits.u]), some (.box (eLock a)), some (.box [.sl 5 0 (rowOf eLock (fun _ => zLock)) true, .sl 5 0 (rowOf eLock (fun _ => zLock)) true]), some (.box [.sl 5 0 (rowOf eLock (fun _ => zLock)) true, .osl 5 4 0 s.Waits.n false]), some (.arr 5 s.Waits.n (rowOf eLock s.Waits.w))]⟩ κ
noncomputable def locks_Ask_r10 (k : Nat) (s : TLocks) (a : TLock) (κ : AV → Heap → Option ρ) (v : AV) : Option ρ := resAt ctx k n_locks_Ask 0 [.r, .r, .r, .l, .r, .r, .r, .r, .l] 5 [] ⟨(envOf 69 [(2, .ref 0 0), (3, .ref 1 0), (4, .ref 2 0), (7, .ref 3 0), (32, .bool (decide (wi64 ((s.Held.n : Int) + (s.Waits.n : Int)) = 200))), (43, .agg (eLock a)), (44, .ref 0 0), (45, .sl 5 s.Held.n (rowOf eLock s.Held.w) s.Held.u), (46, .ref 0 1), (47, .sl 5 s.Waits.n (rowOf eLock s.Waits.w) s.Waits.u), (48, v)]), [some (.box [.sl 5 s.Held.n (rowOf eLock s.Held.w) s.Held.u, .sl 5 s.Waits.n (rowOf eLock s.Waits.w) s.Waits.u]), some (.box (eLock a)), some (.box [.sl 5 0 (rowOf eLock (fun _ => zLock)) true, .sl 5 0 (rowOf eLock (fun _ => zLock)) true]), some (.box [.osl 5 4 0 s.Held.n false, .sl 5 0 (rowOf eLock (fun _ => zLock)) true]), some (.arr 5 s.Held.n (rowOf eLock s.Held.w))]⟩ κ
noncomputable def locks_Ask_r11 (k : Nat) (s : TLocks) (a : TLock) (κ : AV → Heap → Option ρ) (v : AV) : Option ρ := resAt ctx k n_locks_Ask 0 [.r, .r, .r, .l, .r, .r, .r, .r, .l] 5 [] ⟨(envOf 69 [(2, .ref 0 0), (3, .ref 1 0), (4, .ref 2 0), (7, .ref 3 0), (32, .bool (decide (wi64 ((s.Held.n : Int) + (s.Waits.n : Int)) = 200))), (43, .agg (eLock a)), (44, .ref 0 0), (45, .sl 5 s.Held.n (rowOf eLock s.Held.w) s.Held.u), (46, .ref 0 1), (47, .sl 5 s.Waits.n (rowOf eLock s.Waits.w) s.Waits.u), (48, v)]), [some (.box [.sl 5 s.Held.n (rowOf eLock s.Held.w) s.Held.u, .sl 5 s.Waits.n (rowOf eLock s.Waits.w) s.Waits.u]), some (.box (eLock a)), some (.box [.sl 5 0 (rowOf eLock (fun _ => zLock)) true, .sl 5 0 (rowOf eLock (fun _ => zLock)) true]), some (.box [.osl 5 4 0 s.Held.n false, .osl 5 5 0 s.Waits.n false]), some (.arr 5 s.Held.n (rowOf eLock s.Held.w)), some (.arr 5 s.Waits.n (rowOf eLock s.Waits.w))]⟩ κ
theorem locks_Ask_r0_s (k : Nat) (s : TLocks) (a : TLock) (r0 : Int) (κ : AV → Heap → Option ρ) : locks_Ask_r0 k s a κ (.int .i64 r0) =
  (bif !decide (r0 = 0) then
   κ (.tup [.agg (eLocks zLocks), .bool false, .int .i64 220]) [some (.box [.sl 5 0 (rowOf eLock (fun _ => zLock)) true, .sl 5 0 (rowOf eLock (fun _ => zLock)) true])]
  else callP ctx k n_locks_lock_may [.agg (eLock a)] (locks_Ask_r1 k s a r0 κ)) := by kernel_rfl
theorem locks_Ask_r1_s (k : Nat) (s : TLocks) (a : TLock) (r0 : Int) (r1 : Bool) (κ : AV → Heap → Option ρ) : locks_Ask_r1 k s a r0 κ (.bool r1) =
  (bif !r1 then
   κ (.tup [.agg (eLocks zLocks), .bool false, .int .i64 2]) [some (.box [.sl 5 0 (rowOf eLock (fun _ => zLock)) true, .sl 5 0 (rowOf eLock (fun _ => zLock)) true])]
  else evalF ctx k n_slices_ContainsFunc_Lock [.sl 5 s.Waits.n (rowOf eLock s.Waits.w) s.Waits.u, .fn n_locks_Ask_1 [] [.ref 0 0]] [some (.box (eLock a))] (locks_Ask_r2 k s a r1 κ)) := by kernel_rfl
theorem locks_Ask_r2_s (k : Nat) (s : TLocks) (a : TLock) (r1 : Bool) (r2 : Bool) (κ : AV → Heap → Option ρ) : locks_Ask_r2 k s a r1 κ (.bool r2) [some (.box (eLock a))] =
  (bif r2 then
   κ (.tup [.agg (eLocks zLocks), .bool false, .int .i64 9]) [some (.box [.sl 5 0 (rowOf eLock (fun _ => zLock)) true, .sl 5 0 (rowOf eLock (fun _ => zLock)) true])]
  else evalF ctx k n_locks_own [.agg (eLocks s)] [] (locks_Ask_r3 k s a r2 κ)) := by kernel_rfl
theorem locks_Ask_r3_s (k : Nat) (s : TLocks) (a : TLock) (r2 : Bool) (κ : AV → Heap → Option ρ) : locks_Ask_r3 k s a r2 κ (.agg (eLocks zLocks)) [some (.box [.sl 5 0 (rowOf eLock (fun _ => zLock)) true, .sl 5 0 (rowOf eLock (fun _ => zLock)) true])] =
  callP ctx k n_locks_covered [.agg (eLocks s), .agg (eLock a)] (locks_Ask_r4 k s a κ) := by kernel_rfl
theorem locks_Ask_r3_s1 (k : Nat) (s : TLocks) (a : TLock) (r2 : Bool) (κ : AV → Heap → Option ρ) : locks_Ask_r3 k s a r2 κ (.agg [.sl 5 0 (rowOf eLock (fun _ => zLock)) true, .osl 5 1 0 s.Waits.n false]) [some (.box [.sl 5 0 (rowOf eLock (fun _ => zLock)) true, .osl 5 1 0 s.Waits.n false]), some (.arr 5 s.Waits.n (rowOf eLock s.Waits.w))] =
  callP ctx k n_locks_covered [.agg (eLocks s), .agg (eLock a)] (locks_Ask_r5 k s a κ) := by kernel_rfl
theorem locks_Ask_r3_s2 (k : Nat) (s : TLocks) (a : TLock) (r2 : Bool) (κ : AV → Heap → Option ρ) : locks_Ask_r3 k s a r2 κ (.agg [.osl 5 1 0 s.Held.n false, .sl 5 0 (rowOf eLock (fun _ => zLock)) true]) [some (.box [.osl 5 1 0 s.Held.n false, .sl 5 0 (rowOf eLock (fun _ => zLock)) true]), some (.arr 5 s.Held.n (rowOf eLock s.Held.w))] =
  callP ctx k n_locks_covered [.agg (eLocks s), .agg (eLock a)] (locks_Ask_r6 k s a κ) := by kernel_rfl
theorem locks_Ask_r3_s3 (k : Nat) (s : TLocks) (a : TLock) (r2 : Bool) (κ : AV → Heap → Option ρ) : locks_Ask_r3 k s a r2 κ (.agg [.osl 5 1 0 s.Held.n false, .osl 5 2 0 s.Waits.n false]) [some (.box [.osl 5 1 0 s.Held.n false, .osl 5 2 0 s.Waits.n false]), some (.arr 5 s.Held.n (rowOf eLock s.Held.w)), some (.arr 5 s.Waits.n (rowOf eLock s.Waits.w))] =
  callP ctx k n_locks_covered [.agg (eLocks s), .agg (eLock a)] (locks_Ask_r7 k s a κ) := by kernel_rfl
theorem locks_Ask_r4_s (k : Nat) (s : TLocks) (a : TLock) (r4 : Bool) (κ : AV → Heap → Option ρ) : locks_Ask_r4 k s a κ (.bool r4) =
  (bif r4 then
   κ (.tup [.agg (eLocks zLocks), .bool true, .int .i64 0]) [some (.box [.sl 5 0 (rowOf eLock (fun _ => zLock)) true, .sl 5 0 (rowOf eLock (fun _ => zLock)) true])]
  else (bif decide (wi64 ((s.Held.n : Int) + (s.Waits.n : Int)) = 200) then
    κ (.tup [.agg (eLocks zLocks), .bool false, .int .i64 6]) [some (.box [.sl 5 0 (rowOf eLock (fun _ => zLock)) true, .sl 5 0 (rowOf eLock (fun _ => zLock)) true])]
   else callP ctx k n_locks_grants [.agg (eLock a), .sl 5 s.Held.n (rowOf eLock s.Held.w) s.Held.u, .sl 5 s.Waits.n (rowOf eLock s.Waits.w) s.Waits.u] (locks_Ask_r8 k s a κ))) := by kernel_rfl
theorem locks_Ask_r5_s (k : Nat) (s : TLocks) (a : TLock) (r5 : Bool) (κ : AV → Heap → Option ρ) : locks_Ask_r5 k s a κ (.bool r5) =
  (bif r5 then
   κ (.tup [.agg [.sl 5 0 (rowOf eLock (fun _ => zLock)) true, .osl 5 1 0 s.Waits.n false], .bool true, .int .i64 0]) [some (.box [.sl 5 0 (rowOf eLock (fun _ => zLock)) true, .osl 5 1 0 s.Waits.n false]), some (.arr 5 s.Waits.n (rowOf eLock s.Waits.w))]
  else (bif decide (wi64 ((s.Held.n : Int) + (s.Waits.n : Int)) = 200) then
    κ (.tup [.agg (eLocks zLocks), .bool false, .int .i64 6]) [some (.box [.sl 5 0 (rowOf eLock (fun _ => zLock)) true, .sl 5 0 (rowOf eLock (fun _ => zLock)) true])]
   else callP ctx k n_locks_grants [.agg (eLock a), .sl 5 s.Held.n (rowOf eLock s.Held.w) s.Held.u, .sl 5 s.Waits.n (rowOf eLock s.Waits.w) s.Waits.u] (locks_Ask_r9 k s a κ))) := by kernel_rfl
theorem locks_Ask_r6_s (k : Nat) (s : TLocks) (a : TLock) (r6 : Bool) (κ : AV → Heap → Option ρ) : locks_Ask_r6 k s a κ (.bool r6) =
  (bif r6 then
   κ (.tup [.agg [.osl 5 1 0 s.Held.n false, .sl 5 0 (rowOf eLock (fun _ => zLock)) true], .bool true, .int .i64 0]) [some (.box [.osl 5 1 0 s.Held.n false, .sl 5 0 (rowOf eLock (fun _ => zLock)) true]), some (.arr 5 s.Held.n (rowOf eLock s.Held.w))]
  else (bif decide (wi64 ((s.Held.n : Int) + (s.Waits.n : Int)) = 200) then
    κ (.tup [.agg (eLocks zLocks), .bool false, .int .i64 6]) [some (.box [.sl 5 0 (rowOf eLock (fun _ => zLock)) true, .sl 5 0 (rowOf eLock (fun _ => zLock)) true])]
   else callP ctx k n_locks_grants [.agg (eLock a), .sl 5 s.Held.n (rowOf eLock s.Held.w) s.Held.u, .sl 5 s.Waits.n (rowOf eLock s.Waits.w) s.Waits.u] (locks_Ask_r10 k s a κ))) := by kernel_rfl
theorem locks_Ask_r7_s (k : Nat) (s : TLocks) (a : TLock) (r7 : Bool) (κ : AV → Heap → Option ρ) : locks_Ask_r7 k s a κ (.bool r7) =
  (bif r7 then
   κ (.tup [.agg [.osl 5 1 0 s.Held.n false, .osl 5 2 0 s.Waits.n false], .bool true, .int .i64 0]) [some (.box [.osl 5 1 0 s.Held.n false, .osl 5 2 0 s.Waits.n false]), some (.arr 5 s.Held.n (rowOf eLock s.Held.w)), some (.arr 5 s.Waits.n (rowOf eLock s.Waits.w))]
  else (bif decide (wi64 ((s.Held.n : Int) + (s.Waits.n : Int)) = 200) then
    κ (.tup [.agg (eLocks zLocks), .bool false, .int .i64 6]) [some (.box [.sl 5 0 (rowOf eLock (fun _ => zLock)) true, .sl 5 0 (rowOf eLock (fun _ => zLock)) true])]
   else callP ctx k n_locks_grants [.agg (eLock a), .sl 5 s.Held.n (rowOf eLock s.Held.w) s.Held.u, .sl 5 s.Waits.n (rowOf eLock s.Waits.w) s.Waits.u] (locks_Ask_r11 k s a κ))) := by kernel_rfl
theorem locks_Ask_r8_s (k : Nat) (s : TLocks) (a : TLock) (r8 : Bool) (κ : AV → Heap → Option ρ) : locks_Ask_r8 k s a κ (.bool r8) =
  (bif r8 then
   (bif cutOK 0 0 (s.Held.n : Int) (s.Held.n : Int) then
    (bif ((decide ((s.Held.n : Int) = (s.Held.n : Int))) && (roomOf (s.Held.n + 1) 56)) then
     κ (.tup [.agg [.osl 5 1 0 (s.Held.n + 1) false, .sl 5 0 (rowOf eLock (fun _ => zLock)) true], .bool true, .int .i64 0]) [some (.box [.osl 5 1 0 (s.Held.n + 1) false, .sl 5 0 (rowOf eLock (fun _ => zLock)) true]), some (.arr 5 (s.Held.n + 1) (catRow s.Held.n (shRow 0 (rowOf eLock (fun _ => zLock))) (litRow eLock [a] zLock)))]
    else none)
   else none)
  else κ (.tup [.agg [.sl 5 0 (rowOf eLock (fun _ => zLock)) true, .osl 5 1 0 1 false], .bool false, .int .i64 0]) [some (.box [.sl 5 0 (rowOf eLock (fun _ => zLock)) true, .osl 5 1 0 1 false]), some (.arr 5 1 (catRow 0 (rowOf eLock (fun _ => zLock)) (litRow eLock [a] zLock)))]) := by kernel_rfl
theorem locks_Ask_r9_s (k : Nat) (s : TLocks) (a : TLock) (r9 : Bool) (κ : AV → Heap → Option ρ) : locks_Ask_r9 k s a κ (.bool r9) =
  (bif r9 then
   (bif cutOK 0 0 (s.Held.n : Int) (s.Held.n : Int) then
    (bif ((decide ((s.Held.n : Int) = (s.Held.n : Int))) && (roomOf (s.Held.n + 1) 56)) then
     κ (.tup [.agg [.osl 5 1 0 (s.Held.n + 1) false, .osl 5 2 0 s.Waits.n false], .bool true, .int .i64 0]) [some (.box [.osl 5 1 0 (s.Held.n + 1) false, .osl 5 2 0 s.Waits.n false]), some (.arr 5 (s.Held.n + 1) (catRow s.Held.n (shRow 0 (rowOf eLock (fun _ => zLock))) (litRow eLock [a] zLock))), some (.arr 5 s.Waits.n (rowOf eLock s.Waits.w))]
    else none)
   else none)
  else (bif decide (((0 + s.Waits.n) + 1) ≤ s.Waits.n) then
    κ (.tup [.agg [.sl 5 0 (rowOf eLock (fun _ => zLock)) true, .osl 5 1 0 (s.Waits.n + 1) false], .bool false, .int .i64 0]) [some (.box [.sl 5 0 (rowOf eLock (fun _ => zLock)) true, .osl 5 1 0 (s.Waits.n + 1) false]), some (.arr 5 s.Waits.n (putRow (0 + s.Waits.n) ((0 + s.Waits.n) + 1) (litRow eLock [a] zLock) (rowOf eLock s.Waits.w)))]
   else (bif ((decide (s.Waits.n = s.Waits.n)) && (roomOf (s.Waits.n + 1) 56)) then
     κ (.tup [.agg [.sl 5 0 (rowOf eLock (fun _ => zLock)) true, .osl 5 1 0 (s.Waits.n + 1) false], .bool false, .int .i64 0]) [some (.box [.sl 5 0 (rowOf eLock (fun _ => zLock)) true, .osl 5 1 0 (s.Waits.n + 1) false]), some (.arr 5 (s.Waits.n + 1) (catRow s.Waits.n (rowOf eLock s.Waits.w) (litRow eLock [a] zLock)))]
    else none))) := by kernel_rfl
theorem locks_Ask_r10_s (k : Nat) (s : TLocks) (a : TLock) (r10 : Bool) (κ : AV → Heap → Option ρ) : locks_Ask_r10 k s a κ (.bool r10) =
  (bif r10 then
   (bif (cutOK s.Held.n 0 (s.Held.n : Int) (s.Held.n : Int) && (decide ((s.Held.n : Int) = (s.Held.n : Int)))) then
    (bif roomOf (s.Held.n + 1) 56 then
     κ (.tup [.agg [.osl 5 1 0 (s.Held.n + 1) false, .sl 5 0 (rowOf eLock (fun _ => zLock)) true], .bool true, .int .i64 0]) [some (.box [.osl 5 1 0 (s.Held.n + 1) false, .sl 5 0 (rowOf eLock (fun _ => zLock)) true]), some (.arr 5 (s.Held.n + 1) (catRow s.Held.n (rowOf eLock (fun i => s.Held.w (0 + i))) (litRow eLock [a] zLock)))]
    else none)
   else none)
  else κ (.tup [.agg [.osl 5 1 0 s.Held.n false, .osl 5 2 0 1 false], .bool false, .int .i64 0]) [some (.box [.osl 5 1 0 s.Held.n false, .osl 5 2 0 1 false]), some (.arr 5 s.Held.n (rowOf eLock s.Held.w)), some (.arr 5 1 (catRow 0 (rowOf eLock (fun _ => zLock)) (litRow eLock [a] zLock)))]) := by kernel_rfl
theorem locks_Ask_r11_s (k : Nat) (s : TLocks) (a : TLock) (r11 : Bool) (κ : AV → Heap → Option ρ) : locks_Ask_r11 k s a κ (.bool r11) =
  (bif r11 then
   (bif (cutOK s.Held.n 0 (s.Held.n : Int) (s.Held.n : Int) && (decide ((s.Held.n : Int) = (s.Held.n : Int)))) then
    (bif roomOf (s.Held.n + 1) 56 then
     κ (.tup [.agg [.osl 5 1 0 (s.Held.n + 1) false, .osl 5 2 0 s.Waits.n false], .bool true, .int .i64 0]) [some (.box [.osl 5 1 0 (s.Held.n + 1) false, .osl 5 2 0 s.Waits.n false]), some (.arr 5 (s.Held.n + 1) (catRow s.Held.n (rowOf eLock (fun i => s.Held.w (0 + i))) (litRow eLock [a] zLock))), some (.arr 5 s.Waits.n (rowOf eLock s.Waits.w))]
    else none)
   else none)
  else (bif decide (((0 + s.Waits.n) + 1) ≤ s.Waits.n) then
    κ (.tup [.agg [.osl 5 1 0 s.Held.n false, .osl 5 2 0 (s.Waits.n + 1) false], .bool false, .int .i64 0]) [some (.box [.osl 5 1 0 s.Held.n false, .osl 5 2 0 (s.Waits.n + 1) false]), some (.arr 5 s.Held.n (rowOf eLock s.Held.w)), some (.arr 5 s.Waits.n (putRow (0 + s.Waits.n) ((0 + s.Waits.n) + 1) (litRow eLock [a] zLock) (rowOf eLock s.Waits.w)))]
   else (bif ((decide (s.Waits.n = s.Waits.n)) && (roomOf (s.Waits.n + 1) 56)) then
     κ (.tup [.agg [.osl 5 1 0 s.Held.n false, .osl 5 2 0 (s.Waits.n + 1) false], .bool false, .int .i64 0]) [some (.box [.osl 5 1 0 s.Held.n false, .osl 5 2 0 (s.Waits.n + 1) false]), some (.arr 5 s.Held.n (rowOf eLock s.Held.w)), some (.arr 5 (s.Waits.n + 1) (catRow s.Waits.n (rowOf eLock s.Waits.w) (litRow eLock [a] zLock)))]
    else none))) := by kernel_rfl
theorem locks_Ask_e (k : Nat) (s : TLocks) (a : TLock) (κ : AV → Heap → Option ρ) : evalF ctx (k + 1) n_locks_Ask [.agg (eLocks s), .agg (eLock a)] [] κ =
  callP ctx k n_locks_Check [.agg (eLocks s)] (locks_Ask_r0 k s a κ) := by kernel_rfl
theorem law22_great_e (k : Nat) (a : TLock) (κ : AV → Heap → Option ρ) : evalF ctx (k + 1) n_law22_great [.agg (eLock a)] [] κ =
  (bif decide (2000 < (a.R.From.size : Int)) then
   κ (.bool true) []
  else κ (.bool (decide (2000 < (a.R.To.size : Int)))) []) := by kernel_rfl
end Go.Proofs.YticcbbcgboddpaaC

set_option linter.unusedVariables false
set_option linter.unusedSimpArgs false
set_option maxRecDepth 20000
namespace Go.Proofs.YticcbbcgboddpaaC
open Go Go.Ev Go.Proofs
variable {ρ : Type}
def addW (n : Nat) (v : Nat → TLock) (a : TLock) : Nat → TLock := catW n v (fun i => [a].getD i zLock)
theorem lst_add (n : Nat) (v : Nat → TLock) (a : TLock) : lst (n + 1) (addW n v a) = lst n v ++ [a] := l_cat n 1 v (fun i => [a].getD i zLock) false
theorem clone_lock (k n : Nat) (w : Nat → TLock) (u : Bool) (hn : n ≤ 10000) (κ : AV → Heap → Option ρ) : evalF ctx (k + 1) n_slices_Clone_Lock [.sl 5 n (rowOf eLock w) u] [] κ = if n = 0 then κ (.sl 5 0 (rowOf eLock (fun _ => zLock)) true) [] else κ (.osl 5 0 0 n false) [some (.arr 5 n (rowOf eLock w))] := by
  refine (clone_ev ctx (f := n_slices_Clone_Lock) (sz := 5) (by_ := 56) (z := eLock zLock) (by kernel_rfl) k n (rowOf eLock w) u κ).trans ?_
  rw [room_of (by omega) (by omega), if_pos (rfl : true = true)]
  rfl
theorem own_run (k : Nat) (s : TLocks) (hn : s.Held.n ≤ 10000) (hm : s.Waits.n ≤ 10000) (hk : 3 ≤ k) (κ : AV → Heap → Option ρ) : evalF ctx k n_locks_own [.agg (eLocks s)] [] κ =
    if s.Held.n = 0 then (if s.Waits.n = 0 then κ (.agg (eLocks zLocks)) [some (.box [.sl 5 0 (rowOf eLock (fun _ => zLock)) true, .sl 5 0 (rowOf eLock (fun _ => zLock)) true])]
      else κ (.agg [.sl 5 0 (rowOf eLock (fun _ => zLock)) true, .osl 5 1 0 s.Waits.n false]) [some (.box [.sl 5 0 (rowOf eLock (fun _ => zLock)) true, .osl 5 1 0 s.Waits.n false]), some (.arr 5 s.Waits.n (rowOf eLock s.Waits.w))])
    else if s.Waits.n = 0 then κ (.agg [.osl 5 1 0 s.Held.n false, .sl 5 0 (rowOf eLock (fun _ => zLock)) true]) [some (.box [.osl 5 1 0 s.Held.n false, .sl 5 0 (rowOf eLock (fun _ => zLock)) true]), some (.arr 5 s.Held.n (rowOf eLock s.Held.w))]
      else κ (.agg [.osl 5 1 0 s.Held.n false, .osl 5 2 0 s.Waits.n false]) [some (.box [.osl 5 1 0 s.Held.n false, .osl 5 2 0 s.Waits.n false]), some (.arr 5 s.Held.n (rowOf eLock s.Held.w)), some (.arr 5 s.Waits.n (rowOf eLock s.Waits.w))] := by
  obtain ⟨k, rfl⟩ : ∃ k', k = k' + 2 := ⟨k - 2, by omega⟩
  refine (locks_own_e (k + 1) s κ).trans ?_
  rw [clone_lock k _ _ _ hn]
  by_cases h1 : s.Held.n = 0
  · rw [if_pos h1, if_pos h1, locks_own_r0_s, clone_lock k _ _ _ hm]
    by_cases h2 : s.Waits.n = 0
    · rw [if_pos h2, if_pos h2, locks_own_r1_s]
    · rw [if_neg h2, if_neg h2, locks_own_r1_s1]
  · rw [if_neg h1, if_neg h1, locks_own_r0_s1, clone_lock k _ _ _ hm]
    by_cases h2 : s.Waits.n = 0
    · rw [if_pos h2, if_pos h2, locks_own_r2_s]
    · rw [if_neg h2, if_neg h2, locks_own_r2_s1]
def okB (s : TLocks) (a : TLock) : Bool := grantsB a s.Held.n s.Held.w s.Waits.n s.Waits.w
def askE (s : TLocks) (a : TLock) : Int :=
  if checkB s = false then 220 else if mayB a = false then 2 else if (anyN s.Waits.n fun i => decide ((s.Waits.w i).Tx = a.Tx)) = true then 9
  else if coveredB s a = true then 0 else if s.Held.n + s.Waits.n = 200 then 6 else 0
def askG (s : TLocks) (a : TLock) : Bool := decide (askE s a = 0) && (coveredB s a || okB s a)
def askH (s : TLocks) (a : TLock) : List TLock := if askE s a ≠ 0 then [] else if (!coveredB s a && okB s a) = true then s.Held.l ++ [a] else s.Held.l
def askW (s : TLocks) (a : TLock) : List TLock := if askE s a ≠ 0 then [] else if (coveredB s a || okB s a) = true then s.Waits.l else s.Waits.l ++ [a]
theorem Ask_ok (k : Nat) (s : TLocks) (a : TLock) (hn : s.Held.n ≤ 10000) (hm : s.Waits.n ≤ 10000) (hk : s.Held.n + s.Waits.n + 80 ≤ k) :
    ∃ n v m w, lst n v = askH s a ∧ lst m w = askW s a ∧ ∀ κ : AV → Option ρ, callP ctx k n_locks_Ask [.agg (eLocks s), .agg (eLock a)] κ = κ (.tup [.agg (eLocks ⟨⟨n, v, false⟩, ⟨m, w, false⟩⟩), .bool (askG s a), .int .i64 (askE s a)]) := by
  obtain ⟨k, rfl⟩ : ∃ k', k = k' + 1 := ⟨k - 1, by omega⟩
  have err : ∀ c : Int, c ≠ 0 → askE s a = c → (∀ κ : AV → Option ρ, callP ctx (k + 1) n_locks_Ask [.agg (eLocks s), .agg (eLock a)] κ = κ (.tup [.agg (eLocks ⟨⟨0, fun _ => zLock, false⟩, ⟨0, fun _ => zLock, false⟩⟩), .bool false, .int .i64 c])) →
      ∃ n v m w, lst n v = askH s a ∧ lst m w = askW s a ∧ ∀ κ : AV → Option ρ, callP ctx (k + 1) n_locks_Ask [.agg (eLocks s), .agg (eLock a)] κ = κ (.tup [.agg (eLocks ⟨⟨n, v, false⟩, ⟨m, w, false⟩⟩), .bool (askG s a), .int .i64 (askE s a)]) := by
    intro c hc he h
    refine ⟨0, fun _ => zLock, 0, fun _ => zLock, ?_, ?_, fun κ => ?_⟩
    · unfold askH; rw [he, if_pos hc]; rfl
    · unfold askW; rw [he, if_pos hc]; rfl
    · unfold askG
      rw [h, he, decide_eq_false hc, Bool.false_and]
  have start : ∀ κ : AV → Option ρ, callP ctx (k + 1) n_locks_Ask [.agg (eLocks s), .agg (eLock a)] κ = callP ctx k n_locks_Check [.agg (eLocks s)] (locks_Ask_r0 k s a (pk κ)) := fun κ => by
    rw [callP_eq]; exact locks_Ask_e k s a (pk κ)
  have st1 : ∀ κ : AV → Option ρ, callP ctx (k + 1) n_locks_Ask [.agg (eLocks s), .agg (eLock a)] κ = locks_Ask_r0 k s a (pk κ) (.int .i64 (checkE' s)) := fun κ => by
    rw [start, locks_Check_ok k s hn hm (by omega)]
  cases hc : checkB s with
  | false =>
    refine err 220 (by decide) (by unfold askE; rw [hc, if_pos rfl]) fun κ => ?_
    rw [st1]
    unfold checkE'
    rw [hc, locks_Ask_r0_s]; rfl
  | true =>
    have st2 : ∀ κ : AV → Option ρ, callP ctx (k + 1) n_locks_Ask [.agg (eLocks s), .agg (eLock a)] κ = locks_Ask_r1 k s a 0 (pk κ) (.bool (mayB a)) := fun κ => by
      rw [st1]
      unfold checkE'
      rw [hc, if_pos rfl, locks_Ask_r0_s, dec_int, Bool.not_true, cond_false, may_ok k a (by omega)]
    cases hmay : mayB a with
    | false =>
      refine err 2 (by decide) (by unfold askE; rw [hc, hmay, if_neg (by decide), if_pos rfl]) fun κ => ?_
      rw [st2, hmay, locks_Ask_r1_s]; rfl
    | true =>
      have st3 : ∀ κ : AV → Option ρ, callP ctx (k + 1) n_locks_Ask [.agg (eLocks s), .agg (eLock a)] κ = locks_Ask_r2 k s a true (pk κ) (.bool (anyN s.Waits.n fun i => decide ((s.Waits.w i).Tx = a.Tx))) [some (.box (eLock a))] := fun κ => by
        rw [st2, hmay, locks_Ask_r1_s, Bool.not_true, cond_false, ask_row k _ _ _ a hm (by omega)]
      cases hany : anyN s.Waits.n fun i => decide ((s.Waits.w i).Tx = a.Tx) with
      | true =>
        refine err 9 (by decide) (by unfold askE; rw [hc, hmay, hany, if_neg (by decide), if_neg (by decide), if_pos rfl]) fun κ => ?_
        rw [st3, hany, locks_Ask_r2_s]; rfl
      | false =>
        have st4 : ∀ κ : AV → Option ρ, callP ctx (k + 1) n_locks_Ask [.agg (eLocks s), .agg (eLock a)] κ = evalF ctx k n_locks_own [.agg (eLocks s)] [] (locks_Ask_r3 k s a false (pk κ)) := fun κ => by
          rw [st3, hany, locks_Ask_r2_s, cond_false]
        have hE : askE s a = if coveredB s a = true then 0 else if s.Held.n + s.Waits.n = 200 then 6 else 0 := by
          unfold askE
          rw [hc, hmay, hany, if_neg (by decide), if_neg (by decide), if_neg (by decide)]
        have hsum : wi64 ((s.Held.n : Int) + (s.Waits.n : Int)) = ((s.Held.n + s.Waits.n : Nat) : Int) := by rw [wi64_in (by omega) (by omega)]; omega
        have cov := covered_ok (ρ := ρ) k s a hn (by omega)
        have grt := grants_ok (ρ := ρ) k a s.Held.n s.Waits.n s.Held.w s.Waits.w s.Held.u s.Waits.u hn hm (by omega)
        by_cases h6 : ¬ coveredB s a = true ∧ s.Held.n + s.Waits.n = 200
        · refine err 6 (by decide) (by rw [hE, if_neg h6.1, if_pos h6.2]) fun κ => ?_
          have hcf : coveredB s a = false := by simpa using h6.1
          rw [st4, own_run k s hn hm (by omega)]
          have d : decide (wi64 ((s.Held.n : Int) + (s.Waits.n : Int)) = 200) = true := decide_eq_true (by rw [hsum]; omega)
          by_cases q1 : s.Held.n = 0
          · rw [if_pos q1]
            by_cases q2 : s.Waits.n = 0
            · rw [if_pos q2, locks_Ask_r3_s, cov, hcf, locks_Ask_r4_s, d]; rfl
            · rw [if_neg q2, locks_Ask_r3_s1, cov, hcf, locks_Ask_r5_s, d]; rfl
          · rw [if_neg q1]
            by_cases q2 : s.Waits.n = 0
            · rw [if_pos q2, locks_Ask_r3_s2, cov, hcf, locks_Ask_r6_s, d]; rfl
            · rw [if_neg q2, locks_Ask_r3_s3, cov, hcf, locks_Ask_r7_s, d]; rfl
        · have hE0 : askE s a = 0 := by
            rw [hE]
            by_cases q : coveredB s a = true
            · rw [if_pos q]
            · rw [if_neg q, if_neg (fun h => h6 ⟨q, h⟩)]
          unfold askH askW askG
          rw [hE0, if_neg (show ¬ ((0 : Int) ≠ 0) by decide), if_neg (show ¬ ((0 : Int) ≠ 0) by decide), dec_int, Bool.true_and]
          cases hcv : coveredB s a with
          | true =>
            refine ⟨s.Held.n, if s.Held.n = 0 then fun _ => zLock else s.Held.w, s.Waits.n, if s.Waits.n = 0 then fun _ => zLock else s.Waits.w, ?_, ?_, fun κ => ?_⟩
            · rw [Bool.not_true, Bool.false_and, if_neg (show ¬ (false = true) by decide)]
              by_cases q1 : s.Held.n = 0
              · unfold Sl.l; rw [q1]; rfl
              · rw [if_neg q1]
            · rw [Bool.true_or, if_pos rfl]
              by_cases q1 : s.Waits.n = 0
              · unfold Sl.l; rw [q1]; rfl
              · rw [if_neg q1]
            · rw [st4, own_run k s hn hm (by omega), Bool.true_or]
              by_cases q1 : s.Held.n = 0
              · rw [if_pos q1, if_pos q1]
                by_cases q2 : s.Waits.n = 0
                · rw [if_pos q2, if_pos q2, locks_Ask_r3_s, cov, hcv, locks_Ask_r4_s, q1, q2]; rfl
                · rw [if_neg q2, if_neg q2, locks_Ask_r3_s1, cov, hcv, locks_Ask_r5_s, q1]
                  show κ (.tup [.agg [.sl 5 0 (rowOf eLock fun _ => zLock) false, .sl 5 s.Waits.n (fun i => rowOf eLock s.Waits.w (0 + i)) false], .bool true, .int .i64 0]) = _
                  rw [zrow]; rfl
              · rw [if_neg q1, if_neg q1]
                by_cases q2 : s.Waits.n = 0
                · rw [if_pos q2, if_pos q2, locks_Ask_r3_s2, cov, hcv, locks_Ask_r6_s, q2]
                  show κ (.tup [.agg [.sl 5 s.Held.n (fun i => rowOf eLock s.Held.w (0 + i)) false, .sl 5 0 (rowOf eLock fun _ => zLock) false], .bool true, .int .i64 0]) = _
                  rw [zrow]; rfl
                · rw [if_neg q2, if_neg q2, locks_Ask_r3_s3, cov, hcv, locks_Ask_r7_s]
                  show κ (.tup [.agg [.sl 5 s.Held.n (fun i => rowOf eLock s.Held.w (0 + i)) false, .sl 5 s.Waits.n (fun i => rowOf eLock s.Waits.w (0 + i)) false], .bool true, .int .i64 0]) = _
                  rw [zrow, zrow]; rfl
          | false =>
            have d : decide (wi64 ((s.Held.n : Int) + (s.Waits.n : Int)) = 200) = false := decide_eq_false (by rw [hsum]; intro h; exact h6 ⟨by rw [hcv]; simp, by omega⟩)
            have hn1 : roomOf (s.Held.n + 1) 56 = true := room_of (by omega) (by omega)
            have hm1 : roomOf (s.Waits.n + 1) 56 = true := room_of (by omega) (by omega)
            have c1 : cutOK s.Held.n 0 (s.Held.n : Int) (s.Held.n : Int) = true := cut_ok (by omega) (by omega) (by omega) (by omega)
            have dm : decide (((0 + s.Waits.n) + 1) ≤ s.Waits.n) = false := decide_eq_false (by omega)
            have dn : decide (s.Waits.n = s.Waits.n) = true := decide_eq_true rfl
            have grt' : ∀ κ : AV → Option ρ, callP ctx k n_locks_grants [.agg (eLock a), .sl 5 s.Held.n (rowOf eLock s.Held.w) s.Held.u, .sl 5 s.Waits.n (rowOf eLock s.Waits.w) s.Waits.u] κ = κ (.bool (okB s a)) := grt
            cases hok : okB s a with
            | true =>
              refine ⟨s.Held.n + 1, if s.Held.n = 0 then addW s.Held.n (fun _ => zLock) a else addW s.Held.n s.Held.w a, s.Waits.n, if s.Waits.n = 0 then fun _ => zLock else s.Waits.w, ?_, ?_, fun κ => ?_⟩
              · rw [Bool.not_false, Bool.true_and, if_pos rfl]
                by_cases q1 : s.Held.n = 0
                · rw [if_pos q1, lst_add]; unfold Sl.l; rw [q1]; rfl
                · rw [if_neg q1, lst_add]
              · rw [Bool.or_true, if_pos rfl]
                by_cases q1 : s.Waits.n = 0
                · unfold Sl.l; rw [q1]; rfl
                · rw [if_neg q1]
              · rw [st4, own_run k s hn hm (by omega), Bool.or_true]
                by_cases q1 : s.Held.n = 0
                · have c0 : cutOK 0 0 (s.Held.n : Int) (s.Held.n : Int) = true := by rw [q1]; rfl
                  rw [if_pos q1, if_pos q1]
                  by_cases q2 : s.Waits.n = 0
                  · rw [if_pos q2, if_pos q2, locks_Ask_r3_s, cov, hcv, locks_Ask_r4_s, cond_false, d, cond_false, grt', hok, locks_Ask_r8_s, cond_true, c0, cond_true, dec_int, hn1, Bool.and_self, cond_true, sh0_row, lit_row, cat_row]
                    show κ (.tup [.agg [.sl 5 (s.Held.n + 1) (fun i => rowOf eLock (addW s.Held.n (fun _ => zLock) a) (0 + i)) false, .sl 5 0 (rowOf eLock fun _ => zLock) false], .bool true, .int .i64 0]) = _
                    rw [zrow, q2]; rfl
                  · rw [if_neg q2, if_neg q2, locks_Ask_r3_s1, cov, hcv, locks_Ask_r5_s, cond_false, d, cond_false, grt', hok, locks_Ask_r9_s, cond_true, c0, cond_true, dec_int, hn1, Bool.and_self, cond_true, sh0_row, lit_row, cat_row]
                    show κ (.tup [.agg [.sl 5 (s.Held.n + 1) (fun i => rowOf eLock (addW s.Held.n (fun _ => zLock) a) (0 + i)) false, .sl 5 s.Waits.n (fun i => rowOf eLock s.Waits.w (0 + i)) false], .bool true, .int .i64 0]) = _
                    rw [zrow, zrow]; rfl
                · rw [if_neg q1, if_neg q1]
                  by_cases q2 : s.Waits.n = 0
                  · rw [if_pos q2, if_pos q2, locks_Ask_r3_s2, cov, hcv, locks_Ask_r6_s, cond_false, d, cond_false, grt', hok, locks_Ask_r10_s, cond_true, c1, dec_int, Bool.and_self, cond_true, hn1, cond_true, zrow, lit_row, cat_row]
                    show κ (.tup [.agg [.sl 5 (s.Held.n + 1) (fun i => rowOf eLock (addW s.Held.n s.Held.w a) (0 + i)) false, .sl 5 0 (rowOf eLock fun _ => zLock) false], .bool true, .int .i64 0]) = _
                    rw [zrow, q2]; rfl
                  · rw [if_neg q2, if_neg q2, locks_Ask_r3_s3, cov, hcv, locks_Ask_r7_s, cond_false, d, cond_false, grt', hok, locks_Ask_r11_s, cond_true, c1, dec_int, Bool.and_self, cond_true, hn1, cond_true, zrow, lit_row, cat_row]
                    show κ (.tup [.agg [.sl 5 (s.Held.n + 1) (fun i => rowOf eLock (addW s.Held.n s.Held.w a) (0 + i)) false, .sl 5 s.Waits.n (fun i => rowOf eLock s.Waits.w (0 + i)) false], .bool true, .int .i64 0]) = _
                    rw [zrow, zrow]; rfl
            | false =>
              refine ⟨s.Held.n, if s.Held.n = 0 then fun _ => zLock else s.Held.w, s.Waits.n + 1, if s.Waits.n = 0 then addW 0 (fun _ => zLock) a else addW s.Waits.n s.Waits.w a, ?_, ?_, fun κ => ?_⟩
              · rw [Bool.and_false, if_neg (show ¬ (false = true) by decide)]
                by_cases q1 : s.Held.n = 0
                · unfold Sl.l; rw [q1]; rfl
                · rw [if_neg q1]
              · rw [Bool.or_false, if_neg (show ¬ (false = true) by decide)]
                by_cases q1 : s.Waits.n = 0
                · rw [if_pos q1, q1, lst_add]; unfold Sl.l; rw [q1]; rfl
                · rw [if_neg q1, lst_add]
              · rw [st4, own_run k s hn hm (by omega), Bool.or_false]
                by_cases q1 : s.Held.n = 0
                · rw [if_pos q1, if_pos q1]
                  by_cases q2 : s.Waits.n = 0
                  · rw [if_pos q2, if_pos q2, locks_Ask_r3_s, cov, hcv, locks_Ask_r4_s, cond_false, d, cond_false, grt', hok, locks_Ask_r8_s, cond_false, lit_row, cat_row]
                    show κ (.tup [.agg [.sl 5 0 (rowOf eLock fun _ => zLock) false, .sl 5 1 (fun i => rowOf eLock (addW 0 (fun _ => zLock) a) (0 + i)) false], .bool false, .int .i64 0]) = _
                    rw [zrow, q1, q2]; rfl
                  · rw [if_neg q2, if_neg q2, locks_Ask_r3_s1, cov, hcv, locks_Ask_r5_s, cond_false, d, cond_false, grt', hok, locks_Ask_r9_s, cond_false, dm, cond_false, dn, hm1, Bool.and_self, cond_true, lit_row, cat_row]
                    show κ (.tup [.agg [.sl 5 0 (rowOf eLock fun _ => zLock) false, .sl 5 (s.Waits.n + 1) (fun i => rowOf eLock (addW s.Waits.n s.Waits.w a) (0 + i)) false], .bool false, .int .i64 0]) = _
                    rw [zrow, q1]; rfl
                · rw [if_neg q1, if_neg q1]
                  by_cases q2 : s.Waits.n = 0
                  · rw [if_pos q2, if_pos q2, locks_Ask_r3_s2, cov, hcv, locks_Ask_r6_s, cond_false, d, cond_false, grt', hok, locks_Ask_r10_s, cond_false, lit_row, cat_row]
                    show κ (.tup [.agg [.sl 5 s.Held.n (fun i => rowOf eLock s.Held.w (0 + i)) false, .sl 5 1 (fun i => rowOf eLock (addW 0 (fun _ => zLock) a) (0 + i)) false], .bool false, .int .i64 0]) = _
                    rw [zrow, zrow, q2]; rfl
                  · rw [if_neg q2, if_neg q2, locks_Ask_r3_s3, cov, hcv, locks_Ask_r7_s, cond_false, d, cond_false, grt', hok, locks_Ask_r11_s, cond_false, dm, cond_false, dn, hm1, Bool.and_self, cond_true, lit_row, cat_row]
                    show κ (.tup [.agg [.sl 5 s.Held.n (fun i => rowOf eLock s.Held.w (0 + i)) false, .sl 5 (s.Waits.n + 1) (fun i => rowOf eLock (addW s.Waits.n s.Waits.w a) (0 + i)) false], .bool false, .int .i64 0]) = _
                    rw [zrow, zrow]; rfl
end Go.Proofs.YticcbbcgboddpaaC

set_option linter.unusedVariables false
set_option maxRecDepth 20000
namespace Go.Proofs.YticcbbcgboddpaaC
open Go Go.Ev Go.Proofs
variable {ρ : Type}
noncomputable def kept_others_h0 (k j : Nat) (l : Sl TLock) (tx : Int) (x10 : Int) (κ : AV → Heap → Option ρ) : Option ρ := headAt ctx k n_locks_kept_Lock 1 [.r, .r, .l, .r] j ⟨(envOf 23 [(1, .fn n_locks_others_1 [] [.ref 0 0]), (5, .sl 5 0 (rowOf eLock (fun _ => zLock)) true), (8, .sl 5 l.n (rowOf eLock l.w) l.u), (9, .int .i64 (l.n : Int)), (10, .int .i64 x10)]), [some (.box [.int .u64 tx])]⟩ κ
noncomputable def kept_others_h1 (k j : Nat) (l : Sl TLock) (tx : Int) (x5n : Nat) (x10 : Int) (n1 : Nat) (w1 : Nat → List AV) (κ : AV → Heap → Option ρ) : Option ρ := headAt ctx k n_locks_kept_Lock 1 [.r, .r, .l, .r] j ⟨(envOf 23 [(1, .fn n_locks_others_1 [] [.ref 0 0]), (5, .osl 5 1 0 x5n false), (8, .sl 5 l.n (rowOf eLock l.w) l.u), (9, .int .i64 (l.n : Int)), (10, .int .i64 x10)]), [some (.box [.int .u64 tx]), some (.arr 5 n1 w1)]⟩ κ
theorem kept_others_h0_s (k j : Nat) (l : Sl TLock) (tx : Int) (x10 : Int) (κ : AV → Heap → Option ρ) : kept_others_h0 (k + 1) (j + 1) l tx x10 κ =
  (bif decide (x10 < (l.n : Int)) then
   (bif idxOK x10 l.n then
    (bif !decide (((l.w ((x10).toNat)).Tx) = tx) then
     kept_others_h1 (k + 1) j l tx 1 (wi64 (x10 + 1)) 1 (catRow 0 (rowOf eLock (fun _ => zLock)) (litRow eLock [⟨((l.w ((x10).toNat)).Tx), ⟨(((l.w ((x10).toNat)).R).From), (((l.w ((x10).toNat)).R).To), (((l.w ((x10).toNat)).R).End)⟩, ((l.w ((x10).toNat)).X)⟩] zLock)) κ
    else kept_others_h0 (k + 1) j l tx (wi64 (x10 + 1)) κ)
   else none)
  else κ (.sl 5 0 (rowOf eLock (fun _ => zLock)) true) [some (.box [.int .u64 tx])]) := by kernel_rfl
theorem kept_others_h1_s (k j : Nat) (l : Sl TLock) (tx : Int) (x5n : Nat) (x10 : Int) (n1 : Nat) (w1 : Nat → TLock) (κ : AV → Heap → Option ρ) : kept_others_h1 (k + 1) (j + 1) l tx x5n x10 n1 (rowOf eLock w1) κ =
  (bif decide (x10 < (l.n : Int)) then
   (bif idxOK x10 l.n then
    (bif !decide (((l.w ((x10).toNat)).Tx) = tx) then
     (bif decide (((0 + x5n) + 1) ≤ n1) then
      kept_others_h1 (k + 1) j l tx (x5n + 1) (wi64 (x10 + 1)) n1 (putRow (0 + x5n) ((0 + x5n) + 1) (litRow eLock [⟨((l.w ((x10).toNat)).Tx), ⟨(((l.w ((x10).toNat)).R).From), (((l.w ((x10).toNat)).R).To), (((l.w ((x10).toNat)).R).End)⟩, ((l.w ((x10).toNat)).X)⟩] zLock) (rowOf eLock w1)) κ
     else (bif ((decide (x5n = n1)) && (roomOf (x5n + 1) 56)) then
       kept_others_h1 (k + 1) j l tx (x5n + 1) (wi64 (x10 + 1)) (x5n + 1) (catRow x5n (rowOf eLock w1) (litRow eLock [⟨((l.w ((x10).toNat)).Tx), ⟨(((l.w ((x10).toNat)).R).From), (((l.w ((x10).toNat)).R).To), (((l.w ((x10).toNat)).R).End)⟩, ((l.w ((x10).toNat)).X)⟩] zLock)) κ
      else none))
    else kept_others_h1 (k + 1) j l tx x5n (wi64 (x10 + 1)) n1 (rowOf eLock w1) κ)
   else none)
  else κ (.osl 5 1 0 x5n false) [some (.box [.int .u64 tx]), some (.arr 5 n1 (rowOf eLock w1))]) := by kernel_rfl
theorem kept_others_e (k : Nat) (l : Sl TLock) (tx : Int) (κ : AV → Heap → Option ρ) : evalF ctx (k + 1) n_locks_kept_Lock [.sl 5 l.n (rowOf eLock l.w) l.u, .fn n_locks_others_1 [] [.ref 0 0]] [some (.box [.int .u64 tx])] κ =
  kept_others_h0 k k l tx 0 κ := by kernel_rfl
end Go.Proofs.YticcbbcgboddpaaC

set_option linter.unusedVariables false
set_option maxRecDepth 20000
namespace Go.Proofs.YticcbbcgboddpaaC
open Go Go.Ev Go.Proofs
variable {ρ : Type}
noncomputable def serve01_h0 (k j : Nat) (bn : Nat) (bw : Nat → TLock) (κ : AV → Heap → Option ρ) : Option ρ := headAt ctx k n_locks_serve 1 [.r, .r, .r, .r, .l, .r] j ⟨(envOf 45 [(4, .ref 1 0), (6, .ref 2 0), (7, .sl 1 0 (rowOf (eI .u64) (fun _ => 0)) true), (12, .osl 5 0 0 bn false), (13, .int .i64 (bn : Int)), (14, .int .i64 0)]), [some (.arr 5 bn (rowOf eLock bw)), some (.box [.sl 5 0 (rowOf eLock (fun _ => zLock)) true, .sl 5 0 (rowOf eLock (fun _ => zLock)) true]), some (.box [.sl 5 0 (rowOf eLock (fun _ => zLock)) true, .sl 5 0 (rowOf eLock (fun _ => zLock)) true])]⟩ κ
noncomputable def serve01_h1 (k j : Nat) (bn : Nat) (bw : Nat → TLock) (x14 : Int) (b2_1n : Nat) (n3 : Nat) (w3 : Nat → List AV) (κ : AV → Heap → Option ρ) : Option ρ := headAt ctx k n_locks_serve 1 [.r, .r, .r, .r, .l, .r] j ⟨(envOf 45 [(4, .ref 1 0), (6, .ref 2 0), (7, .sl 1 0 (rowOf (eI .u64) (fun _ => 0)) true), (12, .osl 5 0 0 bn false), (13, .int .i64 (bn : Int)), (14, .int .i64 x14)]), [some (.arr 5 bn (rowOf eLock bw)), some (.box [.sl 5 0 (rowOf eLock (fun _ => zLock)) true, .sl 5 0 (rowOf eLock (fun _ => zLock)) true]), some (.box [.sl 5 0 (rowOf eLock (fun _ => zLock)) true, .osl 5 3 0 b2_1n false]), some (.arr 5 n3 w3)]⟩ κ
noncomputable def serve01_h2 (k j : Nat) (bn : Nat) (bw : Nat → TLock) (x7n : Nat) (x14 : Int) (b2_0n : Nat) (n3 : Nat) (w3_1 : Nat → List AV) (n4 : Nat) (w4 : Nat → List AV) (κ : AV → Heap → Option ρ) : Option ρ := headAt ctx k n_locks_serve 1 [.r, .r, .r, .r, .l, .r] j ⟨(envOf 45 [(4, .ref 1 0), (6, .ref 2 0), (7, .osl 1 3 0 x7n false), (12, .osl 5 0 0 bn false), (13, .int .i64 (bn : Int)), (14, .int .i64 x14)]), [some (.arr 5 bn (rowOf eLock bw)), some (.box [.sl 5 0 (rowOf eLock (fun _ => zLock)) true, .sl 5 0 (rowOf eLock (fun _ => zLock)) true]), some (.box [.osl 5 4 0 b2_0n false, .sl 5 0 (rowOf eLock (fun _ => zLock)) true]), some (.arr 1 n3 w3_1), some (.arr 5 n4 w4)]⟩ κ
noncomputable def serve01_h3 (k j : Nat) (bn : Nat) (bw : Nat → TLock) (w3_1 : Nat → List AV) (w4 : Nat → List AV) (w5 : Nat → List AV) (x14 : Int) (b2_1n : Nat) (n5 : Nat) (x7n : Nat) (b2_0n : Nat) (n3 : Nat) (n4 : Nat) (κ : AV → Heap → Option ρ) : Option ρ := headAt ctx k n_locks_serve 1 [.r, .r, .r, .r, .l, .r] j ⟨(envOf 45 [(4, .ref 1 0), (6, .ref 2 0), (7, .osl 1 3 0 x7n false), (12, .osl 5 0 0 bn false), (13, .int .i64 (bn : Int)), (14, .int .i64 x14)]), [some (.arr 5 bn (rowOf eLock bw)), some (.box [.sl 5 0 (rowOf eLock (fun _ => zLock)) true, .sl 5 0 (rowOf eLock (fun _ => zLock)) true]), some (.box [.osl 5 4 0 b2_0n false, .osl 5 5 0 b2_1n false]), some (.arr 1 n3 w3_1), some (.arr 5 n4 w4), some (.arr 5 n5 w5)]⟩ κ
noncomputable def serve01_r0 (k j1 : Nat) (bn : Nat) (bw : Nat → TLock) (κ : AV → Heap → Option ρ) (v : AV) : Option ρ := resAt ctx k n_locks_serve 1 [.r, .r, .r, .r, .l, .r, .into j1, .r, .r, .l, .r, .l, .l] 5 [] ⟨(envOf 45 [(4, .ref 1 0), (6, .ref 2 0), (7, .sl 1 0 (rowOf (eI .u64) (fun _ => 0)) true), (9, .ref 3 0), (12, .osl 5 0 0 bn false), (13, .int .i64 (bn : Int)), (14, .int .i64 0), (18, .agg (eLock ⟨((bw 0).Tx), ⟨(((bw 0).R).From), (((bw 0).R).To), (((bw 0).R).End)⟩, ((bw 0).X)⟩)), (19, .ref 2 0), (20, .sl 5 0 (rowOf eLock (fun _ => zLock)) true), (21, .ref 2 1), (22, .sl 5 0 (rowOf eLock (fun _ => zLock)) true), (23, v)]), [some (.arr 5 bn (rowOf eLock bw)), some (.box [.sl 5 0 (rowOf eLock (fun _ => zLock)) true, .sl 5 0 (rowOf eLock (fun _ => zLock)) true]), some (.box [.sl 5 0 (rowOf eLock (fun _ => zLock)) true, .sl 5 0 (rowOf eLock (fun _ => zLock)) true]), some (.box (eLock ⟨((bw 0).Tx), ⟨(((bw 0).R).From), (((bw 0).R).To), (((bw 0).R).End)⟩, ((bw 0).X)⟩))]⟩ κ
noncomputable def serve01_r1 (k j1 : Nat) (bn : Nat) (bw : Nat → TLock) (x14 : Int) (b2_1n : Nat) (n3 : Nat) (w3 : Nat → TLock) (κ : AV → Heap → Option ρ) (v : AV) : Option ρ := retH false [.agg (eLock ⟨((bw (0 + (x14).toNat)).Tx), ⟨(((bw (0 + (x14).toNat)).R).From), (((bw (0 + (x14).toNat)).R).To), (((bw (0 + (x14).toNat)).R).End)⟩, ((bw (0 + (x14).toNat)).X)⟩), .sl 5 0 (rowOf eLock (fun _ => zLock)) true, .osl 5 4 0 b2_1n false] [some (.arr 5 bn (rowOf eLock bw)), some (.box [.sl 5 0 (rowOf eLock (fun _ => zLock)) true, .sl 5 0 (rowOf eLock (fun _ => zLock)) true]), some (.box [.sl 5 0 (rowOf eLock (fun _ => zLock)) true, .osl 5 4 0 b2_1n false]), some (.box (eLock ⟨((bw (0 + (x14).toNat)).Tx), ⟨(((bw (0 + (x14).toNat)).R).From), (((bw (0 + (x14).toNat)).R).To), (((bw (0 + (x14).toNat)).R).End)⟩, ((bw (0 + (x14).toNat)).X)⟩)), some (.arr 5 n3 (rowOf eLock w3))] (fun v H => resAt ctx k n_locks_serve 1 [.r, .r, .r, .r, .l, .r, .into j1, .r, .r, .l, .r, .l, .l] 5 [] ⟨(envOf 45 [(4, .ref 1 0), (6, .ref 2 0), (7, .sl 1 0 (rowOf (eI .u64) (fun _ => 0)) true), (9, .ref 3 0), (12, .osl 5 0 0 bn false), (13, .int .i64 (bn : Int)), (14, .int .i64 x14), (18, .agg (eLock ⟨((bw (0 + (x14).toNat)).Tx), ⟨(((bw (0 + (x14).toNat)).R).From), (((bw (0 + (x14).toNat)).R).To), (((bw (0 + (x14).toNat)).R).End)⟩, ((bw (0 + (x14).toNat)).X)⟩)), (19, .ref 2 0), (20, .sl 5 0 (rowOf eLock (fun _ => zLock)) true), (21, .ref 2 1), (22, .osl 5 4 0 b2_1n false), (23, v)]), H⟩ κ) v
noncomputable def serve01_r2 (k j1 : Nat) (bn : Nat) (bw : Nat → TLock) (x14 : Int) (n3 : Nat) (w3_1 : Nat → Int) (w4 : Nat → TLock) (x7n : Nat) (b2_0n : Nat) (n4 : Nat) (κ : AV → Heap → Option ρ) (v : AV) : Option ρ := retH false [.agg (eLock ⟨((bw (0 + (x14).toNat)).Tx), ⟨(((bw (0 + (x14).toNat)).R).From), (((bw (0 + (x14).toNat)).R).To), (((bw (0 + (x14).toNat)).R).End)⟩, ((bw (0 + (x14).toNat)).X)⟩), .osl 5 5 0 b2_0n false, .sl 5 0 (rowOf eLock (fun _ => zLock)) true] [some (.arr 5 bn (rowOf eLock bw)), some (.box [.sl 5 0 (rowOf eLock (fun _ => zLock)) true, .sl 5 0 (rowOf eLock (fun _ => zLock)) true]), some (.box [.osl 5 5 0 b2_0n false, .sl 5 0 (rowOf eLock (fun _ => zLock)) true]), some (.arr 1 n3 (rowOf (eI .u64) w3_1)), some (.box (eLock ⟨((bw (0 + (x14).toNat)).Tx), ⟨(((bw (0 + (x14).toNat)).R).From), (((bw (0 + (x14).toNat)).R).To), (((bw (0 + (x14).toNat)).R).End)⟩, ((bw (0 + (x14).toNat)).X)⟩)), some (.arr 5 n4 (rowOf eLock w4))] (fun v H => resAt ctx k n_locks_serve 1 [.r, .r, .r, .r, .l, .r, .into j1, .r, .r, .l, .r, .l, .l] 5 [] ⟨(envOf 45 [(4, .ref 1 0), (6, .ref 2 0), (7, .osl 1 3 0 x7n false), (9, .ref 4 0), (12, .osl 5 0 0 bn false), (13, .int .i64 (bn : Int)), (14, .int .i64 x14), (18, .agg (eLock ⟨((bw (0 + (x14).toNat)).Tx), ⟨(((bw (0 + (x14).toNat)).R).From), (((bw (0 + (x14).toNat)).R).To), (((bw (0 + (x14).toNat)).R).End)⟩, ((bw (0 + (x14).toNat)).X)⟩)), (19, .ref 2 0), (20, .osl 5 5 0 b2_0n false), (21, .ref 2 1), (22, .sl 5 0 (rowOf eLock (fun _ => zLock)) true), (23, v)]), H⟩ κ) v
noncomputable def serve01_r3 (k j1 : Nat) (bn : Nat) (bw : Nat → TLock) (x14 : Int) (b2_1n : Nat) (n3 : Nat) (w3_1 : Nat → Int) (w4 : Nat → TLock) (w5 : Nat → TLock) (x7n : Nat) (b2_0n : Nat) (n4 : Nat) (n5 : Nat) (κ : AV → Heap → Option ρ) (v : AV) : Option ρ := retH false [.agg (eLock ⟨((bw (0 + (x14).toNat)).Tx), ⟨(((bw (0 + (x14).toNat)).R).From), (((bw (0 + (x14).toNat)).R).To), (((bw (0 + (x14).toNat)).R).End)⟩, ((bw (0 + (x14).toNat)).X)⟩), .osl 5 5 0 b2_0n false, .osl 5 6 0 b2_1n false] [some (.arr 5 bn (rowOf eLock bw)), some (.box [.sl 5 0 (rowOf eLock (fun _ => zLock)) true, .sl 5 0 (rowOf eLock (fun _ => zLock)) true]), some (.box [.osl 5 5 0 b2_0n false, .osl 5 6 0 b2_1n false]), some (.arr 1 n3 (rowOf (eI .u64) w3_1)), some (.box (eLock ⟨((bw (0 + (x14).toNat)).Tx), ⟨(((bw (0 + (x14).toNat)).R).From), (((bw (0 + (x14).toNat)).R).To), (((bw (0 + (x14).toNat)).R).End)⟩, ((bw (0 + (x14).toNat)).X)⟩)), some (.arr 5 n4 (rowOf eLock w4)), some (.arr 5 n5 (rowOf eLock w5))] (fun v H => resAt ctx k n_locks_serve 1 [.r, .r, .r, .r, .l, .r, .into j1, .r, .r, .l, .r, .l, .l] 5 [] ⟨(envOf 45 [(4, .ref 1 0), (6, .ref 2 0), (7, .osl 1 3 0 x7n false), (9, .ref 4 0), (12, .osl 5 0 0 bn false), (13, .int .i64 (bn : Int)), (14, .int .i64 x14), (18, .agg (eLock ⟨((bw (0 + (x14).toNat)).Tx), ⟨(((bw (0 + (x14).toNat)).R).From), (((bw (0 + (x14).toNat)).R).To), (((bw (0 + (x14).toNat)).R).End)⟩, ((bw (0 + (x14).toNat)).X)⟩)), (19, .ref 2 0), (20, .osl 5 5 0 b2_0n false), (21, .ref 2 1), (22, .osl 5 6 0 b2_1n false), (23, v)]), H⟩ κ) v
theorem serve01_h0_s (k j : Nat) (bn : Nat) (bw : Nat → TLock) (κ : AV → Heap → Option ρ) : serve01_h0 k (j + 1) bn bw κ =
  (bif decide (0 < (bn : Int)) then
   (bif idxOK 0 bn then
    (bif decide (0 < bn) then
     callP ctx k n_locks_grants [.agg (eLock ⟨((bw 0).Tx), ⟨(((bw 0).R).From), (((bw 0).R).To), (((bw 0).R).End)⟩, ((bw 0).X)⟩), .sl 5 0 (rowOf eLock (fun _ => zLock)) true, .sl 5 0 (rowOf eLock (fun _ => zLock)) true] (serve01_r0 k j bn bw κ)
    else none)
   else none)
  else κ (.tup [.agg (eLocks zLocks), .sl 1 0 (rowOf (eI .u64) (fun _ => 0)) true]) [some (.arr 5 bn (rowOf eLock bw)), some (.box [.sl 5 0 (rowOf eLock (fun _ => zLock)) true, .sl 5 0 (rowOf eLock (fun _ => zLock)) true])]) := by kernel_rfl
theorem serve01_h1_s (k j : Nat) (bn : Nat) (bw : Nat → TLock) (x14 : Int) (b2_1n : Nat) (n3 : Nat) (w3 : Nat → TLock) (κ : AV → Heap → Option ρ) : serve01_h1 k (j + 1) bn bw x14 b2_1n n3 (rowOf eLock w3) κ =
  (bif decide (x14 < (bn : Int)) then
   (bif idxOK x14 bn then
    (bif decide ((0 + (x14).toNat) < bn) then
     callP ctx k n_locks_grants [.agg (eLock ⟨((bw (0 + (x14).toNat)).Tx), ⟨(((bw (0 + (x14).toNat)).R).From), (((bw (0 + (x14).toNat)).R).To), (((bw (0 + (x14).toNat)).R).End)⟩, ((bw (0 + (x14).toNat)).X)⟩), .sl 5 0 (rowOf eLock (fun _ => zLock)) true, .sl 5 b2_1n (rowOf eLock (fun i => w3 (0 + i))) false] (serve01_r1 k j bn bw x14 b2_1n n3 w3 κ)
    else none)
   else none)
  else κ (.tup [.agg [.sl 5 0 (rowOf eLock (fun _ => zLock)) true, .osl 5 2 0 b2_1n false], .sl 1 0 (rowOf (eI .u64) (fun _ => 0)) true]) [some (.arr 5 bn (rowOf eLock bw)), some (.box [.sl 5 0 (rowOf eLock (fun _ => zLock)) true, .osl 5 2 0 b2_1n false]), some (.arr 5 n3 (rowOf eLock w3))]) := by kernel_rfl
theorem serve01_h2_s (k j : Nat) (bn : Nat) (bw : Nat → TLock) (x7n : Nat) (x14 : Int) (b2_0n : Nat) (n3 : Nat) (w3_1 : Nat → Int) (n4 : Nat) (w4 : Nat → TLock) (κ : AV → Heap → Option ρ) : serve01_h2 k (j + 1) bn bw x7n x14 b2_0n n3 (rowOf (eI .u64) w3_1) n4 (rowOf eLock w4) κ =
  (bif decide (x14 < (bn : Int)) then
   (bif idxOK x14 bn then
    (bif decide ((0 + (x14).toNat) < bn) then
     callP ctx k n_locks_grants [.agg (eLock ⟨((bw (0 + (x14).toNat)).Tx), ⟨(((bw (0 + (x14).toNat)).R).From), (((bw (0 + (x14).toNat)).R).To), (((bw (0 + (x14).toNat)).R).End)⟩, ((bw (0 + (x14).toNat)).X)⟩), .sl 5 b2_0n (rowOf eLock (fun i => w4 (0 + i))) false, .sl 5 0 (rowOf eLock (fun _ => zLock)) true] (serve01_r2 k j bn bw x14 n3 w3_1 w4 x7n b2_0n n4 κ)
    else none)
   else none)
  else κ (.tup [.agg [.osl 5 3 0 b2_0n false, .sl 5 0 (rowOf eLock (fun _ => zLock)) true], .osl 1 2 0 x7n false]) [some (.arr 5 bn (rowOf eLock bw)), some (.box [.osl 5 3 0 b2_0n false, .sl 5 0 (rowOf eLock (fun _ => zLock)) true]), some (.arr 1 n3 (rowOf (eI .u64) w3_1)), some (.arr 5 n4 (rowOf eLock w4))]) := by kernel_rfl
theorem serve01_h3_s (k j : Nat) (bn : Nat) (bw : Nat → TLock) (w3_1 : Nat → Int) (w4 : Nat → TLock) (w5 : Nat → TLock) (x14 : Int) (b2_1n : Nat) (n5 : Nat) (x7n : Nat) (b2_0n : Nat) (n3 : Nat) (n4 : Nat) (κ : AV → Heap → Option ρ) : serve01_h3 k (j + 1) bn bw (rowOf (eI .u64) w3_1) (rowOf eLock w4) (rowOf eLock w5) x14 b2_1n n5 x7n b2_0n n3 n4 κ =
  (bif decide (x14 < (bn : Int)) then
   (bif idxOK x14 bn then
    (bif decide ((0 + (x14).toNat) < bn) then
     callP ctx k n_locks_grants [.agg (eLock ⟨((bw (0 + (x14).toNat)).Tx), ⟨(((bw (0 + (x14).toNat)).R).From), (((bw (0 + (x14).toNat)).R).To), (((bw (0 + (x14).toNat)).R).End)⟩, ((bw (0 + (x14).toNat)).X)⟩), .sl 5 b2_0n (rowOf eLock (fun i => w4 (0 + i))) false, .sl 5 b2_1n (rowOf eLock (fun i => w5 (0 + i))) false] (serve01_r3 k j bn bw x14 b2_1n n3 w3_1 w4 w5 x7n b2_0n n4 n5 κ)
    else none)
   else none)
  else κ (.tup [.agg [.osl 5 3 0 b2_0n false, .osl 5 4 0 b2_1n false], .osl 1 2 0 x7n false]) [some (.arr 5 bn (rowOf eLock bw)), some (.box [.osl 5 3 0 b2_0n false, .osl 5 4 0 b2_1n false]), some (.arr 1 n3 (rowOf (eI .u64) w3_1)), some (.arr 5 n4 (rowOf eLock w4)), some (.arr 5 n5 (rowOf eLock w5))]) := by kernel_rfl
theorem serve01_r0_s (k j1 : Nat) (bn : Nat) (bw : Nat → TLock) (r0 : Bool) (κ : AV → Heap → Option ρ) : serve01_r0 k j1 bn bw κ (.bool r0) =
  (bif !r0 then
   serve01_h1 k j1 bn bw 1 1 1 (catRow 0 (rowOf eLock (fun _ => zLock)) (litRow eLock [⟨((bw 0).Tx), ⟨(((bw 0).R).From), (((bw 0).R).To), (((bw 0).R).End)⟩, ((bw 0).X)⟩] zLock)) κ
  else serve01_h2 k j1 bn bw 1 1 1 1 (catRow 0 (rowOf (eI .u64) (fun _ => 0)) (litRow (eI .u64) [((bw 0).Tx)] 0)) 1 (catRow 0 (rowOf eLock (fun _ => zLock)) (litRow eLock [⟨((bw 0).Tx), ⟨(((bw 0).R).From), (((bw 0).R).To), (((bw 0).R).End)⟩, ((bw 0).X)⟩] zLock)) κ) := by kernel_rfl
theorem serve01_r1_s (k j1 : Nat) (bn : Nat) (bw : Nat → TLock) (x14 : Int) (b2_1n : Nat) (n3 : Nat) (w3 : Nat → TLock) (r1 : Bool) (κ : AV → Heap → Option ρ) : serve01_r1 k j1 bn bw x14 b2_1n n3 w3 κ (.bool r1) =
  (bif !r1 then
   (bif decide (((0 + b2_1n) + 1) ≤ n3) then
    serve01_h1 k j1 bn bw (wi64 (x14 + 1)) (b2_1n + 1) n3 (putRow (0 + b2_1n) ((0 + b2_1n) + 1) (litRow eLock [⟨((bw (0 + (x14).toNat)).Tx), ⟨(((bw (0 + (x14).toNat)).R).From), (((bw (0 + (x14).toNat)).R).To), (((bw (0 + (x14).toNat)).R).End)⟩, ((bw (0 + (x14).toNat)).X)⟩] zLock) (rowOf eLock w3)) κ
   else (bif ((decide (b2_1n = n3)) && (roomOf (b2_1n + 1) 56)) then
     serve01_h1 k j1 bn bw (wi64 (x14 + 1)) (b2_1n + 1) (b2_1n + 1) (catRow b2_1n (rowOf eLock w3) (litRow eLock [⟨((bw (0 + (x14).toNat)).Tx), ⟨(((bw (0 + (x14).toNat)).R).From), (((bw (0 + (x14).toNat)).R).To), (((bw (0 + (x14).toNat)).R).End)⟩, ((bw (0 + (x14).toNat)).X)⟩] zLock)) κ
    else none))
  else serve01_h3 k j1 bn bw (catRow 0 (rowOf (eI .u64) (fun _ => 0)) (litRow (eI .u64) [((bw (0 + (x14).toNat)).Tx)] 0)) (catRow 0 (rowOf eLock (fun _ => zLock)) (litRow eLock [⟨((bw (0 + (x14).toNat)).Tx), ⟨(((bw (0 + (x14).toNat)).R).From), (((bw (0 + (x14).toNat)).R).To), (((bw (0 + (x14).toNat)).R).End)⟩, ((bw (0 + (x14).toNat)).X)⟩] zLock)) (rowOf eLock w3) (wi64 (x14 + 1)) b2_1n n3 1 1 1 1 κ) := by kernel_rfl
theorem serve01_r2_s (k j1 : Nat) (bn : Nat) (bw : Nat → TLock) (x14 : Int) (n3 : Nat) (w3_1 : Nat → Int) (w4 : Nat → TLock) (x7n : Nat) (b2_0n : Nat) (n4 : Nat) (r2 : Bool) (κ : AV → Heap → Option ρ) : serve01_r2 k j1 bn bw x14 n3 w3_1 w4 x7n b2_0n n4 κ (.bool r2) =
  (bif !r2 then
   serve01_h3 k j1 bn bw (rowOf (eI .u64) w3_1) (rowOf eLock w4) (catRow 0 (rowOf eLock (fun _ => zLock)) (litRow eLock [⟨((bw (0 + (x14).toNat)).Tx), ⟨(((bw (0 + (x14).toNat)).R).From), (((bw (0 + (x14).toNat)).R).To), (((bw (0 + (x14).toNat)).R).End)⟩, ((bw (0 + (x14).toNat)).X)⟩] zLock)) (wi64 (x14 + 1)) 1 1 x7n b2_0n n3 n4 κ
  else (bif decide (((0 + b2_0n) + 1) ≤ n4) then
    (bif decide (((0 + x7n) + 1) ≤ n3) then
     serve01_h2 k j1 bn bw (x7n + 1) (wi64 (x14 + 1)) (b2_0n + 1) n3 (putRow (0 + x7n) ((0 + x7n) + 1) (litRow (eI .u64) [((bw (0 + (x14).toNat)).Tx)] 0) (rowOf (eI .u64) w3_1)) n4 (putRow (0 + b2_0n) ((0 + b2_0n) + 1) (litRow eLock [⟨((bw (0 + (x14).toNat)).Tx), ⟨(((bw (0 + (x14).toNat)).R).From), (((bw (0 + (x14).toNat)).R).To), (((bw (0 + (x14).toNat)).R).End)⟩, ((bw (0 + (x14).toNat)).X)⟩] zLock) (rowOf eLock w4)) κ
    else (bif ((decide (x7n = n3)) && (roomOf (x7n + 1) 8)) then
      serve01_h2 k j1 bn bw (x7n + 1) (wi64 (x14 + 1)) (b2_0n + 1) (x7n + 1) (catRow x7n (rowOf (eI .u64) w3_1) (litRow (eI .u64) [((bw (0 + (x14).toNat)).Tx)] 0)) n4 (putRow (0 + b2_0n) ((0 + b2_0n) + 1) (litRow eLock [⟨((bw (0 + (x14).toNat)).Tx), ⟨(((bw (0 + (x14).toNat)).R).From), (((bw (0 + (x14).toNat)).R).To), (((bw (0 + (x14).toNat)).R).End)⟩, ((bw (0 + (x14).toNat)).X)⟩] zLock) (rowOf eLock w4)) κ
     else none))
   else (bif ((decide (b2_0n = n4)) && (roomOf (b2_0n + 1) 56)) then
     (bif decide (((0 + x7n) + 1) ≤ n3) then
      serve01_h2 k j1 bn bw (x7n + 1) (wi64 (x14 + 1)) (b2_0n + 1) n3 (putRow (0 + x7n) ((0 + x7n) + 1) (litRow (eI .u64) [((bw (0 + (x14).toNat)).Tx)] 0) (rowOf (eI .u64) w3_1)) (b2_0n + 1) (catRow b2_0n (rowOf eLock w4) (litRow eLock [⟨((bw (0 + (x14).toNat)).Tx), ⟨(((bw (0 + (x14).toNat)).R).From), (((bw (0 + (x14).toNat)).R).To), (((bw (0 + (x14).toNat)).R).End)⟩, ((bw (0 + (x14).toNat)).X)⟩] zLock)) κ
     else (bif ((decide (x7n = n3)) && (roomOf (x7n + 1) 8)) then
       serve01_h2 k j1 bn bw (x7n + 1) (wi64 (x14 + 1)) (b2_0n + 1) (x7n + 1) (catRow x7n (rowOf (eI .u64) w3_1) (litRow (eI .u64) [((bw (0 + (x14).toNat)).Tx)] 0)) (b2_0n + 1) (catRow b2_0n (rowOf eLock w4) (litRow eLock [⟨((bw (0 + (x14).toNat)).Tx), ⟨(((bw (0 + (x14).toNat)).R).From), (((bw (0 + (x14).toNat)).R).To), (((bw (0 + (x14).toNat)).R).End)⟩, ((bw (0 + (x14).toNat)).X)⟩] zLock)) κ
      else none))
    else none))) := by kernel_rfl
theorem serve01_r3_s (k j1 : Nat) (bn : Nat) (bw : Nat → TLock) (x14 : Int) (b2_1n : Nat) (n3 : Nat) (w3_1 : Nat → Int) (w4 : Nat → TLock) (w5 : Nat → TLock) (x7n : Nat) (b2_0n : Nat) (n4 : Nat) (n5 : Nat) (r3 : Bool) (κ : AV → Heap → Option ρ) : serve01_r3 k j1 bn bw x14 b2_1n n3 w3_1 w4 w5 x7n b2_0n n4 n5 κ (.bool r3) =
  (bif !r3 then
   (bif decide (((0 + b2_1n) + 1) ≤ n5) then
    serve01_h3 k j1 bn bw (rowOf (eI .u64) w3_1) (rowOf eLock w4) (putRow (0 + b2_1n) ((0 + b2_1n) + 1) (litRow eLock [⟨((bw (0 + (x14).toNat)).Tx), ⟨(((bw (0 + (x14).toNat)).R).From), (((bw (0 + (x14).toNat)).R).To), (((bw (0 + (x14).toNat)).R).End)⟩, ((bw (0 + (x14).toNat)).X)⟩] zLock) (rowOf eLock w5)) (wi64 (x14 + 1)) (b2_1n + 1) n5 x7n b2_0n n3 n4 κ
   else (bif ((decide (b2_1n = n5)) && (roomOf (b2_1n + 1) 56)) then
     serve01_h3 k j1 bn bw (rowOf (eI .u64) w3_1) (rowOf eLock w4) (catRow b2_1n (rowOf eLock w5) (litRow eLock [⟨((bw (0 + (x14).toNat)).Tx), ⟨(((bw (0 + (x14).toNat)).R).From), (((bw (0 + (x14).toNat)).R).To), (((bw (0 + (x14).toNat)).R).End)⟩, ((bw (0 + (x14).toNat)).X)⟩] zLock)) (wi64 (x14 + 1)) (b2_1n + 1) (b2_1n + 1) x7n b2_0n n3 n4 κ
    else none))
  else (bif decide (((0 + b2_0n) + 1) ≤ n4) then
    (bif decide (((0 + x7n) + 1) ≤ n3) then
     serve01_h3 k j1 bn bw (putRow (0 + x7n) ((0 + x7n) + 1) (litRow (eI .u64) [((bw (0 + (x14).toNat)).Tx)] 0) (rowOf (eI .u64) w3_1)) (putRow (0 + b2_0n) ((0 + b2_0n) + 1) (litRow eLock [⟨((bw (0 + (x14).toNat)).Tx), ⟨(((bw (0 + (x14).toNat)).R).From), (((bw (0 + (x14).toNat)).R).To), (((bw (0 + (x14).toNat)).R).End)⟩, ((bw (0 + (x14).toNat)).X)⟩] zLock) (rowOf eLock w4)) (rowOf eLock w5) (wi64 (x14 + 1)) b2_1n n5 (x7n + 1) (b2_0n + 1) n3 n4 κ
    else (bif ((decide (x7n = n3)) && (roomOf (x7n + 1) 8)) then
      serve01_h3 k j1 bn bw (catRow x7n (rowOf (eI .u64) w3_1) (litRow (eI .u64) [((bw (0 + (x14).toNat)).Tx)] 0)) (putRow (0 + b2_0n) ((0 + b2_0n) + 1) (litRow eLock [⟨((bw (0 + (x14).toNat)).Tx), ⟨(((bw (0 + (x14).toNat)).R).From), (((bw (0 + (x14).toNat)).R).To), (((bw (0 + (x14).toNat)).R).End)⟩, ((bw (0 + (x14).toNat)).X)⟩] zLock) (rowOf eLock w4)) (rowOf eLock w5) (wi64 (x14 + 1)) b2_1n n5 (x7n + 1) (b2_0n + 1) (x7n + 1) n4 κ
     else none))
   else (bif ((decide (b2_0n = n4)) && (roomOf (b2_0n + 1) 56)) then
     (bif decide (((0 + x7n) + 1) ≤ n3) then
      serve01_h3 k j1 bn bw (putRow (0 + x7n) ((0 + x7n) + 1) (litRow (eI .u64) [((bw (0 + (x14).toNat)).Tx)] 0) (rowOf (eI .u64) w3_1)) (catRow b2_0n (rowOf eLock w4) (litRow eLock [⟨((bw (0 + (x14).toNat)).Tx), ⟨(((bw (0 + (x14).toNat)).R).From), (((bw (0 + (x14).toNat)).R).To), (((bw (0 + (x14).toNat)).R).End)⟩, ((bw (0 + (x14).toNat)).X)⟩] zLock)) (rowOf eLock w5) (wi64 (x14 + 1)) b2_1n n5 (x7n + 1) (b2_0n + 1) n3 (b2_0n + 1) κ
     else (bif ((decide (x7n = n3)) && (roomOf (x7n + 1) 8)) then
       serve01_h3 k j1 bn bw (catRow x7n (rowOf (eI .u64) w3_1) (litRow (eI .u64) [((bw (0 + (x14).toNat)).Tx)] 0)) (catRow b2_0n (rowOf eLock w4) (litRow eLock [⟨((bw (0 + (x14).toNat)).Tx), ⟨(((bw (0 + (x14).toNat)).R).From), (((bw (0 + (x14).toNat)).R).To), (((bw (0 + (x14).toNat)).R).End)⟩, ((bw (0 + (x14).toNat)).X)⟩] zLock)) (rowOf eLock w5) (wi64 (x14 + 1)) b2_1n n5 (x7n + 1) (b2_0n + 1) (x7n + 1) (b2_0n + 1) κ
      else none))
    else none))) := by kernel_rfl
theorem serve01_e (k : Nat) (bn : Nat) (bw : Nat → TLock) (κ : AV → Heap → Option ρ) : evalF ctx (k + 1) n_locks_serve [.sl 5 0 (rowOf eLock (fun _ => zLock)) true, .osl 5 0 0 bn false] [some (.arr 5 bn (rowOf eLock bw))] κ =
  serve01_h0 k k bn bw κ := by kernel_rfl
noncomputable def serve11_h0 (k j : Nat) (an : Nat) (aw : Nat → TLock) (bn : Nat) (bw : Nat → TLock) (κ : AV → Heap → Option ρ) : Option ρ := headAt ctx k n_locks_serve 2 [.r, .r, .r, .r, .l, .r] j ⟨(envOf 45 [(4, .ref 2 0), (6, .ref 3 0), (7, .sl 1 0 (rowOf (eI .u64) (fun _ => 0)) true), (12, .osl 5 1 0 bn false), (13, .int .i64 (bn : Int)), (14, .int .i64 0)]), [some (.arr 5 an (rowOf eLock aw)), some (.arr 5 bn (rowOf eLock bw)), some (.box [.sl 5 0 (rowOf eLock (fun _ => zLock)) true, .sl 5 0 (rowOf eLock (fun _ => zLock)) true]), some (.box [.osl 5 0 0 an false, .sl 5 0 (rowOf eLock (fun _ => zLock)) true])]⟩ κ
noncomputable def serve11_h1 (k j : Nat) (an : Nat) (aw : Nat → TLock) (bn : Nat) (bw : Nat → TLock) (x14 : Int) (b3_1n : Nat) (n4 : Nat) (w4 : Nat → List AV) (κ : AV → Heap → Option ρ) : Option ρ := headAt ctx k n_locks_serve 2 [.r, .r, .r, .r, .l, .r] j ⟨(envOf 45 [(4, .ref 2 0), (6, .ref 3 0), (7, .sl 1 0 (rowOf (eI .u64) (fun _ => 0)) true), (12, .osl 5 1 0 bn false), (13, .int .i64 (bn : Int)), (14, .int .i64 x14)]), [some (.arr 5 an (rowOf eLock aw)), some (.arr 5 bn (rowOf eLock bw)), some (.box [.sl 5 0 (rowOf eLock (fun _ => zLock)) true, .sl 5 0 (rowOf eLock (fun _ => zLock)) true]), some (.box [.osl 5 0 0 an false, .osl 5 4 0 b3_1n false]), some (.arr 5 n4 w4)]⟩ κ
noncomputable def serve11_h2 (k j : Nat) (an : Nat) (bn : Nat) (bw : Nat → TLock) (x7n : Nat) (x14 : Int) (w0 : Nat → List AV) (b3_0n : Nat) (n4 : Nat) (w4_1 : Nat → List AV) (κ : AV → Heap → Option ρ) : Option ρ := headAt ctx k n_locks_serve 2 [.r, .r, .r, .r, .l, .r] j ⟨(envOf 45 [(4, .ref 2 0), (6, .ref 3 0), (7, .osl 1 4 0 x7n false), (12, .osl 5 1 0 bn false), (13, .int .i64 (bn : Int)), (14, .int .i64 x14)]), [some (.arr 5 an w0), some (.arr 5 bn (rowOf eLock bw)), some (.box [.sl 5 0 (rowOf eLock (fun _ => zLock)) true, .sl 5 0 (rowOf eLock (fun _ => zLock)) true]), some (.box [.osl 5 0 0 b3_0n false, .sl 5 0 (rowOf eLock (fun _ => zLock)) true]), some (.arr 1 n4 w4_1)]⟩ κ
noncomputable def serve11_h3 (k j : Nat) (bn : Nat) (bw : Nat → TLock) (x7n : Nat) (x14 : Int) (b3_0n : Nat) (n4 : Nat) (w4_1 : Nat → List AV) (n5 : Nat) (w5 : Nat → List AV) (κ : AV → Heap → Option ρ) : Option ρ := headAt ctx k n_locks_serve 2 [.r, .r, .r, .r, .l, .r] j ⟨(envOf 45 [(4, .ref 2 0), (6, .ref 3 0), (7, .osl 1 4 0 x7n false), (12, .osl 5 1 0 bn false), (13, .int .i64 (bn : Int)), (14, .int .i64 x14)]), [none, some (.arr 5 bn (rowOf eLock bw)), some (.box [.sl 5 0 (rowOf eLock (fun _ => zLock)) true, .sl 5 0 (rowOf eLock (fun _ => zLock)) true]), some (.box [.osl 5 5 0 b3_0n false, .sl 5 0 (rowOf eLock (fun _ => zLock)) true]), some (.arr 1 n4 w4_1), some (.arr 5 n5 w5)]⟩ κ
noncomputable def serve11_h4 (k j : Nat) (an : Nat) (bn : Nat) (bw : Nat → TLock) (w0 : Nat → List AV) (w4_1 : Nat → List AV) (w5 : Nat → List AV) (x14 : Int) (b3_1n : Nat) (n5 : Nat) (x7n : Nat) (b3_0n : Nat) (n4 : Nat) (κ : AV → Heap → Option ρ) : Option ρ := headAt ctx k n_locks_serve 2 [.r, .r, .r, .r, .l, .r] j ⟨(envOf 45 [(4, .ref 2 0), (6, .ref 3 0), (7, .osl 1 4 0 x7n false), (12, .osl 5 1 0 bn false), (13, .int .i64 (bn : Int)), (14, .int .i64 x14)]), [some (.arr 5 an w0), some (.arr 5 bn (rowOf eLock bw)), some (.box [.sl 5 0 (rowOf eLock (fun _ => zLock)) true, .sl 5 0 (rowOf eLock (fun _ => zLock)) true]), some (.box [.osl 5 0 0 b3_0n false, .osl 5 5 0 b3_1n false]), some (.arr 1 n4 w4_1), some (.arr 5 n5 w5)]⟩ κ
noncomputable def serve11_h5 (k j : Nat) (bn : Nat) (bw : Nat → TLock) (w4_1 : Nat → List AV) (w5 : Nat → List AV) (w6 : Nat → List AV) (x7n : Nat) (x14 : Int) (b3_0n : Nat) (n4 : Nat) (n5 : Nat) (b3_1n : Nat) (n6 : Nat) (κ : AV → Heap → Option ρ) : Option ρ := headAt ctx k n_locks_serve 2 [.r, .r, .r, .r, .l, .r] j ⟨(envOf 45 [(4, .ref 2 0), (6, .ref 3 0), (7, .osl 1 4 0 x7n false), (12, .osl 5 1 0 bn false), (13, .int .i64 (bn : Int)), (14, .int .i64 x14)]), [none, some (.arr 5 bn (rowOf eLock bw)), some (.box [.sl 5 0 (rowOf eLock (fun _ => zLock)) true, .sl 5 0 (rowOf eLock (fun _ => zLock)) true]), some (.box [.osl 5 5 0 b3_0n false, .osl 5 6 0 b3_1n false]), some (.arr 1 n4 w4_1), some (.arr 5 n5 w5), some (.arr 5 n6 w6)]⟩ κ
noncomputable def serve11_r0 (k j1 : Nat) (an : Nat) (aw : Nat → TLock) (bn : Nat) (bw : Nat → TLock) (κ : AV → Heap → Option ρ) (v : AV) : Option ρ := retH false [.agg (eLock ⟨((bw 0).Tx), ⟨(((bw 0).R).From), (((bw 0).R).To), (((bw 0).R).End)⟩, ((bw 0).X)⟩), .osl 5 0 0 an false, .sl 5 0 (rowOf eLock (fun _ => zLock)) true] [some (.arr 5 an (rowOf eLock aw)), some (.arr 5 bn (rowOf eLock bw)), some (.box [.sl 5 0 (rowOf eLock (fun _ => zLock)) true, .sl 5 0 (rowOf eLock (fun _ => zLock)) true]), some (.box [.osl 5 0 0 an false, .sl 5 0 (rowOf eLock (fun _ => zLock)) true]), some (.box (eLock ⟨((bw 0).Tx), ⟨(((bw 0).R).From), (((bw 0).R).To), (((bw 0).R).End)⟩, ((bw 0).X)⟩))] (fun v H => resAt ctx k n_locks_serve 2 [.r, .r, .r, .r, .l, .r, .into j1, .r, .r, .l, .r, .l, .l] 5 [] ⟨(envOf 45 [(4, .ref 2 0), (6, .ref 3 0), (7, .sl 1 0 (rowOf (eI .u64) (fun _ => 0)) true), (9, .ref 4 0), (12, .osl 5 1 0 bn false), (13, .int .i64 (bn : Int)), (14, .int .i64 0), (18, .agg (eLock ⟨((bw 0).Tx), ⟨(((bw 0).R).From), (((bw 0).R).To), (((bw 0).R).End)⟩, ((bw 0).X)⟩)), (19, .ref 3 0), (20, .osl 5 0 0 an false), (21, .ref 3 1), (22, .sl 5 0 (rowOf eLock (fun _ => zLock)) true), (23, v)]), H⟩ κ) v
noncomputable def serve11_r1 (k j1 : Nat) (an : Nat) (aw : Nat → TLock) (bn : Nat) (bw : Nat → TLock) (x14 : Int) (b3_1n : Nat) (n4 : Nat) (w4 : Nat → TLock) (κ : AV → Heap → Option ρ) (v : AV) : Option ρ := retH false [.agg (eLock ⟨((bw (0 + (x14).toNat)).Tx), ⟨(((bw (0 + (x14).toNat)).R).From), (((bw (0 + (x14).toNat)).R).To), (((bw (0 + (x14).toNat)).R).End)⟩, ((bw (0 + (x14).toNat)).X)⟩), .osl 5 0 0 an false, .osl 5 5 0 b3_1n false] [some (.arr 5 an (rowOf eLock aw)), some (.arr 5 bn (rowOf eLock bw)), some (.box [.sl 5 0 (rowOf eLock (fun _ => zLock)) true, .sl 5 0 (rowOf eLock (fun _ => zLock)) true]), some (.box [.osl 5 0 0 an false, .osl 5 5 0 b3_1n false]), some (.box (eLock ⟨((bw (0 + (x14).toNat)).Tx), ⟨(((bw (0 + (x14).toNat)).R).From), (((bw (0 + (x14).toNat)).R).To), (((bw (0 + (x14).toNat)).R).End)⟩, ((bw (0 + (x14).toNat)).X)⟩)), some (.arr 5 n4 (rowOf eLock w4))] (fun v H => resAt ctx k n_locks_serve 2 [.r, .r, .r, .r, .l, .r, .into j1, .r, .r, .l, .r, .l, .l] 5 [] ⟨(envOf 45 [(4, .ref 2 0), (6, .ref 3 0), (7, .sl 1 0 (rowOf (eI .u64) (fun _ => 0)) true), (9, .ref 4 0), (12, .osl 5 1 0 bn false), (13, .int .i64 (bn : Int)), (14, .int .i64 x14), (18, .agg (eLock ⟨((bw (0 + (x14).toNat)).Tx), ⟨(((bw (0 + (x14).toNat)).R).From), (((bw (0 + (x14).toNat)).R).To), (((bw (0 + (x14).toNat)).R).End)⟩, ((bw (0 + (x14).toNat)).X)⟩)), (19, .ref 3 0), (20, .osl 5 0 0 an false), (21, .ref 3 1), (22, .osl 5 5 0 b3_1n false), (23, v)]), H⟩ κ) v
noncomputable def serve11_r2 (k j1 : Nat) (an : Nat) (bn : Nat) (bw : Nat → TLock) (x14 : Int) (n4 : Nat) (w0 : Nat → TLock) (w4_1 : Nat → Int) (x7n : Nat) (b3_0n : Nat) (κ : AV → Heap → Option ρ) (v : AV) : Option ρ := retH false [.agg (eLock ⟨((bw (0 + (x14).toNat)).Tx), ⟨(((bw (0 + (x14).toNat)).R).From), (((bw (0 + (x14).toNat)).R).To), (((bw (0 + (x14).toNat)).R).End)⟩, ((bw (0 + (x14).toNat)).X)⟩), .osl 5 0 0 b3_0n false, .sl 5 0 (rowOf eLock (fun _ => zLock)) true] [some (.arr 5 an (rowOf eLock w0)), some (.arr 5 bn (rowOf eLock bw)), some (.box [.sl 5 0 (rowOf eLock (fun _ => zLock)) true, .sl 5 0 (rowOf eLock (fun _ => zLock)) true]), some (.box [.osl 5 0 0 b3_0n false, .sl 5 0 (rowOf eLock (fun _ => zLock)) true]), some (.arr 1 n4 (rowOf (eI .u64) w4_1)), some (.box (eLock ⟨((bw (0 + (x14).toNat)).Tx), ⟨(((bw (0 + (x14).toNat)).R).From), (((bw (0 + (x14).toNat)).R).To), (((bw (0 + (x14).toNat)).R).End)⟩, ((bw (0 + (x14).toNat)).X)⟩))] (fun v H => resAt ctx k n_locks_serve 2 [.r, .r, .r, .r, .l, .r, .into j1, .r, .r, .l, .r, .l, .l] 5 [] ⟨(envOf 45 [(4, .ref 2 0), (6, .ref 3 0), (7, .osl 1 4 0 x7n false), (9, .ref 5 0), (12, .osl 5 1 0 bn false), (13, .int .i64 (bn : Int)), (14, .int .i64 x14), (18, .agg (eLock ⟨((bw (0 + (x14).toNat)).Tx), ⟨(((bw (0 + (x14).toNat)).R).From), (((bw (0 + (x14).toNat)).R).To), (((bw (0 + (x14).toNat)).R).End)⟩, ((bw (0 + (x14).toNat)).X)⟩)), (19, .ref 3 0), (20, .osl 5 0 0 b3_0n false), (21, .ref 3 1), (22, .sl 5 0 (rowOf eLock (fun _ => zLock)) true), (23, v)]), H⟩ κ) v
noncomputable def serve11_r3 (k j1 : Nat) (bn : Nat) (bw : Nat → TLock) (x14 : Int) (n4 : Nat) (w4_1 : Nat → Int) (w5 : Nat → TLock) (x7n : Nat) (b3_0n : Nat) (n5 : Nat) (κ : AV → Heap → Option ρ) (v : AV) : Option ρ := retH false [.agg (eLock ⟨((bw (0 + (x14).toNat)).Tx), ⟨(((bw (0 + (x14).toNat)).R).From), (((bw (0 + (x14).toNat)).R).To), (((bw (0 + (x14).toNat)).R).End)⟩, ((bw (0 + (x14).toNat)).X)⟩), .osl 5 6 0 b3_0n false, .sl 5 0 (rowOf eLock (fun _ => zLock)) true] [none, some (.arr 5 bn (rowOf eLock bw)), some (.box [.sl 5 0 (rowOf eLock (fun _ => zLock)) true, .sl 5 0 (rowOf eLock (fun _ => zLock)) true]), some (.box [.osl 5 6 0 b3_0n false, .sl 5 0 (rowOf eLock (fun _ => zLock)) true]), some (.arr 1 n4 (rowOf (eI .u64) w4_1)), some (.box (eLock ⟨((bw (0 + (x14).toNat)).Tx), ⟨(((bw (0 + (x14).toNat)).R).From), (((bw (0 + (x14).toNat)).R).To), (((bw (0 + (x14).toNat)).R).End)⟩, ((bw (0 + (x14).toNat)).X)⟩)), some (.arr 5 n5 (rowOf eLock w5))] (fun v H => resAt ctx k n_locks_serve 2 [.r, .r, .r, .r, .l, .r, .into j1, .r, .r, .l, .r, .l, .l] 5 [] ⟨(envOf 45 [(4, .ref 2 0), (6, .ref 3 0), (7, .osl 1 4 0 x7n false), (9, .ref 5 0), (12, .osl 5 1 0 bn false), (13, .int .i64 (bn : Int)), (14, .int .i64 x14), (18, .agg (eLock ⟨((bw (0 + (x14).toNat)).Tx), ⟨(((bw (0 + (x14).toNat)).R).From), (((bw (0 + (x14).toNat)).R).To), (((bw (0 + (x14).toNat)).R).End)⟩, ((bw (0 + (x14).toNat)).X)⟩)), (19, .ref 3 0), (20, .osl 5 6 0 b3_0n false), (21, .ref 3 1), (22, .sl 5 0 (rowOf eLock (fun _ => zLock)) true), (23, v)]), H⟩ κ) v
noncomputable def serve11_r4 (k j1 : Nat) (an : Nat) (bn : Nat) (bw : Nat → TLock) (x14 : Int) (b3_1n : Nat) (n4 : Nat) (w0 : Nat → TLock) (w4_1 : Nat → Int) (w5 : Nat → TLock) (x7n : Nat) (b3_0n : Nat) (n5 : Nat) (κ : AV → Heap → Option ρ) (v : AV) : Option ρ := retH false [.agg (eLock ⟨((bw (0 + (x14).toNat)).Tx), ⟨(((bw (0 + (x14).toNat)).R).From), (((bw (0 + (x14).toNat)).R).To), (((bw (0 + (x14).toNat)).R).End)⟩, ((bw (0 + (x14).toNat)).X)⟩), .osl 5 0 0 b3_0n false, .osl 5 6 0 b3_1n false] [some (.arr 5 an (rowOf eLock w0)), some (.arr 5 bn (rowOf eLock bw)), some (.box [.sl 5 0 (rowOf eLock (fun _ => zLock)) true, .sl 5 0 (rowOf eLock (fun _ => zLock)) true]), some (.box [.osl 5 0 0 b3_0n false, .osl 5 6 0 b3_1n false]), some (.arr 1 n4 (rowOf (eI .u64) w4_1)), some (.box (eLock ⟨((bw (0 + (x14).toNat)).Tx), ⟨(((bw (0 + (x14).toNat)).R).From), (((bw (0 + (x14).toNat)).R).To), (((bw (0 + (x14).toNat)).R).End)⟩, ((bw (0 + (x14).toNat)).X)⟩)), some (.arr 5 n5 (rowOf eLock w5))] (fun v H => resAt ctx k n_locks_serve 2 [.r, .r, .r, .r, .l, .r, .into j1, .r, .r, .l, .r, .l, .l] 5 [] ⟨(envOf 45 [(4, .ref 2 0), (6, .ref 3 0), (7, .osl 1 4 0 x7n false), (9, .ref 5 0), (12, .osl 5 1 0 bn false), (13, .int .i64 (bn : Int)), (14, .int .i64 x14), (18, .agg (eLock ⟨((bw (0 + (x14).toNat)).Tx), ⟨(((bw (0 + (x14).toNat)).R).From), (((bw (0 + (x14).toNat)).R).To), (((bw (0 + (x14).toNat)).R).End)⟩, ((bw (0 + (x14).toNat)).X)⟩)), (19, .ref 3 0), (20, .osl 5 0 0 b3_0n false), (21, .ref 3 1), (22, .osl 5 6 0 b3_1n false), (23, v)]), H⟩ κ) v
noncomputable def serve11_r5 (k j1 : Nat) (bn : Nat) (bw : Nat → TLock) (x14 : Int) (b3_1n : Nat) (n4 : Nat) (w4_1 : Nat → Int) (w5 : Nat → TLock) (x7n : Nat) (b3_0n : Nat) (n5 : Nat) (w6 : Nat → TLock) (n6 : Nat) (κ : AV → Heap → Option ρ) (v : AV) : Option ρ := retH false [.agg (eLock ⟨((bw (0 + (x14).toNat)).Tx), ⟨(((bw (0 + (x14).toNat)).R).From), (((bw (0 + (x14).toNat)).R).To), (((bw (0 + (x14).toNat)).R).End)⟩, ((bw (0 + (x14).toNat)).X)⟩), .osl 5 6 0 b3_0n false, .osl 5 7 0 b3_1n false] [none, some (.arr 5 bn (rowOf eLock bw)), some (.box [.sl 5 0 (rowOf eLock (fun _ => zLock)) true, .sl 5 0 (rowOf eLock (fun _ => zLock)) true]), some (.box [.osl 5 6 0 b3_0n false, .osl 5 7 0 b3_1n false]), some (.arr 1 n4 (rowOf (eI .u64) w4_1)), some (.box (eLock ⟨((bw (0 + (x14).toNat)).Tx), ⟨(((bw (0 + (x14).toNat)).R).From), (((bw (0 + (x14).toNat)).R).To), (((bw (0 + (x14).toNat)).R).End)⟩, ((bw (0 + (x14).toNat)).X)⟩)), some (.arr 5 n5 (rowOf eLock w5)), some (.arr 5 n6 (rowOf eLock w6))] (fun v H => resAt ctx k n_locks_serve 2 [.r, .r, .r, .r, .l, .r, .into j1, .r, .r, .l, .r, .l, .l] 5 [] ⟨(envOf 45 [(4, .ref 2 0), (6, .ref 3 0), (7, .osl 1 4 0 x7n false), (9, .ref 5 0), (12, .osl 5 1 0 bn false), (13, .int .i64 (bn : Int)), (14, .int .i64 x14), (18, .agg (eLock ⟨((bw (0 + (x14).toNat)).Tx), ⟨(((bw (0 + (x14).toNat)).R).From), (((bw (0 + (x14).toNat)).R).To), (((bw (0 + (x14).toNat)).R).End)⟩, ((bw (0 + (x14).toNat)).X)⟩)), (19, .ref 3 0), (20, .osl 5 6 0 b3_0n false), (21, .ref 3 1), (22, .osl 5 7 0 b3_1n false), (23, v)]), H⟩ κ) v
theorem serve11_h0_s (k j : Nat) (an : Nat) (aw : Nat → TLock) (bn : Nat) (bw : Nat → TLock) (κ : AV → Heap → Option ρ) : serve11_h0 k (j + 1) an aw bn bw κ =
  (bif decide (0 < (bn : Int)) then
   (bif idxOK 0 bn then
    (bif decide (0 < bn) then
     callP ctx k n_locks_grants [.agg (eLock ⟨((bw 0).Tx), ⟨(((bw 0).R).From), (((bw 0).R).To), (((bw 0).R).End)⟩, ((bw 0).X)⟩), .sl 5 an (rowOf eLock (fun i => aw (0 + i))) false, .sl 5 0 (rowOf eLock (fun _ => zLock)) true] (serve11_r0 k j an aw bn bw κ)
    else none)
   else none)
  else κ (.tup [.agg [.osl 5 0 0 an false, .sl 5 0 (rowOf eLock (fun _ => zLock)) true], .sl 1 0 (rowOf (eI .u64) (fun _ => 0)) true]) [some (.arr 5 an (rowOf eLock aw)), some (.arr 5 bn (rowOf eLock bw)), some (.box [.osl 5 0 0 an false, .sl 5 0 (rowOf eLock (fun _ => zLock)) true])]) := by kernel_rfl
theorem serve11_h1_s (k j : Nat) (an : Nat) (aw : Nat → TLock) (bn : Nat) (bw : Nat → TLock) (x14 : Int) (b3_1n : Nat) (n4 : Nat) (w4 : Nat → TLock) (κ : AV → Heap → Option ρ) : serve11_h1 k (j + 1) an aw bn bw x14 b3_1n n4 (rowOf eLock w4) κ =
  (bif decide (x14 < (bn : Int)) then
   (bif idxOK x14 bn then
    (bif decide ((0 + (x14).toNat) < bn) then
     callP ctx k n_locks_grants [.agg (eLock ⟨((bw (0 + (x14).toNat)).Tx), ⟨(((bw (0 + (x14).toNat)).R).From), (((bw (0 + (x14).toNat)).R).To), (((bw (0 + (x14).toNat)).R).End)⟩, ((bw (0 + (x14).toNat)).X)⟩), .sl 5 an (rowOf eLock (fun i => aw (0 + i))) false, .sl 5 b3_1n (rowOf eLock (fun i => w4 (0 + i))) false] (serve11_r1 k j an aw bn bw x14 b3_1n n4 w4 κ)
    else none)
   else none)
  else κ (.tup [.agg [.osl 5 0 0 an false, .osl 5 3 0 b3_1n false], .sl 1 0 (rowOf (eI .u64) (fun _ => 0)) true]) [some (.arr 5 an (rowOf eLock aw)), some (.arr 5 bn (rowOf eLock bw)), some (.box [.osl 5 0 0 an false, .osl 5 3 0 b3_1n false]), some (.arr 5 n4 (rowOf eLock w4))]) := by kernel_rfl
theorem serve11_h2_s (k j : Nat) (an : Nat) (bn : Nat) (bw : Nat → TLock) (x7n : Nat) (x14 : Int) (w0 : Nat → TLock) (b3_0n : Nat) (n4 : Nat) (w4_1 : Nat → Int) (κ : AV → Heap → Option ρ) : serve11_h2 k (j + 1) an bn bw x7n x14 (rowOf eLock w0) b3_0n n4 (rowOf (eI .u64) w4_1) κ =
  (bif decide (x14 < (bn : Int)) then
   (bif idxOK x14 bn then
    (bif decide ((0 + (x14).toNat) < bn) then
     callP ctx k n_locks_grants [.agg (eLock ⟨((bw (0 + (x14).toNat)).Tx), ⟨(((bw (0 + (x14).toNat)).R).From), (((bw (0 + (x14).toNat)).R).To), (((bw (0 + (x14).toNat)).R).End)⟩, ((bw (0 + (x14).toNat)).X)⟩), .sl 5 b3_0n (rowOf eLock (fun i => w0 (0 + i))) false, .sl 5 0 (rowOf eLock (fun _ => zLock)) true] (serve11_r2 k j an bn bw x14 n4 w0 w4_1 x7n b3_0n κ)
    else none)
   else none)
  else κ (.tup [.agg [.osl 5 0 0 b3_0n false, .sl 5 0 (rowOf eLock (fun _ => zLock)) true], .osl 1 3 0 x7n false]) [some (.arr 5 an (rowOf eLock w0)), some (.arr 5 bn (rowOf eLock bw)), some (.box [.osl 5 0 0 b3_0n false, .sl 5 0 (rowOf eLock (fun _ => zLock)) true]), some (.arr 1 n4 (rowOf (eI .u64) w4_1))]) := by kernel_rfl
theorem serve11_h3_s (k j : Nat) (bn : Nat) (bw : Nat → TLock) (x7n : Nat) (x14 : Int) (b3_0n : Nat) (n4 : Nat) (w4_1 : Nat → Int) (n5 : Nat) (w5 : Nat → TLock) (κ : AV → Heap → Option ρ) : serve11_h3 k (j + 1) bn bw x7n x14 b3_0n n4 (rowOf (eI .u64) w4_1) n5 (rowOf eLock w5) κ =
  (bif decide (x14 < (bn : Int)) then
   (bif idxOK x14 bn then
    (bif decide ((0 + (x14).toNat) < bn) then
     callP ctx k n_locks_grants [.agg (eLock ⟨((bw (0 + (x14).toNat)).Tx), ⟨(((bw (0 + (x14).toNat)).R).From), (((bw (0 + (x14).toNat)).R).To), (((bw (0 + (x14).toNat)).R).End)⟩, ((bw (0 + (x14).toNat)).X)⟩), .sl 5 b3_0n (rowOf eLock (fun i => w5 (0 + i))) false, .sl 5 0 (rowOf eLock (fun _ => zLock)) true] (serve11_r3 k j bn bw x14 n4 w4_1 w5 x7n b3_0n n5 κ)
    else none)
   else none)
  else κ (.tup [.agg [.osl 5 4 0 b3_0n false, .sl 5 0 (rowOf eLock (fun _ => zLock)) true], .osl 1 3 0 x7n false]) [none, some (.arr 5 bn (rowOf eLock bw)), some (.box [.osl 5 4 0 b3_0n false, .sl 5 0 (rowOf eLock (fun _ => zLock)) true]), some (.arr 1 n4 (rowOf (eI .u64) w4_1)), some (.arr 5 n5 (rowOf eLock w5))]) := by kernel_rfl
theorem serve11_h4_s (k j : Nat) (an : Nat) (bn : Nat) (bw : Nat → TLock) (w0 : Nat → TLock) (w4_1 : Nat → Int) (w5 : Nat → TLock) (x14 : Int) (b3_1n : Nat) (n5 : Nat) (x7n : Nat) (b3_0n : Nat) (n4 : Nat) (κ : AV → Heap → Option ρ) : serve11_h4 k (j + 1) an bn bw (rowOf eLock w0) (rowOf (eI .u64) w4_1) (rowOf eLock w5) x14 b3_1n n5 x7n b3_0n n4 κ =
  (bif decide (x14 < (bn : Int)) then
   (bif idxOK x14 bn then
    (bif decide ((0 + (x14).toNat) < bn) then
     callP ctx k n_locks_grants [.agg (eLock ⟨((bw (0 + (x14).toNat)).Tx), ⟨(((bw (0 + (x14).toNat)).R).From), (((bw (0 + (x14).toNat)).R).To), (((bw (0 + (x14).toNat)).R).End)⟩, ((bw (0 + (x14).toNat)).X)⟩), .sl 5 b3_0n (rowOf eLock (fun i => w0 (0 + i))) false, .sl 5 b3_1n (rowOf eLock (fun i => w5 (0 + i))) false] (serve11_r4 k j an bn bw x14 b3_1n n4 w0 w4_1 w5 x7n b3_0n n5 κ)
    else none)
   else none)
  else κ (.tup [.agg [.osl 5 0 0 b3_0n false, .osl 5 4 0 b3_1n false], .osl 1 3 0 x7n false]) [some (.arr 5 an (rowOf eLock w0)), some (.arr 5 bn (rowOf eLock bw)), some (.box [.osl 5 0 0 b3_0n false, .osl 5 4 0 b3_1n false]), some (.arr 1 n4 (rowOf (eI .u64) w4_1)), some (.arr 5 n5 (rowOf eLock w5))]) := by kernel_rfl
theorem serve11_h5_s (k j : Nat) (bn : Nat) (bw : Nat → TLock) (w4_1 : Nat → Int) (w5 : Nat → TLock) (w6 : Nat → TLock) (x7n : Nat) (x14 : Int) (b3_0n : Nat) (n4 : Nat) (n5 : Nat) (b3_1n : Nat) (n6 : Nat) (κ : AV → Heap → Option ρ) : serve11_h5 k (j + 1) bn bw (rowOf (eI .u64) w4_1) (rowOf eLock w5) (rowOf eLock w6) x7n x14 b3_0n n4 n5 b3_1n n6 κ =
  (bif decide (x14 < (bn : Int)) then
   (bif idxOK x14 bn then
    (bif decide ((0 + (x14).toNat) < bn) then
     callP ctx k n_locks_grants [.agg (eLock ⟨((bw (0 + (x14).toNat)).Tx), ⟨(((bw (0 + (x14).toNat)).R).From), (((bw (0 + (x14).toNat)).R).To), (((bw (0 + (x14).toNat)).R).End)⟩, ((bw (0 + (x14).toNat)).X)⟩), .sl 5 b3_0n (rowOf eLock (fun i => w5 (0 + i))) false, .sl 5 b3_1n (rowOf eLock (fun i => w6 (0 + i))) false] (serve11_r5 k j bn bw x14 b3_1n n4 w4_1 w5 x7n b3_0n n5 w6 n6 κ)
    else none)
   else none)
  else κ (.tup [.agg [.osl 5 4 0 b3_0n false, .osl 5 5 0 b3_1n false], .osl 1 3 0 x7n false]) [none, some (.arr 5 bn (rowOf eLock bw)), some (.box [.osl 5 4 0 b3_0n false, .osl 5 5 0 b3_1n false]), some (.arr 1 n4 (rowOf (eI .u64) w4_1)), some (.arr 5 n5 (rowOf eLock w5)), some (.arr 5 n6 (rowOf eLock w6))]) := by kernel_rfl
theorem serve11_r0_s (k j1 : Nat) (an : Nat) (aw : Nat → TLock) (bn : Nat) (bw : Nat → TLock) (r0 : Bool) (κ : AV → Heap → Option ρ) : serve11_r0 k j1 an aw bn bw κ (.bool r0) =
  (bif !r0 then
   serve11_h1 k j1 an aw bn bw 1 1 1 (catRow 0 (rowOf eLock (fun _ => zLock)) (litRow eLock [⟨((bw 0).Tx), ⟨(((bw 0).R).From), (((bw 0).R).To), (((bw 0).R).End)⟩, ((bw 0).X)⟩] zLock)) κ
  else (bif decide (((0 + an) + 1) ≤ an) then
    serve11_h2 k j1 an bn bw 1 1 (putRow (0 + an) ((0 + an) + 1) (litRow eLock [⟨((bw 0).Tx), ⟨(((bw 0).R).From), (((bw 0).R).To), (((bw 0).R).End)⟩, ((bw 0).X)⟩] zLock) (rowOf eLock aw)) (an + 1) 1 (catRow 0 (rowOf (eI .u64) (fun _ => 0)) (litRow (eI .u64) [((bw 0).Tx)] 0)) κ
   else (bif ((decide (an = an)) && (roomOf (an + 1) 56)) then
     serve11_h3 k j1 bn bw 1 1 (an + 1) 1 (catRow 0 (rowOf (eI .u64) (fun _ => 0)) (litRow (eI .u64) [((bw 0).Tx)] 0)) (an + 1) (catRow an (rowOf eLock aw) (litRow eLock [⟨((bw 0).Tx), ⟨(((bw 0).R).From), (((bw 0).R).To), (((bw 0).R).End)⟩, ((bw 0).X)⟩] zLock)) κ
    else none))) := by kernel_rfl
theorem serve11_r1_s (k j1 : Nat) (an : Nat) (aw : Nat → TLock) (bn : Nat) (bw : Nat → TLock) (x14 : Int) (b3_1n : Nat) (n4 : Nat) (w4 : Nat → TLock) (r1 : Bool) (κ : AV → Heap → Option ρ) : serve11_r1 k j1 an aw bn bw x14 b3_1n n4 w4 κ (.bool r1) =
  (bif !r1 then
   (bif decide (((0 + b3_1n) + 1) ≤ n4) then
    serve11_h1 k j1 an aw bn bw (wi64 (x14 + 1)) (b3_1n + 1) n4 (putRow (0 + b3_1n) ((0 + b3_1n) + 1) (litRow eLock [⟨((bw (0 + (x14).toNat)).Tx), ⟨(((bw (0 + (x14).toNat)).R).From), (((bw (0 + (x14).toNat)).R).To), (((bw (0 + (x14).toNat)).R).End)⟩, ((bw (0 + (x14).toNat)).X)⟩] zLock) (rowOf eLock w4)) κ
   else (bif ((decide (b3_1n = n4)) && (roomOf (b3_1n + 1) 56)) then
     serve11_h1 k j1 an aw bn bw (wi64 (x14 + 1)) (b3_1n + 1) (b3_1n + 1) (catRow b3_1n (rowOf eLock w4) (litRow eLock [⟨((bw (0 + (x14).toNat)).Tx), ⟨(((bw (0 + (x14).toNat)).R).From), (((bw (0 + (x14).toNat)).R).To), (((bw (0 + (x14).toNat)).R).End)⟩, ((bw (0 + (x14).toNat)).X)⟩] zLock)) κ
    else none))
  else (bif decide (((0 + an) + 1) ≤ an) then
    serve11_h4 k j1 an bn bw (putRow (0 + an) ((0 + an) + 1) (litRow eLock [⟨((bw (0 + (x14).toNat)).Tx), ⟨(((bw (0 + (x14).toNat)).R).From), (((bw (0 + (x14).toNat)).R).To), (((bw (0 + (x14).toNat)).R).End)⟩, ((bw (0 + (x14).toNat)).X)⟩] zLock) (rowOf eLock aw)) (catRow 0 (rowOf (eI .u64) (fun _ => 0)) (litRow (eI .u64) [((bw (0 + (x14).toNat)).Tx)] 0)) (rowOf eLock w4) (wi64 (x14 + 1)) b3_1n n4 1 (an + 1) 1 κ
   else (bif ((decide (an = an)) && (roomOf (an + 1) 56)) then
     serve11_h5 k j1 bn bw (catRow 0 (rowOf (eI .u64) (fun _ => 0)) (litRow (eI .u64) [((bw (0 + (x14).toNat)).Tx)] 0)) (catRow an (rowOf eLock aw) (litRow eLock [⟨((bw (0 + (x14).toNat)).Tx), ⟨(((bw (0 + (x14).toNat)).R).From), (((bw (0 + (x14).toNat)).R).To), (((bw (0 + (x14).toNat)).R).End)⟩, ((bw (0 + (x14).toNat)).X)⟩] zLock)) (rowOf eLock w4) 1 (wi64 (x14 + 1)) (an + 1) 1 (an + 1) b3_1n n4 κ
    else none))) := by kernel_rfl
theorem serve11_r2_s (k j1 : Nat) (an : Nat) (bn : Nat) (bw : Nat → TLock) (x14 : Int) (n4 : Nat) (w0 : Nat → TLock) (w4_1 : Nat → Int) (x7n : Nat) (b3_0n : Nat) (r2 : Bool) (κ : AV → Heap → Option ρ) : serve11_r2 k j1 an bn bw x14 n4 w0 w4_1 x7n b3_0n κ (.bool r2) =
  (bif !r2 then
   serve11_h4 k j1 an bn bw (rowOf eLock w0) (rowOf (eI .u64) w4_1) (catRow 0 (rowOf eLock (fun _ => zLock)) (litRow eLock [⟨((bw (0 + (x14).toNat)).Tx), ⟨(((bw (0 + (x14).toNat)).R).From), (((bw (0 + (x14).toNat)).R).To), (((bw (0 + (x14).toNat)).R).End)⟩, ((bw (0 + (x14).toNat)).X)⟩] zLock)) (wi64 (x14 + 1)) 1 1 x7n b3_0n n4 κ
  else (bif decide (((0 + b3_0n) + 1) ≤ an) then
    (bif decide (((0 + x7n) + 1) ≤ n4) then
     serve11_h2 k j1 an bn bw (x7n + 1) (wi64 (x14 + 1)) (putRow (0 + b3_0n) ((0 + b3_0n) + 1) (litRow eLock [⟨((bw (0 + (x14).toNat)).Tx), ⟨(((bw (0 + (x14).toNat)).R).From), (((bw (0 + (x14).toNat)).R).To), (((bw (0 + (x14).toNat)).R).End)⟩, ((bw (0 + (x14).toNat)).X)⟩] zLock) (rowOf eLock w0)) (b3_0n + 1) n4 (putRow (0 + x7n) ((0 + x7n) + 1) (litRow (eI .u64) [((bw (0 + (x14).toNat)).Tx)] 0) (rowOf (eI .u64) w4_1)) κ
    else (bif ((decide (x7n = n4)) && (roomOf (x7n + 1) 8)) then
      serve11_h2 k j1 an bn bw (x7n + 1) (wi64 (x14 + 1)) (putRow (0 + b3_0n) ((0 + b3_0n) + 1) (litRow eLock [⟨((bw (0 + (x14).toNat)).Tx), ⟨(((bw (0 + (x14).toNat)).R).From), (((bw (0 + (x14).toNat)).R).To), (((bw (0 + (x14).toNat)).R).End)⟩, ((bw (0 + (x14).toNat)).X)⟩] zLock) (rowOf eLock w0)) (b3_0n + 1) (x7n + 1) (catRow x7n (rowOf (eI .u64) w4_1) (litRow (eI .u64) [((bw (0 + (x14).toNat)).Tx)] 0)) κ
     else none))
   else (bif ((decide (b3_0n = an)) && (roomOf (b3_0n + 1) 56)) then
     (bif decide (((0 + x7n) + 1) ≤ n4) then
      serve11_h3 k j1 bn bw (x7n + 1) (wi64 (x14 + 1)) (b3_0n + 1) n4 (putRow (0 + x7n) ((0 + x7n) + 1) (litRow (eI .u64) [((bw (0 + (x14).toNat)).Tx)] 0) (rowOf (eI .u64) w4_1)) (b3_0n + 1) (catRow b3_0n (rowOf eLock w0) (litRow eLock [⟨((bw (0 + (x14).toNat)).Tx), ⟨(((bw (0 + (x14).toNat)).R).From), (((bw (0 + (x14).toNat)).R).To), (((bw (0 + (x14).toNat)).R).End)⟩, ((bw (0 + (x14).toNat)).X)⟩] zLock)) κ
     else (bif ((decide (x7n = n4)) && (roomOf (x7n + 1) 8)) then
       serve11_h3 k j1 bn bw (x7n + 1) (wi64 (x14 + 1)) (b3_0n + 1) (x7n + 1) (catRow x7n (rowOf (eI .u64) w4_1) (litRow (eI .u64) [((bw (0 + (x14).toNat)).Tx)] 0)) (b3_0n + 1) (catRow b3_0n (rowOf eLock w0) (litRow eLock [⟨((bw (0 + (x14).toNat)).Tx), ⟨(((bw (0 + (x14).toNat)).R).From), (((bw (0 + (x14).toNat)).R).To), (((bw (0 + (x14).toNat)).R).End)⟩, ((bw (0 + (x14).toNat)).X)⟩] zLock)) κ
      else none))
    else none))) := by kernel_rfl
theorem serve11_r3_s (k j1 : Nat) (bn : Nat) (bw : Nat → TLock) (x14 : Int) (n4 : Nat) (w4_1 : Nat → Int) (w5 : Nat → TLock) (x7n : Nat) (b3_0n : Nat) (n5 : Nat) (r3 : Bool) (κ : AV → Heap → Option ρ) : serve11_r3 k j1 bn bw x14 n4 w4_1 w5 x7n b3_0n n5 κ (.bool r3) =
  (bif !r3 then
   serve11_h5 k j1 bn bw (rowOf (eI .u64) w4_1) (rowOf eLock w5) (catRow 0 (rowOf eLock (fun _ => zLock)) (litRow eLock [⟨((bw (0 + (x14).toNat)).Tx), ⟨(((bw (0 + (x14).toNat)).R).From), (((bw (0 + (x14).toNat)).R).To), (((bw (0 + (x14).toNat)).R).End)⟩, ((bw (0 + (x14).toNat)).X)⟩] zLock)) x7n (wi64 (x14 + 1)) b3_0n n4 n5 1 1 κ
  else (bif decide (((0 + b3_0n) + 1) ≤ n5) then
    (bif decide (((0 + x7n) + 1) ≤ n4) then
     serve11_h3 k j1 bn bw (x7n + 1) (wi64 (x14 + 1)) (b3_0n + 1) n4 (putRow (0 + x7n) ((0 + x7n) + 1) (litRow (eI .u64) [((bw (0 + (x14).toNat)).Tx)] 0) (rowOf (eI .u64) w4_1)) n5 (putRow (0 + b3_0n) ((0 + b3_0n) + 1) (litRow eLock [⟨((bw (0 + (x14).toNat)).Tx), ⟨(((bw (0 + (x14).toNat)).R).From), (((bw (0 + (x14).toNat)).R).To), (((bw (0 + (x14).toNat)).R).End)⟩, ((bw (0 + (x14).toNat)).X)⟩] zLock) (rowOf eLock w5)) κ
    else (bif ((decide (x7n = n4)) && (roomOf (x7n + 1) 8)) then
      serve11_h3 k j1 bn bw (x7n + 1) (wi64 (x14 + 1)) (b3_0n + 1) (x7n + 1) (catRow x7n (rowOf (eI .u64) w4_1) (litRow (eI .u64) [((bw (0 + (x14).toNat)).Tx)] 0)) n5 (putRow (0 + b3_0n) ((0 + b3_0n) + 1) (litRow eLock [⟨((bw (0 + (x14).toNat)).Tx), ⟨(((bw (0 + (x14).toNat)).R).From), (((bw (0 + (x14).toNat)).R).To), (((bw (0 + (x14).toNat)).R).End)⟩, ((bw (0 + (x14).toNat)).X)⟩] zLock) (rowOf eLock w5)) κ
     else none))
   else (bif ((decide (b3_0n = n5)) && (roomOf (b3_0n + 1) 56)) then
     (bif decide (((0 + x7n) + 1) ≤ n4) then
      serve11_h3 k j1 bn bw (x7n + 1) (wi64 (x14 + 1)) (b3_0n + 1) n4 (putRow (0 + x7n) ((0 + x7n) + 1) (litRow (eI .u64) [((bw (0 + (x14).toNat)).Tx)] 0) (rowOf (eI .u64) w4_1)) (b3_0n + 1) (catRow b3_0n (rowOf eLock w5) (litRow eLock [⟨((bw (0 + (x14).toNat)).Tx), ⟨(((bw (0 + (x14).toNat)).R).From), (((bw (0 + (x14).toNat)).R).To), (((bw (0 + (x14).toNat)).R).End)⟩, ((bw (0 + (x14).toNat)).X)⟩] zLock)) κ
     else (bif ((decide (x7n = n4)) && (roomOf (x7n + 1) 8)) then
       serve11_h3 k j1 bn bw (x7n + 1) (wi64 (x14 + 1)) (b3_0n + 1) (x7n + 1) (catRow x7n (rowOf (eI .u64) w4_1) (litRow (eI .u64) [((bw (0 + (x14).toNat)).Tx)] 0)) (b3_0n + 1) (catRow b3_0n (rowOf eLock w5) (litRow eLock [⟨((bw (0 + (x14).toNat)).Tx), ⟨(((bw (0 + (x14).toNat)).R).From), (((bw (0 + (x14).toNat)).R).To), (((bw (0 + (x14).toNat)).R).End)⟩, ((bw (0 + (x14).toNat)).X)⟩] zLock)) κ
      else none))
    else none))) := by kernel_rfl
theorem serve11_r4_s (k j1 : Nat) (an : Nat) (bn : Nat) (bw : Nat → TLock) (x14 : Int) (b3_1n : Nat) (n4 : Nat) (w0 : Nat → TLock) (w4_1 : Nat → Int) (w5 : Nat → TLock) (x7n : Nat) (b3_0n : Nat) (n5 : Nat) (r4 : Bool) (κ : AV → Heap → Option ρ) : serve11_r4 k j1 an bn bw x14 b3_1n n4 w0 w4_1 w5 x7n b3_0n n5 κ (.bool r4) =
  (bif !r4 then
   (bif decide (((0 + b3_1n) + 1) ≤ n5) then
    serve11_h4 k j1 an bn bw (rowOf eLock w0) (rowOf (eI .u64) w4_1) (putRow (0 + b3_1n) ((0 + b3_1n) + 1) (litRow eLock [⟨((bw (0 + (x14).toNat)).Tx), ⟨(((bw (0 + (x14).toNat)).R).From), (((bw (0 + (x14).toNat)).R).To), (((bw (0 + (x14).toNat)).R).End)⟩, ((bw (0 + (x14).toNat)).X)⟩] zLock) (rowOf eLock w5)) (wi64 (x14 + 1)) (b3_1n + 1) n5 x7n b3_0n n4 κ
   else (bif ((decide (b3_1n = n5)) && (roomOf (b3_1n + 1) 56)) then
     serve11_h4 k j1 an bn bw (rowOf eLock w0) (rowOf (eI .u64) w4_1) (catRow b3_1n (rowOf eLock w5) (litRow eLock [⟨((bw (0 + (x14).toNat)).Tx), ⟨(((bw (0 + (x14).toNat)).R).From), (((bw (0 + (x14).toNat)).R).To), (((bw (0 + (x14).toNat)).R).End)⟩, ((bw (0 + (x14).toNat)).X)⟩] zLock)) (wi64 (x14 + 1)) (b3_1n + 1) (b3_1n + 1) x7n b3_0n n4 κ
    else none))
  else (bif decide (((0 + b3_0n) + 1) ≤ an) then
    (bif decide (((0 + x7n) + 1) ≤ n4) then
     serve11_h4 k j1 an bn bw (putRow (0 + b3_0n) ((0 + b3_0n) + 1) (litRow eLock [⟨((bw (0 + (x14).toNat)).Tx), ⟨(((bw (0 + (x14).toNat)).R).From), (((bw (0 + (x14).toNat)).R).To), (((bw (0 + (x14).toNat)).R).End)⟩, ((bw (0 + (x14).toNat)).X)⟩] zLock) (rowOf eLock w0)) (putRow (0 + x7n) ((0 + x7n) + 1) (litRow (eI .u64) [((bw (0 + (x14).toNat)).Tx)] 0) (rowOf (eI .u64) w4_1)) (rowOf eLock w5) (wi64 (x14 + 1)) b3_1n n5 (x7n + 1) (b3_0n + 1) n4 κ
    else (bif ((decide (x7n = n4)) && (roomOf (x7n + 1) 8)) then
      serve11_h4 k j1 an bn bw (putRow (0 + b3_0n) ((0 + b3_0n) + 1) (litRow eLock [⟨((bw (0 + (x14).toNat)).Tx), ⟨(((bw (0 + (x14).toNat)).R).From), (((bw (0 + (x14).toNat)).R).To), (((bw (0 + (x14).toNat)).R).End)⟩, ((bw (0 + (x14).toNat)).X)⟩] zLock) (rowOf eLock w0)) (catRow x7n (rowOf (eI .u64) w4_1) (litRow (eI .u64) [((bw (0 + (x14).toNat)).Tx)] 0)) (rowOf eLock w5) (wi64 (x14 + 1)) b3_1n n5 (x7n + 1) (b3_0n + 1) (x7n + 1) κ
     else none))
   else (bif ((decide (b3_0n = an)) && (roomOf (b3_0n + 1) 56)) then
     (bif decide (((0 + x7n) + 1) ≤ n4) then
      serve11_h5 k j1 bn bw (putRow (0 + x7n) ((0 + x7n) + 1) (litRow (eI .u64) [((bw (0 + (x14).toNat)).Tx)] 0) (rowOf (eI .u64) w4_1)) (catRow b3_0n (rowOf eLock w0) (litRow eLock [⟨((bw (0 + (x14).toNat)).Tx), ⟨(((bw (0 + (x14).toNat)).R).From), (((bw (0 + (x14).toNat)).R).To), (((bw (0 + (x14).toNat)).R).End)⟩, ((bw (0 + (x14).toNat)).X)⟩] zLock)) (rowOf eLock w5) (x7n + 1) (wi64 (x14 + 1)) (b3_0n + 1) n4 (b3_0n + 1) b3_1n n5 κ
     else (bif ((decide (x7n = n4)) && (roomOf (x7n + 1) 8)) then
       serve11_h5 k j1 bn bw (catRow x7n (rowOf (eI .u64) w4_1) (litRow (eI .u64) [((bw (0 + (x14).toNat)).Tx)] 0)) (catRow b3_0n (rowOf eLock w0) (litRow eLock [⟨((bw (0 + (x14).toNat)).Tx), ⟨(((bw (0 + (x14).toNat)).R).From), (((bw (0 + (x14).toNat)).R).To), (((bw (0 + (x14).toNat)).R).End)⟩, ((bw (0 + (x14).toNat)).X)⟩] zLock)) (rowOf eLock w5) (x7n + 1) (wi64 (x14 + 1)) (b3_0n + 1) (x7n + 1) (b3_0n + 1) b3_1n n5 κ
      else none))
    else none))) := by kernel_rfl
theorem serve11_r5_s (k j1 : Nat) (bn : Nat) (bw : Nat → TLock) (x14 : Int) (b3_1n : Nat) (n4 : Nat) (w4_1 : Nat → Int) (w5 : Nat → TLock) (x7n : Nat) (b3_0n : Nat) (n5 : Nat) (w6 : Nat → TLock) (n6 : Nat) (r5 : Bool) (κ : AV → Heap → Option ρ) : serve11_r5 k j1 bn bw x14 b3_1n n4 w4_1 w5 x7n b3_0n n5 w6 n6 κ (.bool r5) =
  (bif !r5 then
   (bif decide (((0 + b3_1n) + 1) ≤ n6) then
    serve11_h5 k j1 bn bw (rowOf (eI .u64) w4_1) (rowOf eLock w5) (putRow (0 + b3_1n) ((0 + b3_1n) + 1) (litRow eLock [⟨((bw (0 + (x14).toNat)).Tx), ⟨(((bw (0 + (x14).toNat)).R).From), (((bw (0 + (x14).toNat)).R).To), (((bw (0 + (x14).toNat)).R).End)⟩, ((bw (0 + (x14).toNat)).X)⟩] zLock) (rowOf eLock w6)) x7n (wi64 (x14 + 1)) b3_0n n4 n5 (b3_1n + 1) n6 κ
   else (bif ((decide (b3_1n = n6)) && (roomOf (b3_1n + 1) 56)) then
     serve11_h5 k j1 bn bw (rowOf (eI .u64) w4_1) (rowOf eLock w5) (catRow b3_1n (rowOf eLock w6) (litRow eLock [⟨((bw (0 + (x14).toNat)).Tx), ⟨(((bw (0 + (x14).toNat)).R).From), (((bw (0 + (x14).toNat)).R).To), (((bw (0 + (x14).toNat)).R).End)⟩, ((bw (0 + (x14).toNat)).X)⟩] zLock)) x7n (wi64 (x14 + 1)) b3_0n n4 n5 (b3_1n + 1) (b3_1n + 1) κ
    else none))
  else (bif decide (((0 + b3_0n) + 1) ≤ n5) then
    (bif decide (((0 + x7n) + 1) ≤ n4) then
     serve11_h5 k j1 bn bw (putRow (0 + x7n) ((0 + x7n) + 1) (litRow (eI .u64) [((bw (0 + (x14).toNat)).Tx)] 0) (rowOf (eI .u64) w4_1)) (putRow (0 + b3_0n) ((0 + b3_0n) + 1) (litRow eLock [⟨((bw (0 + (x14).toNat)).Tx), ⟨(((bw (0 + (x14).toNat)).R).From), (((bw (0 + (x14).toNat)).R).To), (((bw (0 + (x14).toNat)).R).End)⟩, ((bw (0 + (x14).toNat)).X)⟩] zLock) (rowOf eLock w5)) (rowOf eLock w6) (x7n + 1) (wi64 (x14 + 1)) (b3_0n + 1) n4 n5 b3_1n n6 κ
    else (bif ((decide (x7n = n4)) && (roomOf (x7n + 1) 8)) then
      serve11_h5 k j1 bn bw (catRow x7n (rowOf (eI .u64) w4_1) (litRow (eI .u64) [((bw (0 + (x14).toNat)).Tx)] 0)) (putRow (0 + b3_0n) ((0 + b3_0n) + 1) (litRow eLock [⟨((bw (0 + (x14).toNat)).Tx), ⟨(((bw (0 + (x14).toNat)).R).From), (((bw (0 + (x14).toNat)).R).To), (((bw (0 + (x14).toNat)).R).End)⟩, ((bw (0 + (x14).toNat)).X)⟩] zLock) (rowOf eLock w5)) (rowOf eLock w6) (x7n + 1) (wi64 (x14 + 1)) (b3_0n + 1) (x7n + 1) n5 b3_1n n6 κ
     else none))
   else (bif ((decide (b3_0n = n5)) && (roomOf (b3_0n + 1) 56)) then
     (bif decide (((0 + x7n) + 1) ≤ n4) then
      serve11_h5 k j1 bn bw (putRow (0 + x7n) ((0 + x7n) + 1) (litRow (eI .u64) [((bw (0 + (x14).toNat)).Tx)] 0) (rowOf (eI .u64) w4_1)) (catRow b3_0n (rowOf eLock w5) (litRow eLock [⟨((bw (0 + (x14).toNat)).Tx), ⟨(((bw (0 + (x14).toNat)).R).From), (((bw (0 + (x14).toNat)).R).To), (((bw (0 + (x14).toNat)).R).End)⟩, ((bw (0 + (x14).toNat)).X)⟩] zLock)) (rowOf eLock w6) (x7n + 1) (wi64 (x14 + 1)) (b3_0n + 1) n4 (b3_0n + 1) b3_1n n6 κ
     else (bif ((decide (x7n = n4)) && (roomOf (x7n + 1) 8)) then
       serve11_h5 k j1 bn bw (catRow x7n (rowOf (eI .u64) w4_1) (litRow (eI .u64) [((bw (0 + (x14).toNat)).Tx)] 0)) (catRow b3_0n (rowOf eLock w5) (litRow eLock [⟨((bw (0 + (x14).toNat)).Tx), ⟨(((bw (0 + (x14).toNat)).R).From), (((bw (0 + (x14).toNat)).R).To), (((bw (0 + (x14).toNat)).R).End)⟩, ((bw (0 + (x14).toNat)).X)⟩] zLock)) (rowOf eLock w6) (x7n + 1) (wi64 (x14 + 1)) (b3_0n + 1) (x7n + 1) (b3_0n + 1) b3_1n n6 κ
      else none))
    else none))) := by kernel_rfl
theorem serve11_e (k : Nat) (an : Nat) (aw : Nat → TLock) (bn : Nat) (bw : Nat → TLock) (κ : AV → Heap → Option ρ) : evalF ctx (k + 1) n_locks_serve [.osl 5 0 0 an false, .osl 5 1 0 bn false] [some (.arr 5 an (rowOf eLock aw)), some (.arr 5 bn (rowOf eLock bw))] κ =
  serve11_h0 k k an aw bn bw κ := by kernel_rfl
noncomputable def serve10_h0 (k j : Nat) (an : Nat) (aw : Nat → TLock) (κ : AV → Heap → Option ρ) : Option ρ := headAt ctx k n_locks_serve 1 [.r, .r, .r, .r, .l, .r] j ⟨(envOf 45 [(4, .ref 1 0), (6, .ref 2 0), (7, .sl 1 0 (rowOf (eI .u64) (fun _ => 0)) true), (12, .sl 5 0 (rowOf eLock (fun _ => zLock)) true), (13, .int .i64 0), (14, .int .i64 0)]), [some (.arr 5 an (rowOf eLock aw)), some (.box [.sl 5 0 (rowOf eLock (fun _ => zLock)) true, .sl 5 0 (rowOf eLock (fun _ => zLock)) true]), some (.box [.osl 5 0 0 an false, .sl 5 0 (rowOf eLock (fun _ => zLock)) true])]⟩ κ
theorem serve10_h0_s (k j : Nat) (an : Nat) (aw : Nat → TLock) (κ : AV → Heap → Option ρ) : serve10_h0 k (j + 1) an aw κ =
  κ (.tup [.agg [.osl 5 0 0 an false, .sl 5 0 (rowOf eLock (fun _ => zLock)) true], .sl 1 0 (rowOf (eI .u64) (fun _ => 0)) true]) [some (.arr 5 an (rowOf eLock aw)), some (.box [.osl 5 0 0 an false, .sl 5 0 (rowOf eLock (fun _ => zLock)) true])] := by kernel_rfl
theorem serve10_e (k : Nat) (an : Nat) (aw : Nat → TLock) (κ : AV → Heap → Option ρ) : evalF ctx (k + 1) n_locks_serve [.osl 5 0 0 an false, .sl 5 0 (rowOf eLock (fun _ => zLock)) true] [some (.arr 5 an (rowOf eLock aw))] κ =
  serve10_h0 k k an aw κ := by kernel_rfl
noncomputable def serve00_h0 (k j : Nat) (κ : AV → Heap → Option ρ) : Option ρ := headAt ctx k n_locks_serve 0 [.r, .r, .r, .r, .l, .r] j ⟨(envOf 45 [(4, .ref 0 0), (6, .ref 1 0), (7, .sl 1 0 (rowOf (eI .u64) (fun _ => 0)) true), (12, .sl 5 0 (rowOf eLock (fun _ => zLock)) true), (13, .int .i64 0), (14, .int .i64 0)]), [some (.box [.sl 5 0 (rowOf eLock (fun _ => zLock)) true, .sl 5 0 (rowOf eLock (fun _ => zLock)) true]), some (.box [.sl 5 0 (rowOf eLock (fun _ => zLock)) true, .sl 5 0 (rowOf eLock (fun _ => zLock)) true])]⟩ κ
theorem serve00_h0_s (k j : Nat) (κ : AV → Heap → Option ρ) : serve00_h0 k (j + 1) κ =
  κ (.tup [.agg (eLocks zLocks), .sl 1 0 (rowOf (eI .u64) (fun _ => 0)) true]) [some (.box [.sl 5 0 (rowOf eLock (fun _ => zLock)) true, .sl 5 0 (rowOf eLock (fun _ => zLock)) true])] := by kernel_rfl
theorem serve00_e (k : Nat) (κ : AV → Heap → Option ρ) : evalF ctx (k + 1) n_locks_serve [.sl 5 0 (rowOf eLock (fun _ => zLock)) true, .sl 5 0 (rowOf eLock (fun _ => zLock)) true] [] κ =
  serve00_h0 k k κ := by kernel_rfl
end Go.Proofs.YticcbbcgboddpaaC

set_option linter.unusedVariables false
set_option maxRecDepth 20000
namespace Go.Proofs.YticcbbcgboddpaaC
open Go Go.Ev Go.Proofs
variable {ρ : Type}
noncomputable def locks_Release_r0 (k : Nat) (s : TLocks) (tx : Int) (κ : AV → Heap → Option ρ) (v : AV) : Option ρ := resAt ctx k n_locks_Release 0 [.r, .l, .l] 1 [] ⟨(envOf 29 [(1, .int .u64 tx), (2, .ref 0 0), (4, .ref 1 0), (9, .agg (eLocks s)), (10, v)]), [some (.box [.sl 5 s.Held.n (rowOf eLock s.Held.w) s.Held.u, .sl 5 s.Waits.n (rowOf eLock s.Waits.w) s.Waits.u]), some (.box [.sl 5 0 (rowOf eLock (fun _ => zLock)) true, .sl 5 0 (rowOf eLock (fun _ => zLock)) true])]⟩ κ
noncomputable def locks_Release_r1 (k : Nat) (s : TLocks) (tx : Int) (r0 : Int) (κ : AV → Heap → Option ρ) (v : AV) (W : Heap) : Option ρ := backHD [2] [some (.box [.sl 5 s.Held.n (rowOf eLock s.Held.w) s.Held.u, .sl 5 s.Waits.n (rowOf eLock s.Waits.w) s.Waits.u]), some (.box [.sl 5 0 (rowOf eLock (fun _ => zLock)) true, .sl 5 0 (rowOf eLock (fun _ => zLock)) true]), some (.box [.int .u64 tx])] (fun v H => resAt ctx k n_locks_Release 0 [.r, .r, .l] 4 [] ⟨(envOf 29 [(1, .int .u64 tx), (2, .ref 0 0), (4, .ref 1 0), (11, .bool (!decide (r0 = 0))), (14, .ref 0 0), (15, .sl 5 s.Held.n (rowOf eLock s.Held.w) s.Held.u), (16, .int .u64 tx), (17, .fn n_locks_others_1 [] [.ref 2 0]), (18, v)]), H⟩ κ) v W
noncomputable def locks_Release_r2 (k : Nat) (s : TLocks) (tx : Int) (r0 : Int) (κ : AV → Heap → Option ρ) (v : AV) (W : Heap) : Option ρ := backHD [3] [some (.box [.sl 5 s.Held.n (rowOf eLock s.Held.w) s.Held.u, .sl 5 s.Waits.n (rowOf eLock s.Waits.w) s.Waits.u]), some (.box [.sl 5 0 (rowOf eLock (fun _ => zLock)) true, .sl 5 0 (rowOf eLock (fun _ => zLock)) true]), some (.box [.int .u64 tx]), some (.box [.int .u64 tx])] (fun v H => resAt ctx k n_locks_Release 0 [.r, .r, .l] 9 [] ⟨(envOf 29 [(1, .int .u64 tx), (2, .ref 0 0), (4, .ref 1 0), (11, .bool (!decide (r0 = 0))), (14, .ref 0 0), (15, .sl 5 s.Held.n (rowOf eLock s.Held.w) s.Held.u), (16, .int .u64 tx), (17, .fn n_locks_others_1 [] [.ref 2 0]), (18, .sl 5 0 (rowOf eLock (fun _ => zLock)) true), (19, .ref 0 1), (20, .sl 5 s.Waits.n (rowOf eLock s.Waits.w) s.Waits.u), (21, .int .u64 tx), (22, .fn n_locks_others_1 [] [.ref 3 0]), (23, v)]), H⟩ κ) v W
noncomputable def locks_Release_r3 (k : Nat) (s : TLocks) (tx : Int) (r0 : Int) (r1n : Nat) (r1w : Nat → TLock) (κ : AV → Heap → Option ρ) (v : AV) (W : Heap) : Option ρ := backHD [4] [some (.box [.sl 5 s.Held.n (rowOf eLock s.Held.w) s.Held.u, .sl 5 s.Waits.n (rowOf eLock s.Waits.w) s.Waits.u]), some (.box [.sl 5 0 (rowOf eLock (fun _ => zLock)) true, .sl 5 0 (rowOf eLock (fun _ => zLock)) true]), some (.box [.int .u64 tx]), some (.arr 5 r1n (rowOf eLock r1w)), some (.box [.int .u64 tx])] (fun v H => resAt ctx k n_locks_Release 0 [.r, .r, .l] 9 [] ⟨(envOf 29 [(1, .int .u64 tx), (2, .ref 0 0), (4, .ref 1 0), (11, .bool (!decide (r0 = 0))), (14, .ref 0 0), (15, .sl 5 s.Held.n (rowOf eLock s.Held.w) s.Held.u), (16, .int .u64 tx), (17, .fn n_locks_others_1 [] [.ref 2 0]), (18, .osl 5 3 0 r1n false), (19, .ref 0 1), (20, .sl 5 s.Waits.n (rowOf eLock s.Waits.w) s.Waits.u), (21, .int .u64 tx), (22, .fn n_locks_others_1 [] [.ref 4 0]), (23, v)]), H⟩ κ) v W
noncomputable def locks_Release_r4 (k : Nat) (s : TLocks) (tx : Int) (r0 : Int) (κ : AV → Heap → Option ρ) (v : AV) (W : Heap) : Option ρ := backHD [] [some (.box [.sl 5 s.Held.n (rowOf eLock s.Held.w) s.Held.u, .sl 5 s.Waits.n (rowOf eLock s.Waits.w) s.Waits.u]), some (.box [.sl 5 0 (rowOf eLock (fun _ => zLock)) true, .sl 5 0 (rowOf eLock (fun _ => zLock)) true]), some (.box [.int .u64 tx]), some (.box [.int .u64 tx])] (fun v H => resAt ctx k n_locks_Release 0 [.r, .r, .l] 10 [] ⟨(envOf 29 [(1, .int .u64 tx), (2, .ref 0 0), (4, .ref 1 0), (11, .bool (!decide (r0 = 0))), (14, .ref 0 0), (15, .sl 5 s.Held.n (rowOf eLock s.Held.w) s.Held.u), (16, .int .u64 tx), (17, .fn n_locks_others_1 [] [.ref 2 0]), (18, .sl 5 0 (rowOf eLock (fun _ => zLock)) true), (19, .ref 0 1), (20, .sl 5 s.Waits.n (rowOf eLock s.Waits.w) s.Waits.u), (21, .int .u64 tx), (22, .fn n_locks_others_1 [] [.ref 3 0]), (23, .sl 5 0 (rowOf eLock (fun _ => zLock)) true), (24, v)]), H⟩ κ) v W
noncomputable def locks_Release_r5 (k : Nat) (s : TLocks) (tx : Int) (r0 : Int) (r2n : Nat) (r2w : Nat → TLock) (κ : AV → Heap → Option ρ) (v : AV) (W : Heap) : Option ρ := backHD [4] [some (.box [.sl 5 s.Held.n (rowOf eLock s.Held.w) s.Held.u, .sl 5 s.Waits.n (rowOf eLock s.Waits.w) s.Waits.u]), some (.box [.sl 5 0 (rowOf eLock (fun _ => zLock)) true, .sl 5 0 (rowOf eLock (fun _ => zLock)) true]), some (.box [.int .u64 tx]), some (.box [.int .u64 tx]), some (.arr 5 r2n (rowOf eLock r2w))] (fun v H => resAt ctx k n_locks_Release 0 [.r, .r, .l] 10 [] ⟨(envOf 29 [(1, .int .u64 tx), (2, .ref 0 0), (4, .ref 1 0), (11, .bool (!decide (r0 = 0))), (14, .ref 0 0), (15, .sl 5 s.Held.n (rowOf eLock s.Held.w) s.Held.u), (16, .int .u64 tx), (17, .fn n_locks_others_1 [] [.ref 2 0]), (18, .sl 5 0 (rowOf eLock (fun _ => zLock)) true), (19, .ref 0 1), (20, .sl 5 s.Waits.n (rowOf eLock s.Waits.w) s.Waits.u), (21, .int .u64 tx), (22, .fn n_locks_others_1 [] [.ref 3 0]), (23, .osl 5 4 0 r2n false), (24, v)]), H⟩ κ) v W
noncomputable def locks_Release_r6 (k : Nat) (s : TLocks) (tx : Int) (r0 : Int) (r1n : Nat) (r1w : Nat → TLock) (κ : AV → Heap → Option ρ) (v : AV) (W : Heap) : Option ρ := backHD [3] [some (.box [.sl 5 s.Held.n (rowOf eLock s.Held.w) s.Held.u, .sl 5 s.Waits.n (rowOf eLock s.Waits.w) s.Waits.u]), some (.box [.sl 5 0 (rowOf eLock (fun _ => zLock)) true, .sl 5 0 (rowOf eLock (fun _ => zLock)) true]), some (.box [.int .u64 tx]), some (.arr 5 r1n (rowOf eLock r1w)), some (.box [.int .u64 tx])] (fun v H => resAt ctx k n_locks_Release 0 [.r, .r, .l] 10 [] ⟨(envOf 29 [(1, .int .u64 tx), (2, .ref 0 0), (4, .ref 1 0), (11, .bool (!decide (r0 = 0))), (14, .ref 0 0), (15, .sl 5 s.Held.n (rowOf eLock s.Held.w) s.Held.u), (16, .int .u64 tx), (17, .fn n_locks_others_1 [] [.ref 2 0]), (18, .osl 5 3 0 r1n false), (19, .ref 0 1), (20, .sl 5 s.Waits.n (rowOf eLock s.Waits.w) s.Waits.u), (21, .int .u64 tx), (22, .fn n_locks_others_1 [] [.ref 4 0]), (23, .sl 5 0 (rowOf eLock (fun _ => zLock)) true), (24, v)]), H⟩ κ) v W
noncomputable def locks_Release_r7 (k : Nat) (s : TLocks) (tx : Int) (r0 : Int) (r1n : Nat) (r1w : Nat → TLock) (r3n : Nat) (r3w : Nat → TLock) (κ : AV → Heap → Option ρ) (v : AV) (W : Heap) : Option ρ := backHD [3, 5] [some (.box [.sl 5 s.Held.n (rowOf eLock s.Held.w) s.Held.u, .sl 5 s.Waits.n (rowOf eLock s.Waits.w) s.Waits.u]), some (.box [.sl 5 0 (rowOf eLock (fun _ => zLock)) true, .sl 5 0 (rowOf eLock (fun _ => zLock)) true]), some (.box [.int .u64 tx]), some (.arr 5 r1n (rowOf eLock r1w)), some (.box [.int .u64 tx]), some (.arr 5 r3n (rowOf eLock r3w))] (fun v H => resAt ctx k n_locks_Release 0 [.r, .r, .l] 10 [] ⟨(envOf 29 [(1, .int .u64 tx), (2, .ref 0 0), (4, .ref 1 0), (11, .bool (!decide (r0 = 0))), (14, .ref 0 0), (15, .sl 5 s.Held.n (rowOf eLock s.Held.w) s.Held.u), (16, .int .u64 tx), (17, .fn n_locks_others_1 [] [.ref 2 0]), (18, .osl 5 3 0 r1n false), (19, .ref 0 1), (20, .sl 5 s.Waits.n (rowOf eLock s.Waits.w) s.Waits.u), (21, .int .u64 tx), (22, .fn n_locks_others_1 [] [.ref 4 0]), (23, .osl 5 5 0 r3n false), (24, v)]), H⟩ κ) v W
theorem locks_Release_r0_s (k : Nat) (s : TLocks) (tx : Int) (r0 : Int) (κ : AV → Heap → Option ρ) : locks_Release_r0 (k + 1) s tx κ (.int .i64 r0) =
  (bif !decide (r0 = 0) then
   κ (.tup [.agg (eLocks zLocks), .sl 1 0 (rowOf (eI .u64) (fun _ => 0)) true, .int .i64 220]) [some (.box [.sl 5 0 (rowOf eLock (fun _ => zLock)) true, .sl 5 0 (rowOf eLock (fun _ => zLock)) true])]
  else evalF ctx (k + 1) n_locks_kept_Lock [.sl 5 s.Held.n (rowOf eLock s.Held.w) s.Held.u, .fn n_locks_others_1 [] [.ref 0 0]] [some (.box [.int .u64 tx])] (locks_Release_r1 (k + 1) s tx r0 κ)) := by kernel_rfl
theorem locks_Release_r1_s (k : Nat) (s : TLocks) (tx : Int) (r0 : Int) (κ : AV → Heap → Option ρ) : locks_Release_r1 (k + 1) s tx r0 κ (.sl 5 0 (rowOf eLock (fun _ => zLock)) true) [some (.box [.int .u64 tx])] =
  (bif decide (tx = tx) then
   evalF ctx (k + 1) n_locks_kept_Lock [.sl 5 s.Waits.n (rowOf eLock s.Waits.w) s.Waits.u, .fn n_locks_others_1 [] [.ref 0 0]] [some (.box [.int .u64 tx])] (locks_Release_r2 (k + 1) s tx r0 κ)
  else none) := by kernel_rfl
theorem locks_Release_r1_s1 (k : Nat) (s : TLocks) (tx : Int) (r0 : Int) (r1n : Nat) (r1w : Nat → TLock) (κ : AV → Heap → Option ρ) : locks_Release_r1 (k + 1) s tx r0 κ (.osl 5 1 0 r1n false) [some (.box [.int .u64 tx]), some (.arr 5 r1n (rowOf eLock r1w))] =
  (bif decide (tx = tx) then
   evalF ctx (k + 1) n_locks_kept_Lock [.sl 5 s.Waits.n (rowOf eLock s.Waits.w) s.Waits.u, .fn n_locks_others_1 [] [.ref 0 0]] [some (.box [.int .u64 tx])] (locks_Release_r3 (k + 1) s tx r0 r1n r1w κ)
  else none) := by kernel_rfl
theorem locks_Release_r2_s (k : Nat) (s : TLocks) (tx : Int) (r0 : Int) (κ : AV → Heap → Option ρ) : locks_Release_r2 k s tx r0 κ (.sl 5 0 (rowOf eLock (fun _ => zLock)) true) [some (.box [.int .u64 tx])] =
  (bif decide (tx = tx) then
   evalF ctx k n_locks_serve [.sl 5 0 (rowOf eLock (fun _ => zLock)) true, .sl 5 0 (rowOf eLock (fun _ => zLock)) true] [] (locks_Release_r4 k s tx r0 κ)
  else none) := by kernel_rfl
theorem locks_Release_r2_s1 (k : Nat) (s : TLocks) (tx : Int) (r0 : Int) (r2n : Nat) (r2w : Nat → TLock) (κ : AV → Heap → Option ρ) : locks_Release_r2 k s tx r0 κ (.osl 5 1 0 r2n false) [some (.box [.int .u64 tx]), some (.arr 5 r2n (rowOf eLock r2w))] =
  (bif decide (tx = tx) then
   evalF ctx k n_locks_serve [.sl 5 0 (rowOf eLock (fun _ => zLock)) true, .osl 5 0 0 r2n false] [some (.arr 5 r2n (rowOf eLock r2w))] (locks_Release_r5 k s tx r0 r2n r2w κ)
  else none) := by kernel_rfl
theorem locks_Release_r3_s (k : Nat) (s : TLocks) (tx : Int) (r0 : Int) (r1n : Nat) (r1w : Nat → TLock) (κ : AV → Heap → Option ρ) : locks_Release_r3 k s tx r0 r1n r1w κ (.sl 5 0 (rowOf eLock (fun _ => zLock)) true) [some (.box [.int .u64 tx])] =
  (bif decide (tx = tx) then
   evalF ctx k n_locks_serve [.osl 5 0 0 r1n false, .sl 5 0 (rowOf eLock (fun _ => zLock)) true] [some (.arr 5 r1n (rowOf eLock r1w))] (locks_Release_r6 k s tx r0 r1n r1w κ)
  else none) := by kernel_rfl
theorem locks_Release_r3_s1 (k : Nat) (s : TLocks) (tx : Int) (r0 : Int) (r1n : Nat) (r1w : Nat → TLock) (r3n : Nat) (r3w : Nat → TLock) (κ : AV → Heap → Option ρ) : locks_Release_r3 k s tx r0 r1n r1w κ (.osl 5 1 0 r3n false) [some (.box [.int .u64 tx]), some (.arr 5 r3n (rowOf eLock r3w))] =
  (bif decide (tx = tx) then
   evalF ctx k n_locks_serve [.osl 5 0 0 r1n false, .osl 5 1 0 r3n false] [some (.arr 5 r1n (rowOf eLock r1w)), some (.arr 5 r3n (rowOf eLock r3w))] (locks_Release_r7 k s tx r0 r1n r1w r3n r3w κ)
  else none) := by kernel_rfl
theorem locks_Release_r4_s (k : Nat) (s : TLocks) (tx : Int) (r0 : Int) (κ : AV → Heap → Option ρ) : locks_Release_r4 k s tx r0 κ (.tup [.agg (eLocks zLocks), .sl 1 0 (rowOf (eI .u64) (fun _ => 0)) true]) [some (.box [.sl 5 0 (rowOf eLock (fun _ => zLock)) true, .sl 5 0 (rowOf eLock (fun _ => zLock)) true])] =
  κ (.tup [.agg (eLocks zLocks), .sl 1 0 (rowOf (eI .u64) (fun _ => 0)) true, .int .i64 0]) [some (.box [.sl 5 0 (rowOf eLock (fun _ => zLock)) true, .sl 5 0 (rowOf eLock (fun _ => zLock)) true])] := by kernel_rfl
theorem locks_Release_r5_s (k : Nat) (s : TLocks) (tx : Int) (r0 : Int) (r2n : Nat) (r2w : Nat → TLock) (κ : AV → Heap → Option ρ) : locks_Release_r5 k s tx r0 r2n r2w κ (.tup [.agg (eLocks zLocks), .sl 1 0 (rowOf (eI .u64) (fun _ => 0)) true]) [some (.arr 5 r2n (rowOf eLock r2w)), some (.box [.sl 5 0 (rowOf eLock (fun _ => zLock)) true, .sl 5 0 (rowOf eLock (fun _ => zLock)) true])] =
  κ (.tup [.agg (eLocks zLocks), .sl 1 0 (rowOf (eI .u64) (fun _ => 0)) true, .int .i64 0]) [some (.box [.sl 5 0 (rowOf eLock (fun _ => zLock)) true, .sl 5 0 (rowOf eLock (fun _ => zLock)) true])] := by kernel_rfl
theorem locks_Release_r5_s1 (k : Nat) (s : TLocks) (tx : Int) (r0 : Int) (r2n : Nat) (r2w : Nat → TLock) (r5wn : Nat) (r5ww : Nat → TLock) (κ : AV → Heap → Option ρ) : locks_Release_r5 k s tx r0 r2n r2w κ (.tup [.agg [.sl 5 0 (rowOf eLock (fun _ => zLock)) true, .osl 5 2 0 r5wn false], .sl 1 0 (rowOf (eI .u64) (fun _ => 0)) true]) [some (.arr 5 r2n (rowOf eLock r2w)), some (.box [.sl 5 0 (rowOf eLock (fun _ => zLock)) true, .osl 5 2 0 r5wn false]), some (.arr 5 r5wn (rowOf eLock r5ww))] =
  κ (.tup [.agg [.sl 5 0 (rowOf eLock (fun _ => zLock)) true, .osl 5 1 0 r5wn false], .sl 1 0 (rowOf (eI .u64) (fun _ => 0)) true, .int .i64 0]) [some (.box [.sl 5 0 (rowOf eLock (fun _ => zLock)) true, .osl 5 1 0 r5wn false]), some (.arr 5 r5wn (rowOf eLock r5ww))] := by kernel_rfl
theorem locks_Release_r5_s2 (k : Nat) (s : TLocks) (tx : Int) (r0 : Int) (r2n : Nat) (r2w : Nat → TLock) (r5tn : Nat) (r5tw : Nat → Int) (r5hn : Nat) (r5hw : Nat → TLock) (κ : AV → Heap → Option ρ) : locks_Release_r5 k s tx r0 r2n r2w κ (.tup [.agg [.osl 5 3 0 r5hn false, .sl 5 0 (rowOf eLock (fun _ => zLock)) true], .osl 1 2 0 r5tn false]) [some (.arr 5 r2n (rowOf eLock r2w)), some (.box [.osl 5 3 0 r5hn false, .sl 5 0 (rowOf eLock (fun _ => zLock)) true]), some (.arr 1 r5tn (rowOf (eI .u64) r5tw)), some (.arr 5 r5hn (rowOf eLock r5hw))] =
  κ (.tup [.agg [.osl 5 2 0 r5hn false, .sl 5 0 (rowOf eLock (fun _ => zLock)) true], .osl 1 1 0 r5tn false, .int .i64 0]) [some (.box [.osl 5 2 0 r5hn false, .sl 5 0 (rowOf eLock (fun _ => zLock)) true]), some (.arr 1 r5tn (rowOf (eI .u64) r5tw)), some (.arr 5 r5hn (rowOf eLock r5hw))] := by kernel_rfl
theorem locks_Release_r5_s3 (k : Nat) (s : TLocks) (tx : Int) (r0 : Int) (r2n : Nat) (r2w : Nat → TLock) (r5tn : Nat) (r5tw : Nat → Int) (r5hn : Nat) (r5hw : Nat → TLock) (r5wn : Nat) (r5ww : Nat → TLock) (κ : AV → Heap → Option ρ) : locks_Release_r5 k s tx r0 r2n r2w κ (.tup [.agg [.osl 5 3 0 r5hn false, .osl 5 4 0 r5wn false], .osl 1 2 0 r5tn false]) [some (.arr 5 r2n (rowOf eLock r2w)), some (.box [.osl 5 3 0 r5hn false, .osl 5 4 0 r5wn false]), some (.arr 1 r5tn (rowOf (eI .u64) r5tw)), some (.arr 5 r5hn (rowOf eLock r5hw)), some (.arr 5 r5wn (rowOf eLock r5ww))] =
  κ (.tup [.agg [.osl 5 2 0 r5hn false, .osl 5 3 0 r5wn false], .osl 1 1 0 r5tn false, .int .i64 0]) [some (.box [.osl 5 2 0 r5hn false, .osl 5 3 0 r5wn false]), some (.arr 1 r5tn (rowOf (eI .u64) r5tw)), some (.arr 5 r5hn (rowOf eLock r5hw)), some (.arr 5 r5wn (rowOf eLock r5ww))] := by kernel_rfl
theorem locks_Release_r6_s (k : Nat) (s : TLocks) (tx : Int) (r0 : Int) (r1n : Nat) (r1w : Nat → TLock) (κ : AV → Heap → Option ρ) : locks_Release_r6 k s tx r0 r1n r1w κ (.tup [.agg [.osl 5 0 0 r1n false, .sl 5 0 (rowOf eLock (fun _ => zLock)) true], .sl 1 0 (rowOf (eI .u64) (fun _ => 0)) true]) [some (.arr 5 r1n (rowOf eLock r1w)), some (.box [.osl 5 0 0 r1n false, .sl 5 0 (rowOf eLock (fun _ => zLock)) true])] =
  κ (.tup [.agg [.osl 5 1 0 r1n false, .sl 5 0 (rowOf eLock (fun _ => zLock)) true], .sl 1 0 (rowOf (eI .u64) (fun _ => 0)) true, .int .i64 0]) [some (.box [.osl 5 1 0 r1n false, .sl 5 0 (rowOf eLock (fun _ => zLock)) true]), some (.arr 5 r1n (rowOf eLock r1w))] := by kernel_rfl
theorem locks_Release_r7_s (k : Nat) (s : TLocks) (tx : Int) (r0 : Int) (r1n : Nat) (r1w : Nat → TLock) (r3n : Nat) (r3w : Nat → TLock) (κ : AV → Heap → Option ρ) : locks_Release_r7 k s tx r0 r1n r1w r3n r3w κ (.tup [.agg [.osl 5 0 0 r1n false, .sl 5 0 (rowOf eLock (fun _ => zLock)) true], .sl 1 0 (rowOf (eI .u64) (fun _ => 0)) true]) [some (.arr 5 r1n (rowOf eLock r1w)), some (.arr 5 r3n (rowOf eLock r3w)), some (.box [.osl 5 0 0 r1n false, .sl 5 0 (rowOf eLock (fun _ => zLock)) true])] =
  κ (.tup [.agg [.osl 5 1 0 r1n false, .sl 5 0 (rowOf eLock (fun _ => zLock)) true], .sl 1 0 (rowOf (eI .u64) (fun _ => 0)) true, .int .i64 0]) [some (.box [.osl 5 1 0 r1n false, .sl 5 0 (rowOf eLock (fun _ => zLock)) true]), some (.arr 5 r1n (rowOf eLock r1w))] := by kernel_rfl
theorem locks_Release_r7_s1 (k : Nat) (s : TLocks) (tx : Int) (r0 : Int) (r1n : Nat) (r1w : Nat → TLock) (r3n : Nat) (r3w : Nat → TLock) (r7wn : Nat) (r7ww : Nat → TLock) (κ : AV → Heap → Option ρ) : locks_Release_r7 k s tx r0 r1n r1w r3n r3w κ (.tup [.agg [.osl 5 0 0 r1n false, .osl 5 3 0 r7wn false], .sl 1 0 (rowOf (eI .u64) (fun _ => 0)) true]) [some (.arr 5 r1n (rowOf eLock r1w)), some (.arr 5 r3n (rowOf eLock r3w)), some (.box [.osl 5 0 0 r1n false, .osl 5 3 0 r7wn false]), some (.arr 5 r7wn (rowOf eLock r7ww))] =
  κ (.tup [.agg [.osl 5 1 0 r1n false, .osl 5 2 0 r7wn false], .sl 1 0 (rowOf (eI .u64) (fun _ => 0)) true, .int .i64 0]) [some (.box [.osl 5 1 0 r1n false, .osl 5 2 0 r7wn false]), some (.arr 5 r1n (rowOf eLock r1w)), some (.arr 5 r7wn (rowOf eLock r7ww))] := by kernel_rfl
theorem locks_Release_r7_s2 (k : Nat) (s : TLocks) (tx : Int) (r0 : Int) (r1n : Nat) (r1w : Nat → TLock) (r3n : Nat) (r3w : Nat → TLock) (r7tn : Nat) (r7tw : Nat → Int) (r7hn : Nat) (r7hw : Nat → TLock) (κ : AV → Heap → Option ρ) : locks_Release_r7 k s tx r0 r1n r1w r3n r3w κ (.tup [.agg [.osl 5 4 0 r7hn false, .sl 5 0 (rowOf eLock (fun _ => zLock)) true], .osl 1 3 0 r7tn false]) [none, some (.arr 5 r3n (rowOf eLock r3w)), some (.box [.osl 5 4 0 r7hn false, .sl 5 0 (rowOf eLock (fun _ => zLock)) true]), some (.arr 1 r7tn (rowOf (eI .u64) r7tw)), some (.arr 5 r7hn (rowOf eLock r7hw))] =
  κ (.tup [.agg [.osl 5 2 0 r7hn false, .sl 5 0 (rowOf eLock (fun _ => zLock)) true], .osl 1 1 0 r7tn false, .int .i64 0]) [some (.box [.osl 5 2 0 r7hn false, .sl 5 0 (rowOf eLock (fun _ => zLock)) true]), some (.arr 1 r7tn (rowOf (eI .u64) r7tw)), some (.arr 5 r7hn (rowOf eLock r7hw))] := by kernel_rfl
theorem locks_Release_r7_s3 (k : Nat) (s : TLocks) (tx : Int) (r0 : Int) (r1n : Nat) (r1w : Nat → TLock) (r3n : Nat) (r3w : Nat → TLock) (r7tn : Nat) (r7tw : Nat → Int) (r7hn : Nat) (r7hw : Nat → TLock) (r7wn : Nat) (r7ww : Nat → TLock) (κ : AV → Heap → Option ρ) : locks_Release_r7 k s tx r0 r1n r1w r3n r3w κ (.tup [.agg [.osl 5 4 0 r7hn false, .osl 5 5 0 r7wn false], .osl 1 3 0 r7tn false]) [none, some (.arr 5 r3n (rowOf eLock r3w)), some (.box [.osl 5 4 0 r7hn false, .osl 5 5 0 r7wn false]), some (.arr 1 r7tn (rowOf (eI .u64) r7tw)), some (.arr 5 r7hn (rowOf eLock r7hw)), some (.arr 5 r7wn (rowOf eLock r7ww))] =
  κ (.tup [.agg [.osl 5 2 0 r7hn false, .osl 5 3 0 r7wn false], .osl 1 1 0 r7tn false, .int .i64 0]) [some (.box [.osl 5 2 0 r7hn false, .osl 5 3 0 r7wn false]), some (.arr 1 r7tn (rowOf (eI .u64) r7tw)), some (.arr 5 r7hn (rowOf eLock r7hw)), some (.arr 5 r7wn (rowOf eLock r7ww))] := by kernel_rfl
theorem locks_Release_e (k : Nat) (s : TLocks) (tx : Int) (κ : AV → Heap → Option ρ) : evalF ctx (k + 1) n_locks_Release [.agg (eLocks s), .int .u64 tx] [] κ =
  callP ctx k n_locks_Check [.agg (eLocks s)] (locks_Release_r0 k s tx κ) := by kernel_rfl
noncomputable def locks_Withdraw_r0 (k : Nat) (s : TLocks) (tx : Int) (κ : AV → Heap → Option ρ) (v : AV) : Option ρ := resAt ctx k n_locks_Withdraw 0 [.r, .l, .l] 1 [] ⟨(envOf 27 [(1, .int .u64 tx), (2, .ref 0 0), (4, .ref 1 0), (9, .agg (eLocks s)), (10, v)]), [some (.box [.sl 5 s.Held.n (rowOf eLock s.Held.w) s.Held.u, .sl 5 s.Waits.n (rowOf eLock s.Waits.w) s.Waits.u]), some (.box [.sl 5 0 (rowOf eLock (fun _ => zLock)) true, .sl 5 0 (rowOf eLock (fun _ => zLock)) true])]⟩ κ
noncomputable def locks_Withdraw_r1 (k : Nat) (s : TLocks) (tx : Int) (r0 : Int) (κ : AV → Heap → Option ρ) (v : AV) (W : Heap) : Option ρ := backF [.sl 5 s.Held.n (rowOf eLock s.Held.w) s.Held.u] [some (.box [.sl 5 s.Held.n (rowOf eLock s.Held.w) s.Held.u, .sl 5 s.Waits.n (rowOf eLock s.Waits.w) s.Waits.u]), some (.box [.sl 5 0 (rowOf eLock (fun _ => zLock)) true, .sl 5 0 (rowOf eLock (fun _ => zLock)) true])] (fun v H => resAt ctx k n_locks_Withdraw 0 [.r, .r, .l] 2 [] ⟨(envOf 27 [(1, .int .u64 tx), (2, .ref 0 0), (4, .ref 1 0), (11, .bool (!decide (r0 = 0))), (14, .ref 0 0), (15, .sl 5 s.Held.n (rowOf eLock s.Held.w) s.Held.u), (16, v)]), H⟩ κ) v W
noncomputable def locks_Withdraw_r2 (k : Nat) (s : TLocks) (tx : Int) (r0 : Int) (κ : AV → Heap → Option ρ) (v : AV) (W : Heap) : Option ρ := backF [.int .u64 tx] [some (.box [.sl 5 s.Held.n (rowOf eLock s.Held.w) s.Held.u, .sl 5 s.Waits.n (rowOf eLock s.Waits.w) s.Waits.u]), some (.box [.sl 5 0 (rowOf eLock (fun _ => zLock)) true, .sl 5 0 (rowOf eLock (fun _ => zLock)) true])] (fun v H => resAt ctx k n_locks_Withdraw 0 [.r, .r, .l] 6 [] ⟨(envOf 27 [(1, .int .u64 tx), (2, .ref 0 0), (4, .ref 1 0), (11, .bool (!decide (r0 = 0))), (14, .ref 0 0), (15, .sl 5 s.Held.n (rowOf eLock s.Held.w) s.Held.u), (16, .sl 5 0 (rowOf eLock (fun _ => zLock)) true), (17, .ref 0 1), (18, .sl 5 s.Waits.n (rowOf eLock s.Waits.w) s.Waits.u), (19, .int .u64 tx), (20, v)]), H⟩ κ) v W
noncomputable def locks_Withdraw_r3 (k : Nat) (s : TLocks) (tx : Int) (r0 : Int) (κ : AV → Heap → Option ρ) (v : AV) (W : Heap) : Option ρ := backF [.int .u64 tx] [some (.box [.sl 5 s.Held.n (rowOf eLock s.Held.w) s.Held.u, .sl 5 s.Waits.n (rowOf eLock s.Waits.w) s.Waits.u]), some (.box [.sl 5 0 (rowOf eLock (fun _ => zLock)) true, .sl 5 0 (rowOf eLock (fun _ => zLock)) true]), some (.arr 5 s.Held.n (rowOf eLock s.Held.w))] (fun v H => resAt ctx k n_locks_Withdraw 0 [.r, .r, .l] 6 [] ⟨(envOf 27 [(1, .int .u64 tx), (2, .ref 0 0), (4, .ref 1 0), (11, .bool (!decide (r0 = 0))), (14, .ref 0 0), (15, .sl 5 s.Held.n (rowOf eLock s.Held.w) s.Held.u), (16, .osl 5 2 0 s.Held.n false), (17, .ref 0 1), (18, .sl 5 s.Waits.n (rowOf eLock s.Waits.w) s.Waits.u), (19, .int .u64 tx), (20, v)]), H⟩ κ) v W
noncomputable def locks_Withdraw_r4 (k : Nat) (s : TLocks) (tx : Int) (r0 : Int) (κ : AV → Heap → Option ρ) (v : AV) (W : Heap) : Option ρ := backHD [2] [some (.box [.sl 5 s.Held.n (rowOf eLock s.Held.w) s.Held.u, .sl 5 s.Waits.n (rowOf eLock s.Waits.w) s.Waits.u]), some (.box [.sl 5 0 (rowOf eLock (fun _ => zLock)) true, .sl 5 0 (rowOf eLock (fun _ => zLock)) true]), some (.box [.int .u64 tx])] (fun v H => resAt ctx k n_locks_Withdraw 0 [.r, .r, .l] 7 [] ⟨(envOf 27 [(1, .int .u64 tx), (2, .ref 0 0), (4, .ref 1 0), (11, .bool (!decide (r0 = 0))), (14, .ref 0 0), (15, .sl 5 s.Held.n (rowOf eLock s.Held.w) s.Held.u), (16, .sl 5 0 (rowOf eLock (fun _ => zLock)) true), (17, .ref 0 1), (18, .sl 5 s.Waits.n (rowOf eLock s.Waits.w) s.Waits.u), (19, .int .u64 tx), (20, .fn n_locks_others_1 [] [.ref 2 0]), (21, v)]), H⟩ κ) v W
noncomputable def locks_Withdraw_r5 (k : Nat) (s : TLocks) (tx : Int) (r0 : Int) (κ : AV → Heap → Option ρ) (v : AV) (W : Heap) : Option ρ := backHD [3] [some (.box [.sl 5 s.Held.n (rowOf eLock s.Held.w) s.Held.u, .sl 5 s.Waits.n (rowOf eLock s.Waits.w) s.Waits.u]), some (.box [.sl 5 0 (rowOf eLock (fun _ => zLock)) true, .sl 5 0 (rowOf eLock (fun _ => zLock)) true]), some (.arr 5 s.Held.n (rowOf eLock s.Held.w)), some (.box [.int .u64 tx])] (fun v H => resAt ctx k n_locks_Withdraw 0 [.r, .r, .l] 7 [] ⟨(envOf 27 [(1, .int .u64 tx), (2, .ref 0 0), (4, .ref 1 0), (11, .bool (!decide (r0 = 0))), (14, .ref 0 0), (15, .sl 5 s.Held.n (rowOf eLock s.Held.w) s.Held.u), (16, .osl 5 2 0 s.Held.n false), (17, .ref 0 1), (18, .sl 5 s.Waits.n (rowOf eLock s.Waits.w) s.Waits.u), (19, .int .u64 tx), (20, .fn n_locks_others_1 [] [.ref 3 0]), (21, v)]), H⟩ κ) v W
noncomputable def locks_Withdraw_r6 (k : Nat) (s : TLocks) (tx : Int) (r0 : Int) (κ : AV → Heap → Option ρ) (v : AV) (W : Heap) : Option ρ := backHD [] [some (.box [.sl 5 s.Held.n (rowOf eLock s.Held.w) s.Held.u, .sl 5 s.Waits.n (rowOf eLock s.Waits.w) s.Waits.u]), some (.box [.sl 5 0 (rowOf eLock (fun _ => zLock)) true, .sl 5 0 (rowOf eLock (fun _ => zLock)) true]), some (.box [.int .u64 tx])] (fun v H => resAt ctx k n_locks_Withdraw 0 [.r, .r, .l] 8 [] ⟨(envOf 27 [(1, .int .u64 tx), (2, .ref 0 0), (4, .ref 1 0), (11, .bool (!decide (r0 = 0))), (14, .ref 0 0), (15, .sl 5 s.Held.n (rowOf eLock s.Held.w) s.Held.u), (16, .sl 5 0 (rowOf eLock (fun _ => zLock)) true), (17, .ref 0 1), (18, .sl 5 s.Waits.n (rowOf eLock s.Waits.w) s.Waits.u), (19, .int .u64 tx), (20, .fn n_locks_others_1 [] [.ref 2 0]), (21, .sl 5 0 (rowOf eLock (fun _ => zLock)) true), (22, v)]), H⟩ κ) v W
noncomputable def locks_Withdraw_r7 (k : Nat) (s : TLocks) (tx : Int) (r0 : Int) (r4n : Nat) (r4w : Nat → TLock) (κ : AV → Heap → Option ρ) (v : AV) (W : Heap) : Option ρ := backHD [3] [some (.box [.sl 5 s.Held.n (rowOf eLock s.Held.w) s.Held.u, .sl 5 s.Waits.n (rowOf eLock s.Waits.w) s.Waits.u]), some (.box [.sl 5 0 (rowOf eLock (fun _ => zLock)) true, .sl 5 0 (rowOf eLock (fun _ => zLock)) true]), some (.box [.int .u64 tx]), some (.arr 5 r4n (rowOf eLock r4w))] (fun v H => resAt ctx k n_locks_Withdraw 0 [.r, .r, .l] 8 [] ⟨(envOf 27 [(1, .int .u64 tx), (2, .ref 0 0), (4, .ref 1 0), (11, .bool (!decide (r0 = 0))), (14, .ref 0 0), (15, .sl 5 s.Held.n (rowOf eLock s.Held.w) s.Held.u), (16, .sl 5 0 (rowOf eLock (fun _ => zLock)) true), (17, .ref 0 1), (18, .sl 5 s.Waits.n (rowOf eLock s.Waits.w) s.Waits.u), (19, .int .u64 tx), (20, .fn n_locks_others_1 [] [.ref 2 0]), (21, .osl 5 3 0 r4n false), (22, v)]), H⟩ κ) v W
noncomputable def locks_Withdraw_r8 (k : Nat) (s : TLocks) (tx : Int) (r0 : Int) (κ : AV → Heap → Option ρ) (v : AV) (W : Heap) : Option ρ := backHD [2] [some (.box [.sl 5 s.Held.n (rowOf eLock s.Held.w) s.Held.u, .sl 5 s.Waits.n (rowOf eLock s.Waits.w) s.Waits.u]), some (.box [.sl 5 0 (rowOf eLock (fun _ => zLock)) true, .sl 5 0 (rowOf eLock (fun _ => zLock)) true]), some (.arr 5 s.Held.n (rowOf eLock s.Held.w)), some (.box [.int .u64 tx])] (fun v H => resAt ctx k n_locks_Withdraw 0 [.r, .r, .l] 8 [] ⟨(envOf 27 [(1, .int .u64 tx), (2, .ref 0 0), (4, .ref 1 0), (11, .bool (!decide (r0 = 0))), (14, .ref 0 0), (15, .sl 5 s.Held.n (rowOf eLock s.Held.w) s.Held.u), (16, .osl 5 2 0 s.Held.n false), (17, .ref 0 1), (18, .sl 5 s.Waits.n (rowOf eLock s.Waits.w) s.Waits.u), (19, .int .u64 tx), (20, .fn n_locks_others_1 [] [.ref 3 0]), (21, .sl 5 0 (rowOf eLock (fun _ => zLock)) true), (22, v)]), H⟩ κ) v W
noncomputable def locks_Withdraw_r9 (k : Nat) (s : TLocks) (tx : Int) (r0 : Int) (r5n : Nat) (r5w : Nat → TLock) (κ : AV → Heap → Option ρ) (v : AV) (W : Heap) : Option ρ := backHD [2, 4] [some (.box [.sl 5 s.Held.n (rowOf eLock s.Held.w) s.Held.u, .sl 5 s.Waits.n (rowOf eLock s.Waits.w) s.Waits.u]), some (.box [.sl 5 0 (rowOf eLock (fun _ => zLock)) true, .sl 5 0 (rowOf eLock (fun _ => zLock)) true]), some (.arr 5 s.Held.n (rowOf eLock s.Held.w)), some (.box [.int .u64 tx]), some (.arr 5 r5n (rowOf eLock r5w))] (fun v H => resAt ctx k n_locks_Withdraw 0 [.r, .r, .l] 8 [] ⟨(envOf 27 [(1, .int .u64 tx), (2, .ref 0 0), (4, .ref 1 0), (11, .bool (!decide (r0 = 0))), (14, .ref 0 0), (15, .sl 5 s.Held.n (rowOf eLock s.Held.w) s.Held.u), (16, .osl 5 2 0 s.Held.n false), (17, .ref 0 1), (18, .sl 5 s.Waits.n (rowOf eLock s.Waits.w) s.Waits.u), (19, .int .u64 tx), (20, .fn n_locks_others_1 [] [.ref 3 0]), (21, .osl 5 4 0 r5n false), (22, v)]), H⟩ κ) v W
theorem locks_Withdraw_r0_s (k : Nat) (s : TLocks) (tx : Int) (r0 : Int) (κ : AV → Heap → Option ρ) : locks_Withdraw_r0 k s tx κ (.int .i64 r0) =
  (bif !decide (r0 = 0) then
   κ (.tup [.agg (eLocks zLocks), .sl 1 0 (rowOf (eI .u64) (fun _ => 0)) true, .int .i64 220]) [some (.box [.sl 5 0 (rowOf eLock (fun _ => zLock)) true, .sl 5 0 (rowOf eLock (fun _ => zLock)) true])]
  else evalF ctx k n_slices_Clone_Lock [.sl 5 s.Held.n (rowOf eLock s.Held.w) s.Held.u] [] (locks_Withdraw_r1 k s tx r0 κ)) := by kernel_rfl
theorem locks_Withdraw_r1_s (k : Nat) (s : TLocks) (tx : Int) (r0 : Int) (κ : AV → Heap → Option ρ) : locks_Withdraw_r1 k s tx r0 κ (.sl 5 0 (rowOf eLock (fun _ => zLock)) true) [] =
  evalF ctx k n_locks_others [.int .u64 tx] [] (locks_Withdraw_r2 k s tx r0 κ) := by kernel_rfl
theorem locks_Withdraw_r1_s1 (k : Nat) (s : TLocks) (tx : Int) (r0 : Int) (κ : AV → Heap → Option ρ) : locks_Withdraw_r1 k s tx r0 κ (.osl 5 0 0 s.Held.n false) [some (.arr 5 s.Held.n (rowOf eLock s.Held.w))] =
  evalF ctx k n_locks_others [.int .u64 tx] [] (locks_Withdraw_r3 k s tx r0 κ) := by kernel_rfl
theorem locks_Withdraw_r2_s (k : Nat) (s : TLocks) (tx : Int) (r0 : Int) (κ : AV → Heap → Option ρ) : locks_Withdraw_r2 k s tx r0 κ (.fn n_locks_others_1 [] [.ref 0 0]) [some (.box [.int .u64 tx])] =
  evalF ctx k n_locks_kept_Lock [.sl 5 s.Waits.n (rowOf eLock s.Waits.w) s.Waits.u, .fn n_locks_others_1 [] [.ref 0 0]] [some (.box [.int .u64 tx])] (locks_Withdraw_r4 k s tx r0 κ) := by kernel_rfl
theorem locks_Withdraw_r3_s (k : Nat) (s : TLocks) (tx : Int) (r0 : Int) (κ : AV → Heap → Option ρ) : locks_Withdraw_r3 k s tx r0 κ (.fn n_locks_others_1 [] [.ref 0 0]) [some (.box [.int .u64 tx])] =
  evalF ctx k n_locks_kept_Lock [.sl 5 s.Waits.n (rowOf eLock s.Waits.w) s.Waits.u, .fn n_locks_others_1 [] [.ref 0 0]] [some (.box [.int .u64 tx])] (locks_Withdraw_r5 k s tx r0 κ) := by kernel_rfl
theorem locks_Withdraw_r4_s (k : Nat) (s : TLocks) (tx : Int) (r0 : Int) (κ : AV → Heap → Option ρ) : locks_Withdraw_r4 k s tx r0 κ (.sl 5 0 (rowOf eLock (fun _ => zLock)) true) [some (.box [.int .u64 tx])] =
  (bif decide (tx = tx) then
   evalF ctx k n_locks_serve [.sl 5 0 (rowOf eLock (fun _ => zLock)) true, .sl 5 0 (rowOf eLock (fun _ => zLock)) true] [] (locks_Withdraw_r6 k s tx r0 κ)
  else none) := by kernel_rfl
theorem locks_Withdraw_r4_s1 (k : Nat) (s : TLocks) (tx : Int) (r0 : Int) (r4n : Nat) (r4w : Nat → TLock) (κ : AV → Heap → Option ρ) : locks_Withdraw_r4 k s tx r0 κ (.osl 5 1 0 r4n false) [some (.box [.int .u64 tx]), some (.arr 5 r4n (rowOf eLock r4w))] =
  (bif decide (tx = tx) then
   evalF ctx k n_locks_serve [.sl 5 0 (rowOf eLock (fun _ => zLock)) true, .osl 5 0 0 r4n false] [some (.arr 5 r4n (rowOf eLock r4w))] (locks_Withdraw_r7 k s tx r0 r4n r4w κ)
  else none) := by kernel_rfl
theorem locks_Withdraw_r5_s (k : Nat) (s : TLocks) (tx : Int) (r0 : Int) (κ : AV → Heap → Option ρ) : locks_Withdraw_r5 k s tx r0 κ (.sl 5 0 (rowOf eLock (fun _ => zLock)) true) [some (.box [.int .u64 tx])] =
  (bif decide (tx = tx) then
   evalF ctx k n_locks_serve [.osl 5 0 0 s.Held.n false, .sl 5 0 (rowOf eLock (fun _ => zLock)) true] [some (.arr 5 s.Held.n (rowOf eLock s.Held.w))] (locks_Withdraw_r8 k s tx r0 κ)
  else none) := by kernel_rfl
theorem locks_Withdraw_r5_s1 (k : Nat) (s : TLocks) (tx : Int) (r0 : Int) (r5n : Nat) (r5w : Nat → TLock) (κ : AV → Heap → Option ρ) : locks_Withdraw_r5 k s tx r0 κ (.osl 5 1 0 r5n false) [some (.box [.int .u64 tx]), some (.arr 5 r5n (rowOf eLock r5w))] =
  (bif decide (tx = tx) then
   evalF ctx k n_locks_serve [.osl 5 0 0 s.Held.n false, .osl 5 1 0 r5n false] [some (.arr 5 s.Held.n (rowOf eLock s.Held.w)), some (.arr 5 r5n (rowOf eLock r5w))] (locks_Withdraw_r9 k s tx r0 r5n r5w κ)
  else none) := by kernel_rfl
theorem locks_Withdraw_r6_s (k : Nat) (s : TLocks) (tx : Int) (r0 : Int) (κ : AV → Heap → Option ρ) : locks_Withdraw_r6 k s tx r0 κ (.tup [.agg (eLocks zLocks), .sl 1 0 (rowOf (eI .u64) (fun _ => 0)) true]) [some (.box [.sl 5 0 (rowOf eLock (fun _ => zLock)) true, .sl 5 0 (rowOf eLock (fun _ => zLock)) true])] =
  κ (.tup [.agg (eLocks zLocks), .sl 1 0 (rowOf (eI .u64) (fun _ => 0)) true, .int .i64 0]) [some (.box [.sl 5 0 (rowOf eLock (fun _ => zLock)) true, .sl 5 0 (rowOf eLock (fun _ => zLock)) true])] := by kernel_rfl
theorem locks_Withdraw_r7_s (k : Nat) (s : TLocks) (tx : Int) (r0 : Int) (r4n : Nat) (r4w : Nat → TLock) (κ : AV → Heap → Option ρ) : locks_Withdraw_r7 k s tx r0 r4n r4w κ (.tup [.agg (eLocks zLocks), .sl 1 0 (rowOf (eI .u64) (fun _ => 0)) true]) [some (.arr 5 r4n (rowOf eLock r4w)), some (.box [.sl 5 0 (rowOf eLock (fun _ => zLock)) true, .sl 5 0 (rowOf eLock (fun _ => zLock)) true])] =
  κ (.tup [.agg (eLocks zLocks), .sl 1 0 (rowOf (eI .u64) (fun _ => 0)) true, .int .i64 0]) [some (.box [.sl 5 0 (rowOf eLock (fun _ => zLock)) true, .sl 5 0 (rowOf eLock (fun _ => zLock)) true])] := by kernel_rfl
theorem locks_Withdraw_r7_s1 (k : Nat) (s : TLocks) (tx : Int) (r0 : Int) (r4n : Nat) (r4w : Nat → TLock) (r7wn : Nat) (r7ww : Nat → TLock) (κ : AV → Heap → Option ρ) : locks_Withdraw_r7 k s tx r0 r4n r4w κ (.tup [.agg [.sl 5 0 (rowOf eLock (fun _ => zLock)) true, .osl 5 2 0 r7wn false], .sl 1 0 (rowOf (eI .u64) (fun _ => 0)) true]) [some (.arr 5 r4n (rowOf eLock r4w)), some (.box [.sl 5 0 (rowOf eLock (fun _ => zLock)) true, .osl 5 2 0 r7wn false]), some (.arr 5 r7wn (rowOf eLock r7ww))] =
  κ (.tup [.agg [.sl 5 0 (rowOf eLock (fun _ => zLock)) true, .osl 5 1 0 r7wn false], .sl 1 0 (rowOf (eI .u64) (fun _ => 0)) true, .int .i64 0]) [some (.box [.sl 5 0 (rowOf eLock (fun _ => zLock)) true, .osl 5 1 0 r7wn false]), some (.arr 5 r7wn (rowOf eLock r7ww))] := by kernel_rfl
theorem locks_Withdraw_r7_s2 (k : Nat) (s : TLocks) (tx : Int) (r0 : Int) (r4n : Nat) (r4w : Nat → TLock) (r7tn : Nat) (r7tw : Nat → Int) (r7hn : Nat) (r7hw : Nat → TLock) (κ : AV → Heap → Option ρ) : locks_Withdraw_r7 k s tx r0 r4n r4w κ (.tup [.agg [.osl 5 3 0 r7hn false, .sl 5 0 (rowOf eLock (fun _ => zLock)) true], .osl 1 2 0 r7tn false]) [some (.arr 5 r4n (rowOf eLock r4w)), some (.box [.osl 5 3 0 r7hn false, .sl 5 0 (rowOf eLock (fun _ => zLock)) true]), some (.arr 1 r7tn (rowOf (eI .u64) r7tw)), some (.arr 5 r7hn (rowOf eLock r7hw))] =
  κ (.tup [.agg [.osl 5 2 0 r7hn false, .sl 5 0 (rowOf eLock (fun _ => zLock)) true], .osl 1 1 0 r7tn false, .int .i64 0]) [some (.box [.osl 5 2 0 r7hn false, .sl 5 0 (rowOf eLock (fun _ => zLock)) true]), some (.arr 1 r7tn (rowOf (eI .u64) r7tw)), some (.arr 5 r7hn (rowOf eLock r7hw))] := by kernel_rfl
theorem locks_Withdraw_r7_s3 (k : Nat) (s : TLocks) (tx : Int) (r0 : Int) (r4n : Nat) (r4w : Nat → TLock) (r7tn : Nat) (r7tw : Nat → Int) (r7hn : Nat) (r7hw : Nat → TLock) (r7wn : Nat) (r7ww : Nat → TLock) (κ : AV → Heap → Option ρ) : locks_Withdraw_r7 k s tx r0 r4n r4w κ (.tup [.agg [.osl 5 3 0 r7hn false, .osl 5 4 0 r7wn false], .osl 1 2 0 r7tn false]) [some (.arr 5 r4n (rowOf eLock r4w)), some (.box [.osl 5 3 0 r7hn false, .osl 5 4 0 r7wn false]), some (.arr 1 r7tn (rowOf (eI .u64) r7tw)), some (.arr 5 r7hn (rowOf eLock r7hw)), some (.arr 5 r7wn (rowOf eLock r7ww))] =
  κ (.tup [.agg [.osl 5 2 0 r7hn false, .osl 5 3 0 r7wn false], .osl 1 1 0 r7tn false, .int .i64 0]) [some (.box [.osl 5 2 0 r7hn false, .osl 5 3 0 r7wn false]), some (.arr 1 r7tn (rowOf (eI .u64) r7tw)), some (.arr 5 r7hn (rowOf eLock r7hw)), some (.arr 5 r7wn (rowOf eLock r7ww))] := by kernel_rfl
theorem locks_Withdraw_r8_s (k : Nat) (s : TLocks) (tx : Int) (r0 : Int) (κ : AV → Heap → Option ρ) : locks_Withdraw_r8 k s tx r0 κ (.tup [.agg [.osl 5 0 0 s.Held.n false, .sl 5 0 (rowOf eLock (fun _ => zLock)) true], .sl 1 0 (rowOf (eI .u64) (fun _ => 0)) true]) [some (.arr 5 s.Held.n (rowOf eLock s.Held.w)), some (.box [.osl 5 0 0 s.Held.n false, .sl 5 0 (rowOf eLock (fun _ => zLock)) true])] =
  κ (.tup [.agg [.osl 5 1 0 s.Held.n false, .sl 5 0 (rowOf eLock (fun _ => zLock)) true], .sl 1 0 (rowOf (eI .u64) (fun _ => 0)) true, .int .i64 0]) [some (.box [.osl 5 1 0 s.Held.n false, .sl 5 0 (rowOf eLock (fun _ => zLock)) true]), some (.arr 5 s.Held.n (rowOf eLock s.Held.w))] := by kernel_rfl
theorem locks_Withdraw_r9_s (k : Nat) (s : TLocks) (tx : Int) (r0 : Int) (r5n : Nat) (r5w : Nat → TLock) (κ : AV → Heap → Option ρ) : locks_Withdraw_r9 k s tx r0 r5n r5w κ (.tup [.agg [.osl 5 0 0 s.Held.n false, .sl 5 0 (rowOf eLock (fun _ => zLock)) true], .sl 1 0 (rowOf (eI .u64) (fun _ => 0)) true]) [some (.arr 5 s.Held.n (rowOf eLock s.Held.w)), some (.arr 5 r5n (rowOf eLock r5w)), some (.box [.osl 5 0 0 s.Held.n false, .sl 5 0 (rowOf eLock (fun _ => zLock)) true])] =
  κ (.tup [.agg [.osl 5 1 0 s.Held.n false, .sl 5 0 (rowOf eLock (fun _ => zLock)) true], .sl 1 0 (rowOf (eI .u64) (fun _ => 0)) true, .int .i64 0]) [some (.box [.osl 5 1 0 s.Held.n false, .sl 5 0 (rowOf eLock (fun _ => zLock)) true]), some (.arr 5 s.Held.n (rowOf eLock s.Held.w))] := by kernel_rfl
theorem locks_Withdraw_r9_s1 (k : Nat) (s : TLocks) (tx : Int) (r0 : Int) (r5n : Nat) (r5w : Nat → TLock) (r9wn : Nat) (r9ww : Nat → TLock) (κ : AV → Heap → Option ρ) : locks_Withdraw_r9 k s tx r0 r5n r5w κ (.tup [.agg [.osl 5 0 0 s.Held.n false, .osl 5 3 0 r9wn false], .sl 1 0 (rowOf (eI .u64) (fun _ => 0)) true]) [some (.arr 5 s.Held.n (rowOf eLock s.Held.w)), some (.arr 5 r5n (rowOf eLock r5w)), some (.box [.osl 5 0 0 s.Held.n false, .osl 5 3 0 r9wn false]), some (.arr 5 r9wn (rowOf eLock r9ww))] =
  κ (.tup [.agg [.osl 5 1 0 s.Held.n false, .osl 5 2 0 r9wn false], .sl 1 0 (rowOf (eI .u64) (fun _ => 0)) true, .int .i64 0]) [some (.box [.osl 5 1 0 s.Held.n false, .osl 5 2 0 r9wn false]), some (.arr 5 s.Held.n (rowOf eLock s.Held.w)), some (.arr 5 r9wn (rowOf eLock r9ww))] := by kernel_rfl
theorem locks_Withdraw_r9_s2 (k : Nat) (s : TLocks) (tx : Int) (r0 : Int) (r5n : Nat) (r5w : Nat → TLock) (r9tn : Nat) (r9tw : Nat → Int) (r9hn : Nat) (r9hw : Nat → TLock) (κ : AV → Heap → Option ρ) : locks_Withdraw_r9 k s tx r0 r5n r5w κ (.tup [.agg [.osl 5 4 0 r9hn false, .sl 5 0 (rowOf eLock (fun _ => zLock)) true], .osl 1 3 0 r9tn false]) [none, some (.arr 5 r5n (rowOf eLock r5w)), some (.box [.osl 5 4 0 r9hn false, .sl 5 0 (rowOf eLock (fun _ => zLock)) true]), some (.arr 1 r9tn (rowOf (eI .u64) r9tw)), some (.arr 5 r9hn (rowOf eLock r9hw))] =
  κ (.tup [.agg [.osl 5 2 0 r9hn false, .sl 5 0 (rowOf eLock (fun _ => zLock)) true], .osl 1 1 0 r9tn false, .int .i64 0]) [some (.box [.osl 5 2 0 r9hn false, .sl 5 0 (rowOf eLock (fun _ => zLock)) true]), some (.arr 1 r9tn (rowOf (eI .u64) r9tw)), some (.arr 5 r9hn (rowOf eLock r9hw))] := by kernel_rfl
theorem locks_Withdraw_r9_s3 (k : Nat) (s : TLocks) (tx : Int) (r0 : Int) (r5n : Nat) (r5w : Nat → TLock) (r9tn : Nat) (r9tw : Nat → Int) (r9hn : Nat) (r9hw : Nat → TLock) (r9wn : Nat) (r9ww : Nat → TLock) (κ : AV → Heap → Option ρ) : locks_Withdraw_r9 k s tx r0 r5n r5w κ (.tup [.agg [.osl 5 4 0 r9hn false, .osl 5 5 0 r9wn false], .osl 1 3 0 r9tn false]) [none, some (.arr 5 r5n (rowOf eLock r5w)), some (.box [.osl 5 4 0 r9hn false, .osl 5 5 0 r9wn false]), some (.arr 1 r9tn (rowOf (eI .u64) r9tw)), some (.arr 5 r9hn (rowOf eLock r9hw)), some (.arr 5 r9wn (rowOf eLock r9ww))] =
  κ (.tup [.agg [.osl 5 2 0 r9hn false, .osl 5 3 0 r9wn false], .osl 1 1 0 r9tn false, .int .i64 0]) [some (.box [.osl 5 2 0 r9hn false, .osl 5 3 0 r9wn false]), some (.arr 1 r9tn (rowOf (eI .u64) r9tw)), some (.arr 5 r9hn (rowOf eLock r9hw)), some (.arr 5 r9wn (rowOf eLock r9ww))] := by kernel_rfl
theorem locks_Withdraw_e (k : Nat) (s : TLocks) (tx : Int) (κ : AV → Heap → Option ρ) : evalF ctx (k + 1) n_locks_Withdraw [.agg (eLocks s), .int .u64 tx] [] κ =
  callP ctx k n_locks_Check [.agg (eLocks s)] (locks_Withdraw_r0 k s tx κ) := by kernel_rfl
theorem locks_others_e (k : Nat) (tx : Int) (κ : AV → Heap → Option ρ) : evalF ctx (k + 1) n_locks_others [.int .u64 tx] [] κ =
  κ (.fn n_locks_others_1 [] [.ref 0 0]) [some (.box [.int .u64 tx])] := by kernel_rfl
theorem locks_others_1_e (k : Nat) (c : TLock) (tx : Int) (κ : AV → Heap → Option ρ) : evalF ctx (k + 1) n_locks_others_1 [.agg (eLock c), .ref 0 0] [some (.box [.int .u64 tx])] κ =
  κ (.bool (!decide (c.Tx = tx))) [some (.box [.int .u64 tx])] := by kernel_rfl
end Go.Proofs.YticcbbcgboddpaaC

set_option linter.unusedVariables false
set_option linter.unusedSimpArgs false
set_option maxRecDepth 20000
namespace Go.Proofs.YticcbbcgboddpaaC
open Go Go.Ev Go.Proofs
variable {ρ : Type}
theorem more_sz (s m n1 : Nat) (A B : Option ρ) (h : m = n1) (hs : s ≤ 64) (h0 : 0 < s) (hb : m ≤ 1000000) : (bif decide (((0 + m) + 1) ≤ n1) then A else (bif ((decide (m = n1)) && (roomOf (m + 1) s)) then B else none)) = B := by
  have h1 : (m + 1) * s ≤ 1000001 * 64 := Nat.mul_le_mul (by omega) hs
  rw [decide_eq_false (by omega), decide_eq_true h, room_of (Nat.le_trans h1 (by decide)) (by omega)]; rfl
/-! ### rows kept -/
noncomputable def hdO (k : Nat) (l : Sl TLock) (tx : Int) (κ : AV → Heap → Option ρ) (j i : Nat) : List TLock → Option ρ
  | [] => kept_others_h0 (k + 1) j l tx (i : Int) κ
  | x :: L => kept_others_h1 (k + 1) j l tx (L.length + 1) (i : Int) (L.length + 1) (rowOf eLock (gd zLock (x :: L))) κ
def othL (L : List TLock) (tx : Int) : List TLock := L.filter fun c => !decide (c.Tx = tx)
theorem kept_others_ok (k n : Nat) (w : Nat → TLock) (u : Bool) (tx : Int) (hn : n ≤ 10000) (hk : n + 3 ≤ k) (κ : AV → Heap → Option ρ) :
    evalF ctx k n_locks_kept_Lock [.sl 5 n (rowOf eLock w) u, .fn n_locks_others_1 [] [.ref 0 0]] [some (.box [.int .u64 tx])] κ =
      κ (oV 5 eLock zLock 1 (othL (lst n w) tx)) (some (.box [.int .u64 tx]) :: oH 5 eLock zLock (othL (lst n w) tx)) := by
  obtain ⟨k, rfl⟩ : ∃ k', k = k' + 2 := ⟨k - 2, by omega⟩
  refine (kept_others_e (k + 1) ⟨n, w, u⟩ tx κ).trans ?_
  unfold othL
  have h := filter_loop (n := n) (P := fun i => !decide ((w i).Tx = tx)) (w := w) (hd := hdO k ⟨n, w, u⟩ tx κ)
    (fin := fun L => κ (oV 5 eLock zLock 1 L) (some (.box [.int .u64 tx]) :: oH 5 eLock zLock L)) (fun j i L hi hL => ?_) (fun j L => ?_) (k + 1) 0 [] (by omega) (by omega) (by simp)
  · rw [List.nil_append, filter_lst n w (fun c => !decide (c.Tx = tx))] at h
    exact h
  · have e0 : decide ((i : Int) < (n : Int)) = true := decide_eq_true (by omega)
    have e1 : decide (i < n) = true := decide_eq_true hi
    cases L with
    | nil =>
      unfold hdO
      rw [kept_others_h0_s]
      simp only [e0, e1, idx_nat, Int.toNat_natCast, cond_true, row_first, wi64_succ (show i < 9223372036854775807 by omega)]
      cases (!decide ((w i).Tx = tx)) <;> rfl
    | cons x L =>
      simp only [hdO, List.cons_append, List.length_append, List.length_cons, List.length_nil]
      simp only [List.length_cons] at hL
      rw [kept_others_h1_s, more_sz 56 _ _ _ _ rfl (by omega) (by omega) (by omega)]
      simp only [e0, e1, idx_nat, Int.toNat_natCast, cond_true, wi64_succ (show i < 9223372036854775807 by omega)]
      rw [row_next eLock (x :: L) _ zLock _ (by simp)]
      cases (!decide ((w i).Tx = tx)) <;> rfl
  · have e0 : decide ((n : Int) < (n : Int)) = false := decide_eq_false (by omega)
    cases L with
    | nil => simp only [hdO]; rw [kept_others_h0_s, e0]; rfl
    | cons x L => simp only [hdO]; rw [kept_others_h1_s, e0]; rfl
/-! ### serve -/
def grantsL (x : TLock) (H W : List TLock) : Bool := !(H.any (againstB x)) && !(W.any (againstB x))
theorem anyL {α : Type} (n : Nat) (w : Nat → α) (P : α → Bool) : anyN n (fun i => P (w i)) = (lst n w).any P := by
  unfold anyN lst
  rw [List.any_map]; rfl
theorem grants_lst (x : TLock) (n m : Nat) (v w : Nat → TLock) : grantsB x n v m w = grantsL x (lst n v) (lst m w) := by
  unfold grantsB grantsL
  rw [anyL n v (againstB x), anyL m w (againstB x)]
theorem lst0 (L : List TLock) : lst L.length (fun i => gd zLock L (0 + i)) = L := by
  rw [show (fun i => gd zLock L (0 + i)) = gd zLock L from funext fun i => by rw [Nat.zero_add]]
  exact gd_lst zLock L
theorem grants_ok' (k : Nat) (x : TLock) (n m : Nat) (v w : Nat → TLock) (u u' : Bool) (H W : List TLock) (h1 : lst n v = H) (h2 : lst m w = W) (hn : n ≤ 10000) (hm : m ≤ 10000) (hk : n + m + 30 ≤ k) (κ : AV → Option ρ) : callP ctx k n_locks_grants [.agg (eLock x), .sl 5 n (rowOf eLock v) u, .sl 5 m (rowOf eLock w) u'] κ = κ (.bool (grantsL x H W)) := by
  rw [grants_ok k x n m v w u u' hn hm hk, grants_lst, h1, h2]
/-- what is granted, and what waits on -/
def serveF (A : List TLock) : List TLock → List TLock → List TLock → List TLock × List TLock
  | G, W, [] => (G, W)
  | G, W, x :: R => if grantsL x (A ++ G) W = true then serveF A (G ++ [x]) W R else serveF A G (W ++ [x]) R
theorem serve_loop {σ : Type} {A B : List TLock} {hd : Nat → List TLock → List TLock → σ} {fin : List TLock → List TLock → σ}
    (hs : ∀ j G W, G.length + W.length < B.length → hd (j + 1) G W = if grantsL (gd zLock B (G.length + W.length)) (A ++ G) W = true then hd j (G ++ [gd zLock B (G.length + W.length)]) W else hd j G (W ++ [gd zLock B (G.length + W.length)]))
    (he : ∀ j G W, G.length + W.length = B.length → hd (j + 1) G W = fin G W) :
    ∀ j G W, G.length + W.length ≤ B.length → B.length < G.length + W.length + j → hd j G W = fin (serveF A G W (B.drop (G.length + W.length))).1 (serveF A G W (B.drop (G.length + W.length))).2 := by
  intro j
  induction j with
  | zero => intro G W h1 h2; omega
  | succ j ih =>
    intro G W h1 h2
    rcases Nat.lt_or_ge (G.length + W.length) B.length with h | h
    · have hx : gd zLock B (G.length + W.length) = B[G.length + W.length] := by unfold gd; simp [h]
      rw [hs j G W h, List.drop_eq_getElem_cons h, ← hx]
      unfold serveF
      by_cases hg : grantsL (gd zLock B (G.length + W.length)) (A ++ G) W = true
      · rw [if_pos hg, if_pos hg, ih _ _ (by simp; omega) (by simp; omega)]
        rw [show (G ++ [gd zLock B (G.length + W.length)]).length + W.length = G.length + W.length + 1 by simp; omega]
      · rw [if_neg hg, if_neg hg, ih _ _ (by simp; omega) (by simp; omega)]
        rw [show G.length + (W ++ [gd zLock B (G.length + W.length)]).length = G.length + W.length + 1 by simp; omega]
    · have : G.length + W.length = B.length := by omega
      rw [he j G W this, List.drop_eq_nil_of_le (by omega)]
      rfl
theorem serveF_len (A : List TLock) : ∀ (R G W : List TLock), (serveF A G W R).1.length + (serveF A G W R).2.length = G.length + W.length + R.length
  | [], G, W => by simp [serveF]
  | x :: R, G, W => by
    unfold serveF
    split
    · rw [serveF_len A R]; simp; omega
    · rw [serveF_len A R]; simp; omega
abbrev txs (L : List TLock) : List Int := L.map (·.Tx)
noncomputable def hd11 (k : Nat) (aw : Nat → TLock) (A B : List TLock) (κ : AV → Heap → Option ρ) (j : Nat) : List TLock → List TLock → Option ρ
  | [], [] => serve11_h0 k j A.length aw B.length (gd zLock B) κ
  | [], w :: W => serve11_h1 k j A.length aw B.length (gd zLock B) ((W.length + 1 : Nat) : Int) (W.length + 1) (W.length + 1) (rowOf eLock (gd zLock (w :: W))) κ
  | g :: G, [] => serve11_h3 k j B.length (gd zLock B) (G.length + 1) ((G.length + 1 : Nat) : Int) (A.length + (G.length + 1)) (G.length + 1) (rowOf (eI .u64) (gd 0 (txs (g :: G)))) (A.length + (G.length + 1)) (rowOf eLock (gd zLock (A ++ g :: G))) κ
  | g :: G, w :: W => serve11_h5 k j B.length (gd zLock B) (rowOf (eI .u64) (gd 0 (txs (g :: G)))) (rowOf eLock (gd zLock (A ++ g :: G))) (rowOf eLock (gd zLock (w :: W))) (G.length + 1) ((G.length + 1 + (W.length + 1) : Nat) : Int) (A.length + (G.length + 1)) (G.length + 1) (A.length + (G.length + 1)) (W.length + 1) (W.length + 1) κ
/-- where the held row stands behind it -/
def hvA (A : List TLock) (i : Nat) : List TLock → AV
  | [] => oV 5 eLock zLock 0 A
  | g :: G => .osl 5 i 0 (A.length + (G.length + 1)) false
def nTx (i : Nat) : List TLock → AV
  | [] => .sl 1 0 (rowOf (eI .u64) (fun _ => 0)) true
  | g :: G => .osl 1 i 0 (G.length + 1) false
def tH : List TLock → Heap
  | [] => []
  | g :: G => [some (.arr 1 (G.length + 1) (rowOf (eI .u64) (gd 0 (txs (g :: G)))))]
def hHp (A : List TLock) : List TLock → Heap
  | [] => []
  | g :: G => [some (.arr 5 (A.length + (G.length + 1)) (rowOf eLock (gd zLock (A ++ g :: G))))]
def fin11 (aw : Nat → TLock) (A B : List TLock) (κ : AV → Heap → Option ρ) (G W : List TLock) : Option ρ :=
  match G with
  | [] => κ (.tup [.agg [.osl 5 0 0 A.length false, oV 5 eLock zLock 3 W], .sl 1 0 (rowOf (eI .u64) (fun _ => 0)) true]) ([some (.arr 5 A.length (rowOf eLock aw)), some (.arr 5 B.length (rowOf eLock (gd zLock B))), some (.box [.osl 5 0 0 A.length false, oV 5 eLock zLock 3 W])] ++ oH 5 eLock zLock W)
  | g :: G => κ (.tup [.agg [.osl 5 4 0 (A.length + (G.length + 1)) false, oV 5 eLock zLock 5 W], .osl 1 3 0 (G.length + 1) false]) ([none, some (.arr 5 B.length (rowOf eLock (gd zLock B))), some (.box [.osl 5 4 0 (A.length + (G.length + 1)) false, oV 5 eLock zLock 5 W]), some (.arr 1 (G.length + 1) (rowOf (eI .u64) (gd 0 (txs (g :: G))))), some (.arr 5 (A.length + (G.length + 1)) (rowOf eLock (gd zLock (A ++ g :: G))))] ++ oH 5 eLock zLock W)
theorem tx_next (g : TLock) (G : List TLock) (x : TLock) (n : Nat) (hn : n = G.length + 1) : catRow n (rowOf (eI .u64) (gd 0 (txs (g :: G)))) (litRow (eI .u64) [x.Tx] 0) = rowOf (eI .u64) (gd 0 (txs (g :: (G ++ [x])))) := by
  rw [row_next (eI .u64) (txs (g :: G)) x.Tx 0 n (by simp [txs, hn])]
  simp [txs]
theorem lk_next (A : List TLock) (G : List TLock) (x : TLock) (n : Nat) (hn : n = A.length + G.length) : catRow n (rowOf eLock (gd zLock (A ++ G))) (litRow eLock [x] zLock) = rowOf eLock (gd zLock (A ++ (G ++ [x]))) := by
  rw [row_next eLock (A ++ G) x zLock n (by simp [hn]), List.append_assoc]
theorem lk_first (aw : Nat → TLock) (A : List TLock) (x : TLock) (hw : lst A.length aw = A) : catRow A.length (rowOf eLock aw) (litRow eLock [x] zLock) = rowOf eLock (gd zLock (A ++ [x])) := by
  have e := lk_next A [] x A.length (by simp)
  rw [List.append_nil, List.nil_append] at e
  rw [← e]
  funext i
  unfold catRow
  by_cases hi : i < A.length
  · rw [if_pos hi, if_pos hi]
    unfold rowOf
    have : aw i = gd zLock A i := by
      have h1 : (lst A.length aw)[i]? = some (aw i) := by unfold lst; simp [hi]
      rw [hw] at h1
      unfold gd
      rw [List.getD_eq_getElem?_getD, h1]; rfl
    rw [this]
  · rw [if_neg hi, if_neg hi]
theorem serve11_ok (k : Nat) (aw : Nat → TLock) (A B : List TLock) (hw : lst A.length aw = A) (hA : A.length ≤ 4000) (hB : B.length ≤ 4000) (hB0 : 0 < B.length) (hk : A.length + B.length + 40 ≤ k) (κ : AV → Heap → Option ρ) :
    evalF ctx k n_locks_serve [.osl 5 0 0 A.length false, .osl 5 1 0 B.length false] [some (.arr 5 A.length (rowOf eLock aw)), some (.arr 5 B.length (rowOf eLock (gd zLock B)))] κ = fin11 aw A B κ (serveF A [] [] B).1 (serveF A [] [] B).2 := by
  have lstA : lst A.length (fun i => aw (0 + i)) = A := by rw [show (fun i => aw (0 + i)) = aw from zrow aw]; exact hw
  obtain ⟨k, rfl⟩ : ∃ k', k = k' + 1 := ⟨k - 1, by omega⟩
  refine (serve11_e k A.length aw B.length (gd zLock B) κ).trans ?_
  have h := serve_loop (A := A) (B := B) (hd := hd11 k aw A B κ) (fin := fin11 aw A B κ) (fun j G W hi => ?_) (fun j G W hi => ?_) k [] [] (by simp) (by simp; omega)
  · exact h
  · generalize hx : gd zLock B (G.length + W.length) = x
    cases G with
    | nil =>
      cases W with
      | nil =>
        have hx : gd zLock B 0 = x := hx
        unfold hd11
        rw [serve11_h0_s, dec_t (show (0 : Int) < (B.length : Int) by omega), cond_true, show idxOK 0 B.length = true from idx_ok (by omega) (by omega), cond_true, dec_t hB0, cond_true, hx]
        refine (grants_ok' k x A.length 0 _ _ _ _ A [] lstA rfl (by omega) (by omega) (by omega) _).trans ?_
        rw [serve11_r0_s, hx, more_sz 56 _ _ _ _ rfl (by omega) (by omega) (by omega), List.append_nil]
        cases grantsL x A [] with
        | true =>
          show serve11_h3 _ _ _ _ _ _ _ _ _ _ _ _ = _
          have e := lk_first aw A x hw
          rw [row_first (eI .u64)]
          exact congrArg (fun r => serve11_h3 k j B.length (gd zLock B) 1 1 (A.length + 1) 1 (rowOf (eI .u64) (gd 0 [x.Tx])) (A.length + 1) r κ) e
        | false =>
          show serve11_h1 _ _ _ _ _ _ _ _ _ _ _ = _
          exact congrArg (fun r => serve11_h1 k j A.length aw B.length (gd zLock B) 1 1 1 r κ) (row_first eLock _ x zLock)
      | cons w W =>
        have hx : gd zLock B (0 + (W.length + 1)) = x := hx
        simp only [List.length_cons, List.length_nil] at hi
        simp only [hd11]
        rw [serve11_h1_s, dec_t (by omega), cond_true, idx_ok (by omega) (by omega), cond_true]
        rw [Int.toNat_natCast, dec_t (by omega), cond_true, hx]
        refine (grants_ok' k x A.length (W.length + 1) _ _ _ _ A (w :: W) lstA (lst0 (w :: W)) (by omega) (by omega) (by omega) _).trans ?_
        rw [serve11_r1_s]
        rw [Int.toNat_natCast, hx, more_sz 56 _ _ _ _ rfl (by omega) (by omega) (by omega), more_sz 56 _ _ _ _ rfl (by omega) (by omega) (by omega), List.append_nil, wi64_succ (by omega)]
        cases grantsL x A (w :: W) with
        | true =>
          have e := lk_first aw A x hw
          rw [Bool.not_true, cond_false, row_first (eI .u64), if_pos rfl]
          refine (congrArg (fun r => serve11_h5 k j B.length (gd zLock B) (rowOf (eI .u64) (gd 0 [x.Tx])) r (rowOf eLock (gd zLock (w :: W))) 1 ((W.length + 1 + 1 : Nat) : Int) (A.length + 1) 1 (A.length + 1) (W.length + 1) (W.length + 1) κ) e).trans ?_
          rw [show W.length + 1 + 1 = 0 + 1 + (W.length + 1) by omega]
          rfl
        | false =>
          rw [Bool.not_false, cond_true, if_neg (by decide)]
          have e := lk_next [] (w :: W) x (W.length + 1) (by simp)
          simp only [List.nil_append] at e
          refine (congrArg (fun r => serve11_h1 k j A.length aw B.length (gd zLock B) ((W.length + 1 + 1 : Nat) : Int) (W.length + 1 + 1) (W.length + 1 + 1) r κ) e).trans ?_
          show _ = serve11_h1 k j A.length aw B.length (gd zLock B) (((W ++ [x]).length + 1 : Nat) : Int) ((W ++ [x]).length + 1) ((W ++ [x]).length + 1) (rowOf eLock (gd zLock (w :: (W ++ [x])))) κ
          rw [List.length_append]; rfl
    | cons g G =>
      cases W with
      | nil =>
        have hx : gd zLock B (G.length + 1) = x := hx
        have hx' : gd zLock B (0 + (G.length + 1)) = x := by rw [Nat.zero_add]; exact hx
        simp only [List.length_cons, List.length_nil] at hi
        simp only [hd11]
        rw [serve11_h3_s, dec_t (by omega), cond_true, idx_ok (by omega) (by omega), cond_true]
        rw [Int.toNat_natCast, dec_t (by omega), cond_true, hx']
        refine (grants_ok' k x (A.length + (G.length + 1)) 0 _ _ _ _ (A ++ g :: G) [] (by rw [show A.length + (G.length + 1) = (A ++ g :: G).length by simp]; exact lst0 _) rfl (by omega) (by omega) (by omega) _).trans ?_
        rw [serve11_r3_s]
        rw [Int.toNat_natCast, hx', more_sz 8 _ _ _ _ rfl (by omega) (by omega) (by omega), more_sz 8 _ _ _ _ rfl (by omega) (by omega) (by omega), more_sz 56 _ _ _ _ rfl (by omega) (by omega) (by omega), wi64_succ (by omega)]
        cases grantsL x (A ++ g :: G) [] with
        | true =>
          rw [Bool.not_true, cond_false, if_pos rfl, tx_next g G x _ rfl]
          refine (congrArg (fun r => serve11_h3 k j B.length (gd zLock B) (G.length + 1 + 1) ((G.length + 1 + 1 : Nat) : Int) (A.length + (G.length + 1) + 1) (G.length + 1 + 1) (rowOf (eI .u64) (gd 0 (txs (g :: (G ++ [x]))))) (A.length + (G.length + 1) + 1) r κ) (lk_next A (g :: G) x _ (by simp))).trans ?_
          show _ = serve11_h3 k j B.length (gd zLock B) ((G ++ [x]).length + 1) (((G ++ [x]).length + 1 : Nat) : Int) (A.length + ((G ++ [x]).length + 1)) ((G ++ [x]).length + 1) (rowOf (eI .u64) (gd 0 (txs (g :: (G ++ [x]))))) (A.length + ((G ++ [x]).length + 1)) (rowOf eLock (gd zLock (A ++ g :: (G ++ [x])))) κ
          rw [List.length_append]; rfl
        | false =>
          rw [Bool.not_false, cond_true, if_neg (by decide)]
          exact congrArg (fun r => serve11_h5 k j B.length (gd zLock B) (rowOf (eI .u64) (gd 0 (txs (g :: G)))) (rowOf eLock (gd zLock (A ++ g :: G))) r (G.length + 1) ((G.length + 1 + 1 : Nat) : Int) (A.length + (G.length + 1)) (G.length + 1) (A.length + (G.length + 1)) 1 1 κ) (row_first eLock _ x zLock)
      | cons w W =>
        have hx : gd zLock B (G.length + 1 + (W.length + 1)) = x := hx
        have hx' : gd zLock B (0 + (G.length + 1 + (W.length + 1))) = x := by rw [Nat.zero_add]; exact hx
        simp only [List.length_cons] at hi
        simp only [hd11]
        rw [serve11_h5_s, dec_t (by omega), cond_true, idx_ok (by omega) (by omega), cond_true]
        rw [Int.toNat_natCast, dec_t (by omega), cond_true, hx']
        refine (grants_ok' k x (A.length + (G.length + 1)) (W.length + 1) _ _ _ _ (A ++ g :: G) (w :: W) (by rw [show A.length + (G.length + 1) = (A ++ g :: G).length by simp]; exact lst0 _) (lst0 (w :: W)) (by omega) (by omega) (by omega) _).trans ?_
        rw [serve11_r5_s]
        rw [Int.toNat_natCast, hx', more_sz 8 _ _ _ _ rfl (by omega) (by omega) (by omega), more_sz 8 _ _ _ _ rfl (by omega) (by omega) (by omega), more_sz 56 _ _ _ _ rfl (by omega) (by omega) (by omega), more_sz 56 _ _ _ _ rfl (by omega) (by omega) (by omega), wi64_succ (by omega)]
        cases grantsL x (A ++ g :: G) (w :: W) with
        | true =>
          rw [Bool.not_true, cond_false, if_pos rfl, tx_next g G x _ rfl]
          refine (congrArg (fun r => serve11_h5 k j B.length (gd zLock B) (rowOf (eI .u64) (gd 0 (txs (g :: (G ++ [x]))))) r (rowOf eLock (gd zLock (w :: W))) (G.length + 1 + 1) ((G.length + 1 + (W.length + 1) + 1 : Nat) : Int) (A.length + (G.length + 1) + 1) (G.length + 1 + 1) (A.length + (G.length + 1) + 1) (W.length + 1) (W.length + 1) κ) (lk_next A (g :: G) x _ (by simp))).trans ?_
          show _ = serve11_h5 k j B.length (gd zLock B) (rowOf (eI .u64) (gd 0 (txs (g :: (G ++ [x]))))) (rowOf eLock (gd zLock (A ++ g :: (G ++ [x])))) (rowOf eLock (gd zLock (w :: W))) ((G ++ [x]).length + 1) (((G ++ [x]).length + 1 + (W.length + 1) : Nat) : Int) (A.length + ((G ++ [x]).length + 1)) ((G ++ [x]).length + 1) (A.length + ((G ++ [x]).length + 1)) (W.length + 1) (W.length + 1) κ
          rw [List.length_append, show G.length + 1 + (W.length + 1) + 1 = G.length + [x].length + 1 + (W.length + 1) by simp; omega]; rfl
        | false =>
          rw [Bool.not_false, cond_true, if_neg (by decide)]
          have e := lk_next [] (w :: W) x (W.length + 1) (by simp)
          simp only [List.nil_append] at e
          refine (congrArg (fun r => serve11_h5 k j B.length (gd zLock B) (rowOf (eI .u64) (gd 0 (txs (g :: G)))) (rowOf eLock (gd zLock (A ++ g :: G))) r (G.length + 1) ((G.length + 1 + (W.length + 1) + 1 : Nat) : Int) (A.length + (G.length + 1)) (G.length + 1) (A.length + (G.length + 1)) (W.length + 1 + 1) (W.length + 1 + 1) κ) e).trans ?_
          show _ = serve11_h5 k j B.length (gd zLock B) (rowOf (eI .u64) (gd 0 (txs (g :: G)))) (rowOf eLock (gd zLock (A ++ g :: G))) (rowOf eLock (gd zLock (w :: (W ++ [x])))) (G.length + 1) ((G.length + 1 + ((W ++ [x]).length + 1) : Nat) : Int) (A.length + (G.length + 1)) (G.length + 1) (A.length + (G.length + 1)) ((W ++ [x]).length + 1) ((W ++ [x]).length + 1) κ
          rw [List.length_append]; rfl
  · cases G with
    | nil =>
      cases W with
      | nil => simp at hi; omega
      | cons w W =>
        simp only [List.length_cons, List.length_nil] at hi
        simp only [hd11]
        rw [serve11_h1_s, dec_f (by omega), cond_false]; rfl
    | cons g G =>
      cases W with
      | nil =>
        simp only [List.length_cons, List.length_nil] at hi
        simp only [hd11]
        rw [serve11_h3_s, dec_f (by omega), cond_false]; rfl
      | cons w W =>
        simp only [List.length_cons] at hi
        simp only [hd11]
        rw [serve11_h5_s, dec_f (by omega), cond_false]; rfl
noncomputable def hd01 (k : Nat) (B : List TLock) (κ : AV → Heap → Option ρ) (j : Nat) : List TLock → List TLock → Option ρ
  | [], [] => serve01_h0 k j B.length (gd zLock B) κ
  | [], w :: W => serve01_h1 k j B.length (gd zLock B) ((W.length + 1 : Nat) : Int) (W.length + 1) (W.length + 1) (rowOf eLock (gd zLock (w :: W))) κ
  | g :: G, [] => serve01_h2 k j B.length (gd zLock B) (G.length + 1) ((G.length + 1 : Nat) : Int) (G.length + 1) (G.length + 1) (rowOf (eI .u64) (gd 0 (txs (g :: G)))) (G.length + 1) (rowOf eLock (gd zLock (g :: G))) κ
  | g :: G, w :: W => serve01_h3 k j B.length (gd zLock B) (rowOf (eI .u64) (gd 0 (txs (g :: G)))) (rowOf eLock (gd zLock (g :: G))) (rowOf eLock (gd zLock (w :: W))) ((G.length + 1 + (W.length + 1) : Nat) : Int) (W.length + 1) (W.length + 1) (G.length + 1) (G.length + 1) (G.length + 1) (G.length + 1) κ
def fin01 (B : List TLock) (κ : AV → Heap → Option ρ) (G W : List TLock) : Option ρ :=
  match G with
  | [] => κ (.tup [.agg [.sl 5 0 (rowOf eLock (fun _ => zLock)) true, oV 5 eLock zLock 2 W], .sl 1 0 (rowOf (eI .u64) (fun _ => 0)) true]) ([some (.arr 5 B.length (rowOf eLock (gd zLock B))), some (.box [.sl 5 0 (rowOf eLock (fun _ => zLock)) true, oV 5 eLock zLock 2 W])] ++ oH 5 eLock zLock W)
  | g :: G => κ (.tup [.agg [.osl 5 3 0 (G.length + 1) false, oV 5 eLock zLock 4 W], .osl 1 2 0 (G.length + 1) false]) ([some (.arr 5 B.length (rowOf eLock (gd zLock B))), some (.box [.osl 5 3 0 (G.length + 1) false, oV 5 eLock zLock 4 W]), some (.arr 1 (G.length + 1) (rowOf (eI .u64) (gd 0 (txs (g :: G))))), some (.arr 5 (G.length + 1) (rowOf eLock (gd zLock (g :: G))))] ++ oH 5 eLock zLock W)
theorem serve01_ok (k : Nat) (B : List TLock) (hB : B.length ≤ 4000) (hB0 : 0 < B.length) (hk : B.length + 40 ≤ k) (κ : AV → Heap → Option ρ) :
    evalF ctx k n_locks_serve [.sl 5 0 (rowOf eLock (fun _ => zLock)) true, .osl 5 0 0 B.length false] [some (.arr 5 B.length (rowOf eLock (gd zLock B)))] κ = fin01 B κ (serveF [] [] [] B).1 (serveF [] [] [] B).2 := by
  obtain ⟨k, rfl⟩ : ∃ k', k = k' + 1 := ⟨k - 1, by omega⟩
  refine (serve01_e k B.length (gd zLock B) κ).trans ?_
  have h := serve_loop (A := []) (B := B) (hd := hd01 k B κ) (fin := fin01 B κ) (fun j G W hi => ?_) (fun j G W hi => ?_) k [] [] (by simp) (by simp; omega)
  · exact h
  · generalize hx : gd zLock B (G.length + W.length) = x
    rw [List.nil_append]
    cases G with
    | nil =>
      cases W with
      | nil =>
        have hx : gd zLock B 0 = x := hx
        unfold hd01
        rw [serve01_h0_s, dec_t (show (0 : Int) < (B.length : Int) by omega), cond_true, show idxOK 0 B.length = true from idx_ok (by omega) (by omega), cond_true, dec_t hB0, cond_true, hx]
        refine (grants_ok' k x 0 0 _ _ _ _ [] [] rfl rfl (by omega) (by omega) (by omega) _).trans ?_
        rw [serve01_r0_s, hx]
        cases grantsL x [] [] with
        | true =>
          show serve01_h2 _ _ _ _ _ _ _ _ _ _ _ _ = _
          rw [row_first (eI .u64), row_first eLock]; rfl
        | false =>
          show serve01_h1 _ _ _ _ _ _ _ _ _ = _
          exact congrArg (fun r => serve01_h1 k j B.length (gd zLock B) 1 1 1 r κ) (row_first eLock _ x zLock)
      | cons w W =>
        have hx : gd zLock B (0 + (W.length + 1)) = x := hx
        simp only [List.length_cons, List.length_nil] at hi
        simp only [hd01]
        rw [serve01_h1_s, dec_t (by omega), cond_true, idx_ok (by omega) (by omega), cond_true]
        rw [Int.toNat_natCast, dec_t (by omega), cond_true, hx]
        refine (grants_ok' k x 0 (W.length + 1) _ _ _ _ [] (w :: W) rfl (lst0 (w :: W)) (by omega) (by omega) (by omega) _).trans ?_
        rw [serve01_r1_s]
        rw [Int.toNat_natCast, hx, more_sz 56 _ _ _ _ rfl (by omega) (by omega) (by omega), wi64_succ (by omega)]
        cases grantsL x [] (w :: W) with
        | true =>
          rw [Bool.not_true, cond_false, row_first (eI .u64), if_pos rfl]
          refine (congrArg (fun r => serve01_h3 k j B.length (gd zLock B) (rowOf (eI .u64) (gd 0 [x.Tx])) r (rowOf eLock (gd zLock (w :: W))) ((W.length + 1 + 1 : Nat) : Int) (W.length + 1) (W.length + 1) 1 1 1 1 κ) (row_first eLock _ x zLock)).trans ?_
          rw [show W.length + 1 + 1 = 0 + 1 + (W.length + 1) by omega]
          rfl
        | false =>
          rw [Bool.not_false, cond_true, if_neg (by decide)]
          have e := lk_next [] (w :: W) x (W.length + 1) (by simp)
          simp only [List.nil_append] at e
          refine (congrArg (fun r => serve01_h1 k j B.length (gd zLock B) ((W.length + 1 + 1 : Nat) : Int) (W.length + 1 + 1) (W.length + 1 + 1) r κ) e).trans ?_
          show _ = serve01_h1 k j B.length (gd zLock B) (((W ++ [x]).length + 1 : Nat) : Int) ((W ++ [x]).length + 1) ((W ++ [x]).length + 1) (rowOf eLock (gd zLock (w :: (W ++ [x])))) κ
          rw [List.length_append]; rfl
    | cons g G =>
      cases W with
      | nil =>
        have hx : gd zLock B (G.length + 1) = x := hx
        have hx' : gd zLock B (0 + (G.length + 1)) = x := by rw [Nat.zero_add]; exact hx
        simp only [List.length_cons, List.length_nil] at hi
        simp only [hd01]
        rw [serve01_h2_s, dec_t (by omega), cond_true, idx_ok (by omega) (by omega), cond_true]
        rw [Int.toNat_natCast, dec_t (by omega), cond_true, hx']
        refine (grants_ok' k x (G.length + 1) 0 _ _ _ _ (g :: G) [] (lst0 (g :: G)) rfl (by omega) (by omega) (by omega) _).trans ?_
        rw [serve01_r2_s]
        rw [Int.toNat_natCast, hx', more_sz 8 _ _ _ _ rfl (by omega) (by omega) (by omega), more_sz 8 _ _ _ _ rfl (by omega) (by omega) (by omega), more_sz 56 _ _ _ _ rfl (by omega) (by omega) (by omega), wi64_succ (by omega)]
        have e := lk_next [] (g :: G) x (G.length + 1) (by simp)
        simp only [List.nil_append] at e
        cases grantsL x (g :: G) [] with
        | true =>
          rw [Bool.not_true, cond_false, if_pos rfl, tx_next g G x _ rfl]
          refine (congrArg (fun r => serve01_h2 k j B.length (gd zLock B) (G.length + 1 + 1) ((G.length + 1 + 1 : Nat) : Int) (G.length + 1 + 1) (G.length + 1 + 1) (rowOf (eI .u64) (gd 0 (txs (g :: (G ++ [x]))))) (G.length + 1 + 1) r κ) e).trans ?_
          show _ = serve01_h2 k j B.length (gd zLock B) ((G ++ [x]).length + 1) (((G ++ [x]).length + 1 : Nat) : Int) ((G ++ [x]).length + 1) ((G ++ [x]).length + 1) (rowOf (eI .u64) (gd 0 (txs (g :: (G ++ [x]))))) ((G ++ [x]).length + 1) (rowOf eLock (gd zLock (g :: (G ++ [x])))) κ
          rw [List.length_append]; rfl
        | false =>
          rw [Bool.not_false, cond_true, if_neg (by decide)]
          exact congrArg (fun r => serve01_h3 k j B.length (gd zLock B) (rowOf (eI .u64) (gd 0 (txs (g :: G)))) (rowOf eLock (gd zLock (g :: G))) r ((G.length + 1 + 1 : Nat) : Int) 1 1 (G.length + 1) (G.length + 1) (G.length + 1) (G.length + 1) κ) (row_first eLock _ x zLock)
      | cons w W =>
        have hx : gd zLock B (G.length + 1 + (W.length + 1)) = x := hx
        have hx' : gd zLock B (0 + (G.length + 1 + (W.length + 1))) = x := by rw [Nat.zero_add]; exact hx
        simp only [List.length_cons] at hi
        simp only [hd01]
        rw [serve01_h3_s, dec_t (by omega), cond_true, idx_ok (by omega) (by omega), cond_true]
        rw [Int.toNat_natCast, dec_t (by omega), cond_true, hx']
        refine (grants_ok' k x (G.length + 1) (W.length + 1) _ _ _ _ (g :: G) (w :: W) (lst0 (g :: G)) (lst0 (w :: W)) (by omega) (by omega) (by omega) _).trans ?_
        rw [serve01_r3_s]
        rw [Int.toNat_natCast, hx', more_sz 8 _ _ _ _ rfl (by omega) (by omega) (by omega), more_sz 8 _ _ _ _ rfl (by omega) (by omega) (by omega), more_sz 56 _ _ _ _ rfl (by omega) (by omega) (by omega), more_sz 56 _ _ _ _ rfl (by omega) (by omega) (by omega), wi64_succ (by omega)]
        cases grantsL x (g :: G) (w :: W) with
        | true =>
          rw [Bool.not_true, cond_false, if_pos rfl, tx_next g G x _ rfl]
          have e := lk_next [] (g :: G) x (G.length + 1) (by simp)
          simp only [List.nil_append] at e
          refine (congrArg (fun r => serve01_h3 k j B.length (gd zLock B) (rowOf (eI .u64) (gd 0 (txs (g :: (G ++ [x]))))) r (rowOf eLock (gd zLock (w :: W))) ((G.length + 1 + (W.length + 1) + 1 : Nat) : Int) (W.length + 1) (W.length + 1) (G.length + 1 + 1) (G.length + 1 + 1) (G.length + 1 + 1) (G.length + 1 + 1) κ) e).trans ?_
          show _ = serve01_h3 k j B.length (gd zLock B) (rowOf (eI .u64) (gd 0 (txs (g :: (G ++ [x]))))) (rowOf eLock (gd zLock (g :: (G ++ [x])))) (rowOf eLock (gd zLock (w :: W))) (((G ++ [x]).length + 1 + (W.length + 1) : Nat) : Int) (W.length + 1) (W.length + 1) ((G ++ [x]).length + 1) ((G ++ [x]).length + 1) ((G ++ [x]).length + 1) ((G ++ [x]).length + 1) κ
          rw [List.length_append, show G.length + 1 + (W.length + 1) + 1 = G.length + [x].length + 1 + (W.length + 1) by simp; omega]; rfl
        | false =>
          rw [Bool.not_false, cond_true, if_neg (by decide)]
          have e := lk_next [] (w :: W) x (W.length + 1) (by simp)
          simp only [List.nil_append] at e
          refine (congrArg (fun r => serve01_h3 k j B.length (gd zLock B) (rowOf (eI .u64) (gd 0 (txs (g :: G)))) (rowOf eLock (gd zLock (g :: G))) r ((G.length + 1 + (W.length + 1) + 1 : Nat) : Int) (W.length + 1 + 1) (W.length + 1 + 1) (G.length + 1) (G.length + 1) (G.length + 1) (G.length + 1) κ) e).trans ?_
          show _ = serve01_h3 k j B.length (gd zLock B) (rowOf (eI .u64) (gd 0 (txs (g :: G)))) (rowOf eLock (gd zLock (g :: G))) (rowOf eLock (gd zLock (w :: (W ++ [x])))) ((G.length + 1 + ((W ++ [x]).length + 1) : Nat) : Int) ((W ++ [x]).length + 1) ((W ++ [x]).length + 1) (G.length + 1) (G.length + 1) (G.length + 1) (G.length + 1) κ
          rw [List.length_append]; rfl
  · cases G with
    | nil =>
      cases W with
      | nil => simp at hi; omega
      | cons w W =>
        simp only [List.length_cons, List.length_nil] at hi
        simp only [hd01]
        rw [serve01_h1_s, dec_f (by omega), cond_false]; rfl
    | cons g G =>
      cases W with
      | nil =>
        simp only [List.length_cons, List.length_nil] at hi
        simp only [hd01]
        rw [serve01_h2_s, dec_f (by omega), cond_false]; rfl
      | cons w W =>
        simp only [List.length_cons] at hi
        simp only [hd01]
        rw [serve01_h3_s, dec_f (by omega), cond_false]; rfl
end Go.Proofs.YticcbbcgboddpaaC

set_option linter.unusedVariables false
set_option linter.unusedSimpArgs false
set_option maxRecDepth 20000
namespace Go.Proofs.YticcbbcgboddpaaC
open Go Go.Ev Go.Proofs
variable {ρ : Type}
abbrev lsl (L : List TLock) : Sl TLock := ⟨L.length, gd zLock L, false⟩
/-- a table, those that are told, an error -/
def tabT (H W : List TLock) (T : List Int) (e : Int) : AV := .tup [.agg (eLocks ⟨lsl H, lsl W⟩), .sl 1 T.length (rowOf (eI .u64) (gd 0 T)) false, .int .i64 e]
def svT (A B : List TLock) : AV := tabT (A ++ (serveF A [] [] B).1) (serveF A [] [] B).2 (txs (serveF A [] [] B).1) 0
theorem zrowI (w : Nat → Int) : rowOf (eI .u64) (fun i => w (0 + i)) = rowOf (eI .u64) w := by
  congr 1; funext i; rw [Nat.zero_add]
theorem len_tx (L : List TLock) : (txs L).length = L.length := List.length_map ..
theorem lenA (A : List TLock) (g : TLock) (G : List TLock) : (A ++ g :: G).length = A.length + (G.length + 1) := by simp
theorem rel_ok (k : Nat) (s : TLocks) (tx : Int) (hc : checkB s = true) (hk : s.Held.n + s.Waits.n + 100 ≤ k) (κ : AV → Option ρ) :
    callP ctx k n_locks_Release [.agg (eLocks s), .int .u64 tx] κ = κ (svT (othL s.Held.l tx) (othL s.Waits.l tx)) := by
  have h200 : s.Held.n + s.Waits.n ≤ 200 := by
    unfold checkB at hc
    simp only [Bool.and_eq_true, decide_eq_true_eq] at hc
    exact hc.1
  obtain ⟨k, rfl⟩ : ∃ k', k = k' + 2 := ⟨k - 2, by omega⟩
  rw [callP_eq]
  refine (locks_Release_e (k + 1) s tx (pk κ)).trans ?_
  rw [locks_Check_ok (k + 1) s (by omega) (by omega) (by omega), locks_Release_r0_s]
  unfold checkE'
  rw [if_pos hc, dec_int, Bool.not_true, cond_false, kept_others_ok (k + 1) _ _ _ tx (by omega) (by omega)]
  have hA : (othL (lst s.Held.n s.Held.w) tx).length ≤ 200 := Nat.le_trans (List.length_filter_le ..) (by rw [lst_len]; omega)
  have hB : (othL (lst s.Waits.n s.Waits.w) tx).length ≤ 200 := Nat.le_trans (List.length_filter_le ..) (by rw [lst_len]; omega)
  have hAB : (othL (lst s.Held.n s.Held.w) tx).length + (othL (lst s.Waits.n s.Waits.w) tx).length ≤ s.Held.n + s.Waits.n := Nat.add_le_add (Nat.le_trans (List.length_filter_le ..) (by rw [lst_len]; omega)) (Nat.le_trans (List.length_filter_le ..) (by rw [lst_len]; omega))
  unfold Sl.l
  have kw := fun κ' : AV → Heap → Option ρ => kept_others_ok (k + 1) s.Waits.n s.Waits.w s.Waits.u tx (by omega) (by omega) κ'
  generalize othL (lst s.Held.n s.Held.w) tx = A at *
  generalize othL (lst s.Waits.n s.Waits.w) tx = B at *
  cases A with
  | nil =>
    refine (locks_Release_r1_s k s tx 0 (pk κ)).trans ?_
    rw [dec_int, cond_true, kw]
    cases B with
    | nil =>
      refine (locks_Release_r2_s (k + 1) s tx 0 (pk κ)).trans ?_
      rw [dec_int, cond_true, serve00_e, show (k : Nat) = (k - 1) + 1 by omega, serve00_h0_s]
      exact locks_Release_r4_s _ s tx 0 (pk κ)
    | cons b B =>
      refine (locks_Release_r2_s1 (k + 1) s tx 0 (B.length + 1) (gd zLock (b :: B)) (pk κ)).trans ?_
      rw [dec_int, cond_true]
      simp only [List.length_cons] at hB
      refine (serve01_ok (k + 1) (b :: B) (by simp only [List.length_cons]; omega) (by simp) (by simp only [List.length_cons, List.length_nil] at hAB ⊢; omega) _).trans ?_
      unfold svT
      generalize serveF [] [] [] (b :: B) = S
      obtain ⟨G, W⟩ := S
      unfold tabT
      rw [List.nil_append]
      cases G with
      | nil =>
        cases W with
        | nil => exact locks_Release_r5_s (k + 1) s tx 0 (B.length + 1) (gd zLock (b :: B)) (pk κ)
        | cons w W =>
          refine (locks_Release_r5_s1 (k + 1) s tx 0 (B.length + 1) (gd zLock (b :: B)) (W.length + 1) (gd zLock (w :: W)) (pk κ)).trans ?_
          show κ (.tup [.agg [.sl 5 0 (rowOf eLock (fun _ => zLock)) false, .sl 5 (W.length + 1) (rowOf eLock fun i => gd zLock (w :: W) (0 + i)) false], .sl 1 0 (rowOf (eI .u64) fun _ => 0) false, .int .i64 0]) = _
          rw [zrow]; rfl
      | cons g G =>
        cases W with
        | nil =>
          refine (locks_Release_r5_s2 (k + 1) s tx 0 (B.length + 1) (gd zLock (b :: B)) (G.length + 1) (gd 0 (txs (g :: G))) (G.length + 1) (gd zLock (g :: G)) (pk κ)).trans ?_
          show κ (.tup [.agg [.sl 5 (G.length + 1) (rowOf eLock fun i => gd zLock (g :: G) (0 + i)) false, .sl 5 0 (rowOf eLock (fun _ => zLock)) false], .sl 1 (G.length + 1) (rowOf (eI .u64) fun i => gd 0 (txs (g :: G)) (0 + i)) false, .int .i64 0]) = _
          rw [zrow, zrowI, len_tx]; rfl
        | cons w W =>
          refine (locks_Release_r5_s3 (k + 1) s tx 0 (B.length + 1) (gd zLock (b :: B)) (G.length + 1) (gd 0 (txs (g :: G))) (G.length + 1) (gd zLock (g :: G)) (W.length + 1) (gd zLock (w :: W)) (pk κ)).trans ?_
          show κ (.tup [.agg [.sl 5 (G.length + 1) (rowOf eLock fun i => gd zLock (g :: G) (0 + i)) false, .sl 5 (W.length + 1) (rowOf eLock fun i => gd zLock (w :: W) (0 + i)) false], .sl 1 (G.length + 1) (rowOf (eI .u64) fun i => gd 0 (txs (g :: G)) (0 + i)) false, .int .i64 0]) = _
          rw [zrow, zrow, zrowI, len_tx]; rfl
  | cons a A =>
    refine (locks_Release_r1_s1 k s tx 0 (A.length + 1) (gd zLock (a :: A)) (pk κ)).trans ?_
    rw [dec_int, cond_true, kw]
    cases B with
    | nil =>
      refine (locks_Release_r3_s (k + 1) s tx 0 (A.length + 1) (gd zLock (a :: A)) (pk κ)).trans ?_
      rw [dec_int, cond_true, serve10_e, show (k : Nat) = (k - 1) + 1 by omega, serve10_h0_s]
      refine (locks_Release_r6_s _ s tx 0 (A.length + 1) (gd zLock (a :: A)) (pk κ)).trans ?_
      show κ (.tup [.agg [.sl 5 (A.length + 1) (rowOf eLock fun i => gd zLock (a :: A) (0 + i)) false, .sl 5 0 (rowOf eLock (fun _ => zLock)) false], .sl 1 0 (rowOf (eI .u64) fun _ => 0) false, .int .i64 0]) = _
      rw [zrow]
      unfold svT serveF tabT
      rw [List.append_nil]; rfl
    | cons b B =>
      refine (locks_Release_r3_s1 (k + 1) s tx 0 (A.length + 1) (gd zLock (a :: A)) (B.length + 1) (gd zLock (b :: B)) (pk κ)).trans ?_
      rw [dec_int, cond_true]
      simp only [List.length_cons] at hB hA hAB
      refine (serve11_ok (k + 1) (gd zLock (a :: A)) (a :: A) (b :: B) (gd_lst zLock (a :: A)) (by simp only [List.length_cons]; omega) (by simp only [List.length_cons]; omega) (by simp) (by simp only [List.length_cons]; omega) _).trans ?_
      unfold svT
      generalize serveF (a :: A) [] [] (b :: B) = S
      obtain ⟨G, W⟩ := S
      unfold tabT
      cases G with
      | nil =>
        rw [List.append_nil]
        cases W with
        | nil =>
          refine (locks_Release_r7_s (k + 1) s tx 0 (A.length + 1) (gd zLock (a :: A)) (B.length + 1) (gd zLock (b :: B)) (pk κ)).trans ?_
          show κ (.tup [.agg [.sl 5 (A.length + 1) (rowOf eLock fun i => gd zLock (a :: A) (0 + i)) false, .sl 5 0 (rowOf eLock (fun _ => zLock)) false], .sl 1 0 (rowOf (eI .u64) fun _ => 0) false, .int .i64 0]) = _
          rw [zrow]; rfl
        | cons w W =>
          refine (locks_Release_r7_s1 (k + 1) s tx 0 (A.length + 1) (gd zLock (a :: A)) (B.length + 1) (gd zLock (b :: B)) (W.length + 1) (gd zLock (w :: W)) (pk κ)).trans ?_
          show κ (.tup [.agg [.sl 5 (A.length + 1) (rowOf eLock fun i => gd zLock (a :: A) (0 + i)) false, .sl 5 (W.length + 1) (rowOf eLock fun i => gd zLock (w :: W) (0 + i)) false], .sl 1 0 (rowOf (eI .u64) fun _ => 0) false, .int .i64 0]) = _
          rw [zrow, zrow]; rfl
      | cons g G =>
        have el : (a :: A).length + (G.length + 1) = (a :: A ++ g :: G).length := (lenA (a :: A) g G).symm
        cases W with
        | nil =>
          refine (locks_Release_r7_s2 (k + 1) s tx 0 (A.length + 1) (gd zLock (a :: A)) (B.length + 1) (gd zLock (b :: B)) (G.length + 1) (gd 0 (txs (g :: G))) ((a :: A).length + (G.length + 1)) (gd zLock (a :: A ++ g :: G)) (pk κ)).trans ?_
          show κ (.tup [.agg [.sl 5 ((a :: A).length + (G.length + 1)) (rowOf eLock fun i => gd zLock (a :: A ++ g :: G) (0 + i)) false, .sl 5 0 (rowOf eLock (fun _ => zLock)) false], .sl 1 (G.length + 1) (rowOf (eI .u64) fun i => gd 0 (txs (g :: G)) (0 + i)) false, .int .i64 0]) = _
          rw [zrow, zrowI, len_tx, el]; rfl
        | cons w W =>
          refine (locks_Release_r7_s3 (k + 1) s tx 0 (A.length + 1) (gd zLock (a :: A)) (B.length + 1) (gd zLock (b :: B)) (G.length + 1) (gd 0 (txs (g :: G))) ((a :: A).length + (G.length + 1)) (gd zLock (a :: A ++ g :: G)) (W.length + 1) (gd zLock (w :: W)) (pk κ)).trans ?_
          show κ (.tup [.agg [.sl 5 ((a :: A).length + (G.length + 1)) (rowOf eLock fun i => gd zLock (a :: A ++ g :: G) (0 + i)) false, .sl 5 (W.length + 1) (rowOf eLock fun i => gd zLock (w :: W) (0 + i)) false], .sl 1 (G.length + 1) (rowOf (eI .u64) fun i => gd 0 (txs (g :: G)) (0 + i)) false, .int .i64 0]) = _
          rw [zrow, zrow, zrowI, len_tx, el]; rfl
theorem rel_bad (k : Nat) (s : TLocks) (tx : Int) (hn : s.Held.n ≤ 10000) (hm : s.Waits.n ≤ 10000) (hc : checkB s = false) (hk : s.Held.n + s.Waits.n + 100 ≤ k) (κ : AV → Option ρ) :
    callP ctx k n_locks_Release [.agg (eLocks s), .int .u64 tx] κ = κ (tabT [] [] [] 220) := by
  obtain ⟨k, rfl⟩ : ∃ k', k = k' + 2 := ⟨k - 2, by omega⟩
  rw [callP_eq]
  refine (locks_Release_e (k + 1) s tx (pk κ)).trans ?_
  rw [locks_Check_ok (k + 1) s hn hm (by omega), locks_Release_r0_s]
  unfold checkE'
  rw [hc]; rfl
theorem wit_bad (k : Nat) (s : TLocks) (tx : Int) (hn : s.Held.n ≤ 10000) (hm : s.Waits.n ≤ 10000) (hc : checkB s = false) (hk : s.Held.n + s.Waits.n + 100 ≤ k) (κ : AV → Option ρ) :
    callP ctx k n_locks_Withdraw [.agg (eLocks s), .int .u64 tx] κ = κ (tabT [] [] [] 220) := by
  obtain ⟨k, rfl⟩ : ∃ k', k = k' + 2 := ⟨k - 2, by omega⟩
  rw [callP_eq]
  refine (locks_Withdraw_e (k + 1) s tx (pk κ)).trans ?_
  rw [locks_Check_ok (k + 1) s hn hm (by omega), locks_Withdraw_r0_s]
  unfold checkE'
  rw [hc]; rfl
end Go.Proofs.YticcbbcgboddpaaC

set_option linter.unusedVariables false
set_option linter.unusedSimpArgs false
set_option maxRecDepth 20000
namespace Go.Proofs.YticcbbcgboddpaaC
open Go Go.Ev Go.Proofs
variable {ρ : Type}
/-! ### a key's own range -/
theorem bL_succ : ∀ (x k : List UInt8), Op.bytesLess x (k ++ [0]) = !Op.bytesLess k x
  | [], [] => rfl
  | [], _ :: _ => rfl
  | a :: x, [] => by
    have h : ¬ a < 0 := by rw [UInt8.lt_iff_toNat_lt]; simp
    cases x with
    | nil => simp [Op.bytesLess, h]
    | cons b x => simp [Op.bytesLess, h]
  | a :: x, b :: k => by
    have ih := bL_succ x k
    simp only [List.cons_append, Op.bytesLess] at *
    rw [ih]
    by_cases h : a < b
    · have h2 : ¬ b < a := by rw [UInt8.lt_iff_toNat_lt] at *; omega
      have h3 : ¬ b = a := fun e => by subst e; rw [UInt8.lt_iff_toNat_lt] at h; omega
      simp [h, h2, h3]
    · by_cases he : a = b
      · subst he; simp
      · have h2 : b < a := by
          rw [UInt8.lt_iff_toNat_lt] at *
          have : a.toNat ≠ b.toNat := fun e => he (UInt8.toNat_inj.1 e)
          omega
        simp [h, he, h2]
theorem bl_succ (x k : ByteArray) : bl x (k ++ (⟨#[0]⟩ : ByteArray)) = !bl k x := by
  show Op.bytesLess x.toList (k ++ (⟨#[0]⟩ : ByteArray)).toList = !Op.bytesLess k.toList x.toList
  have e : (k ++ (⟨#[0]⟩ : ByteArray)).toList = k.toList ++ [0] := by
    rw [Go.ByteArray.toList_eq, Go.ByteArray.toList_eq, ByteArray.data_append, Array.toList_append]
  rw [e]
  exact bL_succ _ _
abbrev pointR (key : ByteArray) : TRange := ⟨key, key ++ (⟨#[0]⟩ : ByteArray), true⟩
theorem point_size (key : ByteArray) : (key ++ (⟨#[0]⟩ : ByteArray)).size = key.size + 1 := by rw [ByteArray.size_append]; rfl
theorem point_right {key : ByteArray} (h : key.size ≤ 512) : rRight (pointR key) = true := by
  unfold rRight
  simp only [point_size, bl_succ, bl_irrefl]
  rw [decide_eq_false (by omega), decide_eq_false (by omega)]; rfl
theorem point_has (key x : ByteArray) : hasB (pointR key) x = (!bl x key && !bl key x) := by
  unfold hasB
  simp only [bl_succ, Bool.not_true, Bool.false_or]
theorem point_eq {key x : ByteArray} (h : hasB (pointR key) x = true) : x = key := by
  rw [point_has, Bool.and_eq_true, Bool.not_eq_true', Bool.not_eq_true'] at h
  exact bl_tri h.1 h.2
theorem from_has {r : TRange} (h : rRight r = true) : hasB r r.From = true := by
  unfold rRight at h
  unfold hasB
  rw [bl_irrefl]
  cases he : r.End with
  | false => rfl
  | true =>
    rw [he] at h
    simp only [Bool.and_eq_true, cond_true] at h
    rw [h.2.2]; rfl
theorem point_meets {key : ByteArray} {r : TRange} (h : key.size ≤ 512) (hr : rRight r = true) : meetsB (pointR key) r = hasB r key := by
  unfold meetsB
  rw [point_right h, hr, Bool.true_and, Bool.true_and]
  cases hk : hasB r key with
  | true => rw [Bool.or_true]
  | false =>
    rw [Bool.or_false]
    cases hp : hasB (pointR key) r.From with
    | false => rfl
    | true =>
      have := point_eq hp
      rw [← this, from_has hr] at hk
      cases hk
theorem within_self {r : TRange} (h : rRight r = true) : withinB r r = true := by
  unfold withinB
  rw [h, bl_irrefl, bl_irrefl]
  cases r.End <;> rfl
theorem r03_Point_ok (k : Nat) (key : ByteArray) (h : key.size ≤ 512) (hk : 1 ≤ k) (κ : AV → Option ρ) : callP ctx k n_r03_Point [.str key] κ = κ (.agg (eRange (pointR key))) := by
  obtain ⟨k, rfl⟩ : ∃ k', k = k' + 1 := ⟨k - 1, by omega⟩
  rw [callP_eq, r03_Point_e, decide_eq_false (by omega), cond_false, decide_eq_true (by show key.size + 1 ≤ _; omega), cond_true]
  rfl
/-! ### tables as_ lists -/
def covL (H : List TLock) (a : TLock) : Bool := H.any fun h => coversB h a
def waitL (W : List TLock) (tx : Int) : Bool := W.any fun w => decide (w.Tx = tx)
theorem covL_eq (s : TLocks) (a : TLock) : coveredB s a = covL s.Held.l a := anyL s.Held.n s.Held.w fun h => coversB h a
theorem waitL_eq (s : TLocks) (tx : Int) : (anyN s.Waits.n fun i => decide ((s.Waits.w i).Tx = tx)) = waitL s.Waits.l tx := anyL s.Waits.n s.Waits.w fun w => decide (w.Tx = tx)
theorem okL_eq (s : TLocks) (a : TLock) : okB s a = grantsL a s.Held.l s.Waits.l := grants_lst a _ _ _ _
/-- a table that is right -/
structure Tab (H W : List TLock) : Prop where
  size : H.length + W.length ≤ 200
  held : ∀ i x, H[i]? = some x → mayB x = true ∧ grantsL x (H.take i) [] = true
  wait : ∀ i x, W[i]? = some x → mayB x = true ∧ waitL (W.take i) x.Tx = false ∧ grantsL x H (W.take i) = false
theorem lst_take {α : Type} (n i : Nat) (w : Nat → α) (h : i ≤ n) : (lst n w).take i = lst i w := by
  unfold lst
  rw [← List.map_take, List.take_range, Nat.min_eq_left h]
theorem lst_iff {α : Type} {n i : Nat} {w : Nat → α} {x : α} : (lst n w)[i]? = some x ↔ i < n ∧ w i = x := by
  unfold lst
  by_cases h : i < n
  · simp [h]
  · simp [h]
theorem check_tab (s : TLocks) : checkB s = true ↔ Tab s.Held.l s.Waits.l := by
  unfold checkB
  rw [Bool.and_eq_true, Bool.and_eq_true, decide_eq_true_eq, allN_true, allN_true]
  have hn : s.Held.l.length = s.Held.n := lst_len _ _
  have hm : s.Waits.l.length = s.Waits.n := lst_len _ _
  constructor
  · rintro ⟨h1, h2, h3⟩
    refine ⟨by omega, fun i x hx => ?_, fun i x hx => ?_⟩
    · obtain ⟨hi, rfl⟩ := lst_iff.1 hx
      have h := h2 i hi
      unfold heldP at h
      rw [Bool.and_eq_true, grants_lst] at h
      rw [show s.Held.l.take i = lst i s.Held.w from lst_take _ _ _ (by omega)]
      exact h
    · obtain ⟨hi, rfl⟩ := lst_iff.1 hx
      have h := h3 i hi
      unfold waitP at h
      rw [Bool.and_eq_true, Bool.and_eq_true, grants_lst, Bool.not_eq_true', Bool.not_eq_true', anyL i s.Waits.w fun w => decide (w.Tx = (s.Waits.w i).Tx)] at h
      rw [show s.Waits.l.take i = lst i s.Waits.w from lst_take _ _ _ (by omega)]
      exact h
  · rintro ⟨h1, h2, h3⟩
    refine ⟨by omega, fun i hi => ?_, fun i hi => ?_⟩
    · have h := h2 i (s.Held.w i) (lst_iff.2 ⟨hi, rfl⟩)
      rw [show s.Held.l.take i = lst i s.Held.w from lst_take _ _ _ (by omega)] at h
      unfold heldP
      rw [Bool.and_eq_true, grants_lst]
      exact h
    · have h := h3 i (s.Waits.w i) (lst_iff.2 ⟨hi, rfl⟩)
      rw [show s.Waits.l.take i = lst i s.Waits.w from lst_take _ _ _ (by omega)] at h
      unfold waitP
      rw [Bool.and_eq_true, Bool.and_eq_true, grants_lst, Bool.not_eq_true', Bool.not_eq_true', anyL i s.Waits.w fun w => decide (w.Tx = (s.Waits.w i).Tx)]
      exact h
theorem tab_nil : Tab [] [] := ⟨by simp, fun i x h => by simp at h, fun i x h => by simp at h⟩
theorem tab_one {a : TLock} (h : mayB a = true) : Tab [a] [] := by
  refine ⟨by simp, fun i x hx => ?_, fun i x h => by simp at h⟩
  cases i with
  | zero => simp at hx; subst hx; exact ⟨h, rfl⟩
  | succ i => simp at hx
theorem drop_lst {α : Type} (n i : Nat) (w : Nat → α) (h : i < n) : (lst n w).drop i = w i :: (lst n w).drop (i + 1) := by
  rw [List.drop_eq_getElem_cons (by rw [lst_len]; exact h), lst_get]
theorem drop_end {α : Type} (n : Nat) (w : Nat → α) : (lst n w).drop n = [] := List.drop_eq_nil_of_le (by rw [lst_len]; exact Nat.le_refl _)
def conflB (a b : TLock) : Bool := mayB a && (mayB b && againstB a b)
end Go.Proofs.YticcbbcgboddpaaC

set_option linter.unusedVariables false
set_option maxRecDepth 20000
namespace Go.Proofs.YticcbbcgboddpaaC
open Go Go.Ev Go.Proofs
variable {ρ : Type}
noncomputable def r22_May_r0 (k : Nat) (o : TLock) (κ : AV → Heap → Option ρ) (v : AV) : Option ρ := resAt ctx k n_r22_May 0 [.r, .l] 6 [(6, true)] ⟨(envOf 11 [(0, .agg (eLock o)), (1, .ref 0 0), (2, .bool false), (3, .ref 0 0), (4, .int .u64 o.Tx), (5, .bool (decide (0 < o.Tx))), (6, .bool (decide (0 < o.Tx))), (7, .ref 0 1), (8, .agg (eRange o.R)), (9, v)]), [some (.box (eLock o))]⟩ κ
theorem r22_May_r0_s (k : Nat) (o : TLock) (r0 : Bool) (κ : AV → Heap → Option ρ) : r22_May_r0 k o κ (.bool r0) =
  κ (.bool r0) [] := by kernel_rfl
theorem r22_May_e (k : Nat) (o : TLock) (κ : AV → Heap → Option ρ) : evalF ctx (k + 1) n_r22_May [.agg (eLock o)] [] κ =
  (bif decide (0 < o.Tx) then
   callP ctx k n_r03_Right [.agg (eRange o.R)] (r22_May_r0 k o κ)
  else κ (.bool false) []) := by kernel_rfl
noncomputable def r22_Against_r0 (k : Nat) (a : TLock) (b : TLock) (κ : AV → Heap → Option ρ) (v : AV) : Option ρ := resAt ctx k n_r22_Against 0 [.r, .l] 10 [(10, true)] ⟨(envOf 25 [(2, .ref 0 0), (3, .ref 1 0), (5, .ref 0 0), (6, .int .u64 a.Tx), (7, .ref 1 0), (8, .int .u64 b.Tx), (9, .bool (!decide (a.Tx = b.Tx))), (10, .bool (!decide (a.Tx = b.Tx))), (11, .ref 0 1), (12, .agg (eRange a.R)), (13, .ref 1 1), (14, .agg (eRange b.R)), (15, v)]), [some (.box (eLock a)), some (.box (eLock b))]⟩ κ
theorem r22_Against_r0_s (k : Nat) (a : TLock) (b : TLock) (r0 : Bool) (κ : AV → Heap → Option ρ) : r22_Against_r0 k a b κ (.bool r0) =
  (bif r0 then
   (bif a.X then
    κ (.bool true) []
   else κ (.bool b.X) [])
  else κ (.bool false) []) := by kernel_rfl
theorem r22_Against_e (k : Nat) (a : TLock) (b : TLock) (κ : AV → Heap → Option ρ) : evalF ctx (k + 1) n_r22_Against [.agg (eLock a), .agg (eLock b)] [] κ =
  (bif !decide (a.Tx = b.Tx) then
   callP ctx k n_r03_Meets [.agg (eRange a.R), .agg (eRange b.R)] (r22_Against_r0 k a b κ)
  else κ (.bool false) []) := by kernel_rfl
noncomputable def r22_Conflict_r0 (k : Nat) (a : TLock) (b : TLock) (κ : AV → Heap → Option ρ) (v : AV) : Option ρ := resAt ctx k n_r22_Conflict 0 [.r, .l] 1 [] ⟨(envOf 16 [(2, .ref 0 0), (3, .ref 1 0), (5, .agg (eLock a)), (6, v)]), [some (.box (eLock a)), some (.box (eLock b))]⟩ κ
noncomputable def r22_Conflict_r1 (k : Nat) (a : TLock) (b : TLock) (r0 : Bool) (κ : AV → Heap → Option ρ) (v : AV) : Option ρ := resAt ctx k n_r22_Conflict 0 [.r, .l] 4 [(7, true)] ⟨(envOf 16 [(2, .ref 0 0), (3, .ref 1 0), (5, .agg (eLock a)), (6, .bool r0), (7, .bool r0), (8, .agg (eLock b)), (9, v)]), [some (.box (eLock a)), some (.box (eLock b))]⟩ κ
noncomputable def r22_Conflict_r2 (k : Nat) (a : TLock) (b : TLock) (r0 : Bool) (r1 : Bool) (κ : AV → Heap → Option ρ) (v : AV) : Option ρ := resAt ctx k n_r22_Conflict 0 [.r, .l] 9 [(11, true), (7, true)] ⟨(envOf 16 [(2, .ref 0 0), (3, .ref 1 0), (5, .agg (eLock a)), (6, .bool r0), (7, .bool r0), (8, .agg (eLock b)), (9, .bool r1), (10, .bool r1), (11, .bool r1), (12, .agg (eLock a)), (13, .agg (eLock b)), (14, v)]), [some (.box (eLock a)), some (.box (eLock b))]⟩ κ
theorem r22_Conflict_r0_s (k : Nat) (a : TLock) (b : TLock) (r0 : Bool) (κ : AV → Heap → Option ρ) : r22_Conflict_r0 k a b κ (.bool r0) =
  (bif r0 then
   callP ctx k n_r22_May [.agg (eLock b)] (r22_Conflict_r1 k a b r0 κ)
  else κ (.bool false) []) := by kernel_rfl
theorem r22_Conflict_r1_s (k : Nat) (a : TLock) (b : TLock) (r0 : Bool) (r1 : Bool) (κ : AV → Heap → Option ρ) : r22_Conflict_r1 k a b r0 κ (.bool r1) =
  (bif r1 then
   callP ctx k n_r22_Against [.agg (eLock a), .agg (eLock b)] (r22_Conflict_r2 k a b r0 r1 κ)
  else κ (.bool false) []) := by kernel_rfl
theorem r22_Conflict_r2_s (k : Nat) (a : TLock) (b : TLock) (r0 : Bool) (r1 : Bool) (r2 : Bool) (κ : AV → Heap → Option ρ) : r22_Conflict_r2 k a b r0 r1 κ (.bool r2) =
  κ (.bool r2) [] := by kernel_rfl
theorem r22_Conflict_e (k : Nat) (a : TLock) (b : TLock) (κ : AV → Heap → Option ρ) : evalF ctx (k + 1) n_r22_Conflict [.agg (eLock a), .agg (eLock b)] [] κ =
  callP ctx k n_r22_May [.agg (eLock a)] (r22_Conflict_r0 k a b κ) := by kernel_rfl
noncomputable def r22_any_h0 (k j : Nat) (o : TLock) (l : (Sl TLock)) (x5 : Int) (κ : AV → Heap → Option ρ) : Option ρ := headAt ctx k n_r22_any 0 [.r, .l, .r] j ⟨(envOf 18 [(1, .sl 5 l.n (rowOf eLock l.w) l.u), (2, .ref 0 0), (5, .int .i64 x5)]), [some (.box (eLock o))]⟩ κ
noncomputable def r22_any_r0 (k j1 : Nat) (o : TLock) (l : (Sl TLock)) (x5 : Int) (κ : AV → Heap → Option ρ) (v : AV) : Option ρ := resAt ctx k n_r22_any 0 [.r, .l, .r, .into j1, .r, .l, .l] 5 [] ⟨(envOf 18 [(1, .sl 5 l.n (rowOf eLock l.w) l.u), (2, .ref 0 0), (5, .int .i64 x5), (9, .bool (decide (x5 < (l.n : Int)))), (12, .agg (eLock o)), (13, .sl 5 l.n (rowOf eLock l.w) l.u), (14, .int .i64 x5), (15, .rref [.int .u64 ((l.w ((x5).toNat)).Tx), .str (((l.w ((x5).toNat)).R).From), .str (((l.w ((x5).toNat)).R).To), .bool (((l.w ((x5).toNat)).R).End), .bool ((l.w ((x5).toNat)).X)] 0), (16, .agg (eLock ⟨((l.w ((x5).toNat)).Tx), ⟨(((l.w ((x5).toNat)).R).From), (((l.w ((x5).toNat)).R).To), (((l.w ((x5).toNat)).R).End)⟩, ((l.w ((x5).toNat)).X)⟩)), (17, v)]), [some (.box (eLock o))]⟩ κ
theorem r22_any_h0_s (k j : Nat) (o : TLock) (l : (Sl TLock)) (x5 : Int) (κ : AV → Heap → Option ρ) : r22_any_h0 k (j + 1) o l x5 κ =
  (bif decide (x5 < (l.n : Int)) then
   (bif idxOK x5 l.n then
    callP ctx k n_r22_Against [.agg (eLock o), .agg (eLock ⟨((l.w ((x5).toNat)).Tx), ⟨(((l.w ((x5).toNat)).R).From), (((l.w ((x5).toNat)).R).To), (((l.w ((x5).toNat)).R).End)⟩, ((l.w ((x5).toNat)).X)⟩)] (r22_any_r0 k j o l x5 κ)
   else none)
  else κ (.bool false) [some (.box (eLock o))]) := by kernel_rfl
theorem r22_any_r0_s (k j1 : Nat) (o : TLock) (l : (Sl TLock)) (x5 : Int) (r0 : Bool) (κ : AV → Heap → Option ρ) : r22_any_r0 k j1 o l x5 κ (.bool r0) =
  (bif r0 then
   κ (.bool true) [some (.box (eLock o))]
  else r22_any_h0 k j1 o l (wi64 (x5 + 1)) κ) := by kernel_rfl
theorem r22_any_e (k : Nat) (o : TLock) (l : (Sl TLock)) (κ : AV → Heap → Option ρ) : evalF ctx (k + 1) n_r22_any [.agg (eLock o), .sl 5 l.n (rowOf eLock l.w) l.u] [] κ =
  r22_any_h0 k k o l 0 κ := by kernel_rfl
noncomputable def r22_Check_h0 (k j : Nat) (l : TLocks) (x3 : Int) (κ : AV → Heap → Option ρ) : Option ρ := headAt ctx k n_r22_Check 0 [.r, .r, .l, .r] j ⟨(envOf 86 [(1, .ref 0 0), (3, .int .i64 x3)]), [some (.box [.sl 5 l.Held.n (rowOf eLock l.Held.w) l.Held.u, .sl 5 l.Waits.n (rowOf eLock l.Waits.w) l.Waits.u])]⟩ κ
noncomputable def r22_Check_h1 (k j : Nat) (l : TLocks) (x4 : Int) (κ : AV → Heap → Option ρ) : Option ρ := headAt ctx k n_r22_Check 0 [.r, .r, .r, .l, .r] j ⟨(envOf 86 [(1, .ref 0 0), (4, .int .i64 x4)]), [some (.box [.sl 5 l.Held.n (rowOf eLock l.Held.w) l.Held.u, .sl 5 l.Waits.n (rowOf eLock l.Waits.w) l.Waits.u])]⟩ κ
noncomputable def r22_Check_h2 (k j1 j : Nat) (l : TLocks) (x4 : Int) (b1_0 : Int) (b1_1 : ByteArray) (b1_2 : ByteArray) (b1_3 : Bool) (b1_4 : Bool) (x6 : Int) (κ : AV → Heap → Option ρ) : Option ρ := headAt ctx k n_r22_Check 0 [.r, .r, .r, .l, .r, .into j1, .r, .l, .r, .r, .r] j ⟨(envOf 86 [(1, .ref 0 0), (4, .int .i64 x4), (5, .ref 1 0), (6, .int .i64 x6)]), [some (.box [.sl 5 l.Held.n (rowOf eLock l.Held.w) l.Held.u, .sl 5 l.Waits.n (rowOf eLock l.Waits.w) l.Waits.u]), some (.box (eLock ⟨b1_0, ⟨b1_1, b1_2, b1_3⟩, b1_4⟩))]⟩ κ
noncomputable def r22_Check_r0 (k j1 : Nat) (l : TLocks) (x3 : Int) (κ : AV → Heap → Option ρ) (v : AV) : Option ρ := resAt ctx k n_r22_Check 0 [.r, .r, .l, .r, .into j1, .r, .l, .l] 5 [] ⟨(envOf 86 [(1, .ref 0 0), (3, .int .i64 x3), (19, .bool (decide (x3 < (l.Held.n : Int)))), (22, .ref 0 0), (23, .sl 5 l.Held.n (rowOf eLock l.Held.w) l.Held.u), (24, .int .i64 x3), (25, .rref [.int .u64 ((l.Held.w ((x3).toNat)).Tx), .str (((l.Held.w ((x3).toNat)).R).From), .str (((l.Held.w ((x3).toNat)).R).To), .bool (((l.Held.w ((x3).toNat)).R).End), .bool ((l.Held.w ((x3).toNat)).X)] 0), (26, .agg (eLock ⟨((l.Held.w ((x3).toNat)).Tx), ⟨(((l.Held.w ((x3).toNat)).R).From), (((l.Held.w ((x3).toNat)).R).To), (((l.Held.w ((x3).toNat)).R).End)⟩, ((l.Held.w ((x3).toNat)).X)⟩)), (27, v)]), [some (.box [.sl 5 l.Held.n (rowOf eLock l.Held.w) l.Held.u, .sl 5 l.Waits.n (rowOf eLock l.Waits.w) l.Waits.u])]⟩ κ
noncomputable def r22_Check_r1 (k j1 : Nat) (l : TLocks) (x4 : Int) (κ : AV → Heap → Option ρ) (v : AV) : Option ρ := resAt ctx k n_r22_Check 0 [.r, .r, .r, .l, .r, .into j1, .r, .l, .r, .l, .l] 1 [] ⟨(envOf 86 [(1, .ref 0 0), (4, .int .i64 x4), (5, .ref 1 0), (53, .agg (eLock ⟨((l.Waits.w ((x4).toNat)).Tx), ⟨(((l.Waits.w ((x4).toNat)).R).From), (((l.Waits.w ((x4).toNat)).R).To), (((l.Waits.w ((x4).toNat)).R).End)⟩, ((l.Waits.w ((x4).toNat)).X)⟩)), (54, v)]), [some (.box [.sl 5 l.Held.n (rowOf eLock l.Held.w) l.Held.u, .sl 5 l.Waits.n (rowOf eLock l.Waits.w) l.Waits.u]), some (.box (eLock ⟨((l.Waits.w ((x4).toNat)).Tx), ⟨(((l.Waits.w ((x4).toNat)).R).From), (((l.Waits.w ((x4).toNat)).R).To), (((l.Waits.w ((x4).toNat)).R).End)⟩, ((l.Waits.w ((x4).toNat)).X)⟩))]⟩ κ
noncomputable def r22_Check_r2 (k j1 : Nat) (l : TLocks) (r0 : Bool) (x3 : Int) (κ : AV → Heap → Option ρ) (v : AV) : Option ρ := resAt ctx k n_r22_Check 0 [.r, .r, .l, .r, .into j1, .r, .l, .l] 17 [(29, false)] ⟨(envOf 86 [(1, .ref 0 0), (3, .int .i64 x3), (19, .bool (decide (x3 < (l.Held.n : Int)))), (22, .ref 0 0), (23, .sl 5 l.Held.n (rowOf eLock l.Held.w) l.Held.u), (24, .int .i64 x3), (25, .rref [.int .u64 ((l.Held.w ((x3).toNat)).Tx), .str (((l.Held.w ((x3).toNat)).R).From), .str (((l.Held.w ((x3).toNat)).R).To), .bool (((l.Held.w ((x3).toNat)).R).End), .bool ((l.Held.w ((x3).toNat)).X)] 0), (26, .agg (eLock ⟨((l.Held.w ((x3).toNat)).Tx), ⟨(((l.Held.w ((x3).toNat)).R).From), (((l.Held.w ((x3).toNat)).R).To), (((l.Held.w ((x3).toNat)).R).End)⟩, ((l.Held.w ((x3).toNat)).X)⟩)), (27, .bool r0), (28, .bool (!r0)), (29, .bool (!r0)), (30, .ref 0 0), (31, .sl 5 l.Held.n (rowOf eLock l.Held.w) l.Held.u), (32, .int .i64 x3), (33, .rref [.int .u64 ((l.Held.w ((x3).toNat)).Tx), .str (((l.Held.w ((x3).toNat)).R).From), .str (((l.Held.w ((x3).toNat)).R).To), .bool (((l.Held.w ((x3).toNat)).R).End), .bool ((l.Held.w ((x3).toNat)).X)] 0), (34, .agg (eLock ⟨((l.Held.w ((x3).toNat)).Tx), ⟨(((l.Held.w ((x3).toNat)).R).From), (((l.Held.w ((x3).toNat)).R).To), (((l.Held.w ((x3).toNat)).R).End)⟩, ((l.Held.w ((x3).toNat)).X)⟩)), (35, .ref 0 0), (36, .sl 5 l.Held.n (rowOf eLock l.Held.w) l.Held.u), (37, .int .i64 x3), (38, .sl 5 ((x3).toNat) (rowOf eLock (fun i => l.Held.w (0 + i))) (l.Held.u && (decide (x3 = (l.Held.n : Int))))), (39, v)]), [some (.box [.sl 5 l.Held.n (rowOf eLock l.Held.w) l.Held.u, .sl 5 l.Waits.n (rowOf eLock l.Waits.w) l.Waits.u])]⟩ κ
noncomputable def r22_Check_r3 (k j1 : Nat) (l : TLocks) (r1 : Bool) (x4 : Int) (κ : AV → Heap → Option ρ) (v : AV) : Option ρ := resAt ctx k n_r22_Check 0 [.r, .r, .r, .l, .r, .into j1, .r, .l, .r, .l, .l] 7 [(56, false)] ⟨(envOf 86 [(1, .ref 0 0), (4, .int .i64 x4), (5, .ref 1 0), (53, .agg (eLock ⟨((l.Waits.w ((x4).toNat)).Tx), ⟨(((l.Waits.w ((x4).toNat)).R).From), (((l.Waits.w ((x4).toNat)).R).To), (((l.Waits.w ((x4).toNat)).R).End)⟩, ((l.Waits.w ((x4).toNat)).X)⟩)), (54, .bool r1), (55, .bool (!r1)), (56, .bool (!r1)), (57, .agg (eLock ⟨((l.Waits.w ((x4).toNat)).Tx), ⟨(((l.Waits.w ((x4).toNat)).R).From), (((l.Waits.w ((x4).toNat)).R).To), (((l.Waits.w ((x4).toNat)).R).End)⟩, ((l.Waits.w ((x4).toNat)).X)⟩)), (58, .ref 0 0), (59, .sl 5 l.Held.n (rowOf eLock l.Held.w) l.Held.u), (60, v)]), [some (.box [.sl 5 l.Held.n (rowOf eLock l.Held.w) l.Held.u, .sl 5 l.Waits.n (rowOf eLock l.Waits.w) l.Waits.u]), some (.box (eLock ⟨((l.Waits.w ((x4).toNat)).Tx), ⟨(((l.Waits.w ((x4).toNat)).R).From), (((l.Waits.w ((x4).toNat)).R).To), (((l.Waits.w ((x4).toNat)).R).End)⟩, ((l.Waits.w ((x4).toNat)).X)⟩))]⟩ κ
noncomputable def r22_Check_r4 (k j1 : Nat) (l : TLocks) (r1 : Bool) (r3 : Bool) (x4 : Int) (κ : AV → Heap → Option ρ) (v : AV) : Option ρ := resAt ctx k n_r22_Check 0 [.r, .r, .r, .l, .r, .into j1, .r, .l, .r, .l, .l] 15 [(62, true), (56, false)] ⟨(envOf 86 [(1, .ref 0 0), (4, .int .i64 x4), (5, .ref 1 0), (53, .agg (eLock ⟨((l.Waits.w ((x4).toNat)).Tx), ⟨(((l.Waits.w ((x4).toNat)).R).From), (((l.Waits.w ((x4).toNat)).R).To), (((l.Waits.w ((x4).toNat)).R).End)⟩, ((l.Waits.w ((x4).toNat)).X)⟩)), (54, .bool r1), (55, .bool (!r1)), (56, .bool (!r1)), (57, .agg (eLock ⟨((l.Waits.w ((x4).toNat)).Tx), ⟨(((l.Waits.w ((x4).toNat)).R).From), (((l.Waits.w ((x4).toNat)).R).To), (((l.Waits.w ((x4).toNat)).R).End)⟩, ((l.Waits.w ((x4).toNat)).X)⟩)), (58, .ref 0 0), (59, .sl 5 l.Held.n (rowOf eLock l.Held.w) l.Held.u), (60, .bool r3), (61, .bool (!r3)), (62, .bool (!r3)), (63, .agg (eLock ⟨((l.Waits.w ((x4).toNat)).Tx), ⟨(((l.Waits.w ((x4).toNat)).R).From), (((l.Waits.w ((x4).toNat)).R).To), (((l.Waits.w ((x4).toNat)).R).End)⟩, ((l.Waits.w ((x4).toNat)).X)⟩)), (64, .ref 0 1), (65, .sl 5 l.Waits.n (rowOf eLock l.Waits.w) l.Waits.u), (66, .int .i64 x4), (67, .sl 5 ((x4).toNat) (rowOf eLock (fun i => l.Waits.w (0 + i))) (l.Waits.u && (decide (x4 = (l.Waits.n : Int))))), (68, v)]), [some (.box [.sl 5 l.Held.n (rowOf eLock l.Held.w) l.Held.u, .sl 5 l.Waits.n (rowOf eLock l.Waits.w) l.Waits.u]), some (.box (eLock ⟨((l.Waits.w ((x4).toNat)).Tx), ⟨(((l.Waits.w ((x4).toNat)).R).From), (((l.Waits.w ((x4).toNat)).R).To), (((l.Waits.w ((x4).toNat)).R).End)⟩, ((l.Waits.w ((x4).toNat)).X)⟩))]⟩ κ
theorem r22_Check_h0_s (k j : Nat) (l : TLocks) (x3 : Int) (κ : AV → Heap → Option ρ) : r22_Check_h0 k (j + 1) l x3 κ =
  (bif decide (x3 < (l.Held.n : Int)) then
   (bif idxOK x3 l.Held.n then
    callP ctx k n_r22_May [.agg (eLock ⟨((l.Held.w ((x3).toNat)).Tx), ⟨(((l.Held.w ((x3).toNat)).R).From), (((l.Held.w ((x3).toNat)).R).To), (((l.Held.w ((x3).toNat)).R).End)⟩, ((l.Held.w ((x3).toNat)).X)⟩)] (r22_Check_r0 k j l x3 κ)
   else none)
  else r22_Check_h1 k k l 0 κ) := by kernel_rfl
theorem r22_Check_h1_s (k j : Nat) (l : TLocks) (x4 : Int) (κ : AV → Heap → Option ρ) : r22_Check_h1 k (j + 1) l x4 κ =
  (bif decide (x4 < (l.Waits.n : Int)) then
   (bif idxOK x4 l.Waits.n then
    callP ctx k n_r22_May [.agg (eLock ⟨((l.Waits.w ((x4).toNat)).Tx), ⟨(((l.Waits.w ((x4).toNat)).R).From), (((l.Waits.w ((x4).toNat)).R).To), (((l.Waits.w ((x4).toNat)).R).End)⟩, ((l.Waits.w ((x4).toNat)).X)⟩)] (r22_Check_r1 k j l x4 κ)
   else none)
  else κ (.int .i64 0) [some (.box [.sl 5 l.Held.n (rowOf eLock l.Held.w) l.Held.u, .sl 5 l.Waits.n (rowOf eLock l.Waits.w) l.Waits.u])]) := by kernel_rfl
theorem r22_Check_h2_s (k j1 j : Nat) (l : TLocks) (x4 : Int) (b1_0 : Int) (b1_1 : ByteArray) (b1_2 : ByteArray) (b1_3 : Bool) (b1_4 : Bool) (x6 : Int) (κ : AV → Heap → Option ρ) : r22_Check_h2 k j1 (j + 1) l x4 b1_0 b1_1 b1_2 b1_3 b1_4 x6 κ =
  (bif decide (x6 < x4) then
   (bif idxOK x6 l.Waits.n then
    (bif decide (((l.Waits.w ((x6).toNat)).Tx) = b1_0) then
     κ (.int .i64 220) [some (.box [.sl 5 l.Held.n (rowOf eLock l.Held.w) l.Held.u, .sl 5 l.Waits.n (rowOf eLock l.Waits.w) l.Waits.u]), some (.box (eLock ⟨b1_0, ⟨b1_1, b1_2, b1_3⟩, b1_4⟩))]
    else r22_Check_h2 k j1 j l x4 b1_0 b1_1 b1_2 b1_3 b1_4 (wi64 (x6 + 1)) κ)
   else none)
  else r22_Check_h1 k j1 l (wi64 (x4 + 1)) κ) := by kernel_rfl
theorem r22_Check_r0_s (k j1 : Nat) (l : TLocks) (x3 : Int) (r0 : Bool) (κ : AV → Heap → Option ρ) : r22_Check_r0 k j1 l x3 κ (.bool r0) =
  (bif !r0 then
   κ (.int .i64 220) [some (.box [.sl 5 l.Held.n (rowOf eLock l.Held.w) l.Held.u, .sl 5 l.Waits.n (rowOf eLock l.Waits.w) l.Waits.u])]
  else (bif idxOK x3 l.Held.n then
    (bif cutOK l.Held.n 0 x3 (l.Held.n : Int) then
     callP ctx k n_r22_any [.agg (eLock ⟨((l.Held.w ((x3).toNat)).Tx), ⟨(((l.Held.w ((x3).toNat)).R).From), (((l.Held.w ((x3).toNat)).R).To), (((l.Held.w ((x3).toNat)).R).End)⟩, ((l.Held.w ((x3).toNat)).X)⟩), .sl 5 ((x3).toNat) (rowOf eLock (fun i => l.Held.w (0 + i))) (l.Held.u && (decide (x3 = (l.Held.n : Int))))] (r22_Check_r2 k j1 l r0 x3 κ)
    else none)
   else none)) := by kernel_rfl
theorem r22_Check_r1_s (k j1 : Nat) (l : TLocks) (x4 : Int) (r1 : Bool) (κ : AV → Heap → Option ρ) : r22_Check_r1 k j1 l x4 κ (.bool r1) =
  (bif !r1 then
   κ (.int .i64 220) [some (.box [.sl 5 l.Held.n (rowOf eLock l.Held.w) l.Held.u, .sl 5 l.Waits.n (rowOf eLock l.Waits.w) l.Waits.u]), some (.box (eLock ⟨((l.Waits.w ((x4).toNat)).Tx), ⟨(((l.Waits.w ((x4).toNat)).R).From), (((l.Waits.w ((x4).toNat)).R).To), (((l.Waits.w ((x4).toNat)).R).End)⟩, ((l.Waits.w ((x4).toNat)).X)⟩))]
  else callP ctx k n_r22_any [.agg (eLock ⟨((l.Waits.w ((x4).toNat)).Tx), ⟨(((l.Waits.w ((x4).toNat)).R).From), (((l.Waits.w ((x4).toNat)).R).To), (((l.Waits.w ((x4).toNat)).R).End)⟩, ((l.Waits.w ((x4).toNat)).X)⟩), .sl 5 l.Held.n (rowOf eLock l.Held.w) l.Held.u] (r22_Check_r3 k j1 l r1 x4 κ)) := by kernel_rfl
theorem r22_Check_r2_s (k j1 : Nat) (l : TLocks) (r0 : Bool) (x3 : Int) (r2 : Bool) (κ : AV → Heap → Option ρ) : r22_Check_r2 k j1 l r0 x3 κ (.bool r2) =
  (bif r2 then
   κ (.int .i64 220) [some (.box [.sl 5 l.Held.n (rowOf eLock l.Held.w) l.Held.u, .sl 5 l.Waits.n (rowOf eLock l.Waits.w) l.Waits.u])]
  else r22_Check_h0 k j1 l (wi64 (x3 + 1)) κ) := by kernel_rfl
theorem r22_Check_r3_s (k j1 : Nat) (l : TLocks) (r1 : Bool) (x4 : Int) (r3 : Bool) (κ : AV → Heap → Option ρ) : r22_Check_r3 k j1 l r1 x4 κ (.bool r3) =
  (bif !r3 then
   (bif cutOK l.Waits.n 0 x4 (l.Waits.n : Int) then
    callP ctx k n_r22_any [.agg (eLock ⟨((l.Waits.w ((x4).toNat)).Tx), ⟨(((l.Waits.w ((x4).toNat)).R).From), (((l.Waits.w ((x4).toNat)).R).To), (((l.Waits.w ((x4).toNat)).R).End)⟩, ((l.Waits.w ((x4).toNat)).X)⟩), .sl 5 ((x4).toNat) (rowOf eLock (fun i => l.Waits.w (0 + i))) (l.Waits.u && (decide (x4 = (l.Waits.n : Int))))] (r22_Check_r4 k j1 l r1 r3 x4 κ)
   else none)
  else r22_Check_h2 k j1 k l x4 ((l.Waits.w ((x4).toNat)).Tx) (((l.Waits.w ((x4).toNat)).R).From) (((l.Waits.w ((x4).toNat)).R).To) (((l.Waits.w ((x4).toNat)).R).End) ((l.Waits.w ((x4).toNat)).X) 0 κ) := by kernel_rfl
theorem r22_Check_r4_s (k j1 : Nat) (l : TLocks) (r1 : Bool) (r3 : Bool) (x4 : Int) (r4 : Bool) (κ : AV → Heap → Option ρ) : r22_Check_r4 k j1 l r1 r3 x4 κ (.bool r4) =
  (bif !r4 then
   κ (.int .i64 220) [some (.box [.sl 5 l.Held.n (rowOf eLock l.Held.w) l.Held.u, .sl 5 l.Waits.n (rowOf eLock l.Waits.w) l.Waits.u]), some (.box (eLock ⟨((l.Waits.w ((x4).toNat)).Tx), ⟨(((l.Waits.w ((x4).toNat)).R).From), (((l.Waits.w ((x4).toNat)).R).To), (((l.Waits.w ((x4).toNat)).R).End)⟩, ((l.Waits.w ((x4).toNat)).X)⟩))]
  else r22_Check_h2 k j1 k l x4 ((l.Waits.w ((x4).toNat)).Tx) (((l.Waits.w ((x4).toNat)).R).From) (((l.Waits.w ((x4).toNat)).R).To) (((l.Waits.w ((x4).toNat)).R).End) ((l.Waits.w ((x4).toNat)).X) 0 κ) := by kernel_rfl
theorem r22_Check_e (k : Nat) (l : TLocks) (κ : AV → Heap → Option ρ) : evalF ctx (k + 1) n_r22_Check [.agg (eLocks l)] [] κ =
  (bif decide (200 < wi64 ((l.Held.n : Int) + (l.Waits.n : Int))) then
   κ (.int .i64 220) [some (.box [.sl 5 l.Held.n (rowOf eLock l.Held.w) l.Held.u, .sl 5 l.Waits.n (rowOf eLock l.Waits.w) l.Waits.u])]
  else r22_Check_h0 k k l 0 κ) := by kernel_rfl
noncomputable def r22_sameRow_h0 (k j : Nat) (a : (Sl TLock)) (b : (Sl TLock)) (x5 : Int) (κ : AV → Heap → Option ρ) : Option ρ := headAt ctx k n_r22_sameRow 0 [.r, .r, .l, .r] j ⟨(envOf 26 [(0, .sl 5 a.n (rowOf eLock a.w) a.u), (1, .sl 5 b.n (rowOf eLock b.w) b.u), (5, .int .i64 x5)]), []⟩ κ
theorem r22_sameRow_h0_s (k j : Nat) (a : (Sl TLock)) (b : (Sl TLock)) (x5 : Int) (κ : AV → Heap → Option ρ) : r22_sameRow_h0 k (j + 1) a b x5 κ =
  (bif decide (x5 < (a.n : Int)) then
   (bif idxOK x5 a.n then
    (bif idxOK x5 b.n then
     (bif !((decide (((a.w ((x5).toNat)).Tx) = ((b.w ((x5).toNat)).Tx))) && ((decide ((((a.w ((x5).toNat)).R).From) = (((b.w ((x5).toNat)).R).From))) && ((decide ((((a.w ((x5).toNat)).R).To) = (((b.w ((x5).toNat)).R).To))) && (((((a.w ((x5).toNat)).R).End) == (((b.w ((x5).toNat)).R).End)) && ((((a.w ((x5).toNat)).X) == ((b.w ((x5).toNat)).X)) && true))))) then
      κ (.bool false) []
     else r22_sameRow_h0 k j a b (wi64 (x5 + 1)) κ)
    else none)
   else none)
  else κ (.bool true) []) := by kernel_rfl
theorem r22_sameRow_e (k : Nat) (a : (Sl TLock)) (b : (Sl TLock)) (κ : AV → Heap → Option ρ) : evalF ctx (k + 1) n_r22_sameRow [.sl 5 a.n (rowOf eLock a.w) a.u, .sl 5 b.n (rowOf eLock b.w) b.u] [] κ =
  (bif !decide ((a.n : Int) = (b.n : Int)) then
   κ (.bool false) []
  else r22_sameRow_h0 k k a b 0 κ) := by kernel_rfl
noncomputable def r22_Same_r0 (k : Nat) (a : TLocks) (b : TLocks) (κ : AV → Heap → Option ρ) (v : AV) : Option ρ := resAt ctx k n_r22_Same 0 [.r, .l] 4 [] ⟨(envOf 17 [(2, .ref 0 0), (3, .ref 1 0), (5, .ref 0 0), (6, .sl 5 a.Held.n (rowOf eLock a.Held.w) a.Held.u), (7, .ref 1 0), (8, .sl 5 b.Held.n (rowOf eLock b.Held.w) b.Held.u), (9, v)]), [some (.box [.sl 5 a.Held.n (rowOf eLock a.Held.w) a.Held.u, .sl 5 a.Waits.n (rowOf eLock a.Waits.w) a.Waits.u]), some (.box [.sl 5 b.Held.n (rowOf eLock b.Held.w) b.Held.u, .sl 5 b.Waits.n (rowOf eLock b.Waits.w) b.Waits.u])]⟩ κ
noncomputable def r22_Same_r1 (k : Nat) (a : TLocks) (b : TLocks) (r0 : Bool) (κ : AV → Heap → Option ρ) (v : AV) : Option ρ := resAt ctx k n_r22_Same 0 [.r, .l] 10 [(10, true)] ⟨(envOf 17 [(2, .ref 0 0), (3, .ref 1 0), (5, .ref 0 0), (6, .sl 5 a.Held.n (rowOf eLock a.Held.w) a.Held.u), (7, .ref 1 0), (8, .sl 5 b.Held.n (rowOf eLock b.Held.w) b.Held.u), (9, .bool r0), (10, .bool r0), (11, .ref 0 1), (12, .sl 5 a.Waits.n (rowOf eLock a.Waits.w) a.Waits.u), (13, .ref 1 1), (14, .sl 5 b.Waits.n (rowOf eLock b.Waits.w) b.Waits.u), (15, v)]), [some (.box [.sl 5 a.Held.n (rowOf eLock a.Held.w) a.Held.u, .sl 5 a.Waits.n (rowOf eLock a.Waits.w) a.Waits.u]), some (.box [.sl 5 b.Held.n (rowOf eLock b.Held.w) b.Held.u, .sl 5 b.Waits.n (rowOf eLock b.Waits.w) b.Waits.u])]⟩ κ
theorem r22_Same_r0_s (k : Nat) (a : TLocks) (b : TLocks) (r0 : Bool) (κ : AV → Heap → Option ρ) : r22_Same_r0 k a b κ (.bool r0) =
  (bif r0 then
   callP ctx k n_r22_sameRow [.sl 5 a.Waits.n (rowOf eLock a.Waits.w) a.Waits.u, .sl 5 b.Waits.n (rowOf eLock b.Waits.w) b.Waits.u] (r22_Same_r1 k a b r0 κ)
  else κ (.bool false) []) := by kernel_rfl
theorem r22_Same_r1_s (k : Nat) (a : TLocks) (b : TLocks) (r0 : Bool) (r1 : Bool) (κ : AV → Heap → Option ρ) : r22_Same_r1 k a b r0 κ (.bool r1) =
  κ (.bool r1) [] := by kernel_rfl
theorem r22_Same_e (k : Nat) (a : TLocks) (b : TLocks) (κ : AV → Heap → Option ρ) : evalF ctx (k + 1) n_r22_Same [.agg (eLocks a), .agg (eLocks b)] [] κ =
  callP ctx k n_r22_sameRow [.sl 5 a.Held.n (rowOf eLock a.Held.w) a.Held.u, .sl 5 b.Held.n (rowOf eLock b.Held.w) b.Held.u] (r22_Same_r0 k a b κ) := by kernel_rfl
noncomputable def r22_covered_h0 (k j : Nat) (l : TLocks) (o : TLock) (x5 : Int) (κ : AV → Heap → Option ρ) : Option ρ := headAt ctx k n_r22_covered 0 [.r, .l, .r] j ⟨(envOf 40 [(2, .ref 0 0), (3, .ref 1 0), (5, .int .i64 x5)]), [some (.box [.sl 5 l.Held.n (rowOf eLock l.Held.w) l.Held.u, .sl 5 l.Waits.n (rowOf eLock l.Waits.w) l.Waits.u]), some (.box (eLock o))]⟩ κ
noncomputable def r22_covered_r0 (k j1 : Nat) (l : TLocks) (o : TLock) (x5 : Int) (κ : AV → Heap → Option ρ) (v : AV) : Option ρ := resAt ctx k n_r22_covered 0 [.r, .l, .r, .into j1, .r, .l, .r, .l] 19 [(33, true), (27, true), (24, true)] ⟨(envOf 40 [(2, .ref 0 0), (3, .ref 1 0), (5, .int .i64 x5), (6, .ref 2 0), (19, .ref 2 0), (20, .int .u64 ((l.Held.w ((x5).toNat)).Tx)), (21, .ref 1 0), (22, .int .u64 o.Tx), (23, .bool (decide (((l.Held.w ((x5).toNat)).Tx) = o.Tx))), (24, .bool (decide (((l.Held.w ((x5).toNat)).Tx) = o.Tx))), (25, .ref 2 4), (26, .bool ((l.Held.w ((x5).toNat)).X)), (27, .bool ((l.Held.w ((x5).toNat)).X)), (28, .und), (29, .und), (30, .und), (31, .bool true), (32, .bool true), (33, .bool true), (34, .ref 1 1), (35, .agg (eRange o.R)), (36, .ref 2 1), (37, .agg (eRange ⟨(((l.Held.w ((x5).toNat)).R).From), (((l.Held.w ((x5).toNat)).R).To), (((l.Held.w ((x5).toNat)).R).End)⟩)), (38, v)]), [some (.box [.sl 5 l.Held.n (rowOf eLock l.Held.w) l.Held.u, .sl 5 l.Waits.n (rowOf eLock l.Waits.w) l.Waits.u]), some (.box (eLock o)), some (.box (eLock ⟨((l.Held.w ((x5).toNat)).Tx), ⟨(((l.Held.w ((x5).toNat)).R).From), (((l.Held.w ((x5).toNat)).R).To), (((l.Held.w ((x5).toNat)).R).End)⟩, ((l.Held.w ((x5).toNat)).X)⟩))]⟩ κ
noncomputable def r22_covered_r1 (k j1 : Nat) (l : TLocks) (o : TLock) (x5 : Int) (κ : AV → Heap → Option ρ) (v : AV) : Option ρ := resAt ctx k n_r22_covered 0 [.r, .l, .r, .into j1, .r, .l, .r, .l] 19 [(33, true), (27, false), (24, true)] ⟨(envOf 40 [(2, .ref 0 0), (3, .ref 1 0), (5, .int .i64 x5), (6, .ref 2 0), (19, .ref 2 0), (20, .int .u64 ((l.Held.w ((x5).toNat)).Tx)), (21, .ref 1 0), (22, .int .u64 o.Tx), (23, .bool (decide (((l.Held.w ((x5).toNat)).Tx) = o.Tx))), (24, .bool (decide (((l.Held.w ((x5).toNat)).Tx) = o.Tx))), (25, .ref 2 4), (26, .bool ((l.Held.w ((x5).toNat)).X)), (27, .bool ((l.Held.w ((x5).toNat)).X)), (28, .ref 1 4), (29, .bool o.X), (30, .bool (!o.X)), (31, .bool (!o.X)), (32, .bool (!o.X)), (33, .bool (!o.X)), (34, .ref 1 1), (35, .agg (eRange o.R)), (36, .ref 2 1), (37, .agg (eRange ⟨(((l.Held.w ((x5).toNat)).R).From), (((l.Held.w ((x5).toNat)).R).To), (((l.Held.w ((x5).toNat)).R).End)⟩)), (38, v)]), [some (.box [.sl 5 l.Held.n (rowOf eLock l.Held.w) l.Held.u, .sl 5 l.Waits.n (rowOf eLock l.Waits.w) l.Waits.u]), some (.box (eLock o)), some (.box (eLock ⟨((l.Held.w ((x5).toNat)).Tx), ⟨(((l.Held.w ((x5).toNat)).R).From), (((l.Held.w ((x5).toNat)).R).To), (((l.Held.w ((x5).toNat)).R).End)⟩, ((l.Held.w ((x5).toNat)).X)⟩))]⟩ κ
theorem r22_covered_h0_s (k j : Nat) (l : TLocks) (o : TLock) (x5 : Int) (κ : AV → Heap → Option ρ) : r22_covered_h0 k (j + 1) l o x5 κ =
  (bif decide (x5 < (l.Held.n : Int)) then
   (bif idxOK x5 l.Held.n then
    (bif decide (((l.Held.w ((x5).toNat)).Tx) = o.Tx) then
     (bif ((l.Held.w ((x5).toNat)).X) then
      callP ctx k n_r03_Within [.agg (eRange o.R), .agg (eRange ⟨(((l.Held.w ((x5).toNat)).R).From), (((l.Held.w ((x5).toNat)).R).To), (((l.Held.w ((x5).toNat)).R).End)⟩)] (r22_covered_r0 k j l o x5 κ)
     else (bif !o.X then
       callP ctx k n_r03_Within [.agg (eRange o.R), .agg (eRange ⟨(((l.Held.w ((x5).toNat)).R).From), (((l.Held.w ((x5).toNat)).R).To), (((l.Held.w ((x5).toNat)).R).End)⟩)] (r22_covered_r1 k j l o x5 κ)
      else r22_covered_h0 k j l o (wi64 (x5 + 1)) κ))
    else r22_covered_h0 k j l o (wi64 (x5 + 1)) κ)
   else none)
  else κ (.bool false) [some (.box [.sl 5 l.Held.n (rowOf eLock l.Held.w) l.Held.u, .sl 5 l.Waits.n (rowOf eLock l.Waits.w) l.Waits.u]), some (.box (eLock o))]) := by kernel_rfl
theorem r22_covered_r0_s (k j1 : Nat) (l : TLocks) (o : TLock) (x5 : Int) (r0 : Bool) (κ : AV → Heap → Option ρ) : r22_covered_r0 k j1 l o x5 κ (.bool r0) =
  (bif r0 then
   κ (.bool true) [some (.box [.sl 5 l.Held.n (rowOf eLock l.Held.w) l.Held.u, .sl 5 l.Waits.n (rowOf eLock l.Waits.w) l.Waits.u]), some (.box (eLock o))]
  else r22_covered_h0 k j1 l o (wi64 (x5 + 1)) κ) := by kernel_rfl
theorem r22_covered_r1_s (k j1 : Nat) (l : TLocks) (o : TLock) (x5 : Int) (r1 : Bool) (κ : AV → Heap → Option ρ) : r22_covered_r1 k j1 l o x5 κ (.bool r1) =
  (bif r1 then
   κ (.bool true) [some (.box [.sl 5 l.Held.n (rowOf eLock l.Held.w) l.Held.u, .sl 5 l.Waits.n (rowOf eLock l.Waits.w) l.Waits.u]), some (.box (eLock o))]
  else r22_covered_h0 k j1 l o (wi64 (x5 + 1)) κ) := by kernel_rfl
theorem r22_covered_e (k : Nat) (l : TLocks) (o : TLock) (κ : AV → Heap → Option ρ) : evalF ctx (k + 1) n_r22_covered [.agg (eLocks l), .agg (eLock o)] [] κ =
  r22_covered_h0 k k l o 0 κ := by kernel_rfl
noncomputable def r22_Holds_r0 (k : Nat) (l : TLocks) (o : TLock) (κ : AV → Heap → Option ρ) (v : AV) : Option ρ := resAt ctx k n_r22_Holds 0 [.r, .l] 1 [] ⟨(envOf 17 [(2, .ref 0 0), (3, .ref 1 0), (5, .agg (eLocks l)), (6, v)]), [some (.box [.sl 5 l.Held.n (rowOf eLock l.Held.w) l.Held.u, .sl 5 l.Waits.n (rowOf eLock l.Waits.w) l.Waits.u]), some (.box (eLock o))]⟩ κ
noncomputable def r22_Holds_r1 (k : Nat) (l : TLocks) (o : TLock) (r0 : Int) (κ : AV → Heap → Option ρ) (v : AV) : Option ρ := resAt ctx k n_r22_Holds 0 [.r, .l] 5 [(8, true)] ⟨(envOf 17 [(2, .ref 0 0), (3, .ref 1 0), (5, .agg (eLocks l)), (6, .int .i64 r0), (7, .bool (decide (r0 = 0))), (8, .bool (decide (r0 = 0))), (9, .agg (eLock o)), (10, v)]), [some (.box [.sl 5 l.Held.n (rowOf eLock l.Held.w) l.Held.u, .sl 5 l.Waits.n (rowOf eLock l.Waits.w) l.Waits.u]), some (.box (eLock o))]⟩ κ
noncomputable def r22_Holds_r2 (k : Nat) (l : TLocks) (o : TLock) (r0 : Int) (r1 : Bool) (κ : AV → Heap → Option ρ) (v : AV) : Option ρ := resAt ctx k n_r22_Holds 0 [.r, .l] 10 [(12, true), (8, true)] ⟨(envOf 17 [(2, .ref 0 0), (3, .ref 1 0), (5, .agg (eLocks l)), (6, .int .i64 r0), (7, .bool (decide (r0 = 0))), (8, .bool (decide (r0 = 0))), (9, .agg (eLock o)), (10, .bool r1), (11, .bool r1), (12, .bool r1), (13, .agg (eLocks l)), (14, .agg (eLock o)), (15, v)]), [some (.box [.sl 5 l.Held.n (rowOf eLock l.Held.w) l.Held.u, .sl 5 l.Waits.n (rowOf eLock l.Waits.w) l.Waits.u]), some (.box (eLock o))]⟩ κ
theorem r22_Holds_r0_s (k : Nat) (l : TLocks) (o : TLock) (r0 : Int) (κ : AV → Heap → Option ρ) : r22_Holds_r0 k l o κ (.int .i64 r0) =
  (bif decide (r0 = 0) then
   callP ctx k n_r22_May [.agg (eLock o)] (r22_Holds_r1 k l o r0 κ)
  else κ (.bool false) []) := by kernel_rfl
theorem r22_Holds_r1_s (k : Nat) (l : TLocks) (o : TLock) (r0 : Int) (r1 : Bool) (κ : AV → Heap → Option ρ) : r22_Holds_r1 k l o r0 κ (.bool r1) =
  (bif r1 then
   callP ctx k n_r22_covered [.agg (eLocks l), .agg (eLock o)] (r22_Holds_r2 k l o r0 r1 κ)
  else κ (.bool false) []) := by kernel_rfl
theorem r22_Holds_r2_s (k : Nat) (l : TLocks) (o : TLock) (r0 : Int) (r1 : Bool) (r2 : Bool) (κ : AV → Heap → Option ρ) : r22_Holds_r2 k l o r0 r1 κ (.bool r2) =
  κ (.bool r2) [] := by kernel_rfl
theorem r22_Holds_e (k : Nat) (l : TLocks) (o : TLock) (κ : AV → Heap → Option ρ) : evalF ctx (k + 1) n_r22_Holds [.agg (eLocks l), .agg (eLock o)] [] κ =
  callP ctx k n_r22_Check [.agg (eLocks l)] (r22_Holds_r0 k l o κ) := by kernel_rfl
noncomputable def r22_waits_h0 (k j : Nat) (l : TLocks) (tx : Int) (x5 : Int) (κ : AV → Heap → Option ρ) : Option ρ := headAt ctx k n_r22_waits 0 [.r, .l, .r] j ⟨(envOf 22 [(1, .int .u64 tx), (2, .ref 0 0), (5, .int .i64 x5)]), [some (.box [.sl 5 l.Held.n (rowOf eLock l.Held.w) l.Held.u, .sl 5 l.Waits.n (rowOf eLock l.Waits.w) l.Waits.u])]⟩ κ
theorem r22_waits_h0_s (k j : Nat) (l : TLocks) (tx : Int) (x5 : Int) (κ : AV → Heap → Option ρ) : r22_waits_h0 k (j + 1) l tx x5 κ =
  (bif decide (x5 < (l.Waits.n : Int)) then
   (bif idxOK x5 l.Waits.n then
    (bif decide (((l.Waits.w ((x5).toNat)).Tx) = tx) then
     κ (.int .i64 x5) [some (.box [.sl 5 l.Held.n (rowOf eLock l.Held.w) l.Held.u, .sl 5 l.Waits.n (rowOf eLock l.Waits.w) l.Waits.u])]
    else r22_waits_h0 k j l tx (wi64 (x5 + 1)) κ)
   else none)
  else κ (.int .i64 (-1)) [some (.box [.sl 5 l.Held.n (rowOf eLock l.Held.w) l.Held.u, .sl 5 l.Waits.n (rowOf eLock l.Waits.w) l.Waits.u])]) := by kernel_rfl
theorem r22_waits_e (k : Nat) (l : TLocks) (tx : Int) (κ : AV → Heap → Option ρ) : evalF ctx (k + 1) n_r22_waits [.agg (eLocks l), .int .u64 tx] [] κ =
  r22_waits_h0 k k l tx 0 κ := by kernel_rfl
noncomputable def r22_Small_h0 (k j : Nat) (l : TLocks) (x3 : Int) (x4 : Int) (κ : AV → Heap → Option ρ) : Option ρ := headAt ctx k n_r22_Small 0 [.r, .r, .l, .r] j ⟨(envOf 80 [(1, .ref 0 0), (3, .int .i64 x3), (4, .int .i64 x4)]), [some (.box [.sl 5 l.Held.n (rowOf eLock l.Held.w) l.Held.u, .sl 5 l.Waits.n (rowOf eLock l.Waits.w) l.Waits.u])]⟩ κ
noncomputable def r22_Small_h1 (k j : Nat) (l : TLocks) (x3 : Int) (x5 : Int) (κ : AV → Heap → Option ρ) : Option ρ := headAt ctx k n_r22_Small 0 [.r, .r, .r, .l, .r] j ⟨(envOf 80 [(1, .ref 0 0), (3, .int .i64 x3), (5, .int .i64 x5)]), [some (.box [.sl 5 l.Held.n (rowOf eLock l.Held.w) l.Held.u, .sl 5 l.Waits.n (rowOf eLock l.Waits.w) l.Waits.u])]⟩ κ
theorem r22_Small_h0_s (k j : Nat) (l : TLocks) (x3 : Int) (x4 : Int) (κ : AV → Heap → Option ρ) : r22_Small_h0 k (j + 1) l x3 x4 κ =
  (bif decide (x4 < (l.Held.n : Int)) then
   (bif decide (x4 < 210) then
    (bif idxOK x4 l.Held.n then
     (bif idxOK x4 l.Held.n then
      r22_Small_h0 k j l (wi64 (wi64 (x3 + (((((l.Held.w ((x4).toNat)).R).From).size : Nat) : Int)) + (((((l.Held.w ((x4).toNat)).R).To).size : Nat) : Int))) (wi64 (x4 + 1)) κ
     else none)
    else none)
   else r22_Small_h1 k k l x3 0 κ)
  else r22_Small_h1 k k l x3 0 κ) := by kernel_rfl
theorem r22_Small_h1_s (k j : Nat) (l : TLocks) (x3 : Int) (x5 : Int) (κ : AV → Heap → Option ρ) : r22_Small_h1 k (j + 1) l x3 x5 κ =
  (bif decide (x5 < (l.Waits.n : Int)) then
   (bif decide (x5 < 210) then
    (bif idxOK x5 l.Waits.n then
     (bif idxOK x5 l.Waits.n then
      r22_Small_h1 k j l (wi64 (wi64 (x3 + (((((l.Waits.w ((x5).toNat)).R).From).size : Nat) : Int)) + (((((l.Waits.w ((x5).toNat)).R).To).size : Nat) : Int))) (wi64 (x5 + 1)) κ
     else none)
    else none)
   else (bif decide ((l.Held.n : Int) ≤ 210) then
     (bif decide ((l.Waits.n : Int) ≤ 210) then
      κ (.bool (decide (x3 ≤ 30000))) []
     else κ (.bool false) [])
    else κ (.bool false) []))
  else (bif decide ((l.Held.n : Int) ≤ 210) then
    (bif decide ((l.Waits.n : Int) ≤ 210) then
     κ (.bool (decide (x3 ≤ 30000))) []
    else κ (.bool false) [])
   else κ (.bool false) [])) := by kernel_rfl
theorem r22_Small_e (k : Nat) (l : TLocks) (κ : AV → Heap → Option ρ) : evalF ctx (k + 1) n_r22_Small [.agg (eLocks l)] [] κ =
  r22_Small_h0 k k l 0 0 κ := by kernel_rfl
noncomputable def r12_SameIds_h0 (k j : Nat) (a : (Sl Int)) (b : (Sl Int)) (x5 : Int) (κ : AV → Heap → Option ρ) : Option ρ := headAt ctx k n_r12_SameIds 0 [.r, .r, .l, .r] j ⟨(envOf 26 [(0, .sl 1 a.n (rowOf (eI .u64) a.w) a.u), (1, .sl 1 b.n (rowOf (eI .u64) b.w) b.u), (5, .int .i64 x5)]), []⟩ κ
theorem r12_SameIds_h0_s (k j : Nat) (a : (Sl Int)) (b : (Sl Int)) (x5 : Int) (κ : AV → Heap → Option ρ) : r12_SameIds_h0 k (j + 1) a b x5 κ =
  (bif decide (x5 < (a.n : Int)) then
   (bif idxOK x5 a.n then
    (bif idxOK x5 b.n then
     (bif !decide ((a.w ((x5).toNat)) = (b.w ((x5).toNat))) then
      κ (.bool false) []
     else r12_SameIds_h0 k j a b (wi64 (x5 + 1)) κ)
    else none)
   else none)
  else κ (.bool true) []) := by kernel_rfl
theorem r12_SameIds_e (k : Nat) (a : (Sl Int)) (b : (Sl Int)) (κ : AV → Heap → Option ρ) : evalF ctx (k + 1) n_r12_SameIds [.sl 1 a.n (rowOf (eI .u64) a.w) a.u, .sl 1 b.n (rowOf (eI .u64) b.w) b.u] [] κ =
  (bif !decide ((a.n : Int) = (b.n : Int)) then
   κ (.bool false) []
  else r12_SameIds_h0 k k a b 0 κ) := by kernel_rfl
noncomputable def slices_Equal_Lock_h0 (k j : Nat) (a : (Sl TLock)) (b : (Sl TLock)) (x13 : Int) (κ : AV → Heap → Option ρ) : Option ρ := headAt ctx k n_slices_Equal_Lock 0 [.r, .r, .l, .r] j ⟨(envOf 26 [(0, .sl 5 a.n (rowOf eLock a.w) a.u), (1, .sl 5 b.n (rowOf eLock b.w) b.u), (12, .int .i64 (a.n : Int)), (13, .int .i64 x13)]), []⟩ κ
theorem slices_Equal_Lock_h0_s (k j : Nat) (a : (Sl TLock)) (b : (Sl TLock)) (x13 : Int) (κ : AV → Heap → Option ρ) : slices_Equal_Lock_h0 k (j + 1) a b x13 κ =
  (bif decide (x13 < (a.n : Int)) then
   (bif idxOK x13 a.n then
    (bif idxOK x13 b.n then
     (bif !((decide (((a.w ((x13).toNat)).Tx) = ((b.w ((x13).toNat)).Tx))) && ((decide ((((a.w ((x13).toNat)).R).From) = (((b.w ((x13).toNat)).R).From))) && ((decide ((((a.w ((x13).toNat)).R).To) = (((b.w ((x13).toNat)).R).To))) && (((((a.w ((x13).toNat)).R).End) == (((b.w ((x13).toNat)).R).End)) && ((((a.w ((x13).toNat)).X) == ((b.w ((x13).toNat)).X)) && true))))) then
      κ (.bool false) []
     else slices_Equal_Lock_h0 k j a b (wi64 (x13 + 1)) κ)
    else none)
   else none)
  else κ (.bool true) []) := by kernel_rfl
theorem slices_Equal_Lock_e (k : Nat) (a : (Sl TLock)) (b : (Sl TLock)) (κ : AV → Heap → Option ρ) : evalF ctx (k + 1) n_slices_Equal_Lock [.sl 5 a.n (rowOf eLock a.w) a.u, .sl 5 b.n (rowOf eLock b.w) b.u] [] κ =
  (bif !decide ((a.n : Int) = (b.n : Int)) then
   κ (.bool false) []
  else slices_Equal_Lock_h0 k k a b 0 κ) := by kernel_rfl
noncomputable def locks_Same_r0 (k : Nat) (a : TLocks) (b : TLocks) (κ : AV → Heap → Option ρ) (v : AV) : Option ρ := resAt ctx k n_locks_Same 0 [.r, .l] 4 [] ⟨(envOf 17 [(2, .ref 0 0), (3, .ref 1 0), (5, .ref 0 0), (6, .sl 5 a.Held.n (rowOf eLock a.Held.w) a.Held.u), (7, .ref 1 0), (8, .sl 5 b.Held.n (rowOf eLock b.Held.w) b.Held.u), (9, v)]), [some (.box [.sl 5 a.Held.n (rowOf eLock a.Held.w) a.Held.u, .sl 5 a.Waits.n (rowOf eLock a.Waits.w) a.Waits.u]), some (.box [.sl 5 b.Held.n (rowOf eLock b.Held.w) b.Held.u, .sl 5 b.Waits.n (rowOf eLock b.Waits.w) b.Waits.u])]⟩ κ
noncomputable def locks_Same_r1 (k : Nat) (a : TLocks) (b : TLocks) (r0 : Bool) (κ : AV → Heap → Option ρ) (v : AV) : Option ρ := resAt ctx k n_locks_Same 0 [.r, .l] 10 [(10, true)] ⟨(envOf 17 [(2, .ref 0 0), (3, .ref 1 0), (5, .ref 0 0), (6, .sl 5 a.Held.n (rowOf eLock a.Held.w) a.Held.u), (7, .ref 1 0), (8, .sl 5 b.Held.n (rowOf eLock b.Held.w) b.Held.u), (9, .bool r0), (10, .bool r0), (11, .ref 0 1), (12, .sl 5 a.Waits.n (rowOf eLock a.Waits.w) a.Waits.u), (13, .ref 1 1), (14, .sl 5 b.Waits.n (rowOf eLock b.Waits.w) b.Waits.u), (15, v)]), [some (.box [.sl 5 a.Held.n (rowOf eLock a.Held.w) a.Held.u, .sl 5 a.Waits.n (rowOf eLock a.Waits.w) a.Waits.u]), some (.box [.sl 5 b.Held.n (rowOf eLock b.Held.w) b.Held.u, .sl 5 b.Waits.n (rowOf eLock b.Waits.w) b.Waits.u])]⟩ κ
theorem locks_Same_r0_s (k : Nat) (a : TLocks) (b : TLocks) (r0 : Bool) (κ : AV → Heap → Option ρ) : locks_Same_r0 k a b κ (.bool r0) =
  (bif r0 then
   callP ctx k n_slices_Equal_Lock [.sl 5 a.Waits.n (rowOf eLock a.Waits.w) a.Waits.u, .sl 5 b.Waits.n (rowOf eLock b.Waits.w) b.Waits.u] (locks_Same_r1 k a b r0 κ)
  else κ (.bool false) []) := by kernel_rfl
theorem locks_Same_r1_s (k : Nat) (a : TLocks) (b : TLocks) (r0 : Bool) (r1 : Bool) (κ : AV → Heap → Option ρ) : locks_Same_r1 k a b r0 κ (.bool r1) =
  κ (.bool r1) [] := by kernel_rfl
theorem locks_Same_e (k : Nat) (a : TLocks) (b : TLocks) (κ : AV → Heap → Option ρ) : evalF ctx (k + 1) n_locks_Same [.agg (eLocks a), .agg (eLocks b)] [] κ =
  callP ctx k n_slices_Equal_Lock [.sl 5 a.Held.n (rowOf eLock a.Held.w) a.Held.u, .sl 5 b.Held.n (rowOf eLock b.Held.w) b.Held.u] (locks_Same_r0 k a b κ) := by kernel_rfl
end Go.Proofs.YticcbbcgboddpaaC
