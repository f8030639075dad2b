/- What functions come to from one cut to the next. No conditions. -/
import Derived.Test.YticcbbcgboddpaaBLocksAsks2
import Derived.KernelRfl
import Derived.Sort.AssemblyPlain
set_option linter.unusedVariables false
set_option maxRecDepth 20000
namespace Go.Proofs.YticcbbcgboddpaaC
open Go Go.Ev Go.Proofs
variable {ρ : Type}
noncomputable def locks_Ask_r0 (k : Nat) (s : TLocks) (a : TLock) (κ : AV → Heap → Option ρ) (v : AV) : Option ρ := resAt ctx k n_locks_Ask 0 [.r, .l, .l] 1 [] ⟨(envOf 69 [(2, .ref 0 0), (3, .ref 1 0), (4, .ref 2 0), (10, .agg (eLocks s)), (11, v)]), [some (.box [.sl 5 s.Held.n (rowOf eLock s.Held.w) s.Held.u, .sl 5 s.Waits.n (rowOf eLock s.Waits.w) s.Waits.u]), some (.box (eLock a)), some (.box [.sl 5 0 (rowOf eLock (fun _ => zLock)) true, .sl 5 0 (rowOf eLock (fun _ => zLock)) true])]⟩ κ
noncomputable def locks_Ask_r1 (k : Nat) (s : TLocks) (a : TLock) (r0 : Int) (κ : AV → Heap → Option ρ) (v : AV) : Option ρ := resAt ctx k n_locks_Ask 0 [.r, .l, .r, .r, .l] 1 [] ⟨(envOf 69 [(2, .ref 0 0), (3, .ref 1 0), (4, .ref 2 0), (9, .bool (!decide (r0 = 0))), (15, .agg (eLock a)), (16, v)]), [some (.box [.sl 5 s.Held.n (rowOf eLock s.Held.w) s.Held.u, .sl 5 s.Waits.n (rowOf eLock s.Waits.w) s.Waits.u]), some (.box (eLock a)), some (.box [.sl 5 0 (rowOf eLock (fun _ => zLock)) true, .sl 5 0 (rowOf eLock (fun _ => zLock)) true])]⟩ κ
noncomputable def locks_Ask_r2 (k : Nat) (s : TLocks) (a : TLock) (r1 : Bool) (κ : AV → Heap → Option ρ) (v : AV) (W : Heap) : Option ρ := backH [1] [some (.box [.sl 5 s.Held.n (rowOf eLock s.Held.w) s.Held.u, .sl 5 s.Waits.n (rowOf eLock s.Waits.w) s.Waits.u]), some (.box (eLock a)), some (.box [.sl 5 0 (rowOf eLock (fun _ => zLock)) true, .sl 5 0 (rowOf eLock (fun _ => zLock)) true])] (fun v H => resAt ctx k n_locks_Ask 0 [.r, .l, .r, .r, .r, .r, .l] 3 [] ⟨(envOf 69 [(2, .ref 0 0), (3, .ref 1 0), (4, .ref 2 0), (14, .bool (!r1)), (20, .ref 0 1), (21, .sl 5 s.Waits.n (rowOf eLock s.Waits.w) s.Waits.u), (22, .fn n_locks_Ask_1 [] [.ref 1 0]), (23, v)]), H⟩ κ) v W
noncomputable def locks_Ask_r3 (k : Nat) (s : TLocks) (a : TLock) (r2 : Bool) (κ : AV → Heap → Option ρ) (v : AV) (W : Heap) : Option ρ := backF [.agg (eLocks s)] [some (.box [.sl 5 s.Held.n (rowOf eLock s.Held.w) s.Held.u, .sl 5 s.Waits.n (rowOf eLock s.Waits.w) s.Waits.u]), some (.box (eLock a)), some (.box [.sl 5 0 (rowOf eLock (fun _ => zLock)) true, .sl 5 0 (rowOf eLock (fun _ => zLock)) true])] (fun v H => resAt ctx k n_locks_Ask 0 [.r, .r, .l] 1 [] ⟨(envOf 69 [(2, .ref 0 0), (3, .ref 1 0), (4, .ref 2 0), (19, .bool r2), (25, .agg (eLocks s)), (26, v)]), H⟩ κ) v W
noncomputable def locks_Ask_r4 (k : Nat) (s : TLocks) (a : TLock) (κ : AV → Heap → Option ρ) (v : AV) : Option ρ := resAt ctx k n_locks_Ask 0 [.r, .r, .r, .l, .l] 2 [] ⟨(envOf 69 [(2, .ref 0 0), (3, .ref 1 0), (4, .ref 2 0), (7, .ref 3 0), (28, .agg (eLocks s)), (29, .agg (eLock a)), (30, v)]), [some (.box [.sl 5 s.Held.n (rowOf eLock s.Held.w) s.Held.u, .sl 5 s.Waits.n (rowOf eLock s.Waits.w) s.Waits.u]), some (.box (eLock a)), some (.box [.sl 5 0 (rowOf eLock (fun _ => zLock)) true, .sl 5 0 (rowOf eLock (fun _ => zLock)) true]), some (.box [.sl 5 0 (rowOf eLock (fun _ => zLock)) true, .sl 5 0 (rowOf eLock (fun _ => zLock)) true])]⟩ κ
noncomputable def locks_Ask_r5 (k : Nat) (s : TLocks) (a : TLock) (κ : AV → Heap → Option ρ) (v : AV) : Option ρ := resAt ctx k n_locks_Ask 0 [.r, .r, .r, .l, .l] 2 [] ⟨(envOf 69 [(2, .ref 0 0), (3, .ref 1 0), (4, .ref 2 0), (7, .ref 3 0), (28, .agg (eLocks s)), (29, .agg (eLock a)), (30, v)]), [some (.box [.sl 5 s.Held.n (rowOf eLock s.Held.w) s.Held.u, .sl 5 s.Waits.n (rowOf eLock s.Waits.w) s.Waits.u]), some (.box (eLock a)), some (.box [.sl 5 0 (rowOf eLock (fun _ => zLock)) true, .sl 5 0 (rowOf eLock (fun _ => zLock)) true]), some (.box [.sl 5 0 (rowOf eLock (fun _ => zLock)) true, .osl 5 4 0 s.Waits.n false]), some (.arr 5 s.Waits.n (rowOf eLock s.Waits.w))]⟩ κ
noncomputable def locks_Ask_r6 (k : Nat) (s : TLocks) (a : TLock) (κ : AV → Heap → Option ρ) (v : AV) : Option ρ := resAt ctx k n_locks_Ask 0 [.r, .r, .r, .l, .l] 2 [] ⟨(envOf 69 [(2, .ref 0 0), (3, .ref 1 0), (4, .ref 2 0), (7, .ref 3 0), (28, .agg (eLocks s)), (29, .agg (eLock a)), (30, v)]), [some (.box [.sl 5 s.Held.n (rowOf eLock s.Held.w) s.Held.u, .sl 5 s.Waits.n (rowOf eLock s.Waits.w) s.Waits.u]), some (.box (eLock a)), some (.box [.sl 5 0 (rowOf eLock (fun _ => zLock)) true, .sl 5 0 (rowOf eLock (fun _ => zLock)) true]), some (.box [.osl 5 4 0 s.Held.n false, .sl 5 0 (rowOf eLock (fun _ => zLock)) true]), some (.arr 5 s.Held.n (rowOf eLock s.Held.w))]⟩ κ
noncomputable def locks_Ask_r7 (k : Nat) (s : TLocks) (a : TLock) (κ : AV → Heap → Option ρ) (v : AV) : Option ρ := resAt ctx k n_locks_Ask 0 [.r, .r, .r, .l, .l] 2 [] ⟨(envOf 69 [(2, .ref 0 0), (3, .ref 1 0), (4, .ref 2 0), (7, .ref 3 0), (28, .agg (eLocks s)), (29, .agg (eLock a)), (30, v)]), [some (.box [.sl 5 s.Held.n (rowOf eLock s.Held.w) s.Held.u, .sl 5 s.Waits.n (rowOf eLock s.Waits.w) s.Waits.u]), some (.box (eLock a)), some (.box [.sl 5 0 (rowOf eLock (fun _ => zLock)) true, .sl 5 0 (rowOf eLock (fun _ => zLock)) true]), some (.box [.osl 5 4 0 s.Held.n false, .osl 5 5 0 s.Waits.n false]), some (.arr 5 s.Held.n (rowOf eLock s.Held.w)), some (.arr 5 s.Waits.n (rowOf eLock s.Waits.w))]⟩ κ
noncomputable def locks_Ask_r8 (k : Nat) (s : TLocks) (a : TLock) (κ : AV → Heap → Option ρ) (v : AV) : Option ρ := resAt ctx k n_locks_Ask 0 [.r, .r, .r, .l, .r, .r, .r, .r, .l] 5 [] ⟨(envOf 69 [(2, .ref 0 0), (3, .ref 1 0), (4, .ref 2 0), (7, .ref 3 0), (32, .bool (decide (wi64 ((s.Held.n : Int) + (s.Waits.n : Int)) = 200))), (43, .agg (eLock a)), (44, .ref 0 0), (45, .sl 5 s.Held.n (rowOf eLock s.Held.w) s.Held.u), (46, .ref 0 1), (47, .sl 5 s.Waits.n (rowOf eLock s.Waits.w) s.Waits.u), (48, v)]), [some (.box [.sl 5 s.Held.n (rowOf eLock s.Held.w) s.Held.u, .sl 5 s.Waits.n (rowOf eLock s.Waits.w) s.Waits.u]), some (.box (eLock a)), some (.box [.sl 5 0 (rowOf eLock (fun _ => zLock)) true, .sl 5 0 (rowOf eLock (fun _ => zLock)) true]), some (.box [.sl 5 0 (rowOf eLock (fun _ => zLock)) true, .sl 5 0 (rowOf eLock (fun _ => zLock)) true])]⟩ κ
noncomputable def locks_Ask_r9 (k : Nat) (s : TLocks) (a : TLock) (κ : AV → Heap → Option ρ) (v : AV) : Option ρ := resAt ctx k n_locks_Ask 0 [.r, .r, .r, .l, .r, .r, .r, .r, .l] 5 [] ⟨(envOf 69 [(2, .ref 0 0), (3, .ref 1 0), (4, .ref 2 0), (7, .ref 3 0), (32, .bool (decide (wi64 ((s.Held.n : Int) + (s.Waits.n : Int)) = 200))), (43, .agg (eLock a)), (44, .ref 0 0), (45, .sl 5 s.Held.n (rowOf eLock s.Held.w) s.Held.u), (46, .ref 0 1), (47, .sl 5 s.Waits.n (rowOf eLock s.Waits.w) s.Waits.u), (48, v)]), [some (.box [.sl 5 s.Held.n (rowOf eLock s.Held.w) s.Held.u, .sl 5 s.Waits.n (rowOf eLock s.Waits.w) s.Waits.u]), some (.box (eLock a)), some (.box [.sl 5 0 (rowOf eLock (fun _ => zLock)) true, .sl 5 0 (rowOf eLock (fun _ => zLock)) true]), some (.box [.sl 5 0 (rowOf eLock (fun _ => zLock)) true, .osl 5 4 0 s.Waits.n false]), some (.arr 5 s.Waits.n (rowOf eLock s.Waits.w))]⟩ κ
noncomputable def locks_Ask_r10 (k : Nat) (s : TLocks) (a : TLock) (κ : AV → Heap → Option ρ) (v : AV) : Option ρ := resAt ctx k n_locks_Ask 0 [.r, .r, .r, .l, .r, .r, .r, .r, .l] 5 [] ⟨(envOf 69 [(2, .ref 0 0), (3, .ref 1 0), (4, .ref 2 0), (7, .ref 3 0), (32, .bool (decide (wi64 ((s.Held.n : Int) + (s.Waits.n : Int)) = 200))), (43, .agg (eLock a)), (44, .ref 0 0), (45, .sl 5 s.Held.n (rowOf eLock s.Held.w) s.Held.u), (46, .ref 0 1), (47, .sl 5 s.Waits.n (rowOf eLock s.Waits.w) s.Waits.u), (48, v)]), [some (.box [.sl 5 s.Held.n (rowOf eLock s.Held.w) s.Held.u, .sl 5 s.Waits.n (rowOf eLock s.Waits.w) s.Waits.u]), some (.box (eLock a)), some (.box [.sl 5 0 (rowOf eLock (fun _ => zLock)) true, .sl 5 0 (rowOf eLock (fun _ => zLock)) true]), some (.box [.osl 5 4 0 s.Held.n false, .sl 5 0 (rowOf eLock (fun _ => zLock)) true]), some (.arr 5 s.Held.n (rowOf eLock s.Held.w))]⟩ κ
noncomputable def locks_Ask_r11 (k : Nat) (s : TLocks) (a : TLock) (κ : AV → Heap → Option ρ) (v : AV) : Option ρ := resAt ctx k n_locks_Ask 0 [.r, .r, .r, .l, .r, .r, .r, .r, .l] 5 [] ⟨(envOf 69 [(2, .ref 0 0), (3, .ref 1 0), (4, .ref 2 0), (7, .ref 3 0), (32, .bool (decide (wi64 ((s.Held.n : Int) + (s.Waits.n : Int)) = 200))), (43, .agg (eLock a)), (44, .ref 0 0), (45, .sl 5 s.Held.n (rowOf eLock s.Held.w) s.Held.u), (46, .ref 0 1), (47, .sl 5 s.Waits.n (rowOf eLock s.Waits.w) s.Waits.u), (48, v)]), [some (.box [.sl 5 s.Held.n (rowOf eLock s.Held.w) s.Held.u, .sl 5 s.Waits.n (rowOf eLock s.Waits.w) s.Waits.u]), some (.box (eLock a)), some (.box [.sl 5 0 (rowOf eLock (fun _ => zLock)) true, .sl 5 0 (rowOf eLock (fun _ => zLock)) true]), some (.box [.osl 5 4 0 s.Held.n false, .osl 5 5 0 s.Waits.n false]), some (.arr 5 s.Held.n (rowOf eLock s.Held.w)), some (.arr 5 s.Waits.n (rowOf eLock s.Waits.w))]⟩ κ
theorem locks_Ask_r0_s (k : Nat) (s : TLocks) (a : TLock) (r0 : Int) (κ : AV → Heap → Option ρ) : locks_Ask_r0 k s a κ (.int .i64 r0) =
  (bif !decide (r0 = 0) then
   κ (.tup [.agg (eLocks zLocks), .bool false, .int .i64 220]) [some (.box [.sl 5 0 (rowOf eLock (fun _ => zLock)) true, .sl 5 0 (rowOf eLock (fun _ => zLock)) true])]
  else callP ctx k n_locks_lock_may [.agg (eLock a)] (locks_Ask_r1 k s a r0 κ)) := by kernel_rfl
theorem locks_Ask_r1_s (k : Nat) (s : TLocks) (a : TLock) (r0 : Int) (r1 : Bool) (κ : AV → Heap → Option ρ) : locks_Ask_r1 k s a r0 κ (.bool r1) =
  (bif !r1 then
   κ (.tup [.agg (eLocks zLocks), .bool false, .int .i64 2]) [some (.box [.sl 5 0 (rowOf eLock (fun _ => zLock)) true, .sl 5 0 (rowOf eLock (fun _ => zLock)) true])]
  else evalF ctx k n_slices_ContainsFunc_Lock [.sl 5 s.Waits.n (rowOf eLock s.Waits.w) s.Waits.u, .fn n_locks_Ask_1 [] [.ref 0 0]] [some (.box (eLock a))] (locks_Ask_r2 k s a r1 κ)) := by kernel_rfl
theorem locks_Ask_r2_s (k : Nat) (s : TLocks) (a : TLock) (r1 : Bool) (r2 : Bool) (κ : AV → Heap → Option ρ) : locks_Ask_r2 k s a r1 κ (.bool r2) [some (.box (eLock a))] =
  (bif r2 then
   κ (.tup [.agg (eLocks zLocks), .bool false, .int .i64 9]) [some (.box [.sl 5 0 (rowOf eLock (fun _ => zLock)) true, .sl 5 0 (rowOf eLock (fun _ => zLock)) true])]
  else evalF ctx k n_locks_own [.agg (eLocks s)] [] (locks_Ask_r3 k s a r2 κ)) := by kernel_rfl
theorem locks_Ask_r3_s (k : Nat) (s : TLocks) (a : TLock) (r2 : Bool) (κ : AV → Heap → Option ρ) : locks_Ask_r3 k s a r2 κ (.agg (eLocks zLocks)) [some (.box [.sl 5 0 (rowOf eLock (fun _ => zLock)) true, .sl 5 0 (rowOf eLock (fun _ => zLock)) true])] =
  callP ctx k n_locks_covered [.agg (eLocks s), .agg (eLock a)] (locks_Ask_r4 k s a κ) := by kernel_rfl
theorem locks_Ask_r3_s1 (k : Nat) (s : TLocks) (a : TLock) (r2 : Bool) (κ : AV → Heap → Option ρ) : locks_Ask_r3 k s a r2 κ (.agg [.sl 5 0 (rowOf eLock (fun _ => zLock)) true, .osl 5 1 0 s.Waits.n false]) [some (.box [.sl 5 0 (rowOf eLock (fun _ => zLock)) true, .osl 5 1 0 s.Waits.n false]), some (.arr 5 s.Waits.n (rowOf eLock s.Waits.w))] =
  callP ctx k n_locks_covered [.agg (eLocks s), .agg (eLock a)] (locks_Ask_r5 k s a κ) := by kernel_rfl
theorem locks_Ask_r3_s2 (k : Nat) (s : TLocks) (a : TLock) (r2 : Bool) (κ : AV → Heap → Option ρ) : locks_Ask_r3 k s a r2 κ (.agg [.osl 5 1 0 s.Held.n false, .sl 5 0 (rowOf eLock (fun _ => zLock)) true]) [some (.box [.osl 5 1 0 s.Held.n false, .sl 5 0 (rowOf eLock (fun _ => zLock)) true]), some (.arr 5 s.Held.n (rowOf eLock s.Held.w))] =
  callP ctx k n_locks_covered [.agg (eLocks s), .agg (eLock a)] (locks_Ask_r6 k s a κ) := by kernel_rfl
theorem locks_Ask_r3_s3 (k : Nat) (s : TLocks) (a : TLock) (r2 : Bool) (κ : AV → Heap → Option ρ) : locks_Ask_r3 k s a r2 κ (.agg [.osl 5 1 0 s.Held.n false, .osl 5 2 0 s.Waits.n false]) [some (.box [.osl 5 1 0 s.Held.n false, .osl 5 2 0 s.Waits.n false]), some (.arr 5 s.Held.n (rowOf eLock s.Held.w)), some (.arr 5 s.Waits.n (rowOf eLock s.Waits.w))] =
  callP ctx k n_locks_covered [.agg (eLocks s), .agg (eLock a)] (locks_Ask_r7 k s a κ) := by kernel_rfl
theorem locks_Ask_r4_s (k : Nat) (s : TLocks) (a : TLock) (r4 : Bool) (κ : AV → Heap → Option ρ) : locks_Ask_r4 k s a κ (.bool r4) =
  (bif r4 then
   κ (.tup [.agg (eLocks zLocks), .bool true, .int .i64 0]) [some (.box [.sl 5 0 (rowOf eLock (fun _ => zLock)) true, .sl 5 0 (rowOf eLock (fun _ => zLock)) true])]
  else (bif decide (wi64 ((s.Held.n : Int) + (s.Waits.n : Int)) = 200) then
    κ (.tup [.agg (eLocks zLocks), .bool false, .int .i64 6]) [some (.box [.sl 5 0 (rowOf eLock (fun _ => zLock)) true, .sl 5 0 (rowOf eLock (fun _ => zLock)) true])]
   else callP ctx k n_locks_grants [.agg (eLock a), .sl 5 s.Held.n (rowOf eLock s.Held.w) s.Held.u, .sl 5 s.Waits.n (rowOf eLock s.Waits.w) s.Waits.u] (locks_Ask_r8 k s a κ))) := by kernel_rfl
theorem locks_Ask_r5_s (k : Nat) (s : TLocks) (a : TLock) (r5 : Bool) (κ : AV → Heap → Option ρ) : locks_Ask_r5 k s a κ (.bool r5) =
  (bif r5 then
   κ (.tup [.agg [.sl 5 0 (rowOf eLock (fun _ => zLock)) true, .osl 5 1 0 s.Waits.n false], .bool true, .int .i64 0]) [some (.box [.sl 5 0 (rowOf eLock (fun _ => zLock)) true, .osl 5 1 0 s.Waits.n false]), some (.arr 5 s.Waits.n (rowOf eLock s.Waits.w))]
  else (bif decide (wi64 ((s.Held.n : Int) + (s.Waits.n : Int)) = 200) then
    κ (.tup [.agg (eLocks zLocks), .bool false, .int .i64 6]) [some (.box [.sl 5 0 (rowOf eLock (fun _ => zLock)) true, .sl 5 0 (rowOf eLock (fun _ => zLock)) true])]
   else callP ctx k n_locks_grants [.agg (eLock a), .sl 5 s.Held.n (rowOf eLock s.Held.w) s.Held.u, .sl 5 s.Waits.n (rowOf eLock s.Waits.w) s.Waits.u] (locks_Ask_r9 k s a κ))) := by kernel_rfl
theorem locks_Ask_r6_s (k : Nat) (s : TLocks) (a : TLock) (r6 : Bool) (κ : AV → Heap → Option ρ) : locks_Ask_r6 k s a κ (.bool r6) =
  (bif r6 then
   κ (.tup [.agg [.osl 5 1 0 s.Held.n false, .sl 5 0 (rowOf eLock (fun _ => zLock)) true], .bool true, .int .i64 0]) [some (.box [.osl 5 1 0 s.Held.n false, .sl 5 0 (rowOf eLock (fun _ => zLock)) true]), some (.arr 5 s.Held.n (rowOf eLock s.Held.w))]
  else (bif decide (wi64 ((s.Held.n : Int) + (s.Waits.n : Int)) = 200) then
    κ (.tup [.agg (eLocks zLocks), .bool false, .int .i64 6]) [some (.box [.sl 5 0 (rowOf eLock (fun _ => zLock)) true, .sl 5 0 (rowOf eLock (fun _ => zLock)) true])]
   else callP ctx k n_locks_grants [.agg (eLock a), .sl 5 s.Held.n (rowOf eLock s.Held.w) s.Held.u, .sl 5 s.Waits.n (rowOf eLock s.Waits.w) s.Waits.u] (locks_Ask_r10 k s a κ))) := by kernel_rfl
theorem locks_Ask_r7_s (k : Nat) (s : TLocks) (a : TLock) (r7 : Bool) (κ : AV → Heap → Option ρ) : locks_Ask_r7 k s a κ (.bool r7) =
  (bif r7 then
   κ (.tup [.agg [.osl 5 1 0 s.Held.n false, .osl 5 2 0 s.Waits.n false], .bool true, .int .i64 0]) [some (.box [.osl 5 1 0 s.Held.n false, .osl 5 2 0 s.Waits.n false]), some (.arr 5 s.Held.n (rowOf eLock s.Held.w)), some (.arr 5 s.Waits.n (rowOf eLock s.Waits.w))]
  else (bif decide (wi64 ((s.Held.n : Int) + (s.Waits.n : Int)) = 200) then
    κ (.tup [.agg (eLocks zLocks), .bool false, .int .i64 6]) [some (.box [.sl 5 0 (rowOf eLock (fun _ => zLock)) true, .sl 5 0 (rowOf eLock (fun _ => zLock)) true])]
   else callP ctx k n_locks_grants [.agg (eLock a), .sl 5 s.Held.n (rowOf eLock s.Held.w) s.Held.u, .sl 5 s.Waits.n (rowOf eLock s.Waits.w) s.Waits.u] (locks_Ask_r11 k s a κ))) := by kernel_rfl
theorem locks_Ask_r8_s (k : Nat) (s : TLocks) (a : TLock) (r8 : Bool) (κ : AV → Heap → Option ρ) : locks_Ask_r8 k s a κ (.bool r8) =
  (bif r8 then
   (bif cutOK 0 0 (s.Held.n : Int) (s.Held.n : Int) then
    (bif ((decide ((s.Held.n : Int) = (s.Held.n : Int))) && (roomOf (s.Held.n + 1) 56)) then
     κ (.tup [.agg [.osl 5 1 0 (s.Held.n + 1) false, .sl 5 0 (rowOf eLock (fun _ => zLock)) true], .bool true, .int .i64 0]) [some (.box [.osl 5 1 0 (s.Held.n + 1) false, .sl 5 0 (rowOf eLock (fun _ => zLock)) true]), some (.arr 5 (s.Held.n + 1) (catRow s.Held.n (shRow 0 (rowOf eLock (fun _ => zLock))) (litRow eLock [a] zLock)))]
    else none)
   else none)
  else κ (.tup [.agg [.sl 5 0 (rowOf eLock (fun _ => zLock)) true, .osl 5 1 0 1 false], .bool false, .int .i64 0]) [some (.box [.sl 5 0 (rowOf eLock (fun _ => zLock)) true, .osl 5 1 0 1 false]), some (.arr 5 1 (catRow 0 (rowOf eLock (fun _ => zLock)) (litRow eLock [a] zLock)))]) := by kernel_rfl
theorem locks_Ask_r9_s (k : Nat) (s : TLocks) (a : TLock) (r9 : Bool) (κ : AV → Heap → Option ρ) : locks_Ask_r9 k s a κ (.bool r9) =
  (bif r9 then
   (bif cutOK 0 0 (s.Held.n : Int) (s.Held.n : Int) then
    (bif ((decide ((s.Held.n : Int) = (s.Held.n : Int))) && (roomOf (s.Held.n + 1) 56)) then
     κ (.tup [.agg [.osl 5 1 0 (s.Held.n + 1) false, .osl 5 2 0 s.Waits.n false], .bool true, .int .i64 0]) [some (.box [.osl 5 1 0 (s.Held.n + 1) false, .osl 5 2 0 s.Waits.n false]), some (.arr 5 (s.Held.n + 1) (catRow s.Held.n (shRow 0 (rowOf eLock (fun _ => zLock))) (litRow eLock [a] zLock))), some (.arr 5 s.Waits.n (rowOf eLock s.Waits.w))]
    else none)
   else none)
  else (bif decide (((0 + s.Waits.n) + 1) ≤ s.Waits.n) then
    κ (.tup [.agg [.sl 5 0 (rowOf eLock (fun _ => zLock)) true, .osl 5 1 0 (s.Waits.n + 1) false], .bool false, .int .i64 0]) [some (.box [.sl 5 0 (rowOf eLock (fun _ => zLock)) true, .osl 5 1 0 (s.Waits.n + 1) false]), some (.arr 5 s.Waits.n (putRow (0 + s.Waits.n) ((0 + s.Waits.n) + 1) (litRow eLock [a] zLock) (rowOf eLock s.Waits.w)))]
   else (bif ((decide (s.Waits.n = s.Waits.n)) && (roomOf (s.Waits.n + 1) 56)) then
     κ (.tup [.agg [.sl 5 0 (rowOf eLock (fun _ => zLock)) true, .osl 5 1 0 (s.Waits.n + 1) false], .bool false, .int .i64 0]) [some (.box [.sl 5 0 (rowOf eLock (fun _ => zLock)) true, .osl 5 1 0 (s.Waits.n + 1) false]), some (.arr 5 (s.Waits.n + 1) (catRow s.Waits.n (rowOf eLock s.Waits.w) (litRow eLock [a] zLock)))]
    else none))) := by kernel_rfl
theorem locks_Ask_r10_s (k : Nat) (s : TLocks) (a : TLock) (r10 : Bool) (κ : AV → Heap → Option ρ) : locks_Ask_r10 k s a κ (.bool r10) =
  (bif r10 then
   (bif (cutOK s.Held.n 0 (s.Held.n : Int) (s.Held.n : Int) && (decide ((s.Held.n : Int) = (s.Held.n : Int)))) then
    (bif roomOf (s.Held.n + 1) 56 then
     κ (.tup [.agg [.osl 5 1 0 (s.Held.n + 1) false, .sl 5 0 (rowOf eLock (fun _ => zLock)) true], .bool true, .int .i64 0]) [some (.box [.osl 5 1 0 (s.Held.n + 1) false, .sl 5 0 (rowOf eLock (fun _ => zLock)) true]), some (.arr 5 (s.Held.n + 1) (catRow s.Held.n (rowOf eLock (fun i => s.Held.w (0 + i))) (litRow eLock [a] zLock)))]
    else none)
   else none)
  else κ (.tup [.agg [.osl 5 1 0 s.Held.n false, .osl 5 2 0 1 false], .bool false, .int .i64 0]) [some (.box [.osl 5 1 0 s.Held.n false, .osl 5 2 0 1 false]), some (.arr 5 s.Held.n (rowOf eLock s.Held.w)), some (.arr 5 1 (catRow 0 (rowOf eLock (fun _ => zLock)) (litRow eLock [a] zLock)))]) := by kernel_rfl
theorem locks_Ask_r11_s (k : Nat) (s : TLocks) (a : TLock) (r11 : Bool) (κ : AV → Heap → Option ρ) : locks_Ask_r11 k s a κ (.bool r11) =
  (bif r11 then
   (bif (cutOK s.Held.n 0 (s.Held.n : Int) (s.Held.n : Int) && (decide ((s.Held.n : Int) = (s.Held.n : Int)))) then
    (bif roomOf (s.Held.n + 1) 56 then
     κ (.tup [.agg [.osl 5 1 0 (s.Held.n + 1) false, .osl 5 2 0 s.Waits.n false], .bool true, .int .i64 0]) [some (.box [.osl 5 1 0 (s.Held.n + 1) false, .osl 5 2 0 s.Waits.n false]), some (.arr 5 (s.Held.n + 1) (catRow s.Held.n (rowOf eLock (fun i => s.Held.w (0 + i))) (litRow eLock [a] zLock))), some (.arr 5 s.Waits.n (rowOf eLock s.Waits.w))]
    else none)
   else none)
  else (bif decide (((0 + s.Waits.n) + 1) ≤ s.Waits.n) then
    κ (.tup [.agg [.osl 5 1 0 s.Held.n false, .osl 5 2 0 (s.Waits.n + 1) false], .bool false, .int .i64 0]) [some (.box [.osl 5 1 0 s.Held.n false, .osl 5 2 0 (s.Waits.n + 1) false]), some (.arr 5 s.Held.n (rowOf eLock s.Held.w)), some (.arr 5 s.Waits.n (putRow (0 + s.Waits.n) ((0 + s.Waits.n) + 1) (litRow eLock [a] zLock) (rowOf eLock s.Waits.w)))]
   else (bif ((decide (s.Waits.n = s.Waits.n)) && (roomOf (s.Waits.n + 1) 56)) then
     κ (.tup [.agg [.osl 5 1 0 s.Held.n false, .osl 5 2 0 (s.Waits.n + 1) false], .bool false, .int .i64 0]) [some (.box [.osl 5 1 0 s.Held.n false, .osl 5 2 0 (s.Waits.n + 1) false]), some (.arr 5 s.Held.n (rowOf eLock s.Held.w)), some (.arr 5 (s.Waits.n + 1) (catRow s.Waits.n (rowOf eLock s.Waits.w) (litRow eLock [a] zLock)))]
    else none))) := by kernel_rfl
theorem locks_Ask_e (k : Nat) (s : TLocks) (a : TLock) (κ : AV → Heap → Option ρ) : evalF ctx (k + 1) n_locks_Ask [.agg (eLocks s), .agg (eLock a)] [] κ =
  callP ctx k n_locks_Check [.agg (eLocks s)] (locks_Ask_r0 k s a κ) := by kernel_rfl
theorem law22_great_e (k : Nat) (a : TLock) (κ : AV → Heap → Option ρ) : evalF ctx (k + 1) n_law22_great [.agg (eLock a)] [] κ =
  (bif decide (2000 < (a.R.From.size : Int)) then
   κ (.bool true) []
  else κ (.bool (decide (2000 < (a.R.To.size : Int)))) []) := by kernel_rfl
end Go.Proofs.YticcbbcgboddpaaC

set_option linter.unusedVariables false
set_option linter.unusedSimpArgs false
set_option maxRecDepth 20000
namespace Go.Proofs.YticcbbcgboddpaaC
open Go Go.Ev Go.Proofs
variable {ρ : Type}
def addW (n : Nat) (v : Nat → TLock) (a : TLock) : Nat → TLock := catW n v (fun i => [a].getD i zLock)
theorem lst_add (n : Nat) (v : Nat → TLock) (a : TLock) : lst (n + 1) (addW n v a) = lst n v ++ [a] := l_cat n 1 v (fun i => [a].getD i zLock) false
theorem clone_lock (k n : Nat) (w : Nat → TLock) (u : Bool) (hn : n ≤ 10000) (κ : AV → Heap → Option ρ) : evalF ctx (k + 1) n_slices_Clone_Lock [.sl 5 n (rowOf eLock w) u] [] κ = if n = 0 then κ (.sl 5 0 (rowOf eLock (fun _ => zLock)) true) [] else κ (.osl 5 0 0 n false) [some (.arr 5 n (rowOf eLock w))] := by
  refine (clone_ev ctx (f := n_slices_Clone_Lock) (sz := 5) (by_ := 56) (z := eLock zLock) (by kernel_rfl) k n (rowOf eLock w) u κ).trans ?_
  rw [room_of (by omega) (by omega), if_pos (rfl : true = true)]
  rfl
theorem own_run (k : Nat) (s : TLocks) (hn : s.Held.n ≤ 10000) (hm : s.Waits.n ≤ 10000) (hk : 3 ≤ k) (κ : AV → Heap → Option ρ) : evalF ctx k n_locks_own [.agg (eLocks s)] [] κ =
    if s.Held.n = 0 then (if s.Waits.n = 0 then κ (.agg (eLocks zLocks)) [some (.box [.sl 5 0 (rowOf eLock (fun _ => zLock)) true, .sl 5 0 (rowOf eLock (fun _ => zLock)) true])]
      else κ (.agg [.sl 5 0 (rowOf eLock (fun _ => zLock)) true, .osl 5 1 0 s.Waits.n false]) [some (.box [.sl 5 0 (rowOf eLock (fun _ => zLock)) true, .osl 5 1 0 s.Waits.n false]), some (.arr 5 s.Waits.n (rowOf eLock s.Waits.w))])
    else if s.Waits.n = 0 then κ (.agg [.osl 5 1 0 s.Held.n false, .sl 5 0 (rowOf eLock (fun _ => zLock)) true]) [some (.box [.osl 5 1 0 s.Held.n false, .sl 5 0 (rowOf eLock (fun _ => zLock)) true]), some (.arr 5 s.Held.n (rowOf eLock s.Held.w))]
      else κ (.agg [.osl 5 1 0 s.Held.n false, .osl 5 2 0 s.Waits.n false]) [some (.box [.osl 5 1 0 s.Held.n false, .osl 5 2 0 s.Waits.n false]), some (.arr 5 s.Held.n (rowOf eLock s.Held.w)), some (.arr 5 s.Waits.n (rowOf eLock s.Waits.w))] := by
  obtain ⟨k, rfl⟩ : ∃ k', k = k' + 2 := ⟨k - 2, by omega⟩
  refine (locks_own_e (k + 1) s κ).trans ?_
  rw [clone_lock k _ _ _ hn]
  by_cases h1 : s.Held.n = 0
  · rw [if_pos h1, if_pos h1, locks_own_r0_s, clone_lock k _ _ _ hm]
    by_cases h2 : s.Waits.n = 0
    · rw [if_pos h2, if_pos h2, locks_own_r1_s]
    · rw [if_neg h2, if_neg h2, locks_own_r1_s1]
  · rw [if_neg h1, if_neg h1, locks_own_r0_s1, clone_lock k _ _ _ hm]
    by_cases h2 : s.Waits.n = 0
    · rw [if_pos h2, if_pos h2, locks_own_r2_s]
    · rw [if_neg h2, if_neg h2, locks_own_r2_s1]
def okB (s : TLocks) (a : TLock) : Bool := grantsB a s.Held.n s.Held.w s.Waits.n s.Waits.w
def askE (s : TLocks) (a : TLock) : Int :=
  if checkB s = false then 220 else if mayB a = false then 2 else if (anyN s.Waits.n fun i => decide ((s.Waits.w i).Tx = a.Tx)) = true then 9
  else if coveredB s a = true then 0 else if s.Held.n + s.Waits.n = 200 then 6 else 0
def askG (s : TLocks) (a : TLock) : Bool := decide (askE s a = 0) && (coveredB s a || okB s a)
def askH (s : TLocks) (a : TLock) : List TLock := if askE s a ≠ 0 then [] else if (!coveredB s a && okB s a) = true then s.Held.l ++ [a] else s.Held.l
def askW (s : TLocks) (a : TLock) : List TLock := if askE s a ≠ 0 then [] else if (coveredB s a || okB s a) = true then s.Waits.l else s.Waits.l ++ [a]
theorem Ask_ok (k : Nat) (s : TLocks) (a : TLock) (hn : s.Held.n ≤ 10000) (hm : s.Waits.n ≤ 10000) (hk : s.Held.n + s.Waits.n + 80 ≤ k) :
    ∃ n v m w, lst n v = askH s a ∧ lst m w = askW s a ∧ ∀ κ : AV → Option ρ, callP ctx k n_locks_Ask [.agg (eLocks s), .agg (eLock a)] κ = κ (.tup [.agg (eLocks ⟨⟨n, v, false⟩, ⟨m, w, false⟩⟩), .bool (askG s a), .int .i64 (askE s a)]) := by
  obtain ⟨k, rfl⟩ : ∃ k', k = k' + 1 := ⟨k - 1, by omega⟩
  have err : ∀ c : Int, c ≠ 0 → askE s a = c → (∀ κ : AV → Option ρ, callP ctx (k + 1) n_locks_Ask [.agg (eLocks s), .agg (eLock a)] κ = κ (.tup [.agg (eLocks ⟨⟨0, fun _ => zLock, false⟩, ⟨0, fun _ => zLock, false⟩⟩), .bool false, .int .i64 c])) →
      ∃ n v m w, lst n v = askH s a ∧ lst m w = askW s a ∧ ∀ κ : AV → Option ρ, callP ctx (k + 1) n_locks_Ask [.agg (eLocks s), .agg (eLock a)] κ = κ (.tup [.agg (eLocks ⟨⟨n, v, false⟩, ⟨m, w, false⟩⟩), .bool (askG s a), .int .i64 (askE s a)]) := by
    intro c hc he h
    refine ⟨0, fun _ => zLock, 0, fun _ => zLock, ?_, ?_, fun κ => ?_⟩
    · unfold askH; rw [he, if_pos hc]; rfl
    · unfold askW; rw [he, if_pos hc]; rfl
    · unfold askG
      rw [h, he, decide_eq_false hc, Bool.false_and]
  have start : ∀ κ : AV → Option ρ, callP ctx (k + 1) n_locks_Ask [.agg (eLocks s), .agg (eLock a)] κ = callP ctx k n_locks_Check [.agg (eLocks s)] (locks_Ask_r0 k s a (pk κ)) := fun κ => by
    rw [callP_eq]; exact locks_Ask_e k s a (pk κ)
  have st1 : ∀ κ : AV → Option ρ, callP ctx (k + 1) n_locks_Ask [.agg (eLocks s), .agg (eLock a)] κ = locks_Ask_r0 k s a (pk κ) (.int .i64 (checkE' s)) := fun κ => by
    rw [start, locks_Check_ok k s hn hm (by omega)]
  cases hc : checkB s with
  | false =>
    refine err 220 (by decide) (by unfold askE; rw [hc, if_pos rfl]) fun κ => ?_
    rw [st1]
    unfold checkE'
    rw [hc, locks_Ask_r0_s]; rfl
  | true =>
    have st2 : ∀ κ : AV → Option ρ, callP ctx (k + 1) n_locks_Ask [.agg (eLocks s), .agg (eLock a)] κ = locks_Ask_r1 k s a 0 (pk κ) (.bool (mayB a)) := fun κ => by
      rw [st1]
      unfold checkE'
      rw [hc, if_pos rfl, locks_Ask_r0_s, dec_int, Bool.not_true, cond_false, may_ok k a (by omega)]
    cases hmay : mayB a with
    | false =>
      refine err 2 (by decide) (by unfold askE; rw [hc, hmay, if_neg (by decide), if_pos rfl]) fun κ => ?_
      rw [st2, hmay, locks_Ask_r1_s]; rfl
    | true =>
      have st3 : ∀ κ : AV → Option ρ, callP ctx (k + 1) n_locks_Ask [.agg (eLocks s), .agg (eLock a)] κ = locks_Ask_r2 k s a true (pk κ) (.bool (anyN s.Waits.n fun i => decide ((s.Waits.w i).Tx = a.Tx))) [some (.box (eLock a))] := fun κ => by
        rw [st2, hmay, locks_Ask_r1_s, Bool.not_true, cond_false, ask_row k _ _ _ a hm (by omega)]
      cases hany : anyN s.Waits.n fun i => decide ((s.Waits.w i).Tx = a.Tx) with
      | true =>
        refine err 9 (by decide) (by unfold askE; rw [hc, hmay, hany, if_neg (by decide), if_neg (by decide), if_pos rfl]) fun κ => ?_
        rw [st3, hany, locks_Ask_r2_s]; rfl
      | false =>
        have st4 : ∀ κ : AV → Option ρ, callP ctx (k + 1) n_locks_Ask [.agg (eLocks s), .agg (eLock a)] κ = evalF ctx k n_locks_own [.agg (eLocks s)] [] (locks_Ask_r3 k s a false (pk κ)) := fun κ => by
          rw [st3, hany, locks_Ask_r2_s, cond_false]
        have hE : askE s a = if coveredB s a = true then 0 else if s.Held.n + s.Waits.n = 200 then 6 else 0 := by
          unfold askE
          rw [hc, hmay, hany, if_neg (by decide), if_neg (by decide), if_neg (by decide)]
        have hsum : wi64 ((s.Held.n : Int) + (s.Waits.n : Int)) = ((s.Held.n + s.Waits.n : Nat) : Int) := by rw [wi64_in (by omega) (by omega)]; omega
        have cov := covered_ok (ρ := ρ) k s a hn (by omega)
        have grt := grants_ok (ρ := ρ) k a s.Held.n s.Waits.n s.Held.w s.Waits.w s.Held.u s.Waits.u hn hm (by omega)
        by_cases h6 : ¬ coveredB s a = true ∧ s.Held.n + s.Waits.n = 200
        · refine err 6 (by decide) (by rw [hE, if_neg h6.1, if_pos h6.2]) fun κ => ?_
          have hcf : coveredB s a = false := by simpa using h6.1
          rw [st4, own_run k s hn hm (by omega)]
          have d : decide (wi64 ((s.Held.n : Int) + (s.Waits.n : Int)) = 200) = true := decide_eq_true (by rw [hsum]; omega)
          by_cases q1 : s.Held.n = 0
          · rw [if_pos q1]
            by_cases q2 : s.Waits.n = 0
            · rw [if_pos q2, locks_Ask_r3_s, cov, hcf, locks_Ask_r4_s, d]; rfl
            · rw [if_neg q2, locks_Ask_r3_s1, cov, hcf, locks_Ask_r5_s, d]; rfl
          · rw [if_neg q1]
            by_cases q2 : s.Waits.n = 0
            · rw [if_pos q2, locks_Ask_r3_s2, cov, hcf, locks_Ask_r6_s, d]; rfl
            · rw [if_neg q2, locks_Ask_r3_s3, cov, hcf, locks_Ask_r7_s, d]; rfl
        · have hE0 : askE s a = 0 := by
            rw [hE]
            by_cases q : coveredB s a = true
            · rw [if_pos q]
            · rw [if_neg q, if_neg (fun h => h6 ⟨q, h⟩)]
          unfold askH askW askG
          rw [hE0, if_neg (show ¬ ((0 : Int) ≠ 0) by decide), if_neg (show ¬ ((0 : Int) ≠ 0) by decide), dec_int, Bool.true_and]
          cases hcv : coveredB s a with
          | true =>
            refine ⟨s.Held.n, if s.Held.n = 0 then fun _ => zLock else s.Held.w, s.Waits.n, if s.Waits.n = 0 then fun _ => zLock else s.Waits.w, ?_, ?_, fun κ => ?_⟩
            · rw [Bool.not_true, Bool.false_and, if_neg (show ¬ (false = true) by decide)]
              by_cases q1 : s.Held.n = 0
              · unfold Sl.l; rw [q1]; rfl
              · rw [if_neg q1]
            · rw [Bool.true_or, if_pos rfl]
              by_cases q1 : s.Waits.n = 0
              · unfold Sl.l; rw [q1]; rfl
              · rw [if_neg q1]
            · rw [st4, own_run k s hn hm (by omega), Bool.true_or]
              by_cases q1 : s.Held.n = 0
              · rw [if_pos q1, if_pos q1]
                by_cases q2 : s.Waits.n = 0
                · rw [if_pos q2, if_pos q2, locks_Ask_r3_s, cov, hcv, locks_Ask_r4_s, q1, q2]; rfl
                · rw [if_neg q2, if_neg q2, locks_Ask_r3_s1, cov, hcv, locks_Ask_r5_s, q1]
                  show κ (.tup [.agg [.sl 5 0 (rowOf eLock fun _ => zLock) false, .sl 5 s.Waits.n (fun i => rowOf eLock s.Waits.w (0 + i)) false], .bool true, .int .i64 0]) = _
                  rw [zrow]; rfl
              · rw [if_neg q1, if_neg q1]
                by_cases q2 : s.Waits.n = 0
                · rw [if_pos q2, if_pos q2, locks_Ask_r3_s2, cov, hcv, locks_Ask_r6_s, q2]
                  show κ (.tup [.agg [.sl 5 s.Held.n (fun i => rowOf eLock s.Held.w (0 + i)) false, .sl 5 0 (rowOf eLock fun _ => zLock) false], .bool true, .int .i64 0]) = _
                  rw [zrow]; rfl
                · rw [if_neg q2, if_neg q2, locks_Ask_r3_s3, cov, hcv, locks_Ask_r7_s]
                  show κ (.tup [.agg [.sl 5 s.Held.n (fun i => rowOf eLock s.Held.w (0 + i)) false, .sl 5 s.Waits.n (fun i => rowOf eLock s.Waits.w (0 + i)) false], .bool true, .int .i64 0]) = _
                  rw [zrow, zrow]; rfl
          | false =>
            have d : decide (wi64 ((s.Held.n : Int) + (s.Waits.n : Int)) = 200) = false := decide_eq_false (by rw [hsum]; intro h; exact h6 ⟨by rw [hcv]; simp, by omega⟩)
            have hn1 : roomOf (s.Held.n + 1) 56 = true := room_of (by omega) (by omega)
            have hm1 : roomOf (s.Waits.n + 1) 56 = true := room_of (by omega) (by omega)
            have c1 : cutOK s.Held.n 0 (s.Held.n : Int) (s.Held.n : Int) = true := cut_ok (by omega) (by omega) (by omega) (by omega)
            have dm : decide (((0 + s.Waits.n) + 1) ≤ s.Waits.n) = false := decide_eq_false (by omega)
            have dn : decide (s.Waits.n = s.Waits.n) = true := decide_eq_true rfl
            have grt' : ∀ κ : AV → Option ρ, callP ctx k n_locks_grants [.agg (eLock a), .sl 5 s.Held.n (rowOf eLock s.Held.w) s.Held.u, .sl 5 s.Waits.n (rowOf eLock s.Waits.w) s.Waits.u] κ = κ (.bool (okB s a)) := grt
            cases hok : okB s a with
            | true =>
              refine ⟨s.Held.n + 1, if s.Held.n = 0 then addW s.Held.n (fun _ => zLock) a else addW s.Held.n s.Held.w a, s.Waits.n, if s.Waits.n = 0 then fun _ => zLock else s.Waits.w, ?_, ?_, fun κ => ?_⟩
              · rw [Bool.not_false, Bool.true_and, if_pos rfl]
                by_cases q1 : s.Held.n = 0
                · rw [if_pos q1, lst_add]; unfold Sl.l; rw [q1]; rfl
                · rw [if_neg q1, lst_add]
              · rw [Bool.or_true, if_pos rfl]
                by_cases q1 : s.Waits.n = 0
                · unfold Sl.l; rw [q1]; rfl
                · rw [if_neg q1]
              · rw [st4, own_run k s hn hm (by omega), Bool.or_true]
                by_cases q1 : s.Held.n = 0
                · have c0 : cutOK 0 0 (s.Held.n : Int) (s.Held.n : Int) = true := by rw [q1]; rfl
                  rw [if_pos q1, if_pos q1]
                  by_cases q2 : s.Waits.n = 0
                  · rw [if_pos q2, if_pos q2, locks_Ask_r3_s, cov, hcv, locks_Ask_r4_s, cond_false, d, cond_false, grt', hok, locks_Ask_r8_s, cond_true, c0, cond_true, dec_int, hn1, Bool.and_self, cond_true, sh0_row, lit_row, cat_row]
                    show κ (.tup [.agg [.sl 5 (s.Held.n + 1) (fun i => rowOf eLock (addW s.Held.n (fun _ => zLock) a) (0 + i)) false, .sl 5 0 (rowOf eLock fun _ => zLock) false], .bool true, .int .i64 0]) = _
                    rw [zrow, q2]; rfl
                  · rw [if_neg q2, if_neg q2, locks_Ask_r3_s1, cov, hcv, locks_Ask_r5_s, cond_false, d, cond_false, grt', hok, locks_Ask_r9_s, cond_true, c0, cond_true, dec_int, hn1, Bool.and_self, cond_true, sh0_row, lit_row, cat_row]
                    show κ (.tup [.agg [.sl 5 (s.Held.n + 1) (fun i => rowOf eLock (addW s.Held.n (fun _ => zLock) a) (0 + i)) false, .sl 5 s.Waits.n (fun i => rowOf eLock s.Waits.w (0 + i)) false], .bool true, .int .i64 0]) = _
                    rw [zrow, zrow]; rfl
                · rw [if_neg q1, if_neg q1]
                  by_cases q2 : s.Waits.n = 0
                  · rw [if_pos q2, if_pos q2, locks_Ask_r3_s2, cov, hcv, locks_Ask_r6_s, cond_false, d, cond_false, grt', hok, locks_Ask_r10_s, cond_true, c1, dec_int, Bool.and_self, cond_true, hn1, cond_true, zrow, lit_row, cat_row]
                    show κ (.tup [.agg [.sl 5 (s.Held.n + 1) (fun i => rowOf eLock (addW s.Held.n s.Held.w a) (0 + i)) false, .sl 5 0 (rowOf eLock fun _ => zLock) false], .bool true, .int .i64 0]) = _
                    rw [zrow, q2]; rfl
                  · rw [if_neg q2, if_neg q2, locks_Ask_r3_s3, cov, hcv, locks_Ask_r7_s, cond_false, d, cond_false, grt', hok, locks_Ask_r11_s, cond_true, c1, dec_int, Bool.and_self, cond_true, hn1, cond_true, zrow, lit_row, cat_row]
                    show κ (.tup [.agg [.sl 5 (s.Held.n + 1) (fun i => rowOf eLock (addW s.Held.n s.Held.w a) (0 + i)) false, .sl 5 s.Waits.n (fun i => rowOf eLock s.Waits.w (0 + i)) false], .bool true, .int .i64 0]) = _
                    rw [zrow, zrow]; rfl
            | false =>
              refine ⟨s.Held.n, if s.Held.n = 0 then fun _ => zLock else s.Held.w, s.Waits.n + 1, if s.Waits.n = 0 then addW 0 (fun _ => zLock) a else addW s.Waits.n s.Waits.w a, ?_, ?_, fun κ => ?_⟩
              · rw [Bool.and_false, if_neg (show ¬ (false = true) by decide)]
                by_cases q1 : s.Held.n = 0
                · unfold Sl.l; rw [q1]; rfl
                · rw [if_neg q1]
              · rw [Bool.or_false, if_neg (show ¬ (false = true) by decide)]
                by_cases q1 : s.Waits.n = 0
                · rw [if_pos q1, q1, lst_add]; unfold Sl.l; rw [q1]; rfl
                · rw [if_neg q1, lst_add]
              · rw [st4, own_run k s hn hm (by omega), Bool.or_false]
                by_cases q1 : s.Held.n = 0
                · rw [if_pos q1, if_pos q1]
                  by_cases q2 : s.Waits.n = 0
                  · rw [if_pos q2, if_pos q2, locks_Ask_r3_s, cov, hcv, locks_Ask_r4_s, cond_false, d, cond_false, grt', hok, locks_Ask_r8_s, cond_false, lit_row, cat_row]
                    show κ (.tup [.agg [.sl 5 0 (rowOf eLock fun _ => zLock) false, .sl 5 1 (fun i => rowOf eLock (addW 0 (fun _ => zLock) a) (0 + i)) false], .bool false, .int .i64 0]) = _
                    rw [zrow, q1, q2]; rfl
                  · rw [if_neg q2, if_neg q2, locks_Ask_r3_s1, cov, hcv, locks_Ask_r5_s, cond_false, d, cond_false, grt', hok, locks_Ask_r9_s, cond_false, dm, cond_false, dn, hm1, Bool.and_self, cond_true, lit_row, cat_row]
                    show κ (.tup [.agg [.sl 5 0 (rowOf eLock fun _ => zLock) false, .sl 5 (s.Waits.n + 1) (fun i => rowOf eLock (addW s.Waits.n s.Waits.w a) (0 + i)) false], .bool false, .int .i64 0]) = _
                    rw [zrow, q1]; rfl
                · rw [if_neg q1, if_neg q1]
                  by_cases q2 : s.Waits.n = 0
                  · rw [if_pos q2, if_pos q2, locks_Ask_r3_s2, cov, hcv, locks_Ask_r6_s, cond_false, d, cond_false, grt', hok, locks_Ask_r10_s, cond_false, lit_row, cat_row]
                    show κ (.tup [.agg [.sl 5 s.Held.n (fun i => rowOf eLock s.Held.w (0 + i)) false, .sl 5 1 (fun i => rowOf eLock (addW 0 (fun _ => zLock) a) (0 + i)) false], .bool false, .int .i64 0]) = _
                    rw [zrow, zrow, q2]; rfl
                  · rw [if_neg q2, if_neg q2, locks_Ask_r3_s3, cov, hcv, locks_Ask_r7_s, cond_false, d, cond_false, grt', hok, locks_Ask_r11_s, cond_false, dm, cond_false, dn, hm1, Bool.and_self, cond_true, lit_row, cat_row]
                    show κ (.tup [.agg [.sl 5 s.Held.n (fun i => rowOf eLock s.Held.w (0 + i)) false, .sl 5 (s.Waits.n + 1) (fun i => rowOf eLock (addW s.Waits.n s.Waits.w a) (0 + i)) false], .bool false, .int .i64 0]) = _
                    rw [zrow, zrow]; rfl
end Go.Proofs.YticcbbcgboddpaaC

set_option linter.unusedVariables false
set_option maxRecDepth 20000
namespace Go.Proofs.YticcbbcgboddpaaC
open Go Go.Ev Go.Proofs
variable {ρ : Type}
noncomputable def kept_others_h0 (k j : Nat) (l : Sl TLock) (tx : Int) (x10 : Int) (κ : AV → Heap → Option ρ) : Option ρ := headAt ctx k n_locks_kept_Lock 1 [.r, .r, .l, .r] j ⟨(envOf 23 [(1, .fn n_locks_others_1 [] [.ref 0 0]), (5, .sl 5 0 (rowOf eLock (fun _ => zLock)) true), (8, .sl 5 l.n (rowOf eLock l.w) l.u), (9, .int .i64 (l.n : Int)), (10, .int .i64 x10)]), [some (.box [.int .u64 tx])]⟩ κ
noncomputable def kept_others_h1 (k j : Nat) (l : Sl TLock) (tx : Int) (x5n : Nat) (x10 : Int) (n1 : Nat) (w1 : Nat → List AV) (κ : AV → Heap → Option ρ) : Option ρ := headAt ctx k n_locks_kept_Lock 1 [.r, .r, .l, .r] j ⟨(envOf 23 [(1, .fn n_locks_others_1 [] [.ref 0 0]), (5, .osl 5 1 0 x5n false), (8, .sl 5 l.n (rowOf eLock l.w) l.u), (9, .int .i64 (l.n : Int)), (10, .int .i64 x10)]), [some (.box [.int .u64 tx]), some (.arr 5 n1 w1)]⟩ κ
theorem kept_others_h0_s (k j : Nat) (l : Sl TLock) (tx : Int) (x10 : Int) (κ : AV → Heap → Option ρ) : kept_others_h0 (k + 1) (j + 1) l tx x10 κ =
  (bif decide (x10 < (l.n : Int)) then
   (bif idxOK x10 l.n then
    (bif !decide (((l.w ((x10).toNat)).Tx) = tx) then
     kept_others_h1 (k + 1) j l tx 1 (wi64 (x10 + 1)) 1 (catRow 0 (rowOf eLock (fun _ => zLock)) (litRow eLock [⟨((l.w ((x10).toNat)).Tx), ⟨(((l.w ((x10).toNat)).R).From), (((l.w ((x10).toNat)).R).To), (((l.w ((x10).toNat)).R).End)⟩, ((l.w ((x10).toNat)).X)⟩] zLock)) κ
    else kept_others_h0 (k + 1) j l tx (wi64 (x10 + 1)) κ)
   else none)
  else κ (.sl 5 0 (rowOf eLock (fun _ => zLock)) true) [some (.box [.int .u64 tx])]) := by kernel_rfl
theorem kept_others_h1_s (k j : Nat) (l : Sl TLock) (tx : Int) (x5n : Nat) (x10 : Int) (n1 : Nat) (w1 : Nat → TLock) (κ : AV → Heap → Option ρ) : kept_others_h1 (k + 1) (j + 1) l tx x5n x10 n1 (rowOf eLock w1) κ =
  (bif decide (x10 < (l.n : Int)) then
   (bif idxOK x10 l.n then
    (bif !decide (((l.w ((x10).toNat)).Tx) = tx) then
     (bif decide (((0 + x5n) + 1) ≤ n1) then
      kept_others_h1 (k + 1) j l tx (x5n + 1) (wi64 (x10 + 1)) n1 (putRow (0 + x5n) ((0 + x5n) + 1) (litRow eLock [⟨((l.w ((x10).toNat)).Tx), ⟨(((l.w ((x10).toNat)).R).From), (((l.w ((x10).toNat)).R).To), (((l.w ((x10).toNat)).R).End)⟩, ((l.w ((x10).toNat)).X)⟩] zLock) (rowOf eLock w1)) κ
     else (bif ((decide (x5n = n1)) && (roomOf (x5n + 1) 56)) then
       kept_others_h1 (k + 1) j l tx (x5n + 1) (wi64 (x10 + 1)) (x5n + 1) (catRow x5n (rowOf eLock w1) (litRow eLock [⟨((l.w ((x10).toNat)).Tx), ⟨(((l.w ((x10).toNat)).R).From), (((l.w ((x10).toNat)).R).To), (((l.w ((x10).toNat)).R).End)⟩, ((l.w ((x10).toNat)).X)⟩] zLock)) κ
      else none))
    else kept_others_h1 (k + 1) j l tx x5n (wi64 (x10 + 1)) n1 (rowOf eLock w1) κ)
   else none)
  else κ (.osl 5 1 0 x5n false) [some (.box [.int .u64 tx]), some (.arr 5 n1 (rowOf eLock w1))]) := by kernel_rfl
theorem kept_others_e (k : Nat) (l : Sl TLock) (tx : Int) (κ : AV → Heap → Option ρ) : evalF ctx (k + 1) n_locks_kept_Lock [.sl 5 l.n (rowOf eLock l.w) l.u, .fn n_locks_others_1 [] [.ref 0 0]] [some (.box [.int .u64 tx])] κ =
  kept_others_h0 k k l tx 0 κ := by kernel_rfl
end Go.Proofs.YticcbbcgboddpaaC

set_option linter.unusedVariables false
set_option maxRecDepth 20000
namespace Go.Proofs.YticcbbcgboddpaaC
open Go Go.Ev Go.Proofs
variable {ρ : Type}
noncomputable def serve01_h0 (k j : Nat) (bn : Nat) (bw : Nat → TLock) (κ : AV → Heap → Option ρ) : Option ρ := headAt ctx k n_locks_serve 1 [.r, .r, .r, .r, .l, .r] j ⟨(envOf 45 [(4, .ref 1 0), (6, .ref 2 0), (7, .sl 1 0 (rowOf (eI .u64) (fun _ => 0)) true), (12, .osl 5 0 0 bn false), (13, .int .i64 (bn : Int)), (14, .int .i64 0)]), [some (.arr 5 bn (rowOf eLock bw)), some (.box [.sl 5 0 (rowOf eLock (fun _ => zLock)) true, .sl 5 0 (rowOf eLock (fun _ => zLock)) true]), some (.box [.sl 5 0 (rowOf eLock (fun _ => zLock)) true, .sl 5 0 (rowOf eLock (fun _ => zLock)) true])]⟩ κ
noncomputable def serve01_h1 (k j : Nat) (bn : Nat) (bw : Nat → TLock) (x14 : Int) (b2_1n : Nat) (n3 : Nat) (w3 : Nat → List AV) (κ : AV → Heap → Option ρ) : Option ρ := headAt ctx k n_locks_serve 1 [.r, .r, .r, .r, .l, .r] j ⟨(envOf 45 [(4, .ref 1 0), (6, .ref 2 0), (7, .sl 1 0 (rowOf (eI .u64) (fun _ => 0)) true), (12, .osl 5 0 0 bn false), (13, .int .i64 (bn : Int)), (14, .int .i64 x14)]), [some (.arr 5 bn (rowOf eLock bw)), some (.box [.sl 5 0 (rowOf eLock (fun _ => zLock)) true, .sl 5 0 (rowOf eLock (fun _ => zLock)) true]), some (.box [.sl 5 0 (rowOf eLock (fun _ => zLock)) true, .osl 5 3 0 b2_1n false]), some (.arr 5 n3 w3)]⟩ κ
noncomputable def serve01_h2 (k j : Nat) (bn : Nat) (bw : Nat → TLock) (x7n : Nat) (x14 : Int) (b2_0n : Nat) (n3 : Nat) (w3_1 : Nat → List AV) (n4 : Nat) (w4 : Nat → List AV) (κ : AV → Heap → Option ρ) : Option ρ := headAt ctx k n_locks_serve 1 [.r, .r, .r, .r, .l, .r] j ⟨(envOf 45 [(4, .ref 1 0), (6, .ref 2 0), (7, .osl 1 3 0 x7n false), (12, .osl 5 0 0 bn false), (13, .int .i64 (bn : Int)), (14, .int .i64 x14)]), [some (.arr 5 bn (rowOf eLock bw)), some (.box [.sl 5 0 (rowOf eLock (fun _ => zLock)) true, .sl 5 0 (rowOf eLock (fun _ => zLock)) true]), some (.box [.osl 5 4 0 b2_0n false, .sl 5 0 (rowOf eLock (fun _ => zLock)) true]), some (.arr 1 n3 w3_1), some (.arr 5 n4 w4)]⟩ κ
noncomputable def serve01_h3 (k j : Nat) (bn : Nat) (bw : Nat → TLock) (w3_1 : Nat → List AV) (w4 : Nat → List AV) (w5 : Nat → List AV) (x14 : Int) (b2_1n : Nat) (n5 : Nat) (x7n : Nat) (b2_0n : Nat) (n3 : Nat) (n4 : Nat) (κ : AV → Heap → Option ρ) : Option ρ := headAt ctx k n_locks_serve 1 [.r, .r, .r, .r, .l, .r] j ⟨(envOf 45 [(4, .ref 1 0), (6, .ref 2 0), (7, .osl 1 3 0 x7n false), (12, .osl 5 0 0 bn false), (13, .int .i64 (bn : Int)), (14, .int .i64 x14)]), [some (.arr 5 bn (rowOf eLock bw)), some (.box [.sl 5 0 (rowOf eLock (fun _ => zLock)) true, .sl 5 0 (rowOf eLock (fun _ => zLock)) true]), some (.box [.osl 5 4 0 b2_0n false, .osl 5 5 0 b2_1n false]), some (.arr 1 n3 w3_1), some (.arr 5 n4 w4), some (.arr 5 n5 w5)]⟩ κ
noncomputable def serve01_r0 (k j1 : Nat) (bn : Nat) (bw : Nat → TLock) (κ : AV → Heap → Option ρ) (v : AV) : Option ρ := resAt ctx k n_locks_serve 1 [.r, .r, .r, .r, .l, .r, .into j1, .r, .r, .l, .r, .l, .l] 5 [] ⟨(envOf 45 [(4, .ref 1 0), (6, .ref 2 0), (7, .sl 1 0 (rowOf (eI .u64) (fun _ => 0)) true), (9, .ref 3 0), (12, .osl 5 0 0 bn false), (13, .int .i64 (bn : Int)), (14, .int .i64 0), (18, .agg (eLock ⟨((bw 0).Tx), ⟨(((bw 0).R).From), (((bw 0).R).To), (((bw 0).R).End)⟩, ((bw 0).X)⟩)), (19, .ref 2 0), (20, .sl 5 0 (rowOf eLock (fun _ => zLock)) true), (21, .ref 2 1), (22, .sl 5 0 (rowOf eLock (fun _ => zLock)) true), (23, v)]), [some (.arr 5 bn (rowOf eLock bw)), some (.box [.sl 5 0 (rowOf eLock (fun _ => zLock)) true, .sl 5 0 (rowOf eLock (fun _ => zLock)) true]), some (.box [.sl 5 0 (rowOf eLock (fun _ => zLock)) true, .sl 5 0 (rowOf eLock (fun _ => zLock)) true]), some (.box (eLock ⟨((bw 0).Tx), ⟨(((bw 0).R).From), (((bw 0).R).To), (((bw 0).R).End)⟩, ((bw 0).X)⟩))]⟩ κ
noncomputable def serve01_r1 (k j1 : Nat) (bn : Nat) (bw : Nat → TLock) (x14 : Int) (b2_1n : Nat) (n3 : Nat) (w3 : Nat → TLock) (κ : AV → Heap → Option ρ) (v : AV) : Option ρ := retH false [.agg (eLock ⟨((bw (0 + (x14).toNat)).Tx), ⟨(((bw (0 + (x14).toNat)).R).From), (((bw (0 + (x14).toNat)).R).To), (((bw (0 + (x14).toNat)).R).End)⟩, ((bw (0 + (x14).toNat)).X)⟩), .sl 5 0 (rowOf eLock (fun _ => zLock)) true, .osl 5 4 0 b2_1n false] [some (.arr 5 bn (rowOf eLock bw)), some (.box [.sl 5 0 (rowOf eLock (fun _ => zLock)) true, .sl 5 0 (rowOf eLock (fun _ => zLock)) true]), some (.box [.sl 5 0 (rowOf eLock (fun _ => zLock)) true, .osl 5 4 0 b2_1n false]), some (.box (eLock ⟨((bw (0 + (x14).toNat)).Tx), ⟨(((bw (0 + (x14).toNat)).R).From), (((bw (0 + (x14).toNat)).R).To), (((bw (0 + (x14).toNat)).R).End)⟩, ((bw (0 + (x14).toNat)).X)⟩)), some (.arr 5 n3 (rowOf eLock w3))] (fun v H => resAt ctx k n_locks_serve 1 [.r, .r, .r, .r, .l, .r, .into j1, .r, .r, .l, .r, .l, .l] 5 [] ⟨(envOf 45 [(4, .ref 1 0), (6, .ref 2 0), (7, .sl 1 0 (rowOf (eI .u64) (fun _ => 0)) true), (9, .ref 3 0), (12, .osl 5 0 0 bn false), (13, .int .i64 (bn : Int)), (14, .int .i64 x14), (18, .agg (eLock ⟨((bw (0 + (x14).toNat)).Tx), ⟨(((bw (0 + (x14).toNat)).R).From), (((bw (0 + (x14).toNat)).R).To), (((bw (0 + (x14).toNat)).R).End)⟩, ((bw (0 + (x14).toNat)).X)⟩)), (19, .ref 2 0), (20, .sl 5 0 (rowOf eLock (fun _ => zLock)) true), (21, .ref 2 1), (22, .osl 5 4 0 b2_1n false), (23, v)]), H⟩ κ) v
noncomputable def serve01_r2 (k j1 : Nat) (bn : Nat) (bw : Nat → TLock) (x14 : Int) (n3 : Nat) (w3_1 : Nat → Int) (w4 : Nat → TLock) (x7n : Nat) (b2_0n : Nat) (n4 : Nat) (κ : AV → Heap → Option ρ) (v : AV) : Option ρ := retH false [.agg (eLock ⟨((bw (0 + (x14).toNat)).Tx), ⟨(((bw (0 + (x14).toNat)).R).From), (((bw (0 + (x14).toNat)).R).To), (((bw (0 + (x14).toNat)).R).End)⟩, ((bw (0 + (x14).toNat)).X)⟩), .osl 5 5 0 b2_0n false, .sl 5 0 (rowOf eLock (fun _ => zLock)) true] [some (.arr 5 bn (rowOf eLock bw)), some (.box [.sl 5 0 (rowOf eLock (fun _ => zLock)) true, .sl 5 0 (rowOf eLock (fun _ => zLock)) true]), some (.box [.osl 5 5 0 b2_0n false, .sl 5 0 (rowOf eLock (fun _ => zLock)) true]), some (.arr 1 n3 (rowOf (eI .u64) w3_1)), some (.box (eLock ⟨((bw (0 + (x14).toNat)).Tx), ⟨(((bw (0 + (x14).toNat)).R).From), (((bw (0 + (x14).toNat)).R).To), (((bw (0 + (x14).toNat)).R).End)⟩, ((bw (0 + (x14).toNat)).X)⟩)), some (.arr 5 n4 (rowOf eLock w4))] (fun v H => resAt ctx k n_locks_serve 1 [.r, .r, .r, .r, .l, .r, .into j1, .r, .r, .l, .r, .l, .l] 5 [] ⟨(envOf 45 [(4, .ref 1 0), (6, .ref 2 0), (7, .osl 1 3 0 x7n false), (9, .ref 4 0), (12, .osl 5 0 0 bn false), (13, .int .i64 (bn : Int)), (14, .int .i64 x14), (18, .agg (eLock ⟨((bw (0 + (x14).toNat)).Tx), ⟨(((bw (0 + (x14).toNat)).R).From), (((bw (0 + (x14).toNat)).R).To), (((bw (0 + (x14).toNat)).R).End)⟩, ((bw (0 + (x14).toNat)).X)⟩)), (19, .ref 2 0), (20, .osl 5 5 0 b2_0n false), (21, .ref 2 1), (22, .sl 5 0 (rowOf eLock (fun _ => zLock)) true), (23, v)]), H⟩ κ) v
noncomputable def serve01_r3 (k j1 : Nat) (bn : Nat) (bw : Nat → TLock) (x14 : Int) (b2_1n : Nat) (n3 : Nat) (w3_1 : Nat → Int) (w4 : Nat → TLock) (w5 : Nat → TLock) (x7n : Nat) (b2_0n : Nat) (n4 : Nat) (n5 : Nat) (κ : AV → Heap → Option ρ) (v : AV) : Option ρ := retH false [.agg (eLock ⟨((bw (0 + (x14).toNat)).Tx), ⟨(((bw (0 + (x14).toNat)).R).From), (((bw (0 + (x14).toNat)).R).To), (((bw (0 + (x14).toNat)).R).End)⟩, ((bw (0 + (x14).toNat)).X)⟩), .osl 5 5 0 b2_0n false, .osl 5 6 0 b2_1n false] [some (.arr 5 bn (rowOf eLock bw)), some (.box [.sl 5 0 (rowOf eLock (fun _ => zLock)) true, .sl 5 0 (rowOf eLock (fun _ => zLock)) true]), some (.box [.osl 5 5 0 b2_0n false, .osl 5 6 0 b2_1n false]), some (.arr 1 n3 (rowOf (eI .u64) w3_1)), some (.box (eLock ⟨((bw (0 + (x14).toNat)).Tx), ⟨(((bw (0 + (x14).toNat)).R).From), (((bw (0 + (x14).toNat)).R).To), (((bw (0 + (x14).toNat)).R).End)⟩, ((bw (0 + (x14).toNat)).X)⟩)), some (.arr 5 n4 (rowOf eLock w4)), some (.arr 5 n5 (rowOf eLock w5))] (fun v H => resAt ctx k n_locks_serve 1 [.r, .r, .r, .r, .l, .r, .into j1, .r, .r, .l, .r, .l, .l] 5 [] ⟨(envOf 45 [(4, .ref 1 0), (6, .ref 2 0), (7, .osl 1 3 0 x7n false), (9, .ref 4 0), (12, .osl 5 0 0 bn false), (13, .int .i64 (bn : Int)), (14, .int .i64 x14), (18, .agg (eLock ⟨((bw (0 + (x14).toNat)).Tx), ⟨(((bw (0 + (x14).toNat)).R).From), (((bw (0 + (x14).toNat)).R).To), (((bw (0 + (x14).toNat)).R).End)⟩, ((bw (0 + (x14).toNat)).X)⟩)), (19, .ref 2 0), (20, .osl 5 5 0 b2_0n false), (21, .ref 2 1), (22, .osl 5 6 0 b2_1n false), (23, v)]), H⟩ κ) v
theorem serve01_h0_s (k j : Nat) (bn : Nat) (bw : Nat → TLock) (κ : AV → Heap → Option ρ) : serve01_h0 k (j + 1) bn bw κ =
  (bif decide (0 < (bn : Int)) then
   (bif idxOK 0 bn then
    (bif decide (0 < bn) then
     callP ctx k n_locks_grants [.agg (eLock ⟨((bw 0).Tx), ⟨(((bw 0).R).From), (((bw 0).R).To), (((bw 0).R).End)⟩, ((bw 0).X)⟩), .sl 5 0 (rowOf eLock (fun _ => zLock)) true, .sl 5 0 (rowOf eLock (fun _ => zLock)) true] (serve01_r0 k j bn bw κ)
    else none)
   else none)
  else κ (.tup [.agg (eLocks zLocks), .sl 1 0 (rowOf (eI .u64) (fun _ => 0)) true]) [some (.arr 5 bn (rowOf eLock bw)), some (.box [.sl 5 0 (rowOf eLock (fun _ => zLock)) true, .sl 5 0 (rowOf eLock (fun _ => zLock)) true])]) := by kernel_rfl
theorem serve01_h1_s (k j : Nat) (bn : Nat) (bw : Nat → TLock) (x14 : Int) (b2_1n : Nat) (n3 : Nat) (w3 : Nat → TLock) (κ : AV → Heap → Option ρ) : serve01_h1 k (j + 1) bn bw x14 b2_1n n3 (rowOf eLock w3) κ =
  (bif decide (x14 < (bn : Int)) then
   (bif idxOK x14 bn then
    (bif decide ((0 + (x14).toNat) < bn) then
     callP ctx k n_locks_grants [.agg (eLock ⟨((bw (0 + (x14).toNat)).Tx), ⟨(((bw (0 + (x14).toNat)).R).From), (((bw (0 + (x14).toNat)).R).To), (((bw (0 + (x14).toNat)).R).End)⟩, ((bw (0 + (x14).toNat)).X)⟩), .sl 5 0 (rowOf eLock (fun _ => zLock)) true, .sl 5 b2_1n (rowOf eLock (fun i => w3 (0 + i))) false] (serve01_r1 k j bn bw x14 b2_1n n3 w3 κ)
    else none)
   else none)
  else κ (.tup [.agg [.sl 5 0 (rowOf eLock (fun _ => zLock)) true, .osl 5 2 0 b2_1n false], .sl 1 0 (rowOf (eI .u64) (fun _ => 0)) true]) [some (.arr 5 bn (rowOf eLock bw)), some (.box [.sl 5 0 (rowOf eLock (fun _ => zLock)) true, .osl 5 2 0 b2_1n false]), some (.arr 5 n3 (rowOf eLock w3))]) := by kernel_rfl
theorem serve01_h2_s (k j : Nat) (bn : Nat) (bw : Nat → TLock) (x7n : Nat) (x14 : Int) (b2_0n : Nat) (n3 : Nat) (w3_1 : Nat → Int) (n4 : Nat) (w4 : Nat → TLock) (κ : AV → Heap → Option ρ) : serve01_h2 k (j + 1) bn bw x7n x14 b2_0n n3 (rowOf (eI .u64) w3_1) n4 (rowOf eLock w4) κ =
  (bif decide (x14 < (bn : Int)) then
   (bif idxOK x14 bn then
    (bif decide ((0 + (x14).toNat) < bn) then
     callP ctx k n_locks_grants [.agg (eLock ⟨((bw (0 + (x14).toNat)).Tx), ⟨(((bw (0 + (x14).toNat)).R).From), (((bw (0 + (x14).toNat)).R).To), (((bw (0 + (x14).toNat)).R).End)⟩, ((bw (0 + (x14).toNat)).X)⟩), .sl 5 b2_0n (rowOf eLock (fun i => w4 (0 + i))) false, .sl 5 0 (rowOf eLock (fun _ => zLock)) true] (serve01_r2 k j bn bw x14 n3 w3_1 w4 x7n b2_0n n4 κ)
    else none)
   else none)
  else κ (.tup [.agg [.osl 5 3 0 b2_0n false, .sl 5 0 (rowOf eLock (fun _ => zLock)) true], .osl 1 2 0 x7n false]) [some (.arr 5 bn (rowOf eLock bw)), some (.box [.osl 5 3 0 b2_0n false, .sl 5 0 (rowOf eLock (fun _ => zLock)) true]), some (.arr 1 n3 (rowOf (eI .u64) w3_1)), some (.arr 5 n4 (rowOf eLock w4))]) := by kernel_rfl
theorem serve01_h3_s (k j : Nat) (bn : Nat) (bw : Nat → TLock) (w3_1 : Nat → Int) (w4 : Nat → TLock) (w5 : Nat → TLock) (x14 : Int) (b2_1n : Nat) (n5 : Nat) (x7n : Nat) (b2_0n : Nat) (n3 : Nat) (n4 : Nat) (κ : AV → Heap → Option ρ) : serve01_h3 k (j + 1) bn bw (rowOf (eI .u64) w3_1) (rowOf eLock w4) (rowOf eLock w5) x14 b2_1n n5 x7n b2_0n n3 n4 κ =
  (bif decide (x14 < (bn : Int)) then
   (bif idxOK x14 bn then
    (bif decide ((0 + (x14).toNat) < bn) then
     callP ctx k n_locks_grants [.agg (eLock ⟨((bw (0 + (x14).toNat)).Tx), ⟨(((bw (0 + (x14).toNat)).R).From), (((bw (0 + (x14).toNat)).R).To), (((bw (0 + (x14).toNat)).R).End)⟩, ((bw (0 + (x14).toNat)).X)⟩), .sl 5 b2_0n (rowOf eLock (fun i => w4 (0 + i))) false, .sl 5 b2_1n (rowOf eLock (fun i => w5 (0 + i))) false] (serve01_r3 k j bn bw x14 b2_1n n3 w3_1 w4 w5 x7n b2_0n n4 n5 κ)
    else none)
   else none)
  else κ (.tup [.agg [.osl 5 3 0 b2_0n false, .osl 5 4 0 b2_1n false], .osl 1 2 0 x7n false]) [some (.arr 5 bn (rowOf eLock bw)), some (.box [.osl 5 3 0 b2_0n false, .osl 5 4 0 b2_1n false]), some (.arr 1 n3 (rowOf (eI .u64) w3_1)), some (.arr 5 n4 (rowOf eLock w4)), some (.arr 5 n5 (rowOf eLock w5))]) := by kernel_rfl
theorem serve01_r0_s (k j1 : Nat) (bn : Nat) (bw : Nat → TLock) (r0 : Bool) (κ : AV → Heap → Option ρ) : serve01_r0 k j1 bn bw κ (.bool r0) =
  (bif !r0 then
   serve01_h1 k j1 bn bw 1 1 1 (catRow 0 (rowOf eLock (fun _ => zLock)) (litRow eLock [⟨((bw 0).Tx), ⟨(((bw 0).R).From), (((bw 0).R).To), (((bw 0).R).End)⟩, ((bw 0).X)⟩] zLock)) κ
  else serve01_h2 k j1 bn bw 1 1 1 1 (catRow 0 (rowOf (eI .u64) (fun _ => 0)) (litRow (eI .u64) [((bw 0).Tx)] 0)) 1 (catRow 0 (rowOf eLock (fun _ => zLock)) (litRow eLock [⟨((bw 0).Tx), ⟨(((bw 0).R).From), (((bw 0).R).To), (((bw 0).R).End)⟩, ((bw 0).X)⟩] zLock)) κ) := by kernel_rfl
theorem serve01_r1_s (k j1 : Nat) (bn : Nat) (bw : Nat → TLock) (x14 : Int) (b2_1n : Nat) (n3 : Nat) (w3 : Nat → TLock) (r1 : Bool) (κ : AV → Heap → Option ρ) : serve01_r1 k j1 bn bw x14 b2_1n n3 w3 κ (.bool r1) =
  (bif !r1 then
   (bif decide (((0 + b2_1n) + 1) ≤ n3) then
    serve01_h1 k j1 bn bw (wi64 (x14 + 1)) (b2_1n + 1) n3 (putRow (0 + b2_1n) ((0 + b2_1n) + 1) (litRow eLock [⟨((bw (0 + (x14).toNat)).Tx), ⟨(((bw (0 + (x14).toNat)).R).From), (((bw (0 + (x14).toNat)).R).To), (((bw (0 + (x14).toNat)).R).End)⟩, ((bw (0 + (x14).toNat)).X)⟩] zLock) (rowOf eLock w3)) κ
   else (bif ((decide (b2_1n = n3)) && (roomOf (b2_1n + 1) 56)) then
     serve01_h1 k j1 bn bw (wi64 (x14 + 1)) (b2_1n + 1) (b2_1n + 1) (catRow b2_1n (rowOf eLock w3) (litRow eLock [⟨((bw (0 + (x14).toNat)).Tx), ⟨(((bw (0 + (x14).toNat)).R).From), (((bw (0 + (x14).toNat)).R).To), (((bw (0 + (x14).toNat)).R).End)⟩, ((bw (0 + (x14).toNat)).X)⟩] zLock)) κ
    else none))
  else serve01_h3 k j1 bn bw (catRow 0 (rowOf (eI .u64) (fun _ => 0)) (litRow (eI .u64) [((bw (0 + (x14).toNat)).Tx)] 0)) (catRow 0 (rowOf eLock (fun _ => zLock)) (litRow eLock [⟨((bw (0 + (x14).toNat)).Tx), ⟨(((bw (0 + (x14).toNat)).R).From), (((bw (0 + (x14).toNat)).R).To), (((bw (0 + (x14).toNat)).R).End)⟩, ((bw (0 + (x14).toNat)).X)⟩] zLock)) (rowOf eLock w3) (wi64 (x14 + 1)) b2_1n n3 1 1 1 1 κ) := by kernel_rfl
theorem serve01_r2_s (k j1 : Nat) (bn : Nat) (bw : Nat → TLock) (x14 : Int) (n3 : Nat) (w3_1 : Nat → Int) (w4 : Nat → TLock) (x7n : Nat) (b2_0n : Nat) (n4 : Nat) (r2 : Bool) (κ : AV → Heap → Option ρ) : serve01_r2 k j1 bn bw x14 n3 w3_1 w4 x7n b2_0n n4 κ (.bool r2) =
  (bif !r2 then
   serve01_h3 k j1 bn bw (rowOf (eI .u64) w3_1) (rowOf eLock w4) (catRow 0 (rowOf eLock (fun _ => zLock)) (litRow eLock [⟨((bw (0 + (x14).toNat)).Tx), ⟨(((bw (0 + (x14).toNat)).R).From), (((bw (0 + (x14).toNat)).R).To), (((bw (0 + (x14).toNat)).R).End)⟩, ((bw (0 + (x14).toNat)).X)⟩] zLock)) (wi64 (x14 + 1)) 1 1 x7n b2_0n n3 n4 κ
  else (bif decide (((0 + b2_0n) + 1) ≤ n4) then
    (bif decide (((0 + x7n) + 1) ≤ n3) then
     serve01_h2 k j1 bn bw (x7n + 1) (wi64 (x14 + 1)) (b2_0n + 1) n3 (putRow (0 + x7n) ((0 + x7n) + 1) (litRow (eI .u64) [((bw (0 + (x14).toNat)).Tx)] 0) (rowOf (eI .u64) w3_1)) n4 (putRow (0 + b2_0n) ((0 + b2_0n) + 1) (litRow eLock [⟨((bw (0 + (x14).toNat)).Tx), ⟨(((bw (0 + (x14).toNat)).R).From), (((bw (0 + (x14).toNat)).R).To), (((bw (0 + (x14).toNat)).R).End)⟩, ((bw (0 + (x14).toNat)).X)⟩] zLock) (rowOf eLock w4)) κ
    else (bif ((decide (x7n = n3)) && (roomOf (x7n + 1) 8)) then
      serve01_h2 k j1 bn bw (x7n + 1) (wi64 (x14 + 1)) (b2_0n + 1) (x7n + 1) (catRow x7n (rowOf (eI .u64) w3_1) (litRow (eI .u64) [((bw (0 + (x14).toNat)).Tx)] 0)) n4 (putRow (0 + b2_0n) ((0 + b2_0n) + 1) (litRow eLock [⟨((bw (0 + (x14).toNat)).Tx), ⟨(((bw (0 + (x14).toNat)).R).From), (((bw (0 + (x14).toNat)).R).To), (((bw (0 + (x14).toNat)).R).End)⟩, ((bw (0 + (x14).toNat)).X)⟩] zLock) (rowOf eLock w4)) κ
     else none))
   else (bif ((decide (b2_0n = n4)) && (roomOf (b2_0n + 1) 56)) then
     (bif decide (((0 + x7n) + 1) ≤ n3) then
      serve01_h2 k j1 bn bw (x7n + 1) (wi64 (x14 + 1)) (b2_0n + 1) n3 (putRow (0 + x7n) ((0 + x7n) + 1) (litRow (eI .u64) [((bw (0 + (x14).toNat)).Tx)] 0) (rowOf (eI .u64) w3_1)) (b2_0n + 1) (catRow b2_0n (rowOf eLock w4) (litRow eLock [⟨((bw (0 + (x14).toNat)).Tx), ⟨(((bw (0 + (x14).toNat)).R).From), (((bw (0 + (x14).toNat)).R).To), (((bw (0 + (x14).toNat)).R).End)⟩, ((bw (0 + (x14).toNat)).X)⟩] zLock)) κ
     else (bif ((decide (x7n = n3)) && (roomOf (x7n + 1) 8)) then
       serve01_h2 k j1 bn bw (x7n + 1) (wi64 (x14 + 1)) (b2_0n + 1) (x7n + 1) (catRow x7n (rowOf (eI .u64) w3_1) (litRow (eI .u64) [((bw (0 + (x14).toNat)).Tx)] 0)) (b2_0n + 1) (catRow b2_0n (rowOf eLock w4) (litRow eLock [⟨((bw (0 + (x14).toNat)).Tx), ⟨(((bw (0 + (x14).toNat)).R).From), (((bw (0 + (x14).toNat)).R).To), (((bw (0 + (x14).toNat)).R).End)⟩, ((bw (0 + (x14).toNat)).X)⟩] zLock)) κ
      else none))
    else none))) := by kernel_rfl
theorem serve01_r3_s (k j1 : Nat) (bn : Nat) (bw : Nat → TLock) (x14 : Int) (b2_1n : Nat) (n3 : Nat) (w3_1 : Nat → Int) (w4 : Nat → TLock) (w5 : Nat → TLock) (x7n : Nat) (b2_0n : Nat) (n4 : Nat) (n5 : Nat) (r3 : Bool) (κ : AV → Heap → Option ρ) : serve01_r3 k j1 bn bw x14 b2_1n n3 w3_1 w4 w5 x7n b2_0n n4 n5 κ (.bool r3) =
  (bif !r3 then
   (bif decide (((0 + b2_1n) + 1) ≤ n5) then
    serve01_h3 k j1 bn bw (rowOf (eI .u64) w3_1) (rowOf eLock w4) (putRow (0 + b2_1n) ((0 + b2_1n) + 1) (litRow eLock [⟨((bw (0 + (x14).toNat)).Tx), ⟨(((bw (0 + (x14).toNat)).R).From), (((bw (0 + (x14).toNat)).R).To), (((bw (0 + (x14).toNat)).R).End)⟩, ((bw (0 + (x14).toNat)).X)⟩] zLock) (rowOf eLock w5)) (wi64 (x14 + 1)) (b2_1n + 1) n5 x7n b2_0n n3 n4 κ
   else (bif ((decide (b2_1n = n5)) && (roomOf (b2_1n + 1) 56)) then
     serve01_h3 k j1 bn bw (rowOf (eI .u64) w3_1) (rowOf eLock w4) (catRow b2_1n (rowOf eLock w5) (litRow eLock [⟨((bw (0 + (x14).toNat)).Tx), ⟨(((bw (0 + (x14).toNat)).R).From), (((bw (0 + (x14).toNat)).R).To), (((bw (0 + (x14).toNat)).R).End)⟩, ((bw (0 + (x14).toNat)).X)⟩] zLock)) (wi64 (x14 + 1)) (b2_1n + 1) (b2_1n + 1) x7n b2_0n n3 n4 κ
    else none))
  else (bif decide (((0 + b2_0n) + 1) ≤ n4) then
    (bif decide (((0 + x7n) + 1) ≤ n3) then
     serve01_h3 k j1 bn bw (putRow (0 + x7n) ((0 + x7n) + 1) (litRow (eI .u64) [((bw (0 + (x14).toNat)).Tx)] 0) (rowOf (eI .u64) w3_1)) (putRow (0 + b2_0n) ((0 + b2_0n) + 1) (litRow eLock [⟨((bw (0 + (x14).toNat)).Tx), ⟨(((bw (0 + (x14).toNat)).R).From), (((bw (0 + (x14).toNat)).R).To), (((bw (0 + (x14).toNat)).R).End)⟩, ((bw (0 + (x14).toNat)).X)⟩] zLock) (rowOf eLock w4)) (rowOf eLock w5) (wi64 (x14 + 1)) b2_1n n5 (x7n + 1) (b2_0n + 1) n3 n4 κ
    else (bif ((decide (x7n = n3)) && (roomOf (x7n + 1) 8)) then
      serve01_h3 k j1 bn bw (catRow x7n (rowOf (eI .u64) w3_1) (litRow (eI .u64) [((bw (0 + (x14).toNat)).Tx)] 0)) (putRow (0 + b2_0n) ((0 + b2_0n) + 1) (litRow eLock [⟨((bw (0 + (x14).toNat)).Tx), ⟨(((bw (0 + (x14).toNat)).R).From), (((bw (0 + (x14).toNat)).R).To), (((bw (0 + (x14).toNat)).R).End)⟩, ((bw (0 + (x14).toNat)).X)⟩] zLock) (rowOf eLock w4)) (rowOf eLock w5) (wi64 (x14 + 1)) b2_1n n5 (x7n + 1) (b2_0n + 1) (x7n + 1) n4 κ
     else none))
   else (bif ((decide (b2_0n = n4)) && (roomOf (b2_0n + 1) 56)) then
     (bif decide (((0 + x7n) + 1) ≤ n3) then
      serve01_h3 k j1 bn bw (putRow (0 + x7n) ((0 + x7n) + 1) (litRow (eI .u64) [((bw (0 + (x14).toNat)).Tx)] 0) (rowOf (eI .u64) w3_1)) (catRow b2_0n (rowOf eLock w4) (litRow eLock [⟨((bw (0 + (x14).toNat)).Tx), ⟨(((bw (0 + (x14).toNat)).R).From), (((bw (0 + (x14).toNat)).R).To), (((bw (0 + (x14).toNat)).R).End)⟩, ((bw (0 + (x14).toNat)).X)⟩] zLock)) (rowOf eLock w5) (wi64 (x14 + 1)) b2_1n n5 (x7n + 1) (b2_0n + 1) n3 (b2_0n + 1) κ
     else (bif ((decide (x7n = n3)) && (roomOf (x7n + 1) 8)) then
       serve01_h3 k j1 bn bw (catRow x7n (rowOf (eI .u64) w3_1) (litRow (eI .u64) [((bw (0 + (x14).toNat)).Tx)] 0)) (catRow b2_0n (rowOf eLock w4) (litRow eLock [⟨((bw (0 + (x14).toNat)).Tx), ⟨(((bw (0 + (x14).toNat)).R).From), (((bw (0 + (x14).toNat)).R).To), (((bw (0 + (x14).toNat)).R).End)⟩, ((bw (0 + (x14).toNat)).X)⟩] zLock)) (rowOf eLock w5) (wi64 (x14 + 1)) b2_1n n5 (x7n + 1) (b2_0n + 1) (x7n + 1) (b2_0n + 1) κ
      else none))
    else none))) := by kernel_rfl
theorem serve01_e (k : Nat) (bn : Nat) (bw : Nat → TLock) (κ : AV → Heap → Option ρ) : evalF ctx (k + 1) n_locks_serve [.sl 5 0 (rowOf eLock (fun _ => zLock)) true, .osl 5 0 0 bn false] [some (.arr 5 bn (rowOf eLock bw))] κ =
  serve01_h0 k k bn bw κ := by kernel_rfl
noncomputable def serve11_h0 (k j : Nat) (an : Nat) (aw : Nat → TLock) (bn : Nat) (bw : Nat → TLock) (κ : AV → Heap → Option ρ) : Option ρ := headAt ctx k n_locks_serve 2 [.r, .r, .r, .r, .l, .r] j ⟨(envOf 45 [(4, .ref 2 0), (6, .ref 3 0), (7, .sl 1 0 (rowOf (eI .u64) (fun _ => 0)) true), (12, .osl 5 1 0 bn false), (13, .int .i64 (bn : Int)), (14, .int .i64 0)]), [some (.arr 5 an (rowOf eLock aw)), some (.arr 5 bn (rowOf eLock bw)), some (.box [.sl 5 0 (rowOf eLock (fun _ => zLock)) true, .sl 5 0 (rowOf eLock (fun _ => zLock)) true]), some (.box [.osl 5 0 0 an false, .sl 5 0 (rowOf eLock (fun _ => zLock)) true])]⟩ κ
noncomputable def serve11_h1 (k j : Nat) (an : Nat) (aw : Nat → TLock) (bn : Nat) (bw : Nat → TLock) (x14 : Int) (b3_1n : Nat) (n4 : Nat) (w4 : Nat → List AV) (κ : AV → Heap → Option ρ) : Option ρ := headAt ctx k n_locks_serve 2 [.r, .r, .r, .r, .l, .r] j ⟨(envOf 45 [(4, .ref 2 0), (6, .ref 3 0), (7, .sl 1 0 (rowOf (eI .u64) (fun _ => 0)) true), (12, .osl 5 1 0 bn false), (13, .int .i64 (bn : Int)), (14, .int .i64 x14)]), [some (.arr 5 an (rowOf eLock aw)), some (.arr 5 bn (rowOf eLock bw)), some (.box [.sl 5 0 (rowOf eLock (fun _ => zLock)) true, .sl 5 0 (rowOf eLock (fun _ => zLock)) true]), some (.box [.osl 5 0 0 an false, .osl 5 4 0 b3_1n false]), some (.arr 5 n4 w4)]⟩ κ
noncomputable def serve11_h2 (k j : Nat) (an : Nat) (bn : Nat) (bw : Nat → TLock) (x7n : Nat) (x14 : Int) (w0 : Nat → List AV) (b3_0n : Nat) (n4 : Nat) (w4_1 : Nat → List AV) (κ : AV → Heap → Option ρ) : Option ρ := headAt ctx k n_locks_serve 2 [.r, .r, .r, .r, .l, .r] j ⟨(envOf 45 [(4, .ref 2 0), (6, .ref 3 0), (7, .osl 1 4 0 x7n false), (12, .osl 5 1 0 bn false), (13, .int .i64 (bn : Int)), (14, .int .i64 x14)]), [some (.arr 5 an w0), some (.arr 5 bn (rowOf eLock bw)), some (.box [.sl 5 0 (rowOf eLock (fun _ => zLock)) true, .sl 5 0 (rowOf eLock (fun _ => zLock)) true]), some (.box [.osl 5 0 0 b3_0n false, .sl 5 0 (rowOf eLock (fun _ => zLock)) true]), some (.arr 1 n4 w4_1)]⟩ κ
noncomputable def serve11_h3 (k j : Nat) (bn : Nat) (bw : Nat → TLock) (x7n : Nat) (x14 : Int) (b3_0n : Nat) (n4 : Nat) (w4_1 : Nat → List AV) (n5 : Nat) (w5 : Nat → List AV) (κ : AV → Heap → Option ρ) : Option ρ := headAt ctx k n_locks_serve 2 [.r, .r, .r, .r, .l, .r] j ⟨(envOf 45 [(4, .ref 2 0), (6, .ref 3 0), (7, .osl 1 4 0 x7n false), (12, .osl 5 1 0 bn false), (13, .int .i64 (bn : Int)), (14, .int .i64 x14)]), [none, some (.arr 5 bn (rowOf eLock bw)), some (.box [.sl 5 0 (rowOf eLock (fun _ => zLock)) true, .sl 5 0 (rowOf eLock (fun _ => zLock)) true]), some (.box [.osl 5 5 0 b3_0n false, .sl 5 0 (rowOf eLock (fun _ => zLock)) true]), some (.arr 1 n4 w4_1), some (.arr 5 n5 w5)]⟩ κ
noncomputable def serve11_h4 (k j : Nat) (an : Nat) (bn : Nat) (bw : Nat → TLock) (w0 : Nat → List AV) (w4_1 : Nat → List AV) (w5 : Nat → List AV) (x14 : Int) (b3_1n : Nat) (n5 : Nat) (x7n : Nat) (b3_0n : Nat) (n4 : Nat) (κ : AV → Heap → Option ρ) : Option ρ := headAt ctx k n_locks_serve 2 [.r, .r, .r, .r, .l, .r] j ⟨(envOf 45 [(4, .ref 2 0), (6, .ref 3 0), (7, .osl 1 4 0 x7n false), (12, .osl 5 1 0 bn false), (13, .int .i64 (bn : Int)), (14, .int .i64 x14)]), [some (.arr 5 an w0), some (.arr 5 bn (rowOf eLock bw)), some (.box [.sl 5 0 (rowOf eLock (fun _ => zLock)) true, .sl 5 0 (rowOf eLock (fun _ => zLock)) true]), some (.box [.osl 5 0 0 b3_0n false, .osl 5 5 0 b3_1n false]), some (.arr 1 n4 w4_1), some (.arr 5 n5 w5)]⟩ κ
noncomputable def serve11_h5 (k j : Nat) (bn : Nat) (bw : Nat → TLock) (w4_1 : Nat → List AV) (w5 : Nat → List AV) (w6 : Nat → List AV) (x7n : Nat) (x14 : Int) (b3_0n : Nat) (n4 : Nat) (n5 : Nat) (b3_1n : Nat) (n6 : Nat) (κ : AV → Heap → Option ρ) : Option ρ := headAt ctx k n_locks_serve 2 [.r, .r, .r, .r, .l, .r] j ⟨(envOf 45 [(4, .ref 2 0), (6, .ref 3 0), (7, .osl 1 4 0 x7n false), (12, .osl 5 1 0 bn false), (13, .int .i64 (bn : Int)), (14, .int .i64 x14)]), [none, some (.arr 5 bn (rowOf eLock bw)), some (.box [.sl 5 0 (rowOf eLock (fun _ => zLock)) true, .sl 5 0 (rowOf eLock (fun _ => zLock)) true]), some (.box [.osl 5 5 0 b3_0n false, .osl 5 6 0 b3_1n false]), some (.arr 1 n4 w4_1), some (.arr 5 n5 w5), some (.arr 5 n6 w6)]⟩ κ
noncomputable def serve11_r0 (k j1 : Nat) (an : Nat) (aw : Nat → TLock) (bn : Nat) (bw : Nat → TLock) (κ : AV → Heap → Option ρ) (v : AV) : Option ρ := retH false [.agg (eLock ⟨((bw 0).Tx), ⟨(((bw 0).R).From), (((bw 0).R).To), (((bw 0).R).End)⟩, ((bw 0).X)⟩), .osl 5 0 0 an false, .sl 5 0 (rowOf eLock (fun _ => zLock)) true] [some (.arr 5 an (rowOf eLock aw)), some (.arr 5 bn (rowOf eLock bw)), some (.box [.sl 5 0 (rowOf eLock (fun _ => zLock)) true, .sl 5 0 (rowOf eLock (fun _ => zLock)) true]), some (.box [.osl 5 0 0 an false, .sl 5 0 (rowOf eLock (fun _ => zLock)) true]), some (.box (eLock ⟨((bw 0).Tx), ⟨(((bw 0).R).From), (((bw 0).R).To), (((bw 0).R).End)⟩, ((bw 0).X)⟩))] (fun v H => resAt ctx k n_locks_serve 2 [.r, .r, .r, .r, .l, .r, .into j1, .r, .r, .l, .r, .l, .l] 5 [] ⟨(envOf 45 [(4, .ref 2 0), (6, .ref 3 0), (7, .sl 1 0 (rowOf (eI .u64) (fun _ => 0)) true), (9, .ref 4 0), (12, .osl 5 1 0 bn false), (13, .int .i64 (bn : Int)), (14, .int .i64 0), (18, .agg (eLock ⟨((bw 0).Tx), ⟨(((bw 0).R).From), (((bw 0).R).To), (((bw 0).R).End)⟩, ((bw 0).X)⟩)), (19, .ref 3 0), (20, .osl 5 0 0 an false), (21, .ref 3 1), (22, .sl 5 0 (rowOf eLock (fun _ => zLock)) true), (23, v)]), H⟩ κ) v
noncomputable def serve11_r1 (k j1 : Nat) (an : Nat) (aw : Nat → TLock) (bn : Nat) (bw : Nat → TLock) (x14 : Int) (b3_1n : Nat) (n4 : Nat) (w4 : Nat → TLock) (κ : AV → Heap → Option ρ) (v : AV) : Option ρ := retH false [.agg (eLock ⟨((bw (0 + (x14).toNat)).Tx), ⟨(((bw (0 + (x14).toNat)).R).From), (((bw (0 + (x14).toNat)).R).To), (((bw (0 + (x14).toNat)).R).End)⟩, ((bw (0 + (x14).toNat)).X)⟩), .osl 5 0 0 an false, .osl 5 5 0 b3_1n false] [some (.arr 5 an (rowOf eLock aw)), some (.arr 5 bn (rowOf eLock bw)), some (.box [.sl 5 0 (rowOf eLock (fun _ => zLock)) true, .sl 5 0 (rowOf eLock (fun _ => zLock)) true]), some (.box [.osl 5 0 0 an false, .osl 5 5 0 b3_1n false]), some (.box (eLock ⟨((bw (0 + (x14).toNat)).Tx), ⟨(((bw (0 + (x14).toNat)).R).From), (((bw (0 + (x14).toNat)).R).To), (((bw (0 + (x14).toNat)).R).End)⟩, ((bw (0 + (x14).toNat)).X)⟩)), some (.arr 5 n4 (rowOf eLock w4))] (fun v H => resAt ctx k n_locks_serve 2 [.r, .r, .r, .r, .l, .r, .into j1, .r, .r, .l, .r, .l, .l] 5 [] ⟨(envOf 45 [(4, .ref 2 0), (6, .ref 3 0), (7, .sl 1 0 (rowOf (eI .u64) (fun _ => 0)) true), (9, .ref 4 0), (12, .osl 5 1 0 bn false), (13, .int .i64 (bn : Int)), (14, .int .i64 x14), (18, .agg (eLock ⟨((bw (0 + (x14).toNat)).Tx), ⟨(((bw (0 + (x14).toNat)).R).From), (((bw (0 + (x14).toNat)).R).To), (((bw (0 + (x14).toNat)).R).End)⟩, ((bw (0 + (x14).toNat)).X)⟩)), (19, .ref 3 0), (20, .osl 5 0 0 an false), (21, .ref 3 1), (22, .osl 5 5 0 b3_1n false), (23, v)]), H⟩ κ) v
noncomputable def serve11_r2 (k j1 : Nat) (an : Nat) (bn : Nat) (bw : Nat → TLock) (x14 : Int) (n4 : Nat) (w0 : Nat → TLock) (w4_1 : Nat → Int) (x7n : Nat) (b3_0n : Nat) (κ : AV → Heap → Option ρ) (v : AV) : Option ρ := retH false [.agg (eLock ⟨((bw (0 + (x14).toNat)).Tx), ⟨(((bw (0 + (x14).toNat)).R).From), (((bw (0 + (x14).toNat)).R).To), (((bw (0 + (x14).toNat)).R).End)⟩, ((bw (0 + (x14).toNat)).X)⟩), .osl 5 0 0 b3_0n false, .sl 5 0 (rowOf eLock (fun _ => zLock)) true] [some (.arr 5 an (rowOf eLock w0)), some (.arr 5 bn (rowOf eLock bw)), some (.box [.sl 5 0 (rowOf eLock (fun _ => zLock)) true, .sl 5 0 (rowOf eLock (fun _ => zLock)) true]), some (.box [.osl 5 0 0 b3_0n false, .sl 5 0 (rowOf eLock (fun _ => zLock)) true]), some (.arr 1 n4 (rowOf (eI .u64) w4_1)), some (.box (eLock ⟨((bw (0 + (x14).toNat)).Tx), ⟨(((bw (0 + (x14).toNat)).R).From), (((bw (0 + (x14).toNat)).R).To), (((bw (0 + (x14).toNat)).R).End)⟩, ((bw (0 + (x14).toNat)).X)⟩))] (fun v H => resAt ctx k n_locks_serve 2 [.r, .r, .r, .r, .l, .r, .into j1, .r, .r, .l, .r, .l, .l] 5 [] ⟨(envOf 45 [(4, .ref 2 0), (6, .ref 3 0), (7, .osl 1 4 0 x7n false), (9, .ref 5 0), (12, .osl 5 1 0 bn false), (13, .int .i64 (bn : Int)), (14, .int .i64 x14), (18, .agg (eLock ⟨((bw (0 + (x14).toNat)).Tx), ⟨(((bw (0 + (x14).toNat)).R).From), (((bw (0 + (x14).toNat)).R).To), (((bw (0 + (x14).toNat)).R).End)⟩, ((bw (0 + (x14).toNat)).X)⟩)), (19, .ref 3 0), (20, .osl 5 0 0 b3_0n false), (21, .ref 3 1), (22, .sl 5 0 (rowOf eLock (fun _ => zLock)) true), (23, v)]), H⟩ κ) v
noncomputable def serve11_r3 (k j1 : Nat) (bn : Nat) (bw : Nat → TLock) (x14 : Int) (n4 : Nat) (w4_1 : Nat → Int) (w5 : Nat → TLock) (x7n : Nat) (b3_0n : Nat) (n5 : Nat) (κ : AV → Heap → Option ρ) (v : AV) : Option ρ := retH false [.agg (eLock ⟨((bw (0 + (x14).toNat)).Tx), ⟨(((bw (0 + (x14).toNat)).R).From), (((bw (0 + (x14).toNat)).R).To), (((bw (0 + (x14).toNat)).R).End)⟩, ((bw (0 + (x14).toNat)).X)⟩), .osl 5 6 0 b3_0n false, .sl 5 0 (rowOf eLock (fun _ => zLock)) true] [none, some (.arr 5 bn (rowOf eLock bw)), some (.box [.sl 5 0 (rowOf eLock (fun _ => zLock)) true, .sl 5 0 (rowOf eLock (fun _ => zLock)) true]), some (.box [.osl 5 6 0 b3_0n false, .sl 5 0 (rowOf eLock (fun _ => zLock)) true]), some (.arr 1 n4 (rowOf (eI .u64) w4_1)), some (.box (eLock ⟨((bw (0 + (x14).toNat)).Tx), ⟨(((bw (0 + (x14).toNat)).R).From), (((bw (0 + (x14).toNat)).R).To), (((bw (0 + (x14).toNat)).R).End)⟩, ((bw (0 + (x14).toNat)).X)⟩)), some (.arr 5 n5 (rowOf eLock w5))] (fun v H => resAt ctx k n_locks_serve 2 [.r, .r, .r, .r, .l, .r, .into j1, .r, .r, .l, .r, .l, .l] 5 [] ⟨(envOf 45 [(4, .ref 2 0), (6, .ref 3 0), (7, .osl 1 4 0 x7n false), (9, .ref 5 0), (12, .osl 5 1 0 bn false), (13, .int .i64 (bn : Int)), (14, .int .i64 x14), (18, .agg (eLock ⟨((bw (0 + (x14).toNat)).Tx), ⟨(((bw (0 + (x14).toNat)).R).From), (((bw (0 + (x14).toNat)).R).To), (((bw (0 + (x14).toNat)).R).End)⟩, ((bw (0 + (x14).toNat)).X)⟩)), (19, .ref 3 0), (20, .osl 5 6 0 b3_0n false), (21, .ref 3 1), (22, .sl 5 0 (rowOf eLock (fun _ => zLock)) true), (23, v)]), H⟩ κ) v
noncomputable def serve11_r4 (k j1 : Nat) (an : Nat) (bn : Nat) (bw : Nat → TLock) (x14 : Int) (b3_1n : Nat) (n4 : Nat) (w0 : Nat → TLock) (w4_1 : Nat → Int) (w5 : Nat → TLock) (x7n : Nat) (b3_0n : Nat) (n5 : Nat) (κ : AV → Heap → Option ρ) (v : AV) : Option ρ := retH false [.agg (eLock ⟨((bw (0 + (x14).toNat)).Tx), ⟨(((bw (0 + (x14).toNat)).R).From), (((bw (0 + (x14).toNat)).R).To), (((bw (0 + (x14).toNat)).R).End)⟩, ((bw (0 + (x14).toNat)).X)⟩), .osl 5 0 0 b3_0n false, .osl 5 6 0 b3_1n false] [some (.arr 5 an (rowOf eLock w0)), some (.arr 5 bn (rowOf eLock bw)), some (.box [.sl 5 0 (rowOf eLock (fun _ => zLock)) true, .sl 5 0 (rowOf eLock (fun _ => zLock)) true]), some (.box [.osl 5 0 0 b3_0n false, .osl 5 6 0 b3_1n false]), some (.arr 1 n4 (rowOf (eI .u64) w4_1)), some (.box (eLock ⟨((bw (0 + (x14).toNat)).Tx), ⟨(((bw (0 + (x14).toNat)).R).From), (((bw (0 + (x14).toNat)).R).To), (((bw (0 + (x14).toNat)).R).End)⟩, ((bw (0 + (x14).toNat)).X)⟩)), some (.arr 5 n5 (rowOf eLock w5))] (fun v H => resAt ctx k n_locks_serve 2 [.r, .r, .r, .r, .l, .r, .into j1, .r, .r, .l, .r, .l, .l] 5 [] ⟨(envOf 45 [(4, .ref 2 0), (6, .ref 3 0), (7, .osl 1 4 0 x7n false), (9, .ref 5 0), (12, .osl 5 1 0 bn false), (13, .int .i64 (bn : Int)), (14, .int .i64 x14), (18, .agg (eLock ⟨((bw (0 + (x14).toNat)).Tx), ⟨(((bw (0 + (x14).toNat)).R).From), (((bw (0 + (x14).toNat)).R).To), (((bw (0 + (x14).toNat)).R).End)⟩, ((bw (0 + (x14).toNat)).X)⟩)), (19, .ref 3 0), (20, .osl 5 0 0 b3_0n false), (21, .ref 3 1), (22, .osl 5 6 0 b3_1n false), (23, v)]), H⟩ κ) v
noncomputable def serve11_r5 (k j1 : Nat) (bn : Nat) (bw : Nat → TLock) (x14 : Int) (b3_1n : Nat) (n4 : Nat) (w4_1 : Nat → Int) (w5 : Nat → TLock) (x7n : Nat) (b3_0n : Nat) (n5 : Nat) (w6 : Nat → TLock) (n6 : Nat) (κ : AV → Heap → Option ρ) (v : AV) : Option ρ := retH false [.agg (eLock ⟨((bw (0 + (x14).toNat)).Tx), ⟨(((bw (0 + (x14).toNat)).R).From), (((bw (0 + (x14).toNat)).R).To), (((bw (0 + (x14).toNat)).R).End)⟩, ((bw (0 + (x14).toNat)).X)⟩), .osl 5 6 0 b3_0n false, .osl 5 7 0 b3_1n false] [none, some (.arr 5 bn (rowOf eLock bw)), some (.box [.sl 5 0 (rowOf eLock (fun _ => zLock)) true, .sl 5 0 (rowOf eLock (fun _ => zLock)) true]), some (.box [.osl 5 6 0 b3_0n false, .osl 5 7 0 b3_1n false]), some (.arr 1 n4 (rowOf (eI .u64) w4_1)), some (.box (eLock ⟨((bw (0 + (x14).toNat)).Tx), ⟨(((bw (0 + (x14).toNat)).R).From), (((bw (0 + (x14).toNat)).R).To), (((bw (0 + (x14).toNat)).R).End)⟩, ((bw (0 + (x14).toNat)).X)⟩)), some (.arr 5 n5 (rowOf eLock w5)), some (.arr 5 n6 (rowOf eLock w6))] (fun v H => resAt ctx k n_locks_serve 2 [.r, .r, .r, .r, .l, .r, .into j1, .r, .r, .l, .r, .l, .l] 5 [] ⟨(envOf 45 [(4, .ref 2 0), (6, .ref 3 0), (7, .osl 1 4 0 x7n false), (9, .ref 5 0), (12, .osl 5 1 0 bn false), (13, .int .i64 (bn : Int)), (14, .int .i64 x14), (18, .agg (eLock ⟨((bw (0 + (x14).toNat)).Tx), ⟨(((bw (0 + (x14).toNat)).R).From), (((bw (0 + (x14).toNat)).R).To), (((bw (0 + (x14).toNat)).R).End)⟩, ((bw (0 + (x14).toNat)).X)⟩)), (19, .ref 3 0), (20, .osl 5 6 0 b3_0n false), (21, .ref 3 1), (22, .osl 5 7 0 b3_1n false), (23, v)]), H⟩ κ) v
theorem serve11_h0_s (k j : Nat) (an : Nat) (aw : Nat → TLock) (bn : Nat) (bw : Nat → TLock) (κ : AV → Heap → Option ρ) : serve11_h0 k (j + 1) an aw bn bw κ =
  (bif decide (0 < (bn : Int)) then
   (bif idxOK 0 bn then
    (bif decide (0 < bn) then
     callP ctx k n_locks_grants [.agg (eLock ⟨((bw 0).Tx), ⟨(((bw 0).R).From), (((bw 0).R).To), (((bw 0).R).End)⟩, ((bw 0).X)⟩), .sl 5 an (rowOf eLock (fun i => aw (0 + i))) false, .sl 5 0 (rowOf eLock (fun _ => zLock)) true] (serve11_r0 k j an aw bn bw κ)
    else none)
   else none)
  else κ (.tup [.agg [.osl 5 0 0 an false, .sl 5 0 (rowOf eLock (fun _ => zLock)) true], .sl 1 0 (rowOf (eI .u64) (fun _ => 0)) true]) [some (.arr 5 an (rowOf eLock aw)), some (.arr 5 bn (rowOf eLock bw)), some (.box [.osl 5 0 0 an false, .sl 5 0 (rowOf eLock (fun _ => zLock)) true])]) := by kernel_rfl
theorem serve11_h1_s (k j : Nat) (an : Nat) (aw : Nat → TLock) (bn : Nat) (bw : Nat → TLock) (x14 : Int) (b3_1n : Nat) (n4 : Nat) (w4 : Nat → TLock) (κ : AV → Heap → Option ρ) : serve11_h1 k (j + 1) an aw bn bw x14 b3_1n n4 (rowOf eLock w4) κ =
  (bif decide (x14 < (bn : Int)) then
   (bif idxOK x14 bn then
    (bif decide ((0 + (x14).toNat) < bn) then
     callP ctx k n_locks_grants [.agg (eLock ⟨((bw (0 + (x14).toNat)).Tx), ⟨(((bw (0 + (x14).toNat)).R).From), (((bw (0 + (x14).toNat)).R).To), (((bw (0 + (x14).toNat)).R).End)⟩, ((bw (0 + (x14).toNat)).X)⟩), .sl 5 an (rowOf eLock (fun i => aw (0 + i))) false, .sl 5 b3_1n (rowOf eLock (fun i => w4 (0 + i))) false] (serve11_r1 k j an aw bn bw x14 b3_1n n4 w4 κ)
    else none)
   else none)
  else κ (.tup [.agg [.osl 5 0 0 an false, .osl 5 3 0 b3_1n false], .sl 1 0 (rowOf (eI .u64) (fun _ => 0)) true]) [some (.arr 5 an (rowOf eLock aw)), some (.arr 5 bn (rowOf eLock bw)), some (.box [.osl 5 0 0 an false, .osl 5 3 0 b3_1n false]), some (.arr 5 n4 (rowOf eLock w4))]) := by kernel_rfl
theorem serve11_h2_s (k j : Nat) (an : Nat) (bn : Nat) (bw : Nat → TLock) (x7n : Nat) (x14 : Int) (w0 : Nat → TLock) (b3_0n : Nat) (n4 : Nat) (w4_1 : Nat → Int) (κ : AV → Heap → Option ρ) : serve11_h2 k (j + 1) an bn bw x7n x14 (rowOf eLock w0) b3_0n n4 (rowOf (eI .u64) w4_1) κ =
  (bif decide (x14 < (bn : Int)) then
   (bif idxOK x14 bn then
    (bif decide ((0 + (x14).toNat) < bn) then
     callP ctx k n_locks_grants [.agg (eLock ⟨((bw (0 + (x14).toNat)).Tx), ⟨(((bw (0 + (x14).toNat)).R).From), (((bw (0 + (x14).toNat)).R).To), (((bw (0 + (x14).toNat)).R).End)⟩, ((bw (0 + (x14).toNat)).X)⟩), .sl 5 b3_0n (rowOf eLock (fun i => w0 (0 + i))) false, .sl 5 0 (rowOf eLock (fun _ => zLock)) true] (serve11_r2 k j an bn bw x14 n4 w0 w4_1 x7n b3_0n κ)
    else none)
   else none)
  else κ (.tup [.agg [.osl 5 0 0 b3_0n false, .sl 5 0 (rowOf eLock (fun _ => zLock)) true], .osl 1 3 0 x7n false]) [some (.arr 5 an (rowOf eLock w0)), some (.arr 5 bn (rowOf eLock bw)), some (.box [.osl 5 0 0 b3_0n false, .sl 5 0 (rowOf eLock (fun _ => zLock)) true]), some (.arr 1 n4 (rowOf (eI .u64) w4_1))]) := by kernel_rfl
theorem serve11_h3_s (k j : Nat) (bn : Nat) (bw : Nat → TLock) (x7n : Nat) (x14 : Int) (b3_0n : Nat) (n4 : Nat) (w4_1 : Nat → Int) (n5 : Nat) (w5 : Nat → TLock) (κ : AV → Heap → Option ρ) : serve11_h3 k (j + 1) bn bw x7n x14 b3_0n n4 (rowOf (eI .u64) w4_1) n5 (rowOf eLock w5) κ =
  (bif decide (x14 < (bn : Int)) then
   (bif idxOK x14 bn then
    (bif decide ((0 + (x14).toNat) < bn) then
     callP ctx k n_locks_grants [.agg (eLock ⟨((bw (0 + (x14).toNat)).Tx), ⟨(((bw (0 + (x14).toNat)).R).From), (((bw (0 + (x14).toNat)).R).To), (((bw (0 + (x14).toNat)).R).End)⟩, ((bw (0 + (x14).toNat)).X)⟩), .sl 5 b3_0n (rowOf eLock (fun i => w5 (0 + i))) false, .sl 5 0 (rowOf eLock (fun _ => zLock)) true] (serve11_r3 k j bn bw x14 n4 w4_1 w5 x7n b3_0n n5 κ)
    else none)
   else none)
  else κ (.tup [.agg [.osl 5 4 0 b3_0n false, .sl 5 0 (rowOf eLock (fun _ => zLock)) true], .osl 1 3 0 x7n false]) [none, some (.arr 5 bn (rowOf eLock bw)), some (.box [.osl 5 4 0 b3_0n false, .sl 5 0 (rowOf eLock (fun _ => zLock)) true]), some (.arr 1 n4 (rowOf (eI .u64) w4_1)), some (.arr 5 n5 (rowOf eLock w5))]) := by kernel_rfl
theorem serve11_h4_s (k j : Nat) (an : Nat) (bn : Nat) (bw : Nat → TLock) (w0 : Nat → TLock) (w4_1 : Nat → Int) (w5 : Nat → TLock) (x14 : Int) (b3_1n : Nat) (n5 : Nat) (x7n : Nat) (b3_0n : Nat) (n4 : Nat) (κ : AV → Heap → Option ρ) : serve11_h4 k (j + 1) an bn bw (rowOf eLock w0) (rowOf (eI .u64) w4_1) (rowOf eLock w5) x14 b3_1n n5 x7n b3_0n n4 κ =
  (bif decide (x14 < (bn : Int)) then
   (bif idxOK x14 bn then
    (bif decide ((0 + (x14).toNat) < bn) then
     callP ctx k n_locks_grants [.agg (eLock ⟨((bw (0 + (x14).toNat)).Tx), ⟨(((bw (0 + (x14).toNat)).R).From), (((bw (0 + (x14).toNat)).R).To), (((bw (0 + (x14).toNat)).R).End)⟩, ((bw (0 + (x14).toNat)).X)⟩), .sl 5 b3_0n (rowOf eLock (fun i => w0 (0 + i))) false, .sl 5 b3_1n (rowOf eLock (fun i => w5 (0 + i))) false] (serve11_r4 k j an bn bw x14 b3_1n n4 w0 w4_1 w5 x7n b3_0n n5 κ)
    else none)
   else none)
  else κ (.tup [.agg [.osl 5 0 0 b3_0n false, .osl 5 4 0 b3_1n false], .osl 1 3 0 x7n false]) [some (.arr 5 an (rowOf eLock w0)), some (.arr 5 bn (rowOf eLock bw)), some (.box [.osl 5 0 0 b3_0n false, .osl 5 4 0 b3_1n false]), some (.arr 1 n4 (rowOf (eI .u64) w4_1)), some (.arr 5 n5 (rowOf eLock w5))]) := by kernel_rfl
theorem serve11_h5_s (k j : Nat) (bn : Nat) (bw : Nat → TLock) (w4_1 : Nat → Int) (w5 : Nat → TLock) (w6 : Nat → TLock) (x7n : Nat) (x14 : Int) (b3_0n : Nat) (n4 : Nat) (n5 : Nat) (b3_1n : Nat) (n6 : Nat) (κ : AV → Heap → Option ρ) : serve11_h5 k (j + 1) bn bw (rowOf (eI .u64) w4_1) (rowOf eLock w5) (rowOf eLock w6) x7n x14 b3_0n n4 n5 b3_1n n6 κ =
  (bif decide (x14 < (bn : Int)) then
   (bif idxOK x14 bn then
    (bif decide ((0 + (x14).toNat) < bn) then
     callP ctx k n_locks_grants [.agg (eLock ⟨((bw (0 + (x14).toNat)).Tx), ⟨(((bw (0 + (x14).toNat)).R).From), (((bw (0 + (x14).toNat)).R).To), (((bw (0 + (x14).toNat)).R).End)⟩, ((bw (0 + (x14).toNat)).X)⟩), .sl 5 b3_0n (rowOf eLock (fun i => w5 (0 + i))) false, .sl 5 b3_1n (rowOf eLock (fun i => w6 (0 + i))) false] (serve11_r5 k j bn bw x14 b3_1n n4 w4_1 w5 x7n b3_0n n5 w6 n6 κ)
    else none)
   else none)
  else κ (.tup [.agg [.osl 5 4 0 b3_0n false, .osl 5 5 0 b3_1n false], .osl 1 3 0 x7n false]) [none, some (.arr 5 bn (rowOf eLock bw)), some (.box [.osl 5 4 0 b3_0n false, .osl 5 5 0 b3_1n false]), some (.arr 1 n4 (rowOf (eI .u64) w4_1)), some (.arr 5 n5 (rowOf eLock w5)), some (.arr 5 n6 (rowOf eLock w6))]) := by kernel_rfl
theorem serve11_r0_s (k j1 : Nat) (an : Nat) (aw : Nat → TLock) (bn : Nat) (bw : Nat → TLock) (r0 : Bool) (κ : AV → Heap → Option ρ) : serve11_r0 k j1 an aw bn bw κ (.bool r0) =
  (bif !r0 then
   serve11_h1 k j1 an aw bn bw 1 1 1 (catRow 0 (rowOf eLock (fun _ => zLock)) (litRow eLock [⟨((bw 0).Tx), ⟨(((bw 0).R).From), (((bw 0).R).To), (((bw 0).R).End)⟩, ((bw 0).X)⟩] zLock)) κ
  else (bif decide (((0 + an) + 1) ≤ an) then
    serve11_h2 k j1 an bn bw 1 1 (putRow (0 + an) ((0 + an) + 1) (litRow eLock [⟨((bw 0).Tx), ⟨(((bw 0).R).From), (((bw 0).R).To), (((bw 0).R).End)⟩, ((bw 0).X)⟩] zLock) (rowOf eLock aw)) (an + 1) 1 (catRow 0 (rowOf (eI .u64) (fun _ => 0)) (litRow (eI .u64) [((bw 0).Tx)] 0)) κ
   else (bif ((decide (an = an)) && (roomOf (an + 1) 56)) then
     serve11_h3 k j1 bn bw 1 1 (an + 1) 1 (catRow 0 (rowOf (eI .u64) (fun _ => 0)) (litRow (eI .u64) [((bw 0).Tx)] 0)) (an + 1) (catRow an (rowOf eLock aw) (litRow eLock [⟨((bw 0).Tx), ⟨(((bw 0).R).From), (((bw 0).R).To), (((bw 0).R).End)⟩, ((bw 0).X)⟩] zLock)) κ
    else none))) := by kernel_rfl
theorem serve11_r1_s (k j1 : Nat) (an : Nat) (aw : Nat → TLock) (bn : Nat) (bw : Nat → TLock) (x14 : Int) (b3_1n : Nat) (n4 : Nat) (w4 : Nat → TLock) (r1 : Bool) (κ : AV → Heap → Option ρ) : serve11_r1 k j1 an aw bn bw x14 b3_1n n4 w4 κ (.bool r1) =
  (bif !r1 then
   (bif decide (((0 + b3_1n) + 1) ≤ n4) then
    serve11_h1 k j1 an aw bn bw (wi64 (x14 + 1)) (b3_1n + 1) n4 (putRow (0 + b3_1n) ((0 + b3_1n) + 1) (litRow eLock [⟨((bw (0 + (x14).toNat)).Tx), ⟨(((bw (0 + (x14).toNat)).R).From), (((bw (0 + (x14).toNat)).R).To), (((bw (0 + (x14).toNat)).R).End)⟩, ((bw (0 + (x14).toNat)).X)⟩] zLock) (rowOf eLock w4)) κ
   else (bif ((decide (b3_1n = n4)) && (roomOf (b3_1n + 1) 56)) then
     serve11_h1 k j1 an aw bn bw (wi64 (x14 + 1)) (b3_1n + 1) (b3_1n + 1) (catRow b3_1n (rowOf eLock w4) (litRow eLock [⟨((bw (0 + (x14).toNat)).Tx), ⟨(((bw (0 + (x14).toNat)).R).From), (((bw (0 + (x14).toNat)).R).To), (((bw (0 + (x14).toNat)).R).End)⟩, ((bw (0 + (x14).toNat)).X)⟩] zLock)) κ
    else none))
  else (bif decide (((0 + an) + 1) ≤ an) then
    serve11_h4 k j1 an bn bw (putRow (0 + an) ((0 + an) + 1) (litRow eLock [⟨((bw (0 + (x14).toNat)).Tx), ⟨(((bw (0 + (x14).toNat)).R).From), (((bw (0 + (x14).toNat)).R).To), (((bw (0 + (x14).toNat)).R).End)⟩, ((bw (0 + (x14).toNat)).X)⟩] zLock) (rowOf eLock aw)) (catRow 0 (rowOf (eI .u64) (fun _ => 0)) (litRow (eI .u64) [((bw (0 + (x14).toNat)).Tx)] 0)) (rowOf eLock w4) (wi64 (x14 + 1)) b3_1n n4 1 (an + 1) 1 κ
   else (bif ((decide (an = an)) && (roomOf (an + 1) 56)) then
     serve11_h5 k j1 bn bw (catRow 0 (rowOf (eI .u64) (fun _ => 0)) (litRow (eI .u64) [((bw (0 + (x14).toNat)).Tx)] 0)) (catRow an (rowOf eLock aw) (litRow eLock [⟨((bw (0 + (x14).toNat)).Tx), ⟨(((bw (0 + (x14).toNat)).R).From), (((bw (0 + (x14).toNat)).R).To), (((bw (0 + (x14).toNat)).R).End)⟩, ((bw (0 + (x14).toNat)).X)⟩] zLock)) (rowOf eLock w4) 1 (wi64 (x14 + 1)) (an + 1) 1 (an + 1) b3_1n n4 κ
    else none))) := by kernel_rfl
theorem serve11_r2_s (k j1 : Nat) (an : Nat) (bn : Nat) (bw : Nat → TLock) (x14 : Int) (n4 : Nat) (w0 : Nat → TLock) (w4_1 : Nat → Int) (x7n : Nat) (b3_0n : Nat) (r2 : Bool) (κ : AV → Heap → Option ρ) : serve11_r2 k j1 an bn bw x14 n4 w0 w4_1 x7n b3_0n κ (.bool r2) =
  (bif !r2 then
   serve11_h4 k j1 an bn bw (rowOf eLock w0) (rowOf (eI .u64) w4_1) (catRow 0 (rowOf eLock (fun _ => zLock)) (litRow eLock [⟨((bw (0 + (x14).toNat)).Tx), ⟨(((bw (0 + (x14).toNat)).R).From), (((bw (0 + (x14).toNat)).R).To), (((bw (0 + (x14).toNat)).R).End)⟩, ((bw (0 + (x14).toNat)).X)⟩] zLock)) (wi64 (x14 + 1)) 1 1 x7n b3_0n n4 κ
  else (bif decide (((0 + b3_0n) + 1) ≤ an) then
    (bif decide (((0 + x7n) + 1) ≤ n4) then
     serve11_h2 k j1 an bn bw (x7n + 1) (wi64 (x14 + 1)) (putRow (0 + b3_0n) ((0 + b3_0n) + 1) (litRow eLock [⟨((bw (0 + (x14).toNat)).Tx), ⟨(((bw (0 + (x14).toNat)).R).From), (((bw (0 + (x14).toNat)).R).To), (((bw (0 + (x14).toNat)).R).End)⟩, ((bw (0 + (x14).toNat)).X)⟩] zLock) (rowOf eLock w0)) (b3_0n + 1) n4 (putRow (0 + x7n) ((0 + x7n) + 1) (litRow (eI .u64) [((bw (0 + (x14).toNat)).Tx)] 0) (rowOf (eI .u64) w4_1)) κ
    else (bif ((decide (x7n = n4)) && (roomOf (x7n + 1) 8)) then
      serve11_h2 k j1 an bn bw (x7n + 1) (wi64 (x14 + 1)) (putRow (0 + b3_0n) ((0 + b3_0n) + 1) (litRow eLock [⟨((bw (0 + (x14).toNat)).Tx), ⟨(((bw (0 + (x14).toNat)).R).From), (((bw (0 + (x14).toNat)).R).To), (((bw (0 + (x14).toNat)).R).End)⟩, ((bw (0 + (x14).toNat)).X)⟩] zLock) (rowOf eLock w0)) (b3_0n + 1) (x7n + 1) (catRow x7n (rowOf (eI .u64) w4_1) (litRow (eI .u64) [((bw (0 + (x14).toNat)).Tx)] 0)) κ
     else none))
   else (bif ((decide (b3_0n = an)) && (roomOf (b3_0n + 1) 56)) then
     (bif decide (((0 + x7n) + 1) ≤ n4) then
      serve11_h3 k j1 bn bw (x7n + 1) (wi64 (x14 + 1)) (b3_0n + 1) n4 (putRow (0 + x7n) ((0 + x7n) + 1) (litRow (eI .u64) [((bw (0 + (x14).toNat)).Tx)] 0) (rowOf (eI .u64) w4_1)) (b3_0n + 1) (catRow b3_0n (rowOf eLock w0) (litRow eLock [⟨((bw (0 + (x14).toNat)).Tx), ⟨(((bw (0 + (x14).toNat)).R).From), (((bw (0 + (x14).toNat)).R).To), (((bw (0 + (x14).toNat)).R).End)⟩, ((bw (0 + (x14).toNat)).X)⟩] zLock)) κ
     else (bif ((decide (x7n = n4)) && (roomOf (x7n + 1) 8)) then
       serve11_h3 k j1 bn bw (x7n + 1) (wi64 (x14 + 1)) (b3_0n + 1) (x7n + 1) (catRow x7n (rowOf (eI .u64) w4_1) (litRow (eI .u64) [((bw (0 + (x14).toNat)).Tx)] 0)) (b3_0n + 1) (catRow b3_0n (rowOf eLock w0) (litRow eLock [⟨((bw (0 + (x14).toNat)).Tx), ⟨(((bw (0 + (x14).toNat)).R).From), (((bw (0 + (x14).toNat)).R).To), (((bw (0 + (x14).toNat)).R).End)⟩, ((bw (0 + (x14).toNat)).X)⟩] zLock)) κ
      else none))
    else none))) := by kernel_rfl
theorem serve11_r3_s (k j1 : Nat) (bn : Nat) (bw : Nat → TLock) (x14 : Int) (n4 : Nat) (w4_1 : Nat → Int) (w5 : Nat → TLock) (x7n : Nat) (b3_0n : Nat) (n5 : Nat) (r3 : Bool) (κ : AV → Heap → Option ρ) : serve11_r3 k j1 bn bw x14 n4 w4_1 w5 x7n b3_0n n5 κ (.bool r3) =
  (bif !r3 then
   serve11_h5 k j1 bn bw (rowOf (eI .u64) w4_1) (rowOf eLock w5) (catRow 0 (rowOf eLock (fun _ => zLock)) (litRow eLock [⟨((bw (0 + (x14).toNat)).Tx), ⟨(((bw (0 + (x14).toNat)).R).From), (((bw (0 + (x14).toNat)).R).To), (((bw (0 + (x14).toNat)).R).End)⟩, ((bw (0 + (x14).toNat)).X)⟩] zLock)) x7n (wi64 (x14 + 1)) b3_0n n4 n5 1 1 κ
  else (bif decide (((0 + b3_0n) + 1) ≤ n5) then
    (bif decide (((0 + x7n) + 1) ≤ n4) then
     serve11_h3 k j1 bn bw (x7n + 1) (wi64 (x14 + 1)) (b3_0n + 1) n4 (putRow (0 + x7n) ((0 + x7n) + 1) (litRow (eI .u64) [((bw (0 + (x14).toNat)).Tx)] 0) (rowOf (eI .u64) w4_1)) n5 (putRow (0 + b3_0n) ((0 + b3_0n) + 1) (litRow eLock [⟨((bw (0 + (x14).toNat)).Tx), ⟨(((bw (0 + (x14).toNat)).R).From), (((bw (0 + (x14).toNat)).R).To), (((bw (0 + (x14).toNat)).R).End)⟩, ((bw (0 + (x14).toNat)).X)⟩] zLock) (rowOf eLock w5)) κ
    else (bif ((decide (x7n = n4)) && (roomOf (x7n + 1) 8)) then
      serve11_h3 k j1 bn bw (x7n + 1) (wi64 (x14 + 1)) (b3_0n + 1) (x7n + 1) (catRow x7n (rowOf (eI .u64) w4_1) (litRow (eI .u64) [((bw (0 + (x14).toNat)).Tx)] 0)) n5 (putRow (0 + b3_0n) ((0 + b3_0n) + 1) (litRow eLock [⟨((bw (0 + (x14).toNat)).Tx), ⟨(((bw (0 + (x14).toNat)).R).From), (((bw (0 + (x14).toNat)).R).To), (((bw (0 + (x14).toNat)).R).End)⟩, ((bw (0 + (x14).toNat)).X)⟩] zLock) (rowOf eLock w5)) κ
     else none))
   else (bif ((decide (b3_0n = n5)) && (roomOf (b3_0n + 1) 56)) then
     (bif decide (((0 + x7n) + 1) ≤ n4) then
      serve11_h3 k j1 bn bw (x7n + 1) (wi64 (x14 + 1)) (b3_0n + 1) n4 (putRow (0 + x7n) ((0 + x7n) + 1) (litRow (eI .u64) [((bw (0 + (x14).toNat)).Tx)] 0) (rowOf (eI .u64) w4_1)) (b3_0n + 1) (catRow b3_0n (rowOf eLock w5) (litRow eLock [⟨((bw (0 + (x14).toNat)).Tx), ⟨(((bw (0 + (x14).toNat)).R).From), (((bw (0 + (x14).toNat)).R).To), (((bw (0 + (x14).toNat)).R).End)⟩, ((bw (0 + (x14).toNat)).X)⟩] zLock)) κ
     else (bif ((decide (x7n = n4)) && (roomOf (x7n + 1) 8)) then
       serve11_h3 k j1 bn bw (x7n + 1) (wi64 (x14 + 1)) (b3_0n + 1) (x7n + 1) (catRow x7n (rowOf (eI .u64) w4_1) (litRow (eI .u64) [((bw (0 + (x14).toNat)).Tx)] 0)) (b3_0n + 1) (catRow b3_0n (rowOf eLock w5) (litRow eLock [⟨((bw (0 + (x14).toNat)).Tx), ⟨(((bw (0 + (x14).toNat)).R).From), (((bw (0 + (x14).toNat)).R).To), (((bw (0 + (x14).toNat)).R).End)⟩, ((bw (0 + (x14).toNat)).X)⟩] zLock)) κ
      else none))
    else none))) := by kernel_rfl
theorem serve11_r4_s (k j1 : Nat) (an : Nat) (bn : Nat) (bw : Nat → TLock) (x14 : Int) (b3_1n : Nat) (n4 : Nat) (w0 : Nat → TLock) (w4_1 : Nat → Int) (w5 : Nat → TLock) (x7n : Nat) (b3_0n : Nat) (n5 : Nat) (r4 : Bool) (κ : AV → Heap → Option ρ) : serve11_r4 k j1 an bn bw x14 b3_1n n4 w0 w4_1 w5 x7n b3_0n n5 κ (.bool r4) =
  (bif !r4 then
   (bif decide (((0 + b3_1n) + 1) ≤ n5) then
    serve11_h4 k j1 an bn bw (rowOf eLock w0) (rowOf (eI .u64) w4_1) (putRow (0 + b3_1n) ((0 + b3_1n) + 1) (litRow eLock [⟨((bw (0 + (x14).toNat)).Tx), ⟨(((bw (0 + (x14).toNat)).R).From), (((bw (0 + (x14).toNat)).R).To), (((bw (0 + (x14).toNat)).R).End)⟩, ((bw (0 + (x14).toNat)).X)⟩] zLock) (rowOf eLock w5)) (wi64 (x14 + 1)) (b3_1n + 1) n5 x7n b3_0n n4 κ
   else (bif ((decide (b3_1n = n5)) && (roomOf (b3_1n + 1) 56)) then
     serve11_h4 k j1 an bn bw (rowOf eLock w0) (rowOf (eI .u64) w4_1) (catRow b3_1n (rowOf eLock w5) (litRow eLock [⟨((bw (0 + (x14).toNat)).Tx), ⟨(((bw (0 + (x14).toNat)).R).From), (((bw (0 + (x14).toNat)).R).To), (((bw (0 + (x14).toNat)).R).End)⟩, ((bw (0 + (x14).toNat)).X)⟩] zLock)) (wi64 (x14 + 1)) (b3_1n + 1) (b3_1n + 1) x7n b3_0n n4 κ
    else none))
  else (bif decide (((0 + b3_0n) + 1) ≤ an) then
    (bif decide (((0 + x7n) + 1) ≤ n4) then
     serve11_h4 k j1 an bn bw (putRow (0 + b3_0n) ((0 + b3_0n) + 1) (litRow eLock [⟨((bw (0 + (x14).toNat)).Tx), ⟨(((bw (0 + (x14).toNat)).R).From), (((bw (0 + (x14).toNat)).R).To), (((bw (0 + (x14).toNat)).R).End)⟩, ((bw (0 + (x14).toNat)).X)⟩] zLock) (rowOf eLock w0)) (putRow (0 + x7n) ((0 + x7n) + 1) (litRow (eI .u64) [((bw (0 + (x14).toNat)).Tx)] 0) (rowOf (eI .u64) w4_1)) (rowOf eLock w5) (wi64 (x14 + 1)) b3_1n n5 (x7n + 1) (b3_0n + 1) n4 κ
    else (bif ((decide (x7n = n4)) && (roomOf (x7n + 1) 8)) then
      serve11_h4 k j1 an bn bw (putRow (0 + b3_0n) ((0 + b3_0n) + 1) (litRow eLock [⟨((bw (0 + (x14).toNat)).Tx), ⟨(((bw (0 + (x14).toNat)).R).From), (((bw (0 + (x14).toNat)).R).To), (((bw (0 + (x14).toNat)).R).End)⟩, ((bw (0 + (x14).toNat)).X)⟩] zLock) (rowOf eLock w0)) (catRow x7n (rowOf (eI .u64) w4_1) (litRow (eI .u64) [((bw (0 + (x14).toNat)).Tx)] 0)) (rowOf eLock w5) (wi64 (x14 + 1)) b3_1n n5 (x7n + 1) (b3_0n + 1) (x7n + 1) κ
     else none))
   else (bif ((decide (b3_0n = an)) && (roomOf (b3_0n + 1) 56)) then
     (bif decide (((0 + x7n) + 1) ≤ n4) then
      serve11_h5 k j1 bn bw (putRow (0 + x7n) ((0 + x7n) + 1) (litRow (eI .u64) [((bw (0 + (x14).toNat)).Tx)] 0) (rowOf (eI .u64) w4_1)) (catRow b3_0n (rowOf eLock w0) (litRow eLock [⟨((bw (0 + (x14).toNat)).Tx), ⟨(((bw (0 + (x14).toNat)).R).From), (((bw (0 + (x14).toNat)).R).To), (((bw (0 + (x14).toNat)).R).End)⟩, ((bw (0 + (x14).toNat)).X)⟩] zLock)) (rowOf eLock w5) (x7n + 1) (wi64 (x14 + 1)) (b3_0n + 1) n4 (b3_0n + 1) b3_1n n5 κ
     else (bif ((decide (x7n = n4)) && (roomOf (x7n + 1) 8)) then
       serve11_h5 k j1 bn bw (catRow x7n (rowOf (eI .u64) w4_1) (litRow (eI .u64) [((bw (0 + (x14).toNat)).Tx)] 0)) (catRow b3_0n (rowOf eLock w0) (litRow eLock [⟨((bw (0 + (x14).toNat)).Tx), ⟨(((bw (0 + (x14).toNat)).R).From), (((bw (0 + (x14).toNat)).R).To), (((bw (0 + (x14).toNat)).R).End)⟩, ((bw (0 + (x14).toNat)).X)⟩] zLock)) (rowOf eLock w5) (x7n + 1) (wi64 (x14 + 1)) (b3_0n + 1) (x7n + 1) (b3_0n + 1) b3_1n n5 κ
      else none))
    else none))) := by kernel_rfl
theorem serve11_r5_s (k j1 : Nat) (bn : Nat) (bw : Nat → TLock) (x14 : Int) (b3_1n : Nat) (n4 : Nat) (w4_1 : Nat → Int) (w5 : Nat → TLock) (x7n : Nat) (b3_0n : Nat) (n5 : Nat) (w6 : Nat → TLock) (n6 : Nat) (r5 : Bool) (κ : AV → Heap → Option ρ) : serve11_r5 k j1 bn bw x14 b3_1n n4 w4_1 w5 x7n b3_0n n5 w6 n6 κ (.bool r5) =
  (bif !r5 then
   (bif decide (((0 + b3_1n) + 1) ≤ n6) then
    serve11_h5 k j1 bn bw (rowOf (eI .u64) w4_1) (rowOf eLock w5) (putRow (0 + b3_1n) ((0 + b3_1n) + 1) (litRow eLock [⟨((bw (0 + (x14).toNat)).Tx), ⟨(((bw (0 + (x14).toNat)).R).From), (((bw (0 + (x14).toNat)).R).To), (((bw (0 + (x14).toNat)).R).End)⟩, ((bw (0 + (x14).toNat)).X)⟩] zLock) (rowOf eLock w6)) x7n (wi64 (x14 + 1)) b3_0n n4 n5 (b3_1n + 1) n6 κ
   else (bif ((decide (b3_1n = n6)) && (roomOf (b3_1n + 1) 56)) then
     serve11_h5 k j1 bn bw (rowOf (eI .u64) w4_1) (rowOf eLock w5) (catRow b3_1n (rowOf eLock w6) (litRow eLock [⟨((bw (0 + (x14).toNat)).Tx), ⟨(((bw (0 + (x14).toNat)).R).From), (((bw (0 + (x14).toNat)).R).To), (((bw (0 + (x14).toNat)).R).End)⟩, ((bw (0 + (x14).toNat)).X)⟩] zLock)) x7n (wi64 (x14 + 1)) b3_0n n4 n5 (b3_1n + 1) (b3_1n + 1) κ
    else none))
  else (bif decide (((0 + b3_0n) + 1) ≤ n5) then
    (bif decide (((0 + x7n) + 1) ≤ n4) then
     serve11_h5 k j1 bn bw (putRow (0 + x7n) ((0 + x7n) + 1) (litRow (eI .u64) [((bw (0 + (x14).toNat)).Tx)] 0) (rowOf (eI .u64) w4_1)) (putRow (0 + b3_0n) ((0 + b3_0n) + 1) (litRow eLock [⟨((bw (0 + (x14).toNat)).Tx), ⟨(((bw (0 + (x14).toNat)).R).From), (((bw (0 + (x14).toNat)).R).To), (((bw (0 + (x14).toNat)).R).End)⟩, ((bw (0 + (x14).toNat)).X)⟩] zLock) (rowOf eLock w5)) (rowOf eLock w6) (x7n + 1) (wi64 (x14 + 1)) (b3_0n + 1) n4 n5 b3_1n n6 κ
    else (bif ((decide (x7n = n4)) && (roomOf (x7n + 1) 8)) then
      serve11_h5 k j1 bn bw (catRow x7n (rowOf (eI .u64) w4_1) (litRow (eI .u64) [((bw (0 + (x14).toNat)).Tx)] 0)) (putRow (0 + b3_0n) ((0 + b3_0n) + 1) (litRow eLock [⟨((bw (0 + (x14).toNat)).Tx), ⟨(((bw (0 + (x14).toNat)).R).From), (((bw (0 + (x14).toNat)).R).To), (((bw (0 + (x14).toNat)).R).End)⟩, ((bw (0 + (x14).toNat)).X)⟩] zLock) (rowOf eLock w5)) (rowOf eLock w6) (x7n + 1) (wi64 (x14 + 1)) (b3_0n + 1) (x7n + 1) n5 b3_1n n6 κ
     else none))
   else (bif ((decide (b3_0n = n5)) && (roomOf (b3_0n + 1) 56)) then
     (bif decide (((0 + x7n) + 1) ≤ n4) then
      serve11_h5 k j1 bn bw (putRow (0 + x7n) ((0 + x7n) + 1) (litRow (eI .u64) [((bw (0 + (x14).toNat)).Tx)] 0) (rowOf (eI .u64) w4_1)) (catRow b3_0n (rowOf eLock w5) (litRow eLock [⟨((bw (0 + (x14).toNat)).Tx), ⟨(((bw (0 + (x14).toNat)).R).From), (((bw (0 + (x14).toNat)).R).To), (((bw (0 + (x14).toNat)).R).End)⟩, ((bw (0 + (x14).toNat)).X)⟩] zLock)) (rowOf eLock w6) (x7n + 1) (wi64 (x14 + 1)) (b3_0n + 1) n4 (b3_0n + 1) b3_1n n6 κ
     else (bif ((decide (x7n = n4)) && (roomOf (x7n + 1) 8)) then
       serve11_h5 k j1 bn bw (catRow x7n (rowOf (eI .u64) w4_1) (litRow (eI .u64) [((bw (0 + (x14).toNat)).Tx)] 0)) (catRow b3_0n (rowOf eLock w5) (litRow eLock [⟨((bw (0 + (x14).toNat)).Tx), ⟨(((bw (0 + (x14).toNat)).R).From), (((bw (0 + (x14).toNat)).R).To), (((bw (0 + (x14).toNat)).R).End)⟩, ((bw (0 + (x14).toNat)).X)⟩] zLock)) (rowOf eLock w6) (x7n + 1) (wi64 (x14 + 1)) (b3_0n + 1) (x7n + 1) (b3_0n + 1) b3_1n n6 κ
      else none))
    else none))) := by kernel_rfl
theorem serve11_e (k : Nat) (an : Nat) (aw : Nat → TLock) (bn : Nat) (bw : Nat → TLock) (κ : AV → Heap → Option ρ) : evalF ctx (k + 1) n_locks_serve [.osl 5 0 0 an false, .osl 5 1 0 bn false] [some (.arr 5 an (rowOf eLock aw)), some (.arr 5 bn (rowOf eLock bw))] κ =
  serve11_h0 k k an aw bn bw κ := by kernel_rfl
noncomputable def serve10_h0 (k j : Nat) (an : Nat) (aw : Nat → TLock) (κ : AV → Heap → Option ρ) : Option ρ := headAt ctx k n_locks_serve 1 [.r, .r, .r, .r, .l, .r] j ⟨(envOf 45 [(4, .ref 1 0), (6, .ref 2 0), (7, .sl 1 0 (rowOf (eI .u64) (fun _ => 0)) true), (12, .sl 5 0 (rowOf eLock (fun _ => zLock)) true), (13, .int .i64 0), (14, .int .i64 0)]), [some (.arr 5 an (rowOf eLock aw)), some (.box [.sl 5 0 (rowOf eLock (fun _ => zLock)) true, .sl 5 0 (rowOf eLock (fun _ => zLock)) true]), some (.box [.osl 5 0 0 an false, .sl 5 0 (rowOf eLock (fun _ => zLock)) true])]⟩ κ
theorem serve10_h0_s (k j : Nat) (an : Nat) (aw : Nat → TLock) (κ : AV → Heap → Option ρ) : serve10_h0 k (j + 1) an aw κ =
  κ (.tup [.agg [.osl 5 0 0 an false, .sl 5 0 (rowOf eLock (fun _ => zLock)) true], .sl 1 0 (rowOf (eI .u64) (fun _ => 0)) true]) [some (.arr 5 an (rowOf eLock aw)), some (.box [.osl 5 0 0 an false, .sl 5 0 (rowOf eLock (fun _ => zLock)) true])] := by kernel_rfl
theorem serve10_e (k : Nat) (an : Nat) (aw : Nat → TLock) (κ : AV → Heap → Option ρ) : evalF ctx (k + 1) n_locks_serve [.osl 5 0 0 an false, .sl 5 0 (rowOf eLock (fun _ => zLock)) true] [some (.arr 5 an (rowOf eLock aw))] κ =
  serve10_h0 k k an aw κ := by kernel_rfl
noncomputable def serve00_h0 (k j : Nat) (κ : AV → Heap → Option ρ) : Option ρ := headAt ctx k n_locks_serve 0 [.r, .r, .r, .r, .l, .r] j ⟨(envOf 45 [(4, .ref 0 0), (6, .ref 1 0), (7, .sl 1 0 (rowOf (eI .u64) (fun _ => 0)) true), (12, .sl 5 0 (rowOf eLock (fun _ => zLock)) true), (13, .int .i64 0), (14, .int .i64 0)]), [some (.box [.sl 5 0 (rowOf eLock (fun _ => zLock)) true, .sl 5 0 (rowOf eLock (fun _ => zLock)) true]), some (.box [.sl 5 0 (rowOf eLock (fun _ => zLock)) true, .sl 5 0 (rowOf eLock (fun _ => zLock)) true])]⟩ κ
theorem serve00_h0_s (k j : Nat) (κ : AV → Heap → Option ρ) : serve00_h0 k (j + 1) κ =
  κ (.tup [.agg (eLocks zLocks), .sl 1 0 (rowOf (eI .u64) (fun _ => 0)) true]) [some (.box [.sl 5 0 (rowOf eLock (fun _ => zLock)) true, .sl 5 0 (rowOf eLock (fun _ => zLock)) true])] := by kernel_rfl
theorem serve00_e (k : Nat) (κ : AV → Heap → Option ρ) : evalF ctx (k + 1) n_locks_serve [.sl 5 0 (rowOf eLock (fun _ => zLock)) true, .sl 5 0 (rowOf eLock (fun _ => zLock)) true] [] κ =
  serve00_h0 k k κ := by kernel_rfl
end Go.Proofs.YticcbbcgboddpaaC

set_option linter.unusedVariables false
set_option maxRecDepth 20000
namespace Go.Proofs.YticcbbcgboddpaaC
open Go Go.Ev Go.Proofs
variable {ρ : Type}
noncomputable def locks_Release_r0 (k : Nat) (s : TLocks) (tx : Int) (κ : AV → Heap → Option ρ) (v : AV) : Option ρ := resAt ctx k n_locks_Release 0 [.r, .l, .l] 1 [] ⟨(envOf 29 [(1, .int .u64 tx), (2, .ref 0 0), (4, .ref 1 0), (9, .agg (eLocks s)), (10, v)]), [some (.box [.sl 5 s.Held.n (rowOf eLock s.Held.w) s.Held.u, .sl 5 s.Waits.n (rowOf eLock s.Waits.w) s.Waits.u]), some (.box [.sl 5 0 (rowOf eLock (fun _ => zLock)) true, .sl 5 0 (rowOf eLock (fun _ => zLock)) true])]⟩ κ
noncomputable def locks_Release_r1 (k : Nat) (s : TLocks) (tx : Int) (r0 : Int) (κ : AV → Heap → Option ρ) (v : AV) (W : Heap) : Option ρ := backHD [2] [some (.box [.sl 5 s.Held.n (rowOf eLock s.Held.w) s.Held.u, .sl 5 s.Waits.n (rowOf eLock s.Waits.w) s.Waits.u]), some (.box [.sl 5 0 (rowOf eLock (fun _ => zLock)) true, .sl 5 0 (rowOf eLock (fun _ => zLock)) true]), some (.box [.int .u64 tx])] (fun v H => resAt ctx k n_locks_Release 0 [.r, .r, .l] 4 [] ⟨(envOf 29 [(1, .int .u64 tx), (2, .ref 0 0), (4, .ref 1 0), (11, .bool (!decide (r0 = 0))), (14, .ref 0 0), (15, .sl 5 s.Held.n (rowOf eLock s.Held.w) s.Held.u), (16, .int .u64 tx), (17, .fn n_locks_others_1 [] [.ref 2 0]), (18, v)]), H⟩ κ) v W
noncomputable def locks_Release_r2 (k : Nat) (s : TLocks) (tx : Int) (r0 : Int) (κ : AV → Heap → Option ρ) (v : AV) (W : Heap) : Option ρ := backHD [3] [some (.box [.sl 5 s.Held.n (rowOf eLock s.Held.w) s.Held.u, .sl 5 s.Waits.n (rowOf eLock s.Waits.w) s.Waits.u]), some (.box [.sl 5 0 (rowOf eLock (fun _ => zLock)) true, .sl 5 0 (rowOf eLock (fun _ => zLock)) true]), some (.box [.int .u64 tx]), some (.box [.int .u64 tx])] (fun v H => resAt ctx k n_locks_Release 0 [.r, .r, .l] 9 [] ⟨(envOf 29 [(1, .int .u64 tx), (2, .ref 0 0), (4, .ref 1 0), (11, .bool (!decide (r0 = 0))), (14, .ref 0 0), (15, .sl 5 s.Held.n (rowOf eLock s.Held.w) s.Held.u), (16, .int .u64 tx), (17, .fn n_locks_others_1 [] [.ref 2 0]), (18, .sl 5 0 (rowOf eLock (fun _ => zLock)) true), (19, .ref 0 1), (20, .sl 5 s.Waits.n (rowOf eLock s.Waits.w) s.Waits.u), (21, .int .u64 tx), (22, .fn n_locks_others_1 [] [.ref 3 0]), (23, v)]), H⟩ κ) v W
noncomputable def locks_Release_r3 (k : Nat) (s : TLocks) (tx : Int) (r0 : Int) (r1n : Nat) (r1w : Nat → TLock) (κ : AV → Heap → Option ρ) (v : AV) (W : Heap) : Option ρ := backHD [4] [some (.box [.sl 5 s.Held.n (rowOf eLock s.Held.w) s.Held.u, .sl 5 s.Waits.n (rowOf eLock s.Waits.w) s.Waits.u]), some (.box [.sl 5 0 (rowOf eLock (fun _ => zLock)) true, .sl 5 0 (rowOf eLock (fun _ => zLock)) true]), some (.box [.int .u64 tx]), some (.arr 5 r1n (rowOf eLock r1w)), some (.box [.int .u64 tx])] (fun v H => resAt ctx k n_locks_Release 0 [.r, .r, .l] 9 [] ⟨(envOf 29 [(1, .int .u64 tx), (2, .ref 0 0), (4, .ref 1 0), (11, .bool (!decide (r0 = 0))), (14, .ref 0 0), (15, .sl 5 s.Held.n (rowOf eLock s.Held.w) s.Held.u), (16, .int .u64 tx), (17, .fn n_locks_others_1 [] [.ref 2 0]), (18, .osl 5 3 0 r1n false), (19, .ref 0 1), (20, .sl 5 s.Waits.n (rowOf eLock s.Waits.w) s.Waits.u), (21, .int .u64 tx), (22, .fn n_locks_others_1 [] [.ref 4 0]), (23, v)]), H⟩ κ) v W
noncomputable def locks_Release_r4 (k : Nat) (s : TLocks) (tx : Int) (r0 : Int) (κ : AV → Heap → Option ρ) (v : AV) (W : Heap) : Option ρ := backHD [] [some (.box [.sl 5 s.Held.n (rowOf eLock s.Held.w) s.Held.u, .sl 5 s.Waits.n (rowOf eLock s.Waits.w) s.Waits.u]), some (.box [.sl 5 0 (rowOf eLock (fun _ => zLock)) true, .sl 5 0 (rowOf eLock (fun _ => zLock)) true]), some (.box [.int .u64 tx]), some (.box [.int .u64 tx])] (fun v H => resAt ctx k n_locks_Release 0 [.r, .r, .l] 10 [] ⟨(envOf 29 [(1, .int .u64 tx), (2, .ref 0 0), (4, .ref 1 0), (11, .bool (!decide (r0 = 0))), (14, .ref 0 0), (15, .sl 5 s.Held.n (rowOf eLock s.Held.w) s.Held.u), (16, .int .u64 tx), (17, .fn n_locks_others_1 [] [.ref 2 0]), (18, .sl 5 0 (rowOf eLock (fun _ => zLock)) true), (19, .ref 0 1), (20, .sl 5 s.Waits.n (rowOf eLock s.Waits.w) s.Waits.u), (21, .int .u64 tx), (22, .fn n_locks_others_1 [] [.ref 3 0]), (23, .sl 5 0 (rowOf eLock (fun _ => zLock)) true), (24, v)]), H⟩ κ) v W
noncomputable def locks_Release_r5 (k : Nat) (s : TLocks) (tx : Int) (r0 : Int) (r2n : Nat) (r2w : Nat → TLock) (κ : AV → Heap → Option ρ) (v : AV) (W : Heap) : Option ρ := backHD [4] [some (.box [.sl 5 s.Held.n (rowOf eLock s.Held.w) s.Held.u, .sl 5 s.Waits.n (rowOf eLock s.Waits.w) s.Waits.u]), some (.box [.sl 5 0 (rowOf eLock (fun _ => zLock)) true, .sl 5 0 (rowOf eLock (fun _ => zLock)) true]), some (.box [.int .u64 tx]), some (.box [.int .u64 tx]), some (.arr 5 r2n (rowOf eLock r2w))] (fun v H => resAt ctx k n_locks_Release 0 [.r, .r, .l] 10 [] ⟨(envOf 29 [(1, .int .u64 tx), (2, .ref 0 0), (4, .ref 1 0), (11, .bool (!decide (r0 = 0))), (14, .ref 0 0), (15, .sl 5 s.Held.n (rowOf eLock s.Held.w) s.Held.u), (16, .int .u64 tx), (17, .fn n_locks_others_1 [] [.ref 2 0]), (18, .sl 5 0 (rowOf eLock (fun _ => zLock)) true), (19, .ref 0 1), (20, .sl 5 s.Waits.n (rowOf eLock s.Waits.w) s.Waits.u), (21, .int .u64 tx), (22, .fn n_locks_others_1 [] [.ref 3 0]), (23, .osl 5 4 0 r2n false), (24, v)]), H⟩ κ) v W
noncomputable def locks_Release_r6 (k : Nat) (s : TLocks) (tx : Int) (r0 : Int) (r1n : Nat) (r1w : Nat → TLock) (κ : AV → Heap → Option ρ) (v : AV) (W : Heap) : Option ρ := backHD [3] [some (.box [.sl 5 s.Held.n (rowOf eLock s.Held.w) s.Held.u, .sl 5 s.Waits.n (rowOf eLock s.Waits.w) s.Waits.u]), some (.box [.sl 5 0 (rowOf eLock (fun _ => zLock)) true, .sl 5 0 (rowOf eLock (fun _ => zLock)) true]), some (.box [.int .u64 tx]), some (.arr 5 r1n (rowOf eLock r1w)), some (.box [.int .u64 tx])] (fun v H => resAt ctx k n_locks_Release 0 [.r, .r, .l] 10 [] ⟨(envOf 29 [(1, .int .u64 tx), (2, .ref 0 0), (4, .ref 1 0), (11, .bool (!decide (r0 = 0))), (14, .ref 0 0), (15, .sl 5 s.Held.n (rowOf eLock s.Held.w) s.Held.u), (16, .int .u64 tx), (17, .fn n_locks_others_1 [] [.ref 2 0]), (18, .osl 5 3 0 r1n false), (19, .ref 0 1), (20, .sl 5 s.Waits.n (rowOf eLock s.Waits.w) s.Waits.u), (21, .int .u64 tx), (22, .fn n_locks_others_1 [] [.ref 4 0]), (23, .sl 5 0 (rowOf eLock (fun _ => zLock)) true), (24, v)]), H⟩ κ) v W
noncomputable def locks_Release_r7 (k : Nat) (s : TLocks) (tx : Int) (r0 : Int) (r1n : Nat) (r1w : Nat → TLock) (r3n : Nat) (r3w : Nat → TLock) (κ : AV → Heap → Option ρ) (v : AV) (W : Heap) : Option ρ := backHD [3, 5] [some (.box [.sl 5 s.Held.n (rowOf eLock s.Held.w) s.Held.u, .sl 5 s.Waits.n (rowOf eLock s.Waits.w) s.Waits.u]), some (.box [.sl 5 0 (rowOf eLock (fun _ => zLock)) true, .sl 5 0 (rowOf eLock (fun _ => zLock)) true]), some (.box [.int .u64 tx]), some (.arr 5 r1n (rowOf eLock r1w)), some (.box [.int .u64 tx]), some (.arr 5 r3n (rowOf eLock r3w))] (fun v H => resAt ctx k n_locks_Release 0 [.r, .r, .l] 10 [] ⟨(envOf 29 [(1, .int .u64 tx), (2, .ref 0 0), (4, .ref 1 0), (11, .bool (!decide (r0 = 0))), (14, .ref 0 0), (15, .sl 5 s.Held.n (rowOf eLock s.Held.w) s.Held.u), (16, .int .u64 tx), (17, .fn n_locks_others_1 [] [.ref 2 0]), (18, .osl 5 3 0 r1n false), (19, .ref 0 1), (20, .sl 5 s.Waits.n (rowOf eLock s.Waits.w) s.Waits.u), (21, .int .u64 tx), (22, .fn n_locks_others_1 [] [.ref 4 0]), (23, .osl 5 5 0 r3n false), (24, v)]), H⟩ κ) v W
theorem locks_Release_r0_s (k : Nat) (s : TLocks) (tx : Int) (r0 : Int) (κ : AV → Heap → Option ρ) : locks_Release_r0 (k + 1) s tx κ (.int .i64 r0) =
  (bif !decide (r0 = 0) then
   κ (.tup [.agg (eLocks zLocks), .sl 1 0 (rowOf (eI .u64) (fun _ => 0)) true, .int .i64 220]) [some (.box [.sl 5 0 (rowOf eLock (fun _ => zLock)) true, .sl 5 0 (rowOf eLock (fun _ => zLock)) true])]
  else evalF ctx (k + 1) n_locks_kept_Lock [.sl 5 s.Held.n (rowOf eLock s.Held.w) s.Held.u, .fn n_locks_others_1 [] [.ref 0 0]] [some (.box [.int .u64 tx])] (locks_Release_r1 (k + 1) s tx r0 κ)) := by kernel_rfl
theorem locks_Release_r1_s (k : Nat) (s : TLocks) (tx : Int) (r0 : Int) (κ : AV → Heap → Option ρ) : locks_Release_r1 (k + 1) s tx r0 κ (.sl 5 0 (rowOf eLock (fun _ => zLock)) true) [some (.box [.int .u64 tx])] =
  (bif decide (tx = tx) then
   evalF ctx (k + 1) n_locks_kept_Lock [.sl 5 s.Waits.n (rowOf eLock s.Waits.w) s.Waits.u, .fn n_locks_others_1 [] [.ref 0 0]] [some (.box [.int .u64 tx])] (locks_Release_r2 (k + 1) s tx r0 κ)
  else none) := by kernel_rfl
theorem locks_Release_r1_s1 (k : Nat) (s : TLocks) (tx : Int) (r0 : Int) (r1n : Nat) (r1w : Nat → TLock) (κ : AV → Heap → Option ρ) : locks_Release_r1 (k + 1) s tx r0 κ (.osl 5 1 0 r1n false) [some (.box [.int .u64 tx]), some (.arr 5 r1n (rowOf eLock r1w))] =
  (bif decide (tx = tx) then
   evalF ctx (k + 1) n_locks_kept_Lock [.sl 5 s.Waits.n (rowOf eLock s.Waits.w) s.Waits.u, .fn n_locks_others_1 [] [.ref 0 0]] [some (.box [.int .u64 tx])] (locks_Release_r3 (k + 1) s tx r0 r1n r1w κ)
  else none) := by kernel_rfl
theorem locks_Release_r2_s (k : Nat) (s : TLocks) (tx : Int) (r0 : Int) (κ : AV → Heap → Option ρ) : locks_Release_r2 k s tx r0 κ (.sl 5 0 (rowOf eLock (fun _ => zLock)) true) [some (.box [.int .u64 tx])] =
  (bif decide (tx = tx) then
   evalF ctx k n_locks_serve [.sl 5 0 (rowOf eLock (fun _ => zLock)) true, .sl 5 0 (rowOf eLock (fun _ => zLock)) true] [] (locks_Release_r4 k s tx r0 κ)
  else none) := by kernel_rfl
theorem locks_Release_r2_s1 (k : Nat) (s : TLocks) (tx : Int) (r0 : Int) (r2n : Nat) (r2w : Nat → TLock) (κ : AV → Heap → Option ρ) : locks_Release_r2 k s tx r0 κ (.osl 5 1 0 r2n false) [some (.box [.int .u64 tx]), some (.arr 5 r2n (rowOf eLock r2w))] =
  (bif decide (tx = tx) then
   evalF ctx k n_locks_serve [.sl 5 0 (rowOf eLock (fun _ => zLock)) true, .osl 5 0 0 r2n false] [some (.arr 5 r2n (rowOf eLock r2w))] (locks_Release_r5 k s tx r0 r2n r2w κ)
  else none) := by kernel_rfl
theorem locks_Release_r3_s (k : Nat) (s : TLocks) (tx : Int) (r0 : Int) (r1n : Nat) (r1w : Nat → TLock) (κ : AV → Heap → Option ρ) : locks_Release_r3 k s tx r0 r1n r1w κ (.sl 5 0 (rowOf eLock (fun _ => zLock)) true) [some (.box [.int .u64 tx])] =
  (bif decide (tx = tx) then
   evalF ctx k n_locks_serve [.osl 5 0 0 r1n false, .sl 5 0 (rowOf eLock (fun _ => zLock)) true] [some (.arr 5 r1n (rowOf eLock r1w))] (locks_Release_r6 k s tx r0 r1n r1w κ)
  else none) := by kernel_rfl
theorem locks_Release_r3_s1 (k : Nat) (s : TLocks) (tx : Int) (r0 : Int) (r1n : Nat) (r1w : Nat → TLock) (r3n : Nat) (r3w : Nat → TLock) (κ : AV → Heap → Option ρ) : locks_Release_r3 k s tx r0 r1n r1w κ (.osl 5 1 0 r3n false) [some (.box [.int .u64 tx]), some (.arr 5 r3n (rowOf eLock r3w))] =
  (bif decide (tx = tx) then
   evalF ctx k n_locks_serve [.osl 5 0 0 r1n false, .osl 5 1 0 r3n false] [some (.arr 5 r1n (rowOf eLock r1w)), some (.arr 5 r3n (rowOf eLock r3w))] (locks_Release_r7 k s tx r0 r1n r1w r3n r3w κ)
  else none) := by kernel_rfl
theorem locks_Release_r4_s (k : Nat) (s : TLocks) (tx : Int) (r0 : Int) (κ : AV → Heap → Option ρ) : locks_Release_r4 k s tx r0 κ (.tup [.agg (eLocks zLocks), .sl 1 0 (rowOf (eI .u64) (fun _ => 0)) true]) [some (.box [.sl 5 0 (rowOf eLock (fun _ => zLock)) true, .sl 5 0 (rowOf eLock (fun _ => zLock)) true])] =
  κ (.tup [.agg (eLocks zLocks), .sl 1 0 (rowOf (eI .u64) (fun _ => 0)) true, .int .i64 0]) [some (.box [.sl 5 0 (rowOf eLock (fun _ => zLock)) true, .sl 5 0 (rowOf eLock (fun _ => zLock)) true])] := by kernel_rfl
theorem locks_Release_r5_s (k : Nat) (s : TLocks) (tx : Int) (r0 : Int) (r2n : Nat) (r2w : Nat → TLock) (κ : AV → Heap → Option ρ) : locks_Release_r5 k s tx r0 r2n r2w κ (.tup [.agg (eLocks zLocks), .sl 1 0 (rowOf (eI .u64) (fun _ => 0)) true]) [some (.arr 5 r2n (rowOf eLock r2w)), some (.box [.sl 5 0 (rowOf eLock (fun _ => zLock)) true, .sl 5 0 (rowOf eLock (fun _ => zLock)) true])] =
  κ (.tup [.agg (eLocks zLocks), .sl 1 0 (rowOf (eI .u64) (fun _ => 0)) true, .int .i64 0]) [some (.box [.sl 5 0 (rowOf eLock (fun _ => zLock)) true, .sl 5 0 (rowOf eLock (fun _ => zLock)) true])] := by kernel_rfl
theorem locks_Release_r5_s1 (k : Nat) (s : TLocks) (tx : Int) (r0 : Int) (r2n : Nat) (r2w : Nat → TLock) (r5wn : Nat) (r5ww : Nat → TLock) (κ : AV → Heap → Option ρ) : locks_Release_r5 k s tx r0 r2n r2w κ (.tup [.agg [.sl 5 0 (rowOf eLock (fun _ => zLock)) true, .osl 5 2 0 r5wn false], .sl 1 0 (rowOf (eI .u64) (fun _ => 0)) true]) [some (.arr 5 r2n (rowOf eLock r2w)), some (.box [.sl 5 0 (rowOf eLock (fun _ => zLock)) true, .osl 5 2 0 r5wn false]), some (.arr 5 r5wn (rowOf eLock r5ww))] =
  κ (.tup [.agg [.sl 5 0 (rowOf eLock (fun _ => zLock)) true, .osl 5 1 0 r5wn false], .sl 1 0 (rowOf (eI .u64) (fun _ => 0)) true, .int .i64 0]) [some (.box [.sl 5 0 (rowOf eLock (fun _ => zLock)) true, .osl 5 1 0 r5wn false]), some (.arr 5 r5wn (rowOf eLock r5ww))] := by kernel_rfl
theorem locks_Release_r5_s2 (k : Nat) (s : TLocks) (tx : Int) (r0 : Int) (r2n : Nat) (r2w : Nat → TLock) (r5tn : Nat) (r5tw : Nat → Int) (r5hn : Nat) (r5hw : Nat → TLock) (κ : AV → Heap → Option ρ) : locks_Release_r5 k s tx r0 r2n r2w κ (.tup [.agg [.osl 5 3 0 r5hn false, .sl 5 0 (rowOf eLock (fun _ => zLock)) true], .osl 1 2 0 r5tn false]) [some (.arr 5 r2n (rowOf eLock r2w)), some (.box [.osl 5 3 0 r5hn false, .sl 5 0 (rowOf eLock (fun _ => zLock)) true]), some (.arr 1 r5tn (rowOf (eI .u64) r5tw)), some (.arr 5 r5hn (rowOf eLock r5hw))] =
  κ (.tup [.agg [.osl 5 2 0 r5hn false, .sl 5 0 (rowOf eLock (fun _ => zLock)) true], .osl 1 1 0 r5tn false, .int .i64 0]) [some (.box [.osl 5 2 0 r5hn false, .sl 5 0 (rowOf eLock (fun _ => zLock)) true]), some (.arr 1 r5tn (rowOf (eI .u64) r5tw)), some (.arr 5 r5hn (rowOf eLock r5hw))] := by kernel_rfl
theorem locks_Release_r5_s3 (k : Nat) (s : TLocks) (tx : Int) (r0 : Int) (r2n : Nat) (r2w : Nat → TLock) (r5tn : Nat) (r5tw : Nat → Int) (r5hn : Nat) (r5hw : Nat → TLock) (r5wn : Nat) (r5ww : Nat → TLock) (κ : AV → Heap → Option ρ) : locks_Release_r5 k s tx r0 r2n r2w κ (.tup [.agg [.osl 5 3 0 r5hn false, .osl 5 4 0 r5wn false], .osl 1 2 0 r5tn false]) [some (.arr 5 r2n (rowOf eLock r2w)), some (.box [.osl 5 3 0 r5hn false, .osl 5 4 0 r5wn false]), some (.arr 1 r5tn (rowOf (eI .u64) r5tw)), some (.arr 5 r5hn (rowOf eLock r5hw)), some (.arr 5 r5wn (rowOf eLock r5ww))] =
  κ (.tup [.agg [.osl 5 2 0 r5hn false, .osl 5 3 0 r5wn false], .osl 1 1 0 r5tn false, .int .i64 0]) [some (.box [.osl 5 2 0 r5hn false, .osl 5 3 0 r5wn false]), some (.arr 1 r5tn (rowOf (eI .u64) r5tw)), some (.arr 5 r5hn (rowOf eLock r5hw)), some (.arr 5 r5wn (rowOf eLock r5ww))] := by kernel_rfl
theorem locks_Release_r6_s (k : Nat) (s : TLocks) (tx : Int) (r0 : Int) (r1n : Nat) (r1w : Nat → TLock) (κ : AV → Heap → Option ρ) : locks_Release_r6 k s tx r0 r1n r1w κ (.tup [.agg [.osl 5 0 0 r1n false, .sl 5 0 (rowOf eLock (fun _ => zLock)) true], .sl 1 0 (rowOf (eI .u64) (fun _ => 0)) true]) [some (.arr 5 r1n (rowOf eLock r1w)), some (.box [.osl 5 0 0 r1n false, .sl 5 0 (rowOf eLock (fun _ => zLock)) true])] =
  κ (.tup [.agg [.osl 5 1 0 r1n false, .sl 5 0 (rowOf eLock (fun _ => zLock)) true], .sl 1 0 (rowOf (eI .u64) (fun _ => 0)) true, .int .i64 0]) [some (.box [.osl 5 1 0 r1n false, .sl 5 0 (rowOf eLock (fun _ => zLock)) true]), some (.arr 5 r1n (rowOf eLock r1w))] := by kernel_rfl
theorem locks_Release_r7_s (k : Nat) (s : TLocks) (tx : Int) (r0 : Int) (r1n : Nat) (r1w : Nat → TLock) (r3n : Nat) (r3w : Nat → TLock) (κ : AV → Heap → Option ρ) : locks_Release_r7 k s tx r0 r1n r1w r3n r3w κ (.tup [.agg [.osl 5 0 0 r1n false, .sl 5 0 (rowOf eLock (fun _ => zLock)) true], .sl 1 0 (rowOf (eI .u64) (fun _ => 0)) true]) [some (.arr 5 r1n (rowOf eLock r1w)), some (.arr 5 r3n (rowOf eLock r3w)), some (.box [.osl 5 0 0 r1n false, .sl 5 0 (rowOf eLock (fun _ => zLock)) true])] =
  κ (.tup [.agg [.osl 5 1 0 r1n false, .sl 5 0 (rowOf eLock (fun _ => zLock)) true], .sl 1 0 (rowOf (eI .u64) (fun _ => 0)) true, .int .i64 0]) [some (.box [.osl 5 1 0 r1n false, .sl 5 0 (rowOf eLock (fun _ => zLock)) true]), some (.arr 5 r1n (rowOf eLock r1w))] := by kernel_rfl
theorem locks_Release_r7_s1 (k : Nat) (s : TLocks) (tx : Int) (r0 : Int) (r1n : Nat) (r1w : Nat → TLock) (r3n : Nat) (r3w : Nat → TLock) (r7wn : Nat) (r7ww : Nat → TLock) (κ : AV → Heap → Option ρ) : locks_Release_r7 k s tx r0 r1n r1w r3n r3w κ (.tup [.agg [.osl 5 0 0 r1n false, .osl 5 3 0 r7wn false], .sl 1 0 (rowOf (eI .u64) (fun _ => 0)) true]) [some (.arr 5 r1n (rowOf eLock r1w)), some (.arr 5 r3n (rowOf eLock r3w)), some (.box [.osl 5 0 0 r1n false, .osl 5 3 0 r7wn false]), some (.arr 5 r7wn (rowOf eLock r7ww))] =
  κ (.tup [.agg [.osl 5 1 0 r1n false, .osl 5 2 0 r7wn false], .sl 1 0 (rowOf (eI .u64) (fun _ => 0)) true, .int .i64 0]) [some (.box [.osl 5 1 0 r1n false, .osl 5 2 0 r7wn false]), some (.arr 5 r1n (rowOf eLock r1w)), some (.arr 5 r7wn (rowOf eLock r7ww))] := by kernel_rfl
theorem locks_Release_r7_s2 (k : Nat) (s : TLocks) (tx : Int) (r0 : Int) (r1n : Nat) (r1w : Nat → TLock) (r3n : Nat) (r3w : Nat → TLock) (r7tn : Nat) (r7tw : Nat → Int) (r7hn : Nat) (r7hw : Nat → TLock) (κ : AV → Heap → Option ρ) : locks_Release_r7 k s tx r0 r1n r1w r3n r3w κ (.tup [.agg [.osl 5 4 0 r7hn false, .sl 5 0 (rowOf eLock (fun _ => zLock)) true], .osl 1 3 0 r7tn false]) [none, some (.arr 5 r3n (rowOf eLock r3w)), some (.box [.osl 5 4 0 r7hn false, .sl 5 0 (rowOf eLock (fun _ => zLock)) true]), some (.arr 1 r7tn (rowOf (eI .u64) r7tw)), some (.arr 5 r7hn (rowOf eLock r7hw))] =
  κ (.tup [.agg [.osl 5 2 0 r7hn false, .sl 5 0 (rowOf eLock (fun _ => zLock)) true], .osl 1 1 0 r7tn false, .int .i64 0]) [some (.box [.osl 5 2 0 r7hn false, .sl 5 0 (rowOf eLock (fun _ => zLock)) true]), some (.arr 1 r7tn (rowOf (eI .u64) r7tw)), some (.arr 5 r7hn (rowOf eLock r7hw))] := by kernel_rfl
theorem locks_Release_r7_s3 (k : Nat) (s : TLocks) (tx : Int) (r0 : Int) (r1n : Nat) (r1w : Nat → TLock) (r3n : Nat) (r3w : Nat → TLock) (r7tn : Nat) (r7tw : Nat → Int) (r7hn : Nat) (r7hw : Nat → TLock) (r7wn : Nat) (r7ww : Nat → TLock) (κ : AV → Heap → Option ρ) : locks_Release_r7 k s tx r0 r1n r1w r3n r3w κ (.tup [.agg [.osl 5 4 0 r7hn false, .osl 5 5 0 r7wn false], .osl 1 3 0 r7tn false]) [none, some (.arr 5 r3n (rowOf eLock r3w)), some (.box [.osl 5 4 0 r7hn false, .osl 5 5 0 r7wn false]), some (.arr 1 r7tn (rowOf (eI .u64) r7tw)), some (.arr 5 r7hn (rowOf eLock r7hw)), some (.arr 5 r7wn (rowOf eLock r7ww))] =
  κ (.tup [.agg [.osl 5 2 0 r7hn false, .osl 5 3 0 r7wn false], .osl 1 1 0 r7tn false, .int .i64 0]) [some (.box [.osl 5 2 0 r7hn false, .osl 5 3 0 r7wn false]), some (.arr 1 r7tn (rowOf (eI .u64) r7tw)), some (.arr 5 r7hn (rowOf eLock r7hw)), some (.arr 5 r7wn (rowOf eLock r7ww))] := by kernel_rfl
theorem locks_Release_e (k : Nat) (s : TLocks) (tx : Int) (κ : AV → Heap → Option ρ) : evalF ctx (k + 1) n_locks_Release [.agg (eLocks s), .int .u64 tx] [] κ =
  callP ctx k n_locks_Check [.agg (eLocks s)] (locks_Release_r0 k s tx κ) := by kernel_rfl
noncomputable def locks_Withdraw_r0 (k : Nat) (s : TLocks) (tx : Int) (κ : AV → Heap → Option ρ) (v : AV) : Option ρ := resAt ctx k n_locks_Withdraw 0 [.r, .l, .l] 1 [] ⟨(envOf 27 [(1, .int .u64 tx), (2, .ref 0 0), (4, .ref 1 0), (9, .agg (eLocks s)), (10, v)]), [some (.box [.sl 5 s.Held.n (rowOf eLock s.Held.w) s.Held.u, .sl 5 s.Waits.n (rowOf eLock s.Waits.w) s.Waits.u]), some (.box [.sl 5 0 (rowOf eLock (fun _ => zLock)) true, .sl 5 0 (rowOf eLock (fun _ => zLock)) true])]⟩ κ
noncomputable def locks_Withdraw_r1 (k : Nat) (s : TLocks) (tx : Int) (r0 : Int) (κ : AV → Heap → Option ρ) (v : AV) (W : Heap) : Option ρ := backF [.sl 5 s.Held.n (rowOf eLock s.Held.w) s.Held.u] [some (.box [.sl 5 s.Held.n (rowOf eLock s.Held.w) s.Held.u, .sl 5 s.Waits.n (rowOf eLock s.Waits.w) s.Waits.u]), some (.box [.sl 5 0 (rowOf eLock (fun _ => zLock)) true, .sl 5 0 (rowOf eLock (fun _ => zLock)) true])] (fun v H => resAt ctx k n_locks_Withdraw 0 [.r, .r, .l] 2 [] ⟨(envOf 27 [(1, .int .u64 tx), (2, .ref 0 0), (4, .ref 1 0), (11, .bool (!decide (r0 = 0))), (14, .ref 0 0), (15, .sl 5 s.Held.n (rowOf eLock s.Held.w) s.Held.u), (16, v)]), H⟩ κ) v W
noncomputable def locks_Withdraw_r2 (k : Nat) (s : TLocks) (tx : Int) (r0 : Int) (κ : AV → Heap → Option ρ) (v : AV) (W : Heap) : Option ρ := backF [.int .u64 tx] [some (.box [.sl 5 s.Held.n (rowOf eLock s.Held.w) s.Held.u, .sl 5 s.Waits.n (rowOf eLock s.Waits.w) s.Waits.u]), some (.box [.sl 5 0 (rowOf eLock (fun _ => zLock)) true, .sl 5 0 (rowOf eLock (fun _ => zLock)) true])] (fun v H => resAt ctx k n_locks_Withdraw 0 [.r, .r, .l] 6 [] ⟨(envOf 27 [(1, .int .u64 tx), (2, .ref 0 0), (4, .ref 1 0), (11, .bool (!decide (r0 = 0))), (14, .ref 0 0), (15, .sl 5 s.Held.n (rowOf eLock s.Held.w) s.Held.u), (16, .sl 5 0 (rowOf eLock (fun _ => zLock)) true), (17, .ref 0 1), (18, .sl 5 s.Waits.n (rowOf eLock s.Waits.w) s.Waits.u), (19, .int .u64 tx), (20, v)]), H⟩ κ) v W
noncomputable def locks_Withdraw_r3 (k : Nat) (s : TLocks) (tx : Int) (r0 : Int) (κ : AV → Heap → Option ρ) (v : AV) (W : Heap) : Option ρ := backF [.int .u64 tx] [some (.box [.sl 5 s.Held.n (rowOf eLock s.Held.w) s.Held.u, .sl 5 s.Waits.n (rowOf eLock s.Waits.w) s.Waits.u]), some (.box [.sl 5 0 (rowOf eLock (fun _ => zLock)) true, .sl 5 0 (rowOf eLock (fun _ => zLock)) true]), some (.arr 5 s.Held.n (rowOf eLock s.Held.w))] (fun v H => resAt ctx k n_locks_Withdraw 0 [.r, .r, .l] 6 [] ⟨(envOf 27 [(1, .int .u64 tx), (2, .ref 0 0), (4, .ref 1 0), (11, .bool (!decide (r0 = 0))), (14, .ref 0 0), (15, .sl 5 s.Held.n (rowOf eLock s.Held.w) s.Held.u), (16, .osl 5 2 0 s.Held.n false), (17, .ref 0 1), (18, .sl 5 s.Waits.n (rowOf eLock s.Waits.w) s.Waits.u), (19, .int .u64 tx), (20, v)]), H⟩ κ) v W
noncomputable def locks_Withdraw_r4 (k : Nat) (s : TLocks) (tx : Int) (r0 : Int) (κ : AV → Heap → Option ρ) (v : AV) (W : Heap) : Option ρ := backHD [2] [some (.box [.sl 5 s.Held.n (rowOf eLock s.Held.w) s.Held.u, .sl 5 s.Waits.n (rowOf eLock s.Waits.w) s.Waits.u]), some (.box [.sl 5 0 (rowOf eLock (fun _ => zLock)) true, .sl 5 0 (rowOf eLock (fun _ => zLock)) true]), some (.box [.int .u64 tx])] (fun v H => resAt ctx k n_locks_Withdraw 0 [.r, .r, .l] 7 [] ⟨(envOf 27 [(1, .int .u64 tx), (2, .ref 0 0), (4, .ref 1 0), (11, .bool (!decide (r0 = 0))), (14, .ref 0 0), (15, .sl 5 s.Held.n (rowOf eLock s.Held.w) s.Held.u), (16, .sl 5 0 (rowOf eLock (fun _ => zLock)) true), (17, .ref 0 1), (18, .sl 5 s.Waits.n (rowOf eLock s.Waits.w) s.Waits.u), (19, .int .u64 tx), (20, .fn n_locks_others_1 [] [.ref 2 0]), (21, v)]), H⟩ κ) v W
noncomputable def locks_Withdraw_r5 (k : Nat) (s : TLocks) (tx : Int) (r0 : Int) (κ : AV → Heap → Option ρ) (v : AV) (W : Heap) : Option ρ := backHD [3] [some (.box [.sl 5 s.Held.n (rowOf eLock s.Held.w) s.Held.u, .sl 5 s.Waits.n (rowOf eLock s.Waits.w) s.Waits.u]), some (.box [.sl 5 0 (rowOf eLock (fun _ => zLock)) true, .sl 5 0 (rowOf eLock (fun _ => zLock)) true]), some (.arr 5 s.Held.n (rowOf eLock s.Held.w)), some (.box [.int .u64 tx])] (fun v H => resAt ctx k n_locks_Withdraw 0 [.r, .r, .l] 7 [] ⟨(envOf 27 [(1, .int .u64 tx), (2, .ref 0 0), (4, .ref 1 0), (11, .bool (!decide (r0 = 0))), (14, .ref 0 0), (15, .sl 5 s.Held.n (rowOf eLock s.Held.w) s.Held.u), (16, .osl 5 2 0 s.Held.n false), (17, .ref 0 1), (18, .sl 5 s.Waits.n (rowOf eLock s.Waits.w) s.Waits.u), (19, .int .u64 tx), (20, .fn n_locks_others_1 [] [.ref 3 0]), (21, v)]), H⟩ κ) v W
noncomputable def locks_Withdraw_r6 (k : Nat) (s : TLocks) (tx : Int) (r0 : Int) (κ : AV → Heap → Option ρ) (v : AV) (W : Heap) : Option ρ := backHD [] [some (.box [.sl 5 s.Held.n (rowOf eLock s.Held.w) s.Held.u, .sl 5 s.Waits.n (rowOf eLock s.Waits.w) s.Waits.u]), some (.box [.sl 5 0 (rowOf eLock (fun _ => zLock)) true, .sl 5 0 (rowOf eLock (fun _ => zLock)) true]), some (.box [.int .u64 tx])] (fun v H => resAt ctx k n_locks_Withdraw 0 [.r, .r, .l] 8 [] ⟨(envOf 27 [(1, .int .u64 tx), (2, .ref 0 0), (4, .ref 1 0), (11, .bool (!decide (r0 = 0))), (14, .ref 0 0), (15, .sl 5 s.Held.n (rowOf eLock s.Held.w) s.Held.u), (16, .sl 5 0 (rowOf eLock (fun _ => zLock)) true), (17, .ref 0 1), (18, .sl 5 s.Waits.n (rowOf eLock s.Waits.w) s.Waits.u), (19, .int .u64 tx), (20, .fn n_locks_others_1 [] [.ref 2 0]), (21, .sl 5 0 (rowOf eLock (fun _ => zLock)) true), (22, v)]), H⟩ κ) v W
noncomputable def locks_Withdraw_r7 (k : Nat) (s : TLocks) (tx : Int) (r0 : Int) (r4n : Nat) (r4w : Nat → TLock) (κ : AV → Heap → Option ρ) (v : AV) (W : Heap) : Option ρ := backHD [3] [some (.box [.sl 5 s.Held.n (rowOf eLock s.Held.w) s.Held.u, .sl 5 s.Waits.n (rowOf eLock s.Waits.w) s.Waits.u]), some (.box [.sl 5 0 (rowOf eLock (fun _ => zLock)) true, .sl 5 0 (rowOf eLock (fun _ => zLock)) true]), some (.box [.int .u64 tx]), some (.arr 5 r4n (rowOf eLock r4w))] (fun v H => resAt ctx k n_locks_Withdraw 0 [.r, .r, .l] 8 [] ⟨(envOf 27 [(1, .int .u64 tx), (2, .ref 0 0), (4, .ref 1 0), (11, .bool (!decide (r0 = 0))), (14, .ref 0 0), (15, .sl 5 s.Held.n (rowOf eLock s.Held.w) s.Held.u), (16, .sl 5 0 (rowOf eLock (fun _ => zLock)) true), (17, .ref 0 1), (18, .sl 5 s.Waits.n (rowOf eLock s.Waits.w) s.Waits.u), (19, .int .u64 tx), (20, .fn n_locks_others_1 [] [.ref 2 0]), (21, .osl 5 3 0 r4n false), (22, v)]), H⟩ κ) v W
noncomputable def locks_Withdraw_r8 (k : Nat) (s : TLocks) (tx : Int) (r0 : Int) (κ : AV → Heap → Option ρ) (v : AV) (W : Heap) : Option ρ := backHD [2] [some (.box [.sl 5 s.Held.n (rowOf eLock s.Held.w) s.Held.u, .sl 5 s.Waits.n (rowOf eLock s.Waits.w) s.Waits.u]), some (.box [.sl 5 0 (rowOf eLock (fun _ => zLock)) true, .sl 5 0 (rowOf eLock (fun _ => zLock)) true]), some (.arr 5 s.Held.n (rowOf eLock s.Held.w)), some (.box [.int .u64 tx])] (fun v H => resAt ctx k n_locks_Withdraw 0 [.r, .r, .l] 8 [] ⟨(envOf 27 [(1, .int .u64 tx), (2, .ref 0 0), (4, .ref 1 0), (11, .bool (!decide (r0 = 0))), (14, .ref 0 0), (15, .sl 5 s.Held.n (rowOf eLock s.Held.w) s.Held.u), (16, .osl 5 2 0 s.Held.n false), (17, .ref 0 1), (18, .sl 5 s.Waits.n (rowOf eLock s.Waits.w) s.Waits.u), (19, .int .u64 tx), (20, .fn n_locks_others_1 [] [.ref 3 0]), (21, .sl 5 0 (rowOf eLock (fun _ => zLock)) true), (22, v)]), H⟩ κ) v W
noncomputable def locks_Withdraw_r9 (k : Nat) (s : TLocks) (tx : Int) (r0 : Int) (r5n : Nat) (r5w : Nat → TLock) (κ : AV → Heap → Option ρ) (v : AV) (W : Heap) : Option ρ := backHD [2, 4] [some (.box [.sl 5 s.Held.n (rowOf eLock s.Held.w) s.Held.u, .sl 5 s.Waits.n (rowOf eLock s.Waits.w) s.Waits.u]), some (.box [.sl 5 0 (rowOf eLock (fun _ => zLock)) true, .sl 5 0 (rowOf eLock (fun _ => zLock)) true]), some (.arr 5 s.Held.n (rowOf eLock s.Held.w)), some (.box [.int .u64 tx]), some (.arr 5 r5n (rowOf eLock r5w))] (fun v H => resAt ctx k n_locks_Withdraw 0 [.r, .r, .l] 8 [] ⟨(envOf 27 [(1, .int .u64 tx), (2, .ref 0 0), (4, .ref 1 0), (11, .bool (!decide (r0 = 0))), (14, .ref 0 0), (15, .sl 5 s.Held.n (rowOf eLock s.Held.w) s.Held.u), (16, .osl 5 2 0 s.Held.n false), (17, .ref 0 1), (18, .sl 5 s.Waits.n (rowOf eLock s.Waits.w) s.Waits.u), (19, .int .u64 tx), (20, .fn n_locks_others_1 [] [.ref 3 0]), (21, .osl 5 4 0 r5n false), (22, v)]), H⟩ κ) v W
theorem locks_Withdraw_r0_s (k : Nat) (s : TLocks) (tx : Int) (r0 : Int) (κ : AV → Heap → Option ρ) : locks_Withdraw_r0 k s tx κ (.int .i64 r0) =
  (bif !decide (r0 = 0) then
   κ (.tup [.agg (eLocks zLocks), .sl 1 0 (rowOf (eI .u64) (fun _ => 0)) true, .int .i64 220]) [some (.box [.sl 5 0 (rowOf eLock (fun _ => zLock)) true, .sl 5 0 (rowOf eLock (fun _ => zLock)) true])]
  else evalF ctx k n_slices_Clone_Lock [.sl 5 s.Held.n (rowOf eLock s.Held.w) s.Held.u] [] (locks_Withdraw_r1 k s tx r0 κ)) := by kernel_rfl
theorem locks_Withdraw_r1_s (k : Nat) (s : TLocks) (tx : Int) (r0 : Int) (κ : AV → Heap → Option ρ) : locks_Withdraw_r1 k s tx r0 κ (.sl 5 0 (rowOf eLock (fun _ => zLock)) true) [] =
  evalF ctx k n_locks_others [.int .u64 tx] [] (locks_Withdraw_r2 k s tx r0 κ) := by kernel_rfl
theorem locks_Withdraw_r1_s1 (k : Nat) (s : TLocks) (tx : Int) (r0 : Int) (κ : AV → Heap → Option ρ) : locks_Withdraw_r1 k s tx r0 κ (.osl 5 0 0 s.Held.n false) [some (.arr 5 s.Held.n (rowOf eLock s.Held.w))] =
  evalF ctx k n_locks_others [.int .u64 tx] [] (locks_Withdraw_r3 k s tx r0 κ) := by kernel_rfl
theorem locks_Withdraw_r2_s (k : Nat) (s : TLocks) (tx : Int) (r0 : Int) (κ : AV → Heap → Option ρ) : locks_Withdraw_r2 k s tx r0 κ (.fn n_locks_others_1 [] [.ref 0 0]) [some (.box [.int .u64 tx])] =
  evalF ctx k n_locks_kept_Lock [.sl 5 s.Waits.n (rowOf eLock s.Waits.w) s.Waits.u, .fn n_locks_others_1 [] [.ref 0 0]] [some (.box [.int .u64 tx])] (locks_Withdraw_r4 k s tx r0 κ) := by kernel_rfl
theorem locks_Withdraw_r3_s (k : Nat) (s : TLocks) (tx : Int) (r0 : Int) (κ : AV → Heap → Option ρ) : locks_Withdraw_r3 k s tx r0 κ (.fn n_locks_others_1 [] [.ref 0 0]) [some (.box [.int .u64 tx])] =
  evalF ctx k n_locks_kept_Lock [.sl 5 s.Waits.n (rowOf eLock s.Waits.w) s.Waits.u, .fn n_locks_others_1 [] [.ref 0 0]] [some (.box [.int .u64 tx])] (locks_Withdraw_r5 k s tx r0 κ) := by kernel_rfl
theorem locks_Withdraw_r4_s (k : Nat) (s : TLocks) (tx : Int) (r0 : Int) (κ : AV → Heap → Option ρ) : locks_Withdraw_r4 k s tx r0 κ (.sl 5 0 (rowOf eLock (fun _ => zLock)) true) [some (.box [.int .u64 tx])] =
  (bif decide (tx = tx) then
   evalF ctx k n_locks_serve [.sl 5 0 (rowOf eLock (fun _ => zLock)) true, .sl 5 0 (rowOf eLock (fun _ => zLock)) true] [] (locks_Withdraw_r6 k s tx r0 κ)
  else none) := by kernel_rfl
theorem locks_Withdraw_r4_s1 (k : Nat) (s : TLocks) (tx : Int) (r0 : Int) (r4n : Nat) (r4w : Nat → TLock) (κ : AV → Heap → Option ρ) : locks_Withdraw_r4 k s tx r0 κ (.osl 5 1 0 r4n false) [some (.box [.int .u64 tx]), some (.arr 5 r4n (rowOf eLock r4w))] =
  (bif decide (tx = tx) then
   evalF ctx k n_locks_serve [.sl 5 0 (rowOf eLock (fun _ => zLock)) true, .osl 5 0 0 r4n false] [some (.arr 5 r4n (rowOf eLock r4w))] (locks_Withdraw_r7 k s tx r0 r4n r4w κ)
  else none) := by kernel_rfl
theorem locks_Withdraw_r5_s (k : Nat) (s : TLocks) (tx : Int) (r0 : Int) (κ : AV → Heap → Option ρ) : locks_Withdraw_r5 k s tx r0 κ (.sl 5 0 (rowOf eLock (fun _ => zLock)) true) [some (.box [.int .u64 tx])] =
  (bif decide (tx = tx) then
   evalF ctx k n_locks_serve [.osl 5 0 0 s.Held.n false, .sl 5 0 (rowOf eLock (fun _ => zLock)) true] [some (.arr 5 s.Held.n (rowOf eLock s.Held.w))] (locks_Withdraw_r8 k s tx r0 κ)
  else none) := by kernel_rfl
theorem locks_Withdraw_r5_s1 (k : Nat) (s : TLocks) (tx : Int) (r0 : Int) (r5n : Nat) (r5w : Nat → TLock) (κ : AV → Heap → Option ρ) : locks_Withdraw_r5 k s tx r0 κ (.osl 5 1 0 r5n false) [some (.box [.int .u64 tx]), some (.arr 5 r5n (rowOf eLock r5w))] =
  (bif decide (tx = tx) then
   evalF ctx k n_locks_serve [.osl 5 0 0 s.Held.n false, .osl 5 1 0 r5n false] [some (.arr 5 s.Held.n (rowOf eLock s.Held.w)), some (.arr 5 r5n (rowOf eLock r5w))] (locks_Withdraw_r9 k s tx r0 r5n r5w κ)
  else none) := by kernel_rfl
theorem locks_Withdraw_r6_s (k : Nat) (s : TLocks) (tx : Int) (r0 : Int) (κ : AV → Heap → Option ρ) : locks_Withdraw_r6 k s tx r0 κ (.tup [.agg (eLocks zLocks), .sl 1 0 (rowOf (eI .u64) (fun _ => 0)) true]) [some (.box [.sl 5 0 (rowOf eLock (fun _ => zLock)) true, .sl 5 0 (rowOf eLock (fun _ => zLock)) true])] =
  κ (.tup [.agg (eLocks zLocks), .sl 1 0 (rowOf (eI .u64) (fun _ => 0)) true, .int .i64 0]) [some (.box [.sl 5 0 (rowOf eLock (fun _ => zLock)) true, .sl 5 0 (rowOf eLock (fun _ => zLock)) true])] := by kernel_rfl
theorem locks_Withdraw_r7_s (k : Nat) (s : TLocks) (tx : Int) (r0 : Int) (r4n : Nat) (r4w : Nat → TLock) (κ : AV → Heap → Option ρ) : locks_Withdraw_r7 k s tx r0 r4n r4w κ (.tup [.agg (eLocks zLocks), .sl 1 0 (rowOf (eI .u64) (fun _ => 0)) true]) [some (.arr 5 r4n (rowOf eLock r4w)), some (.box [.sl 5 0 (rowOf eLock (fun _ => zLock)) true, .sl 5 0 (rowOf eLock (fun _ => zLock)) true])] =
  κ (.tup [.agg (eLocks zLocks), .sl 1 0 (rowOf (eI .u64) (fun _ => 0)) true, .int .i64 0]) [some (.box [.sl 5 0 (rowOf eLock (fun _ => zLock)) true, .sl 5 0 (rowOf eLock (fun _ => zLock)) true])] := by kernel_rfl
theorem locks_Withdraw_r7_s1 (k : Nat) (s : TLocks) (tx : Int) (r0 : Int) (r4n : Nat) (r4w : Nat → TLock) (r7wn : Nat) (r7ww : Nat → TLock) (κ : AV → Heap → Option ρ) : locks_Withdraw_r7 k s tx r0 r4n r4w κ (.tup [.agg [.sl 5 0 (rowOf eLock (fun _ => zLock)) true, .osl 5 2 0 r7wn false], .sl 1 0 (rowOf (eI .u64) (fun _ => 0)) true]) [some (.arr 5 r4n (rowOf eLock r4w)), some (.box [.sl 5 0 (rowOf eLock (fun _ => zLock)) true, .osl 5 2 0 r7wn false]), some (.arr 5 r7wn (rowOf eLock r7ww))] =
  κ (.tup [.agg [.sl 5 0 (rowOf eLock (fun _ => zLock)) true, .osl 5 1 0 r7wn false], .sl 1 0 (rowOf (eI .u64) (fun _ => 0)) true, .int .i64 0]) [some (.box [.sl 5 0 (rowOf eLock (fun _ => zLock)) true, .osl 5 1 0 r7wn false]), some (.arr 5 r7wn (rowOf eLock r7ww))] := by kernel_rfl
theorem locks_Withdraw_r7_s2 (k : Nat) (s : TLocks) (tx : Int) (r0 : Int) (r4n : Nat) (r4w : Nat → TLock) (r7tn : Nat) (r7tw : Nat → Int) (r7hn : Nat) (r7hw : Nat → TLock) (κ : AV → Heap → Option ρ) : locks_Withdraw_r7 k s tx r0 r4n r4w κ (.tup [.agg [.osl 5 3 0 r7hn false, .sl 5 0 (rowOf eLock (fun _ => zLock)) true], .osl 1 2 0 r7tn false]) [some (.arr 5 r4n (rowOf eLock r4w)), some (.box [.osl 5 3 0 r7hn false, .sl 5 0 (rowOf eLock (fun _ => zLock)) true]), some (.arr 1 r7tn (rowOf (eI .u64) r7tw)), some (.arr 5 r7hn (rowOf eLock r7hw))] =
  κ (.tup [.agg [.osl 5 2 0 r7hn false, .sl 5 0 (rowOf eLock (fun _ => zLock)) true], .osl 1 1 0 r7tn false, .int .i64 0]) [some (.box [.osl 5 2 0 r7hn false, .sl 5 0 (rowOf eLock (fun _ => zLock)) true]), some (.arr 1 r7tn (rowOf (eI .u64) r7tw)), some (.arr 5 r7hn (rowOf eLock r7hw))] := by kernel_rfl
theorem locks_Withdraw_r7_s3 (k : Nat) (s : TLocks) (tx : Int) (r0 : Int) (r4n : Nat) (r4w : Nat → TLock) (r7tn : Nat) (r7tw : Nat → Int) (r7hn : Nat) (r7hw : Nat → TLock) (r7wn : Nat) (r7ww : Nat → TLock) (κ : AV → Heap → Option ρ) : locks_Withdraw_r7 k s tx r0 r4n r4w κ (.tup [.agg [.osl 5 3 0 r7hn false, .osl 5 4 0 r7wn false], .osl 1 2 0 r7tn false]) [some (.arr 5 r4n (rowOf eLock r4w)), some (.box [.osl 5 3 0 r7hn false, .osl 5 4 0 r7wn false]), some (.arr 1 r7tn (rowOf (eI .u64) r7tw)), some (.arr 5 r7hn (rowOf eLock r7hw)), some (.arr 5 r7wn (rowOf eLock r7ww))] =
  κ (.tup [.agg [.osl 5 2 0 r7hn false, .osl 5 3 0 r7wn false], .osl 1 1 0 r7tn false, .int .i64 0]) [some (.box [.osl 5 2 0 r7hn false, .osl 5 3 0 r7wn false]), some (.arr 1 r7tn (rowOf (eI .u64) r7tw)), some (.arr 5 r7hn (rowOf eLock r7hw)), some (.arr 5 r7wn (rowOf eLock r7ww))] := by kernel_rfl
theorem locks_Withdraw_r8_s (k : Nat) (s : TLocks) (tx : Int) (r0 : Int) (κ : AV → Heap → Option ρ) : locks_Withdraw_r8 k s tx r0 κ (.tup [.agg [.osl 5 0 0 s.Held.n false, .sl 5 0 (rowOf eLock (fun _ => zLock)) true], .sl 1 0 (rowOf (eI .u64) (fun _ => 0)) true]) [some (.arr 5 s.Held.n (rowOf eLock s.Held.w)), some (.box [.osl 5 0 0 s.Held.n false, .sl 5 0 (rowOf eLock (fun _ => zLock)) true])] =
  κ (.tup [.agg [.osl 5 1 0 s.Held.n false, .sl 5 0 (rowOf eLock (fun _ => zLock)) true], .sl 1 0 (rowOf (eI .u64) (fun _ => 0)) true, .int .i64 0]) [some (.box [.osl 5 1 0 s.Held.n false, .sl 5 0 (rowOf eLock (fun _ => zLock)) true]), some (.arr 5 s.Held.n (rowOf eLock s.Held.w))] := by kernel_rfl
theorem locks_Withdraw_r9_s (k : Nat) (s : TLocks) (tx : Int) (r0 : Int) (r5n : Nat) (r5w : Nat → TLock) (κ : AV → Heap → Option ρ) : locks_Withdraw_r9 k s tx r0 r5n r5w κ (.tup [.agg [.osl 5 0 0 s.Held.n false, .sl 5 0 (rowOf eLock (fun _ => zLock)) true], .sl 1 0 (rowOf (eI .u64) (fun _ => 0)) true]) [some (.arr 5 s.Held.n (rowOf eLock s.Held.w)), some (.arr 5 r5n (rowOf eLock r5w)), some (.box [.osl 5 0 0 s.Held.n false, .sl 5 0 (rowOf eLock (fun _ => zLock)) true])] =
  κ (.tup [.agg [.osl 5 1 0 s.Held.n false, .sl 5 0 (rowOf eLock (fun _ => zLock)) true], .sl 1 0 (rowOf (eI .u64) (fun _ => 0)) true, .int .i64 0]) [some (.box [.osl 5 1 0 s.Held.n false, .sl 5 0 (rowOf eLock (fun _ => zLock)) true]), some (.arr 5 s.Held.n (rowOf eLock s.Held.w))] := by kernel_rfl
theorem locks_Withdraw_r9_s1 (k : Nat) (s : TLocks) (tx : Int) (r0 : Int) (r5n : Nat) (r5w : Nat → TLock) (r9wn : Nat) (r9ww : Nat → TLock) (κ : AV → Heap → Option ρ) : locks_Withdraw_r9 k s tx r0 r5n r5w κ (.tup [.agg [.osl 5 0 0 s.Held.n false, .osl 5 3 0 r9wn false], .sl 1 0 (rowOf (eI .u64) (fun _ => 0)) true]) [some (.arr 5 s.Held.n (rowOf eLock s.Held.w)), some (.arr 5 r5n (rowOf eLock r5w)), some (.box [.osl 5 0 0 s.Held.n false, .osl 5 3 0 r9wn false]), some (.arr 5 r9wn (rowOf eLock r9ww))] =
  κ (.tup [.agg [.osl 5 1 0 s.Held.n false, .osl 5 2 0 r9wn false], .sl 1 0 (rowOf (eI .u64) (fun _ => 0)) true, .int .i64 0]) [some (.box [.osl 5 1 0 s.Held.n false, .osl 5 2 0 r9wn false]), some (.arr 5 s.Held.n (rowOf eLock s.Held.w)), some (.arr 5 r9wn (rowOf eLock r9ww))] := by kernel_rfl
theorem locks_Withdraw_r9_s2 (k : Nat) (s : TLocks) (tx : Int) (r0 : Int) (r5n : Nat) (r5w : Nat → TLock) (r9tn : Nat) (r9tw : Nat → Int) (r9hn : Nat) (r9hw : Nat → TLock) (κ : AV → Heap → Option ρ) : locks_Withdraw_r9 k s tx r0 r5n r5w κ (.tup [.agg [.osl 5 4 0 r9hn false, .sl 5 0 (rowOf eLock (fun _ => zLock)) true], .osl 1 3 0 r9tn false]) [none, some (.arr 5 r5n (rowOf eLock r5w)), some (.box [.osl 5 4 0 r9hn false, .sl 5 0 (rowOf eLock (fun _ => zLock)) true]), some (.arr 1 r9tn (rowOf (eI .u64) r9tw)), some (.arr 5 r9hn (rowOf eLock r9hw))] =
  κ (.tup [.agg [.osl 5 2 0 r9hn false, .sl 5 0 (rowOf eLock (fun _ => zLock)) true], .osl 1 1 0 r9tn false, .int .i64 0]) [some (.box [.osl 5 2 0 r9hn false, .sl 5 0 (rowOf eLock (fun _ => zLock)) true]), some (.arr 1 r9tn (rowOf (eI .u64) r9tw)), some (.arr 5 r9hn (rowOf eLock r9hw))] := by kernel_rfl
theorem locks_Withdraw_r9_s3 (k : Nat) (s : TLocks) (tx : Int) (r0 : Int) (r5n : Nat) (r5w : Nat → TLock) (r9tn : Nat) (r9tw : Nat → Int) (r9hn : Nat) (r9hw : Nat → TLock) (r9wn : Nat) (r9ww : Nat → TLock) (κ : AV → Heap → Option ρ) : locks_Withdraw_r9 k s tx r0 r5n r5w κ (.tup [.agg [.osl 5 4 0 r9hn false, .osl 5 5 0 r9wn false], .osl 1 3 0 r9tn false]) [none, some (.arr 5 r5n (rowOf eLock r5w)), some (.box [.osl 5 4 0 r9hn false, .osl 5 5 0 r9wn false]), some (.arr 1 r9tn (rowOf (eI .u64) r9tw)), some (.arr 5 r9hn (rowOf eLock r9hw)), some (.arr 5 r9wn (rowOf eLock r9ww))] =
  κ (.tup [.agg [.osl 5 2 0 r9hn false, .osl 5 3 0 r9wn false], .osl 1 1 0 r9tn false, .int .i64 0]) [some (.box [.osl 5 2 0 r9hn false, .osl 5 3 0 r9wn false]), some (.arr 1 r9tn (rowOf (eI .u64) r9tw)), some (.arr 5 r9hn (rowOf eLock r9hw)), some (.arr 5 r9wn (rowOf eLock r9ww))] := by kernel_rfl
theorem locks_Withdraw_e (k : Nat) (s : TLocks) (tx : Int) (κ : AV → Heap → Option ρ) : evalF ctx (k + 1) n_locks_Withdraw [.agg (eLocks s), .int .u64 tx] [] κ =
  callP ctx k n_locks_Check [.agg (eLocks s)] (locks_Withdraw_r0 k s tx κ) := by kernel_rfl
theorem locks_others_e (k : Nat) (tx : Int) (κ : AV → Heap → Option ρ) : evalF ctx (k + 1) n_locks_others [.int .u64 tx] [] κ =
  κ (.fn n_locks_others_1 [] [.ref 0 0]) [some (.box [.int .u64 tx])] := by kernel_rfl
theorem locks_others_1_e (k : Nat) (c : TLock) (tx : Int) (κ : AV → Heap → Option ρ) : evalF ctx (k + 1) n_locks_others_1 [.agg (eLock c), .ref 0 0] [some (.box [.int .u64 tx])] κ =
  κ (.bool (!decide (c.Tx = tx))) [some (.box [.int .u64 tx])] := by kernel_rfl
end Go.Proofs.YticcbbcgboddpaaC

set_option linter.unusedVariables false
set_option linter.unusedSimpArgs false
set_option maxRecDepth 20000
namespace Go.Proofs.YticcbbcgboddpaaC
open Go Go.Ev Go.Proofs
variable {ρ : Type}
theorem more_sz (s m n1 : Nat) (A B : Option ρ) (h : m = n1) (hs : s ≤ 64) (h0 : 0 < s) (hb : m ≤ 1000000) : (bif decide (((0 + m) + 1) ≤ n1) then A else (bif ((decide (m = n1)) && (roomOf (m + 1) s)) then B else none)) = B := by
  have h1 : (m + 1) * s ≤ 1000001 * 64 := Nat.mul_le_mul (by omega) hs
  rw [decide_eq_false (by omega), decide_eq_true h, room_of (Nat.le_trans h1 (by decide)) (by omega)]; rfl
/-! ### rows kept -/
noncomputable def hdO (k : Nat) (l : Sl TLock) (tx : Int) (κ : AV → Heap → Option ρ) (j i : Nat) : List TLock → Option ρ
  | [] => kept_others_h0 (k + 1) j l tx (i : Int) κ
  | x :: L => kept_others_h1 (k + 1) j l tx (L.length + 1) (i : Int) (L.length + 1) (rowOf eLock (gd zLock (x :: L))) κ
def othL (L : List TLock) (tx : Int) : List TLock := L.filter fun c => !decide (c.Tx = tx)
theorem kept_others_ok (k n : Nat) (w : Nat → TLock) (u : Bool) (tx : Int) (hn : n ≤ 10000) (hk : n + 3 ≤ k) (κ : AV → Heap → Option ρ) :
    evalF ctx k n_locks_kept_Lock [.sl 5 n (rowOf eLock w) u, .fn n_locks_others_1 [] [.ref 0 0]] [some (.box [.int .u64 tx])] κ =
      κ (oV 5 eLock zLock 1 (othL (lst n w) tx)) (some (.box [.int .u64 tx]) :: oH 5 eLock zLock (othL (lst n w) tx)) := by
  obtain ⟨k, rfl⟩ : ∃ k', k = k' + 2 := ⟨k - 2, by omega⟩
  refine (kept_others_e (k + 1) ⟨n, w, u⟩ tx κ).trans ?_
  unfold othL
  have h := filter_loop (n := n) (P := fun i => !decide ((w i).Tx = tx)) (w := w) (hd := hdO k ⟨n, w, u⟩ tx κ)
    (fin := fun L => κ (oV 5 eLock zLock 1 L) (some (.box [.int .u64 tx]) :: oH 5 eLock zLock L)) (fun j i L hi hL => ?_) (fun j L => ?_) (k + 1) 0 [] (by omega) (by omega) (by simp)
  · rw [List.nil_append, filter_lst n w (fun c => !decide (c.Tx = tx))] at h
    exact h
  · have e0 : decide ((i : Int) < (n : Int)) = true := decide_eq_true (by omega)
    have e1 : decide (i < n) = true := decide_eq_true hi
    cases L with
    | nil =>
      unfold hdO
      rw [kept_others_h0_s]
      simp only [e0, e1, idx_nat, Int.toNat_natCast, cond_true, row_first, wi64_succ (show i < 9223372036854775807 by omega)]
      cases (!decide ((w i).Tx = tx)) <;> rfl
    | cons x L =>
      simp only [hdO, List.cons_append, List.length_append, List.length_cons, List.length_nil]
      simp only [List.length_cons] at hL
      rw [kept_others_h1_s, more_sz 56 _ _ _ _ rfl (by omega) (by omega) (by omega)]
      simp only [e0, e1, idx_nat, Int.toNat_natCast, cond_true, wi64_succ (show i < 9223372036854775807 by omega)]
      rw [row_next eLock (x :: L) _ zLock _ (by simp)]
      cases (!decide ((w i).Tx = tx)) <;> rfl
  · have e0 : decide ((n : Int) < (n : Int)) = false := decide_eq_false (by omega)
    cases L with
    | nil => simp only [hdO]; rw [kept_others_h0_s, e0]; rfl
    | cons x L => simp only [hdO]; rw [kept_others_h1_s, e0]; rfl
/-! ### serve -/
def grantsL (x : TLock) (H W : List TLock) : Bool := !(H.any (againstB x)) && !(W.any (againstB x))
theorem anyL {α : Type} (n : Nat) (w : Nat → α) (P : α → Bool) : anyN n (fun i => P (w i)) = (lst n w).any P := by
  unfold anyN lst
  rw [List.any_map]; rfl
theorem grants_lst (x : TLock) (n m : Nat) (v w : Nat → TLock) : grantsB x n v m w = grantsL x (lst n v) (lst m w) := by
  unfold grantsB grantsL
  rw [anyL n v (againstB x), anyL m w (againstB x)]
theorem lst0 (L : List TLock) : lst L.length (fun i => gd zLock L (0 + i)) = L := by
  rw [show (fun i => gd zLock L (0 + i)) = gd zLock L from funext fun i => by rw [Nat.zero_add]]
  exact gd_lst zLock L
theorem grants_ok' (k : Nat) (x : TLock) (n m : Nat) (v w : Nat → TLock) (u u' : Bool) (H W : List TLock) (h1 : lst n v = H) (h2 : lst m w = W) (hn : n ≤ 10000) (hm : m ≤ 10000) (hk : n + m + 30 ≤ k) (κ : AV → Option ρ) : callP ctx k n_locks_grants [.agg (eLock x), .sl 5 n (rowOf eLock v) u, .sl 5 m (rowOf eLock w) u'] κ = κ (.bool (grantsL x H W)) := by
  rw [grants_ok k x n m v w u u' hn hm hk, grants_lst, h1, h2]
/-- what is granted, and what waits on -/
def serveF (A : List TLock) : List TLock → List TLock → List TLock → List TLock × List TLock
  | G, W, [] => (G, W)
  | G, W, x :: R => if grantsL x (A ++ G) W = true then serveF A (G ++ [x]) W R else serveF A G (W ++ [x]) R
theorem serve_loop {σ : Type} {A B : List TLock} {hd : Nat → List TLock → List TLock → σ} {fin : List TLock → List TLock → σ}
    (hs : ∀ j G W, G.length + W.length < B.length → hd (j + 1) G W = if grantsL (gd zLock B (G.length + W.length)) (A ++ G) W = true then hd j (G ++ [gd zLock B (G.length + W.length)]) W else hd j G (W ++ [gd zLock B (G.length + W.length)]))
    (he : ∀ j G W, G.length + W.length = B.length → hd (j + 1) G W = fin G W) :
    ∀ j G W, G.length + W.length ≤ B.length → B.length < G.length + W.length + j → hd j G W = fin (serveF A G W (B.drop (G.length + W.length))).1 (serveF A G W (B.drop (G.length + W.length))).2 := by
  intro j
  induction j with
  | zero => intro G W h1 h2; omega
  | succ j ih =>
    intro G W h1 h2
    rcases Nat.lt_or_ge (G.length + W.length) B.length with h | h
    · have hx : gd zLock B (G.length + W.length) = B[G.length + W.length] := by unfold gd; simp [h]
      rw [hs j G W h, List.drop_eq_getElem_cons h, ← hx]
      unfold serveF
      by_cases hg : grantsL (gd zLock B (G.length + W.length)) (A ++ G) W = true
      · rw [if_pos hg, if_pos hg, ih _ _ (by simp; omega) (by simp; omega)]
        rw [show (G ++ [gd zLock B (G.length + W.length)]).length + W.length = G.length + W.length + 1 by simp; omega]
      · rw [if_neg hg, if_neg hg, ih _ _ (by simp; omega) (by simp; omega)]
        rw [show G.length + (W ++ [gd zLock B (G.length + W.length)]).length = G.length + W.length + 1 by simp; omega]
    · have : G.length + W.length = B.length := by omega
      rw [he j G W this, List.drop_eq_nil_of_le (by omega)]
      rfl
theorem serveF_len (A : List TLock) : ∀ (R G W : List TLock), (serveF A G W R).1.length + (serveF A G W R).2.length = G.length + W.length + R.length
  | [], G, W => by simp [serveF]
  | x :: R, G, W => by
    unfold serveF
    split
    · rw [serveF_len A R]; simp; omega
    · rw [serveF_len A R]; simp; omega
abbrev txs (L : List TLock) : List Int := L.map (·.Tx)
noncomputable def hd11 (k : Nat) (aw : Nat → TLock) (A B : List TLock) (κ : AV → Heap → Option ρ) (j : Nat) : List TLock → List TLock → Option ρ
  | [], [] => serve11_h0 k j A.length aw B.length (gd zLock B) κ
  | [], w :: W => serve11_h1 k j A.length aw B.length (gd zLock B) ((W.length + 1 : Nat) : Int) (W.length + 1) (W.length + 1) (rowOf eLock (gd zLock (w :: W))) κ
  | g :: G, [] => serve11_h3 k j B.length (gd zLock B) (G.length + 1) ((G.length + 1 : Nat) : Int) (A.length + (G.length + 1)) (G.length + 1) (rowOf (eI .u64) (gd 0 (txs (g :: G)))) (A.length + (G.length + 1)) (rowOf eLock (gd zLock (A ++ g :: G))) κ
  | g :: G, w :: W => serve11_h5 k j B.length (gd zLock B) (rowOf (eI .u64) (gd 0 (txs (g :: G)))) (rowOf eLock (gd zLock (A ++ g :: G))) (rowOf eLock (gd zLock (w :: W))) (G.length + 1) ((G.length + 1 + (W.length + 1) : Nat) : Int) (A.length + (G.length + 1)) (G.length + 1) (A.length + (G.length + 1)) (W.length + 1) (W.length + 1) κ
/-- where the held row stands behind it -/
def hvA (A : List TLock) (i : Nat) : List TLock → AV
  | [] => oV 5 eLock zLock 0 A
  | g :: G => .osl 5 i 0 (A.length + (G.length + 1)) false
def nTx (i : Nat) : List TLock → AV
  | [] => .sl 1 0 (rowOf (eI .u64) (fun _ => 0)) true
  | g :: G => .osl 1 i 0 (G.length + 1) false
def tH : List TLock → Heap
  | [] => []
  | g :: G => [some (.arr 1 (G.length + 1) (rowOf (eI .u64) (gd 0 (txs (g :: G)))))]
def hHp (A : List TLock) : List TLock → Heap
  | [] => []
  | g :: G => [some (.arr 5 (A.length + (G.length + 1)) (rowOf eLock (gd zLock (A ++ g :: G))))]
def fin11 (aw : Nat → TLock) (A B : List TLock) (κ : AV → Heap → Option ρ) (G W : List TLock) : Option ρ :=
  match G with
  | [] => κ (.tup [.agg [.osl 5 0 0 A.length false, oV 5 eLock zLock 3 W], .sl 1 0 (rowOf (eI .u64) (fun _ => 0)) true]) ([some (.arr 5 A.length (rowOf eLock aw)), some (.arr 5 B.length (rowOf eLock (gd zLock B))), some (.box [.osl 5 0 0 A.length false, oV 5 eLock zLock 3 W])] ++ oH 5 eLock zLock W)
  | g :: G => κ (.tup [.agg [.osl 5 4 0 (A.length + (G.length + 1)) false, oV 5 eLock zLock 5 W], .osl 1 3 0 (G.length + 1) false]) ([none, some (.arr 5 B.length (rowOf eLock (gd zLock B))), some (.box [.osl 5 4 0 (A.length + (G.length + 1)) false, oV 5 eLock zLock 5 W]), some (.arr 1 (G.length + 1) (rowOf (eI .u64) (gd 0 (txs (g :: G))))), some (.arr 5 (A.length + (G.length + 1)) (rowOf eLock (gd zLock (A ++ g :: G))))] ++ oH 5 eLock zLock W)
theorem tx_next (g : TLock) (G : List TLock) (x : TLock) (n : Nat) (hn : n = G.length + 1) : catRow n (rowOf (eI .u64) (gd 0 (txs (g :: G)))) (litRow (eI .u64) [x.Tx] 0) = rowOf (eI .u64) (gd 0 (txs (g :: (G ++ [x])))) := by
  rw [row_next (eI .u64) (txs (g :: G)) x.Tx 0 n (by simp [txs, hn])]
  simp [txs]
theorem lk_next (A : List TLock) (G : List TLock) (x : TLock) (n : Nat) (hn : n = A.length + G.length) : catRow n (rowOf eLock (gd zLock (A ++ G))) (litRow eLock [x] zLock) = rowOf eLock (gd zLock (A ++ (G ++ [x]))) := by
  rw [row_next eLock (A ++ G) x zLock n (by simp [hn]), List.append_assoc]
theorem lk_first (aw : Nat → TLock) (A : List TLock) (x : TLock) (hw : lst A.length aw = A) : catRow A.length (rowOf eLock aw) (litRow eLock [x] zLock) = rowOf eLock (gd zLock (A ++ [x])) := by
  have e := lk_next A [] x A.length (by simp)
  rw [List.append_nil, List.nil_append] at e
  rw [← e]
  funext i
  unfold catRow
  by_cases hi : i < A.length
  · rw [if_pos hi, if_pos hi]
    unfold rowOf
    have : aw i = gd zLock A i := by
      have h1 : (lst A.length aw)[i]? = some (aw i) := by unfold lst; simp [hi]
      rw [hw] at h1
      unfold gd
      rw [List.getD_eq_getElem?_getD, h1]; rfl
    rw [this]
  · rw [if_neg hi, if_neg hi]
theorem serve11_ok (k : Nat) (aw : Nat → TLock) (A B : List TLock) (hw : lst A.length aw = A) (hA : A.length ≤ 4000) (hB : B.length ≤ 4000) (hB0 : 0 < B.length) (hk : A.length + B.length + 40 ≤ k) (κ : AV → Heap → Option ρ) :
    evalF ctx k n_locks_serve [.osl 5 0 0 A.length false, .osl 5 1 0 B.length false] [some (.arr 5 A.length (rowOf eLock aw)), some (.arr 5 B.length (rowOf eLock (gd zLock B)))] κ = fin11 aw A B κ (serveF A [] [] B).1 (serveF A [] [] B).2 := by
  have lstA : lst A.length (fun i => aw (0 + i)) = A := by rw [show (fun i => aw (0 + i)) = aw from zrow aw]; exact hw
  obtain ⟨k, rfl⟩ : ∃ k', k = k' + 1 := ⟨k - 1, by omega⟩
  refine (serve11_e k A.length aw B.length (gd zLock B) κ).trans ?_
  have h := serve_loop (A := A) (B := B) (hd := hd11 k aw A B κ) (fin := fin11 aw A B κ) (fun j G W hi => ?_) (fun j G W hi => ?_) k [] [] (by simp) (by simp; omega)
  · exact h
  · generalize hx : gd zLock B (G.length + W.length) = x
    cases G with
    | nil =>
      cases W with
      | nil =>
        have hx : gd zLock B 0 = x := hx
        unfold hd11
        rw [serve11_h0_s, dec_t (show (0 : Int) < (B.length : Int) by omega), cond_true, show idxOK 0 B.length = true from idx_ok (by omega) (by omega), cond_true, dec_t hB0, cond_true, hx]
        refine (grants_ok' k x A.length 0 _ _ _ _ A [] lstA rfl (by omega) (by omega) (by omega) _).trans ?_
        rw [serve11_r0_s, hx, more_sz 56 _ _ _ _ rfl (by omega) (by omega) (by omega), List.append_nil]
        cases grantsL x A [] with
        | true =>
          show serve11_h3 _ _ _ _ _ _ _ _ _ _ _ _ = _
          have e := lk_first aw A x hw
          rw [row_first (eI .u64)]
          exact congrArg (fun r => serve11_h3 k j B.length (gd zLock B) 1 1 (A.length + 1) 1 (rowOf (eI .u64) (gd 0 [x.Tx])) (A.length + 1) r κ) e
        | false =>
          show serve11_h1 _ _ _ _ _ _ _ _ _ _ _ = _
          exact congrArg (fun r => serve11_h1 k j A.length aw B.length (gd zLock B) 1 1 1 r κ) (row_first eLock _ x zLock)
      | cons w W =>
        have hx : gd zLock B (0 + (W.length + 1)) = x := hx
        simp only [List.length_cons, List.length_nil] at hi
        simp only [hd11]
        rw [serve11_h1_s, dec_t (by omega), cond_true, idx_ok (by omega) (by omega), cond_true]
        rw [Int.toNat_natCast, dec_t (by omega), cond_true, hx]
        refine (grants_ok' k x A.length (W.length + 1) _ _ _ _ A (w :: W) lstA (lst0 (w :: W)) (by omega) (by omega) (by omega) _).trans ?_
        rw [serve11_r1_s]
        rw [Int.toNat_natCast, hx, more_sz 56 _ _ _ _ rfl (by omega) (by omega) (by omega), more_sz 56 _ _ _ _ rfl (by omega) (by omega) (by omega), List.append_nil, wi64_succ (by omega)]
        cases grantsL x A (w :: W) with
        | true =>
          have e := lk_first aw A x hw
          rw [Bool.not_true, cond_false, row_first (eI .u64), if_pos rfl]
          refine (congrArg (fun r => serve11_h5 k j B.length (gd zLock B) (rowOf (eI .u64) (gd 0 [x.Tx])) r (rowOf eLock (gd zLock (w :: W))) 1 ((W.length + 1 + 1 : Nat) : Int) (A.length + 1) 1 (A.length + 1) (W.length + 1) (W.length + 1) κ) e).trans ?_
          rw [show W.length + 1 + 1 = 0 + 1 + (W.length + 1) by omega]
          rfl
        | false =>
          rw [Bool.not_false, cond_true, if_neg (by decide)]
          have e := lk_next [] (w :: W) x (W.length + 1) (by simp)
          simp only [List.nil_append] at e
          refine (congrArg (fun r => serve11_h1 k j A.length aw B.length (gd zLock B) ((W.length + 1 + 1 : Nat) : Int) (W.length + 1 + 1) (W.length + 1 + 1) r κ) e).trans ?_
          show _ = serve11_h1 k j A.length aw B.length (gd zLock B) (((W ++ [x]).length + 1 : Nat) : Int) ((W ++ [x]).length + 1) ((W ++ [x]).length + 1) (rowOf eLock (gd zLock (w :: (W ++ [x])))) κ
          rw [List.length_append]; rfl
    | cons g G =>
      cases W with
      | nil =>
        have hx : gd zLock B (G.length + 1) = x := hx
        have hx' : gd zLock B (0 + (G.length + 1)) = x := by rw [Nat.zero_add]; exact hx
        simp only [List.length_cons, List.length_nil] at hi
        simp only [hd11]
        rw [serve11_h3_s, dec_t (by omega), cond_true, idx_ok (by omega) (by omega), cond_true]
        rw [Int.toNat_natCast, dec_t (by omega), cond_true, hx']
        refine (grants_ok' k x (A.length + (G.length + 1)) 0 _ _ _ _ (A ++ g :: G) [] (by rw [show A.length + (G.length + 1) = (A ++ g :: G).length by simp]; exact lst0 _) rfl (by omega) (by omega) (by omega) _).trans ?_
        rw [serve11_r3_s]
        rw [Int.toNat_natCast, hx', more_sz 8 _ _ _ _ rfl (by omega) (by omega) (by omega), more_sz 8 _ _ _ _ rfl (by omega) (by omega) (by omega), more_sz 56 _ _ _ _ rfl (by omega) (by omega) (by omega), wi64_succ (by omega)]
        cases grantsL x (A ++ g :: G) [] with
        | true =>
          rw [Bool.not_true, cond_false, if_pos rfl, tx_next g G x _ rfl]
          refine (congrArg (fun r => serve11_h3 k j B.length (gd zLock B) (G.length + 1 + 1) ((G.length + 1 + 1 : Nat) : Int) (A.length + (G.length + 1) + 1) (G.length + 1 + 1) (rowOf (eI .u64) (gd 0 (txs (g :: (G ++ [x]))))) (A.length + (G.length + 1) + 1) r κ) (lk_next A (g :: G) x _ (by simp))).trans ?_
          show _ = serve11_h3 k j B.length (gd zLock B) ((G ++ [x]).length + 1) (((G ++ [x]).length + 1 : Nat) : Int) (A.length + ((G ++ [x]).length + 1)) ((G ++ [x]).length + 1) (rowOf (eI .u64) (gd 0 (txs (g :: (G ++ [x]))))) (A.length + ((G ++ [x]).length + 1)) (rowOf eLock (gd zLock (A ++ g :: (G ++ [x])))) κ
          rw [List.length_append]; rfl
        | false =>
          rw [Bool.not_false, cond_true, if_neg (by decide)]
          exact congrArg (fun r => serve11_h5 k j B.length (gd zLock B) (rowOf (eI .u64) (gd 0 (txs (g :: G)))) (rowOf eLock (gd zLock (A ++ g :: G))) r (G.length + 1) ((G.length + 1 + 1 : Nat) : Int) (A.length + (G.length + 1)) (G.length + 1) (A.length + (G.length + 1)) 1 1 κ) (row_first eLock _ x zLock)
      | cons w W =>
        have hx : gd zLock B (G.length + 1 + (W.length + 1)) = x := hx
        have hx' : gd zLock B (0 + (G.length + 1 + (W.length + 1))) = x := by rw [Nat.zero_add]; exact hx
        simp only [List.length_cons] at hi
        simp only [hd11]
        rw [serve11_h5_s, dec_t (by omega), cond_true, idx_ok (by omega) (by omega), cond_true]
        rw [Int.toNat_natCast, dec_t (by omega), cond_true, hx']
        refine (grants_ok' k x (A.length + (G.length + 1)) (W.length + 1) _ _ _ _ (A ++ g :: G) (w :: W) (by rw [show A.length + (G.length + 1) = (A ++ g :: G).length by simp]; exact lst0 _) (lst0 (w :: W)) (by omega) (by omega) (by omega) _).trans ?_
        rw [serve11_r5_s]
        rw [Int.toNat_natCast, hx', more_sz 8 _ _ _ _ rfl (by omega) (by omega) (by omega), more_sz 8 _ _ _ _ rfl (by omega) (by omega) (by omega), more_sz 56 _ _ _ _ rfl (by omega) (by omega) (by omega), more_sz 56 _ _ _ _ rfl (by omega) (by omega) (by omega), wi64_succ (by omega)]
        cases grantsL x (A ++ g :: G) (w :: W) with
        | true =>
          rw [Bool.not_true, cond_false, if_pos rfl, tx_next g G x _ rfl]
          refine (congrArg (fun r => serve11_h5 k j B.length (gd zLock B) (rowOf (eI .u64) (gd 0 (txs (g :: (G ++ [x]))))) r (rowOf eLock (gd zLock (w :: W))) (G.length + 1 + 1) ((G.length + 1 + (W.length + 1) + 1 : Nat) : Int) (A.length + (G.length + 1) + 1) (G.length + 1 + 1) (A.length + (G.length + 1) + 1) (W.length + 1) (W.length + 1) κ) (lk_next A (g :: G) x _ (by simp))).trans ?_
          show _ = serve11_h5 k j B.length (gd zLock B) (rowOf (eI .u64) (gd 0 (txs (g :: (G ++ [x]))))) (rowOf eLock (gd zLock (A ++ g :: (G ++ [x])))) (rowOf eLock (gd zLock (w :: W))) ((G ++ [x]).length + 1) (((G ++ [x]).length + 1 + (W.length + 1) : Nat) : Int) (A.length + ((G ++ [x]).length + 1)) ((G ++ [x]).length + 1) (A.length + ((G ++ [x]).length + 1)) (W.length + 1) (W.length + 1) κ
          rw [List.length_append, show G.length + 1 + (W.length + 1) + 1 = G.length + [x].length + 1 + (W.length + 1) by simp; omega]; rfl
        | false =>
          rw [Bool.not_false, cond_true, if_neg (by decide)]
          have e := lk_next [] (w :: W) x (W.length + 1) (by simp)
          simp only [List.nil_append] at e
          refine (congrArg (fun r => serve11_h5 k j B.length (gd zLock B) (rowOf (eI .u64) (gd 0 (txs (g :: G)))) (rowOf eLock (gd zLock (A ++ g :: G))) r (G.length + 1) ((G.length + 1 + (W.length + 1) + 1 : Nat) : Int) (A.length + (G.length + 1)) (G.length + 1) (A.length + (G.length + 1)) (W.length + 1 + 1) (W.length + 1 + 1) κ) e).trans ?_
          show _ = serve11_h5 k j B.length (gd zLock B) (rowOf (eI .u64) (gd 0 (txs (g :: G)))) (rowOf eLock (gd zLock (A ++ g :: G))) (rowOf eLock (gd zLock (w :: (W ++ [x])))) (G.length + 1) ((G.length + 1 + ((W ++ [x]).length + 1) : Nat) : Int) (A.length + (G.length + 1)) (G.length + 1) (A.length + (G.length + 1)) ((W ++ [x]).length + 1) ((W ++ [x]).length + 1) κ
          rw [List.length_append]; rfl
  · cases G with
    | nil =>
      cases W with
      | nil => simp at hi; omega
      | cons w W =>
        simp only [List.length_cons, List.length_nil] at hi
        simp only [hd11]
        rw [serve11_h1_s, dec_f (by omega), cond_false]; rfl
    | cons g G =>
      cases W with
      | nil =>
        simp only [List.length_cons, List.length_nil] at hi
        simp only [hd11]
        rw [serve11_h3_s, dec_f (by omega), cond_false]; rfl
      | cons w W =>
        simp only [List.length_cons] at hi
        simp only [hd11]
        rw [serve11_h5_s, dec_f (by omega), cond_false]; rfl
noncomputable def hd01 (k : Nat) (B : List TLock) (κ : AV → Heap → Option ρ) (j : Nat) : List TLock → List TLock → Option ρ
  | [], [] => serve01_h0 k j B.length (gd zLock B) κ
  | [], w :: W => serve01_h1 k j B.length (gd zLock B) ((W.length + 1 : Nat) : Int) (W.length + 1) (W.length + 1) (rowOf eLock (gd zLock (w :: W))) κ
  | g :: G, [] => serve01_h2 k j B.length (gd zLock B) (G.length + 1) ((G.length + 1 : Nat) : Int) (G.length + 1) (G.length + 1) (rowOf (eI .u64) (gd 0 (txs (g :: G)))) (G.length + 1) (rowOf eLock (gd zLock (g :: G))) κ
  | g :: G, w :: W => serve01_h3 k j B.length (gd zLock B) (rowOf (eI .u64) (gd 0 (txs (g :: G)))) (rowOf eLock (gd zLock (g :: G))) (rowOf eLock (gd zLock (w :: W))) ((G.length + 1 + (W.length + 1) : Nat) : Int) (W.length + 1) (W.length + 1) (G.length + 1) (G.length + 1) (G.length + 1) (G.length + 1) κ
def fin01 (B : List TLock) (κ : AV → Heap → Option ρ) (G W : List TLock) : Option ρ :=
  match G with
  | [] => κ (.tup [.agg [.sl 5 0 (rowOf eLock (fun _ => zLock)) true, oV 5 eLock zLock 2 W], .sl 1 0 (rowOf (eI .u64) (fun _ => 0)) true]) ([some (.arr 5 B.length (rowOf eLock (gd zLock B))), some (.box [.sl 5 0 (rowOf eLock (fun _ => zLock)) true, oV 5 eLock zLock 2 W])] ++ oH 5 eLock zLock W)
  | g :: G => κ (.tup [.agg [.osl 5 3 0 (G.length + 1) false, oV 5 eLock zLock 4 W], .osl 1 2 0 (G.length + 1) false]) ([some (.arr 5 B.length (rowOf eLock (gd zLock B))), some (.box [.osl 5 3 0 (G.length + 1) false, oV 5 eLock zLock 4 W]), some (.arr 1 (G.length + 1) (rowOf (eI .u64) (gd 0 (txs (g :: G))))), some (.arr 5 (G.length + 1) (rowOf eLock (gd zLock (g :: G))))] ++ oH 5 eLock zLock W)
theorem serve01_ok (k : Nat) (B : List TLock) (hB : B.length ≤ 4000) (hB0 : 0 < B.length) (hk : B.length + 40 ≤ k) (κ : AV → Heap → Option ρ) :
    evalF ctx k n_locks_serve [.sl 5 0 (rowOf eLock (fun _ => zLock)) true, .osl 5 0 0 B.length false] [some (.arr 5 B.length (rowOf eLock (gd zLock B)))] κ = fin01 B κ (serveF [] [] [] B).1 (serveF [] [] [] B).2 := by
  obtain ⟨k, rfl⟩ : ∃ k', k = k' + 1 := ⟨k - 1, by omega⟩
  refine (serve01_e k B.length (gd zLock B) κ).trans ?_
  have h := serve_loop (A := []) (B := B) (hd := hd01 k B κ) (fin := fin01 B κ) (fun j G W hi => ?_) (fun j G W hi => ?_) k [] [] (by simp) (by simp; omega)
  · exact h
  · generalize hx : gd zLock B (G.length + W.length) = x
    rw [List.nil_append]
    cases G with
    | nil =>
      cases W with
      | nil =>
        have hx : gd zLock B 0 = x := hx
        unfold hd01
        rw [serve01_h0_s, dec_t (show (0 : Int) < (B.length : Int) by omega), cond_true, show idxOK 0 B.length = true from idx_ok (by omega) (by omega), cond_true, dec_t hB0, cond_true, hx]
        refine (grants_ok' k x 0 0 _ _ _ _ [] [] rfl rfl (by omega) (by omega) (by omega) _).trans ?_
        rw [serve01_r0_s, hx]
        cases grantsL x [] [] with
        | true =>
          show serve01_h2 _ _ _ _ _ _ _ _ _ _ _ _ = _
          rw [row_first (eI .u64), row_first eLock]; rfl
        | false =>
          show serve01_h1 _ _ _ _ _ _ _ _ _ = _
          exact congrArg (fun r => serve01_h1 k j B.length (gd zLock B) 1 1 1 r κ) (row_first eLock _ x zLock)
      | cons w W =>
        have hx : gd zLock B (0 + (W.length + 1)) = x := hx
        simp only [List.length_cons, List.length_nil] at hi
        simp only [hd01]
        rw [serve01_h1_s, dec_t (by omega), cond_true, idx_ok (by omega) (by omega), cond_true]
        rw [Int.toNat_natCast, dec_t (by omega), cond_true, hx]
        refine (grants_ok' k x 0 (W.length + 1) _ _ _ _ [] (w :: W) rfl (lst0 (w :: W)) (by omega) (by omega) (by omega) _).trans ?_
        rw [serve01_r1_s]
        rw [Int.toNat_natCast, hx, more_sz 56 _ _ _ _ rfl (by omega) (by omega) (by omega), wi64_succ (by omega)]
        cases grantsL x [] (w :: W) with
        | true =>
          rw [Bool.not_true, cond_false, row_first (eI .u64), if_pos rfl]
          refine (congrArg (fun r => serve01_h3 k j B.length (gd zLock B) (rowOf (eI .u64) (gd 0 [x.Tx])) r (rowOf eLock (gd zLock (w :: W))) ((W.length + 1 + 1 : Nat) : Int) (W.length + 1) (W.length + 1) 1 1 1 1 κ) (row_first eLock _ x zLock)).trans ?_
          rw [show W.length + 1 + 1 = 0 + 1 + (W.length + 1) by omega]
          rfl
        | false =>
          rw [Bool.not_false, cond_true, if_neg (by decide)]
          have e := lk_next [] (w :: W) x (W.length + 1) (by simp)
          simp only [List.nil_append] at e
          refine (congrArg (fun r => serve01_h1 k j B.length (gd zLock B) ((W.length + 1 + 1 : Nat) : Int) (W.length + 1 + 1) (W.length + 1 + 1) r κ) e).trans ?_
          show _ = serve01_h1 k j B.length (gd zLock B) (((W ++ [x]).length + 1 : Nat) : Int) ((W ++ [x]).length + 1) ((W ++ [x]).length + 1) (rowOf eLock (gd zLock (w :: (W ++ [x])))) κ
          rw [List.length_append]; rfl
    | cons g G =>
      cases W with
      | nil =>
        have hx : gd zLock B (G.length + 1) = x := hx
        have hx' : gd zLock B (0 + (G.length + 1)) = x := by rw [Nat.zero_add]; exact hx
        simp only [List.length_cons, List.length_nil] at hi
        simp only [hd01]
        rw [serve01_h2_s, dec_t (by omega), cond_true, idx_ok (by omega) (by omega), cond_true]
        rw [Int.toNat_natCast, dec_t (by omega), cond_true, hx']
        refine (grants_ok' k x (G.length + 1) 0 _ _ _ _ (g :: G) [] (lst0 (g :: G)) rfl (by omega) (by omega) (by omega) _).trans ?_
        rw [serve01_r2_s]
        rw [Int.toNat_natCast, hx', more_sz 8 _ _ _ _ rfl (by omega) (by omega) (by omega), more_sz 8 _ _ _ _ rfl (by omega) (by omega) (by omega), more_sz 56 _ _ _ _ rfl (by omega) (by omega) (by omega), wi64_succ (by omega)]
        have e := lk_next [] (g :: G) x (G.length + 1) (by simp)
        simp only [List.nil_append] at e
        cases grantsL x (g :: G) [] with
        | true =>
          rw [Bool.not_true, cond_false, if_pos rfl, tx_next g G x _ rfl]
          refine (congrArg (fun r => serve01_h2 k j B.length (gd zLock B) (G.length + 1 + 1) ((G.length + 1 + 1 : Nat) : Int) (G.length + 1 + 1) (G.length + 1 + 1) (rowOf (eI .u64) (gd 0 (txs (g :: (G ++ [x]))))) (G.length + 1 + 1) r κ) e).trans ?_
          show _ = serve01_h2 k j B.length (gd zLock B) ((G ++ [x]).length + 1) (((G ++ [x]).length + 1 : Nat) : Int) ((G ++ [x]).length + 1) ((G ++ [x]).length + 1) (rowOf (eI .u64) (gd 0 (txs (g :: (G ++ [x]))))) ((G ++ [x]).length + 1) (rowOf eLock (gd zLock (g :: (G ++ [x])))) κ
          rw [List.length_append]; rfl
        | false =>
          rw [Bool.not_false, cond_true, if_neg (by decide)]
          exact congrArg (fun r => serve01_h3 k j B.length (gd zLock B) (rowOf (eI .u64) (gd 0 (txs (g :: G)))) (rowOf eLock (gd zLock (g :: G))) r ((G.length + 1 + 1 : Nat) : Int) 1 1 (G.length + 1) (G.length + 1) (G.length + 1) (G.length + 1) κ) (row_first eLock _ x zLock)
      | cons w W =>
        have hx : gd zLock B (G.length + 1 + (W.length + 1)) = x := hx
        have hx' : gd zLock B (0 + (G.length + 1 + (W.length + 1))) = x := by rw [Nat.zero_add]; exact hx
        simp only [List.length_cons] at hi
        simp only [hd01]
        rw [serve01_h3_s, dec_t (by omega), cond_true, idx_ok (by omega) (by omega), cond_true]
        rw [Int.toNat_natCast, dec_t (by omega), cond_true, hx']
        refine (grants_ok' k x (G.length + 1) (W.length + 1) _ _ _ _ (g :: G) (w :: W) (lst0 (g :: G)) (lst0 (w :: W)) (by omega) (by omega) (by omega) _).trans ?_
        rw [serve01_r3_s]
        rw [Int.toNat_natCast, hx', more_sz 8 _ _ _ _ rfl (by omega) (by omega) (by omega), more_sz 8 _ _ _ _ rfl (by omega) (by omega) (by omega), more_sz 56 _ _ _ _ rfl (by omega) (by omega) (by omega), more_sz 56 _ _ _ _ rfl (by omega) (by omega) (by omega), wi64_succ (by omega)]
        cases grantsL x (g :: G) (w :: W) with
        | true =>
          rw [Bool.not_true, cond_false, if_pos rfl, tx_next g G x _ rfl]
          have e := lk_next [] (g :: G) x (G.length + 1) (by simp)
          simp only [List.nil_append] at e
          refine (congrArg (fun r => serve01_h3 k j B.length (gd zLock B) (rowOf (eI .u64) (gd 0 (txs (g :: (G ++ [x]))))) r (rowOf eLock (gd zLock (w :: W))) ((G.length + 1 + (W.length + 1) + 1 : Nat) : Int) (W.length + 1) (W.length + 1) (G.length + 1 + 1) (G.length + 1 + 1) (G.length + 1 + 1) (G.length + 1 + 1) κ) e).trans ?_
          show _ = serve01_h3 k j B.length (gd zLock B) (rowOf (eI .u64) (gd 0 (txs (g :: (G ++ [x]))))) (rowOf eLock (gd zLock (g :: (G ++ [x])))) (rowOf eLock (gd zLock (w :: W))) (((G ++ [x]).length + 1 + (W.length + 1) : Nat) : Int) (W.length + 1) (W.length + 1) ((G ++ [x]).length + 1) ((G ++ [x]).length + 1) ((G ++ [x]).length + 1) ((G ++ [x]).length + 1) κ
          rw [List.length_append, show G.length + 1 + (W.length + 1) + 1 = G.length + [x].length + 1 + (W.length + 1) by simp; omega]; rfl
        | false =>
          rw [Bool.not_false, cond_true, if_neg (by decide)]
          have e := lk_next [] (w :: W) x (W.length + 1) (by simp)
          simp only [List.nil_append] at e
          refine (congrArg (fun r => serve01_h3 k j B.length (gd zLock B) (rowOf (eI .u64) (gd 0 (txs (g :: G)))) (rowOf eLock (gd zLock (g :: G))) r ((G.length + 1 + (W.length + 1) + 1 : Nat) : Int) (W.length + 1 + 1) (W.length + 1 + 1) (G.length + 1) (G.length + 1) (G.length + 1) (G.length + 1) κ) e).trans ?_
          show _ = serve01_h3 k j B.length (gd zLock B) (rowOf (eI .u64) (gd 0 (txs (g :: G)))) (rowOf eLock (gd zLock (g :: G))) (rowOf eLock (gd zLock (w :: (W ++ [x])))) ((G.length + 1 + ((W ++ [x]).length + 1) : Nat) : Int) ((W ++ [x]).length + 1) ((W ++ [x]).length + 1) (G.length + 1) (G.length + 1) (G.length + 1) (G.length + 1) κ
          rw [List.length_append]; rfl
  · cases G with
    | nil =>
      cases W with
      | nil => simp at hi; omega
      | cons w W =>
        simp only [List.length_cons, List.length_nil] at hi
        simp only [hd01]
        rw [serve01_h1_s, dec_f (by omega), cond_false]; rfl
    | cons g G =>
      cases W with
      | nil =>
        simp only [List.length_cons, List.length_nil] at hi
        simp only [hd01]
        rw [serve01_h2_s, dec_f (by omega), cond_false]; rfl
      | cons w W =>
        simp only [List.length_cons] at hi
        simp only [hd01]
        rw [serve01_h3_s, dec_f (by omega), cond_false]; rfl
end Go.Proofs.YticcbbcgboddpaaC

set_option linter.unusedVariables false
set_option linter.unusedSimpArgs false
set_option maxRecDepth 20000
namespace Go.Proofs.YticcbbcgboddpaaC
open Go Go.Ev Go.Proofs
variable {ρ : Type}
abbrev lsl (L : List TLock) : Sl TLock := ⟨L.length, gd zLock L, false⟩
/-- a table, those that are told, an error -/
def tabT (H W : List TLock) (T : List Int) (e : Int) : AV := .tup [.agg (eLocks ⟨lsl H, lsl W⟩), .sl 1 T.length (rowOf (eI .u64) (gd 0 T)) false, .int .i64 e]
def svT (A B : List TLock) : AV := tabT (A ++ (serveF A [] [] B).1) (serveF A [] [] B).2 (txs (serveF A [] [] B).1) 0
theorem zrowI (w : Nat → Int) : rowOf (eI .u64) (fun i => w (0 + i)) = rowOf (eI .u64) w := by
  congr 1; funext i; rw [Nat.zero_add]
theorem len_tx (L : List TLock) : (txs L).length = L.length := List.length_map ..
theorem lenA (A : List TLock) (g : TLock) (G : List TLock) : (A ++ g :: G).length = A.length + (G.length + 1) := by simp
theorem rel_ok (k : Nat) (s : TLocks) (tx : Int) (hc : checkB s = true) (hk : s.Held.n + s.Waits.n + 100 ≤ k) (κ : AV → Option ρ) :
    callP ctx k n_locks_Release [.agg (eLocks s), .int .u64 tx] κ = κ (svT (othL s.Held.l tx) (othL s.Waits.l tx)) := by
  have h200 : s.Held.n + s.Waits.n ≤ 200 := by
    unfold checkB at hc
    simp only [Bool.and_eq_true, decide_eq_true_eq] at hc
    exact hc.1
  obtain ⟨k, rfl⟩ : ∃ k', k = k' + 2 := ⟨k - 2, by omega⟩
  rw [callP_eq]
  refine (locks_Release_e (k + 1) s tx (pk κ)).trans ?_
  rw [locks_Check_ok (k + 1) s (by omega) (by omega) (by omega), locks_Release_r0_s]
  unfold checkE'
  rw [if_pos hc, dec_int, Bool.not_true, cond_false, kept_others_ok (k + 1) _ _ _ tx (by omega) (by omega)]
  have hA : (othL (lst s.Held.n s.Held.w) tx).length ≤ 200 := Nat.le_trans (List.length_filter_le ..) (by rw [lst_len]; omega)
  have hB : (othL (lst s.Waits.n s.Waits.w) tx).length ≤ 200 := Nat.le_trans (List.length_filter_le ..) (by rw [lst_len]; omega)
  have hAB : (othL (lst s.Held.n s.Held.w) tx).length + (othL (lst s.Waits.n s.Waits.w) tx).length ≤ s.Held.n + s.Waits.n := Nat.add_le_add (Nat.le_trans (List.length_filter_le ..) (by rw [lst_len]; omega)) (Nat.le_trans (List.length_filter_le ..) (by rw [lst_len]; omega))
  unfold Sl.l
  have kw := fun κ' : AV → Heap → Option ρ => kept_others_ok (k + 1) s.Waits.n s.Waits.w s.Waits.u tx (by omega) (by omega) κ'
  generalize othL (lst s.Held.n s.Held.w) tx = A at *
  generalize othL (lst s.Waits.n s.Waits.w) tx = B at *
  cases A with
  | nil =>
    refine (locks_Release_r1_s k s tx 0 (pk κ)).trans ?_
    rw [dec_int, cond_true, kw]
    cases B with
    | nil =>
      refine (locks_Release_r2_s (k + 1) s tx 0 (pk κ)).trans ?_
      rw [dec_int, cond_true, serve00_e, show (k : Nat) = (k - 1) + 1 by omega, serve00_h0_s]
      exact locks_Release_r4_s _ s tx 0 (pk κ)
    | cons b B =>
      refine (locks_Release_r2_s1 (k + 1) s tx 0 (B.length + 1) (gd zLock (b :: B)) (pk κ)).trans ?_
      rw [dec_int, cond_true]
      simp only [List.length_cons] at hB
      refine (serve01_ok (k + 1) (b :: B) (by simp only [List.length_cons]; omega) (by simp) (by simp only [List.length_cons, List.length_nil] at hAB ⊢; omega) _).trans ?_
      unfold svT
      generalize serveF [] [] [] (b :: B) = S
      obtain ⟨G, W⟩ := S
      unfold tabT
      rw [List.nil_append]
      cases G with
      | nil =>
        cases W with
        | nil => exact locks_Release_r5_s (k + 1) s tx 0 (B.length + 1) (gd zLock (b :: B)) (pk κ)
        | cons w W =>
          refine (locks_Release_r5_s1 (k + 1) s tx 0 (B.length + 1) (gd zLock (b :: B)) (W.length + 1) (gd zLock (w :: W)) (pk κ)).trans ?_
          show κ (.tup [.agg [.sl 5 0 (rowOf eLock (fun _ => zLock)) false, .sl 5 (W.length + 1) (rowOf eLock fun i => gd zLock (w :: W) (0 + i)) false], .sl 1 0 (rowOf (eI .u64) fun _ => 0) false, .int .i64 0]) = _
          rw [zrow]; rfl
      | cons g G =>
        cases W with
        | nil =>
          refine (locks_Release_r5_s2 (k + 1) s tx 0 (B.length + 1) (gd zLock (b :: B)) (G.length + 1) (gd 0 (txs (g :: G))) (G.length + 1) (gd zLock (g :: G)) (pk κ)).trans ?_
          show κ (.tup [.agg [.sl 5 (G.length + 1) (rowOf eLock fun i => gd zLock (g :: G) (0 + i)) false, .sl 5 0 (rowOf eLock (fun _ => zLock)) false], .sl 1 (G.length + 1) (rowOf (eI .u64) fun i => gd 0 (txs (g :: G)) (0 + i)) false, .int .i64 0]) = _
          rw [zrow, zrowI, len_tx]; rfl
        | cons w W =>
          refine (locks_Release_r5_s3 (k + 1) s tx 0 (B.length + 1) (gd zLock (b :: B)) (G.length + 1) (gd 0 (txs (g :: G))) (G.length + 1) (gd zLock (g :: G)) (W.length + 1) (gd zLock (w :: W)) (pk κ)).trans ?_
          show κ (.tup [.agg [.sl 5 (G.length + 1) (rowOf eLock fun i => gd zLock (g :: G) (0 + i)) false, .sl 5 (W.length + 1) (rowOf eLock fun i => gd zLock (w :: W) (0 + i)) false], .sl 1 (G.length + 1) (rowOf (eI .u64) fun i => gd 0 (txs (g :: G)) (0 + i)) false, .int .i64 0]) = _
          rw [zrow, zrow, zrowI, len_tx]; rfl
  | cons a A =>
    refine (locks_Release_r1_s1 k s tx 0 (A.length + 1) (gd zLock (a :: A)) (pk κ)).trans ?_
    rw [dec_int, cond_true, kw]
    cases B with
    | nil =>
      refine (locks_Release_r3_s (k + 1) s tx 0 (A.length + 1) (gd zLock (a :: A)) (pk κ)).trans ?_
      rw [dec_int, cond_true, serve10_e, show (k : Nat) = (k - 1) + 1 by omega, serve10_h0_s]
      refine (locks_Release_r6_s _ s tx 0 (A.length + 1) (gd zLock (a :: A)) (pk κ)).trans ?_
      show κ (.tup [.agg [.sl 5 (A.length + 1) (rowOf eLock fun i => gd zLock (a :: A) (0 + i)) false, .sl 5 0 (rowOf eLock (fun _ => zLock)) false], .sl 1 0 (rowOf (eI .u64) fun _ => 0) false, .int .i64 0]) = _
      rw [zrow]
      unfold svT serveF tabT
      rw [List.append_nil]; rfl
    | cons b B =>
      refine (locks_Release_r3_s1 (k + 1) s tx 0 (A.length + 1) (gd zLock (a :: A)) (B.length + 1) (gd zLock (b :: B)) (pk κ)).trans ?_
      rw [dec_int, cond_true]
      simp only [List.length_cons] at hB hA hAB
      refine (serve11_ok (k + 1) (gd zLock (a :: A)) (a :: A) (b :: B) (gd_lst zLock (a :: A)) (by simp only [List.length_cons]; omega) (by simp only [List.length_cons]; omega) (by simp) (by simp only [List.length_cons]; omega) _).trans ?_
      unfold svT
      generalize serveF (a :: A) [] [] (b :: B) = S
      obtain ⟨G, W⟩ := S
      unfold tabT
      cases G with
      | nil =>
        rw [List.append_nil]
        cases W with
        | nil =>
          refine (locks_Release_r7_s (k + 1) s tx 0 (A.length + 1) (gd zLock (a :: A)) (B.length + 1) (gd zLock (b :: B)) (pk κ)).trans ?_
          show κ (.tup [.agg [.sl 5 (A.length + 1) (rowOf eLock fun i => gd zLock (a :: A) (0 + i)) false, .sl 5 0 (rowOf eLock (fun _ => zLock)) false], .sl 1 0 (rowOf (eI .u64) fun _ => 0) false, .int .i64 0]) = _
          rw [zrow]; rfl
        | cons w W =>
          refine (locks_Release_r7_s1 (k + 1) s tx 0 (A.length + 1) (gd zLock (a :: A)) (B.length + 1) (gd zLock (b :: B)) (W.length + 1) (gd zLock (w :: W)) (pk κ)).trans ?_
          show κ (.tup [.agg [.sl 5 (A.length + 1) (rowOf eLock fun i => gd zLock (a :: A) (0 + i)) false, .sl 5 (W.length + 1) (rowOf eLock fun i => gd zLock (w :: W) (0 + i)) false], .sl 1 0 (rowOf (eI .u64) fun _ => 0) false, .int .i64 0]) = _
          rw [zrow, zrow]; rfl
      | cons g G =>
        have el : (a :: A).length + (G.length + 1) = (a :: A ++ g :: G).length := (lenA (a :: A) g G).symm
        cases W with
        | nil =>
          refine (locks_Release_r7_s2 (k + 1) s tx 0 (A.length + 1) (gd zLock (a :: A)) (B.length + 1) (gd zLock (b :: B)) (G.length + 1) (gd 0 (txs (g :: G))) ((a :: A).length + (G.length + 1)) (gd zLock (a :: A ++ g :: G)) (pk κ)).trans ?_
          show κ (.tup [.agg [.sl 5 ((a :: A).length + (G.length + 1)) (rowOf eLock fun i => gd zLock (a :: A ++ g :: G) (0 + i)) false, .sl 5 0 (rowOf eLock (fun _ => zLock)) false], .sl 1 (G.length + 1) (rowOf (eI .u64) fun i => gd 0 (txs (g :: G)) (0 + i)) false, .int .i64 0]) = _
          rw [zrow, zrowI, len_tx, el]; rfl
        | cons w W =>
          refine (locks_Release_r7_s3 (k + 1) s tx 0 (A.length + 1) (gd zLock (a :: A)) (B.length + 1) (gd zLock (b :: B)) (G.length + 1) (gd 0 (txs (g :: G))) ((a :: A).length + (G.length + 1)) (gd zLock (a :: A ++ g :: G)) (W.length + 1) (gd zLock (w :: W)) (pk κ)).trans ?_
          show κ (.tup [.agg [.sl 5 ((a :: A).length + (G.length + 1)) (rowOf eLock fun i => gd zLock (a :: A ++ g :: G) (0 + i)) false, .sl 5 (W.length + 1) (rowOf eLock fun i => gd zLock (w :: W) (0 + i)) false], .sl 1 (G.length + 1) (rowOf (eI .u64) fun i => gd 0 (txs (g :: G)) (0 + i)) false, .int .i64 0]) = _
          rw [zrow, zrow, zrowI, len_tx, el]; rfl
theorem rel_bad (k : Nat) (s : TLocks) (tx : Int) (hn : s.Held.n ≤ 10000) (hm : s.Waits.n ≤ 10000) (hc : checkB s = false) (hk : s.Held.n + s.Waits.n + 100 ≤ k) (κ : AV → Option ρ) :
    callP ctx k n_locks_Release [.agg (eLocks s), .int .u64 tx] κ = κ (tabT [] [] [] 220) := by
  obtain ⟨k, rfl⟩ : ∃ k', k = k' + 2 := ⟨k - 2, by omega⟩
  rw [callP_eq]
  refine (locks_Release_e (k + 1) s tx (pk κ)).trans ?_
  rw [locks_Check_ok (k + 1) s hn hm (by omega), locks_Release_r0_s]
  unfold checkE'
  rw [hc]; rfl
theorem wit_bad (k : Nat) (s : TLocks) (tx : Int) (hn : s.Held.n ≤ 10000) (hm : s.Waits.n ≤ 10000) (hc : checkB s = false) (hk : s.Held.n + s.Waits.n + 100 ≤ k) (κ : AV → Option ρ) :
    callP ctx k n_locks_Withdraw [.agg (eLocks s), .int .u64 tx] κ = κ (tabT [] [] [] 220) := by
  obtain ⟨k, rfl⟩ : ∃ k', k = k' + 2 := ⟨k - 2, by omega⟩
  rw [callP_eq]
  refine (locks_Withdraw_e (k + 1) s tx (pk κ)).trans ?_
  rw [locks_Check_ok (k + 1) s hn hm (by omega), locks_Withdraw_r0_s]
  unfold checkE'
  rw [hc]; rfl
end Go.Proofs.YticcbbcgboddpaaC

set_option linter.unusedVariables false
set_option linter.unusedSimpArgs false
set_option maxRecDepth 20000
namespace Go.Proofs.YticcbbcgboddpaaC
open Go Go.Ev Go.Proofs
variable {ρ : Type}
/-! ### a key's own range -/
theorem bL_succ : ∀ (x k : List UInt8), Op.bytesLess x (k ++ [0]) = !Op.bytesLess k x
  | [], [] => rfl
  | [], _ :: _ => rfl
  | a :: x, [] => by
    have h : ¬ a < 0 := by rw [UInt8.lt_iff_toNat_lt]; simp
    cases x with
    | nil => simp [Op.bytesLess, h]
    | cons b x => simp [Op.bytesLess, h]
  | a :: x, b :: k => by
    have ih := bL_succ x k
    simp only [List.cons_append, Op.bytesLess] at *
    rw [ih]
    by_cases h : a < b
    · have h2 : ¬ b < a := by rw [UInt8.lt_iff_toNat_lt] at *; omega
      have h3 : ¬ b = a := fun e => by subst e; rw [UInt8.lt_iff_toNat_lt] at h; omega
      simp [h, h2, h3]
    · by_cases he : a = b
      · subst he; simp
      · have h2 : b < a := by
          rw [UInt8.lt_iff_toNat_lt] at *
          have : a.toNat ≠ b.toNat := fun e => he (UInt8.toNat_inj.1 e)
          omega
        simp [h, he, h2]
theorem bl_succ (x k : ByteArray) : bl x (k ++ (⟨#[0]⟩ : ByteArray)) = !bl k x := by
  show Op.bytesLess x.toList (k ++ (⟨#[0]⟩ : ByteArray)).toList = !Op.bytesLess k.toList x.toList
  have e : (k ++ (⟨#[0]⟩ : ByteArray)).toList = k.toList ++ [0] := by
    rw [Go.ByteArray.toList_eq, Go.ByteArray.toList_eq, ByteArray.data_append, Array.toList_append]
  rw [e]
  exact bL_succ _ _
abbrev pointR (key : ByteArray) : TRange := ⟨key, key ++ (⟨#[0]⟩ : ByteArray), true⟩
theorem point_size (key : ByteArray) : (key ++ (⟨#[0]⟩ : ByteArray)).size = key.size + 1 := by rw [ByteArray.size_append]; rfl
theorem point_right {key : ByteArray} (h : key.size ≤ 512) : rRight (pointR key) = true := by
  unfold rRight
  simp only [point_size, bl_succ, bl_irrefl]
  rw [decide_eq_false (by omega), decide_eq_false (by omega)]; rfl
theorem point_has (key x : ByteArray) : hasB (pointR key) x = (!bl x key && !bl key x) := by
  unfold hasB
  simp only [bl_succ, Bool.not_true, Bool.false_or]
theorem point_eq {key x : ByteArray} (h : hasB (pointR key) x = true) : x = key := by
  rw [point_has, Bool.and_eq_true, Bool.not_eq_true', Bool.not_eq_true'] at h
  exact bl_tri h.1 h.2
theorem from_has {r : TRange} (h : rRight r = true) : hasB r r.From = true := by
  unfold rRight at h
  unfold hasB
  rw [bl_irrefl]
  cases he : r.End with
  | false => rfl
  | true =>
    rw [he] at h
    simp only [Bool.and_eq_true, cond_true] at h
    rw [h.2.2]; rfl
theorem point_meets {key : ByteArray} {r : TRange} (h : key.size ≤ 512) (hr : rRight r = true) : meetsB (pointR key) r = hasB r key := by
  unfold meetsB
  rw [point_right h, hr, Bool.true_and, Bool.true_and]
  cases hk : hasB r key with
  | true => rw [Bool.or_true]
  | false =>
    rw [Bool.or_false]
    cases hp : hasB (pointR key) r.From with
    | false => rfl
    | true =>
      have := point_eq hp
      rw [← this, from_has hr] at hk
      cases hk
theorem within_self {r : TRange} (h : rRight r = true) : withinB r r = true := by
  unfold withinB
  rw [h, bl_irrefl, bl_irrefl]
  cases r.End <;> rfl
theorem r03_Point_ok (k : Nat) (key : ByteArray) (h : key.size ≤ 512) (hk : 1 ≤ k) (κ : AV → Option ρ) : callP ctx k n_r03_Point [.str key] κ = κ (.agg (eRange (pointR key))) := by
  obtain ⟨k, rfl⟩ : ∃ k', k = k' + 1 := ⟨k - 1, by omega⟩
  rw [callP_eq, r03_Point_e, decide_eq_false (by omega), cond_false, decide_eq_true (by show key.size + 1 ≤ _; omega), cond_true]
  rfl
/-! ### tables as_ lists -/
def covL (H : List TLock) (a : TLock) : Bool := H.any fun h => coversB h a
def waitL (W : List TLock) (tx : Int) : Bool := W.any fun w => decide (w.Tx = tx)
theorem covL_eq (s : TLocks) (a : TLock) : coveredB s a = covL s.Held.l a := anyL s.Held.n s.Held.w fun h => coversB h a
theorem waitL_eq (s : TLocks) (tx : Int) : (anyN s.Waits.n fun i => decide ((s.Waits.w i).Tx = tx)) = waitL s.Waits.l tx := anyL s.Waits.n s.Waits.w fun w => decide (w.Tx = tx)
theorem okL_eq (s : TLocks) (a : TLock) : okB s a = grantsL a s.Held.l s.Waits.l := grants_lst a _ _ _ _
/-- a table that is right -/
structure Tab (H W : List TLock) : Prop where
  size : H.length + W.length ≤ 200
  held : ∀ i x, H[i]? = some x → mayB x = true ∧ grantsL x (H.take i) [] = true
  wait : ∀ i x, W[i]? = some x → mayB x = true ∧ waitL (W.take i) x.Tx = false ∧ grantsL x H (W.take i) = false
theorem lst_take {α : Type} (n i : Nat) (w : Nat → α) (h : i ≤ n) : (lst n w).take i = lst i w := by
  unfold lst
  rw [← List.map_take, List.take_range, Nat.min_eq_left h]
theorem lst_iff {α : Type} {n i : Nat} {w : Nat → α} {x : α} : (lst n w)[i]? = some x ↔ i < n ∧ w i = x := by
  unfold lst
  by_cases h : i < n
  · simp [h]
  · simp [h]
theorem check_tab (s : TLocks) : checkB s = true ↔ Tab s.Held.l s.Waits.l := by
  unfold checkB
  rw [Bool.and_eq_true, Bool.and_eq_true, decide_eq_true_eq, allN_true, allN_true]
  have hn : s.Held.l.length = s.Held.n := lst_len _ _
  have hm : s.Waits.l.length = s.Waits.n := lst_len _ _
  constructor
  · rintro ⟨h1, h2, h3⟩
    refine ⟨by omega, fun i x hx => ?_, fun i x hx => ?_⟩
    · obtain ⟨hi, rfl⟩ := lst_iff.1 hx
      have h := h2 i hi
      unfold heldP at h
      rw [Bool.and_eq_true, grants_lst] at h
      rw [show s.Held.l.take i = lst i s.Held.w from lst_take _ _ _ (by omega)]
      exact h
    · obtain ⟨hi, rfl⟩ := lst_iff.1 hx
      have h := h3 i hi
      unfold waitP at h
      rw [Bool.and_eq_true, Bool.and_eq_true, grants_lst, Bool.not_eq_true', Bool.not_eq_true', anyL i s.Waits.w fun w => decide (w.Tx = (s.Waits.w i).Tx)] at h
      rw [show s.Waits.l.take i = lst i s.Waits.w from lst_take _ _ _ (by omega)]
      exact h
  · rintro ⟨h1, h2, h3⟩
    refine ⟨by omega, fun i hi => ?_, fun i hi => ?_⟩
    · have h := h2 i (s.Held.w i) (lst_iff.2 ⟨hi, rfl⟩)
      rw [show s.Held.l.take i = lst i s.Held.w from lst_take _ _ _ (by omega)] at h
      unfold heldP
      rw [Bool.and_eq_true, grants_lst]
      exact h
    · have h := h3 i (s.Waits.w i) (lst_iff.2 ⟨hi, rfl⟩)
      rw [show s.Waits.l.take i = lst i s.Waits.w from lst_take _ _ _ (by omega)] at h
      unfold waitP
      rw [Bool.and_eq_true, Bool.and_eq_true, grants_lst, Bool.not_eq_true', Bool.not_eq_true', anyL i s.Waits.w fun w => decide (w.Tx = (s.Waits.w i).Tx)]
      exact h
theorem tab_nil : Tab [] [] := ⟨by simp, fun i x h => by simp at h, fun i x h => by simp at h⟩
theorem tab_one {a : TLock} (h : mayB a = true) : Tab [a] [] := by
  refine ⟨by simp, fun i x hx => ?_, fun i x h => by simp at h⟩
  cases i with
  | zero => simp at hx; subst hx; exact ⟨h, rfl⟩
  | succ i => simp at hx
end Go.Proofs.YticcbbcgboddpaaC

set_option linter.unusedVariables false
set_option maxRecDepth 20000
namespace Go.Proofs.YticcbbcgboddpaaC
open Go Go.Ev Go.Proofs
variable {ρ : Type}
theorem cmp_Less_uint64_e (k : Nat) (x : Int) (y : Int) (κ : AV → Heap → Option ρ) : evalF ctx (k + 2) n_cmp_Less_uint64 [.int .u64 x, .int .u64 y] [] κ =
  (bif !decide (x = x) then
   (bif !(!decide (y = y)) then
    κ (.bool true) []
   else κ (.bool (decide (x < y))) [])
  else κ (.bool (decide (x < y))) []) := by kernel_rfl
noncomputable def so_ins_h0 (k j : Nat) (n : Nat) (a : Int) (b : Int) (x6 : Int) (w0 : Nat → List AV) (κ : AV → Heap → Option ρ) : Option ρ := headAt ctx k n_slices_insertionSortOrdered_uint64 1 [.r] j ⟨(envOf 49 [(0, .osl 1 0 0 n false), (1, .int .i64 a), (2, .int .i64 b), (6, .int .i64 x6)]), [some (.arr 1 n w0)]⟩ κ
noncomputable def so_ins_h1 (k j1 j : Nat) (n : Nat) (a : Int) (b : Int) (x7 : Int) (w0 : Nat → List AV) (x6 : Int) (κ : AV → Heap → Option ρ) : Option ρ := headAt ctx k n_slices_insertionSortOrdered_uint64 1 [.r, .into j1, .r, .l, .r] j ⟨(envOf 49 [(0, .osl 1 0 0 n false), (1, .int .i64 a), (2, .int .i64 b), (6, .int .i64 x6), (7, .int .i64 x7)]), [some (.arr 1 n w0)]⟩ κ
noncomputable def so_ins_r0 (k j1 j2 : Nat) (n : Nat) (a : Int) (b : Int) (x6 : Int) (w0 : Nat → Int) (x7 : Int) (κ : AV → Heap → Option ρ) (v : AV) : Option ρ := resAt ctx k n_slices_insertionSortOrdered_uint64 1 [.r, .into j1, .r, .l, .r, .into j2, .l, .l] 13 [(19, true)] ⟨(envOf 49 [(0, .osl 1 0 0 n false), (1, .int .i64 a), (2, .int .i64 b), (6, .int .i64 x6), (7, .int .i64 x7), (16, .int .i64 x7), (17, .int .i64 a), (18, .bool (decide (a < x7))), (19, .bool (decide (a < x7))), (20, .osl 1 0 0 n false), (21, .int .i64 x7), (22, .eref 0 (0 + (x7).toNat) 0), (23, .int .u64 (w0 (0 + (x7).toNat))), (24, .osl 1 0 0 n false), (25, .int .i64 x7), (26, .int .i64 (wi64 (x7 - 1))), (27, .eref 0 (0 + (wi64 (x7 - 1)).toNat) 0), (28, .int .u64 (w0 (0 + (wi64 (x7 - 1)).toNat))), (29, v)]), [some (.arr 1 n (rowOf (eI .u64) w0))]⟩ κ
noncomputable def so_ins_e0 (k j1 j2 : Nat) (n : Nat) (a : Int) (b : Int) (x6 : Int) (x7 : Int) (w0 : Nat → List AV) (κ : AV → Heap → Option ρ) : Option ρ := endAt ctx k n_slices_insertionSortOrdered_uint64 1 [.r, .into j1, .r, .l, .r, .into j2, .r, .l] ⟨(envOf 49 [(0, .osl 1 0 0 n false), (1, .int .i64 a), (2, .int .i64 b), (6, .int .i64 x6), (7, .int .i64 x7)]), [some (.arr 1 n w0)]⟩ κ
theorem so_ins_h0_s (k j : Nat) (n : Nat) (a : Int) (b : Int) (x6 : Int) (w0 : Nat → Int) (κ : AV → Heap → Option ρ) : so_ins_h0 k (j + 1) n a b x6 (rowOf (eI .u64) w0) κ =
  (bif decide (x6 < b) then
   so_ins_h1 k j k n a b x6 (rowOf (eI .u64) w0) x6 κ
  else κ (.tup []) [some (.arr 1 n (rowOf (eI .u64) w0))]) := by kernel_rfl
theorem so_ins_h1_s (k j1 j : Nat) (n : Nat) (a : Int) (b : Int) (x7 : Int) (w0 : Nat → Int) (x6 : Int) (κ : AV → Heap → Option ρ) : so_ins_h1 k j1 (j + 1) n a b x7 (rowOf (eI .u64) w0) x6 κ =
  (bif decide (a < x7) then
   (bif idxOK x7 n then
    (bif decide ((0 + (x7).toNat) < n) then
     (bif idxOK (wi64 (x7 - 1)) n then
      (bif decide ((0 + (wi64 (x7 - 1)).toNat) < n) then
       callP ctx k n_cmp_Less_uint64 [.int .u64 (w0 (0 + (x7).toNat)), .int .u64 (w0 (0 + (wi64 (x7 - 1)).toNat))] (so_ins_r0 k j1 j n a b x6 w0 x7 κ)
      else none)
     else none)
    else none)
   else none)
  else so_ins_h0 k j1 n a b (wi64 (x6 + 1)) (rowOf (eI .u64) w0) κ) := by kernel_rfl
theorem so_ins_r0_s (k j1 j2 : Nat) (n : Nat) (a : Int) (b : Int) (x6 : Int) (w0 : Nat → Int) (x7 : Int) (r0 : Bool) (κ : AV → Heap → Option ρ) : so_ins_r0 k j1 j2 n a b x6 w0 x7 κ (.bool r0) =
  (bif r0 then
   (bif idxOK (wi64 (x7 - 1)) n then
    (bif decide ((0 + (wi64 (x7 - 1)).toNat) < n) then
     (bif idxOK x7 n then
      (bif decide ((0 + (x7).toNat) < n) then
       (bif idxOK x7 n then
        (bif decide ((0 + (x7).toNat) < n) then
         (bif idxOK (wi64 (x7 - 1)) n then
          (bif decide ((0 + (wi64 (x7 - 1)).toNat) < n) then
           so_ins_e0 k j1 j2 n a b x6 x7 (updRow (0 + (wi64 (x7 - 1)).toNat) 0 ((eI .u64) (w0 (0 + (x7).toNat))) (updRow (0 + (x7).toNat) 0 ((eI .u64) (w0 (0 + (wi64 (x7 - 1)).toNat))) (rowOf (eI .u64) w0))) κ
          else none)
         else none)
        else none)
       else none)
      else none)
     else none)
    else none)
   else none)
  else so_ins_h0 k j1 n a b (wi64 (x6 + 1)) (rowOf (eI .u64) w0) κ) := by kernel_rfl
theorem so_ins_e0_s (k j1 j2 : Nat) (n : Nat) (a : Int) (b : Int) (x6 : Int) (x7 : Int) (w0 : Nat → Int) (κ : AV → Heap → Option ρ) : so_ins_e0 k j1 j2 n a b x6 x7 (rowOf (eI .u64) w0) κ =
  so_ins_h1 k j1 j2 n a b (wi64 (x7 - 1)) (rowOf (eI .u64) w0) x6 κ := by kernel_rfl
theorem so_ins_e (k : Nat) (n : Nat) (w : Nat → Int) (a : Int) (b : Int) (κ : AV → Heap → Option ρ) : evalF ctx (k + 1) n_slices_insertionSortOrdered_uint64 [.osl 1 0 0 n false, .int .i64 a, .int .i64 b] [some (.arr 1 n (rowOf (eI .u64) w))] κ =
  so_ins_h0 k k n a b (wi64 (a + 1)) (rowOf (eI .u64) w) κ := by kernel_rfl
noncomputable def so_sift_h0 (k j : Nat) (n : Nat) (hi : Int) (first : Int) (x8 : Int) (w0 : Nat → List AV) (κ : AV → Heap → Option ρ) : Option ρ := headAt ctx k n_slices_siftDownOrdered_uint64 1 [.r] j ⟨(envOf 76 [(0, .osl 1 0 0 n false), (2, .int .i64 hi), (3, .int .i64 first), (8, .int .i64 x8)]), [some (.arr 1 n w0)]⟩ κ
noncomputable def so_sift_r0 (k j1 : Nat) (n : Nat) (hi : Int) (first : Int) (w0 : Nat → Int) (x8 : Int) (κ : AV → Heap → Option ρ) (v : AV) : Option ρ := resAt ctx k n_slices_siftDownOrdered_uint64 1 [.r, .into j1, .r, .r, .l, .l] 18 [(21, true)] ⟨(envOf 76 [(0, .osl 1 0 0 n false), (2, .int .i64 hi), (3, .int .i64 first), (8, .int .i64 x8), (9, .int .i64 (wi64 (wi64 (2 * x8) + 1))), (16, .bool (decide (hi ≤ wi64 (wi64 (2 * x8) + 1)))), (17, .int .i64 (wi64 (wi64 (2 * x8) + 1))), (18, .int .i64 (wi64 (wi64 (wi64 (2 * x8) + 1) + 1))), (19, .int .i64 hi), (20, .bool (decide (wi64 (wi64 (wi64 (2 * x8) + 1) + 1) < hi))), (21, .bool (decide (wi64 (wi64 (wi64 (2 * x8) + 1) + 1) < hi))), (22, .osl 1 0 0 n false), (23, .int .i64 first), (24, .int .i64 (wi64 (wi64 (2 * x8) + 1))), (25, .int .i64 (wi64 (first + wi64 (wi64 (2 * x8) + 1)))), (26, .eref 0 (0 + (wi64 (first + wi64 (wi64 (2 * x8) + 1))).toNat) 0), (27, .int .u64 (w0 (0 + (wi64 (first + wi64 (wi64 (2 * x8) + 1))).toNat))), (28, .osl 1 0 0 n false), (29, .int .i64 first), (30, .int .i64 (wi64 (wi64 (2 * x8) + 1))), (31, .int .i64 (wi64 (first + wi64 (wi64 (2 * x8) + 1)))), (32, .int .i64 (wi64 (wi64 (first + wi64 (wi64 (2 * x8) + 1)) + 1))), (33, .eref 0 (0 + (wi64 (wi64 (first + wi64 (wi64 (2 * x8) + 1)) + 1)).toNat) 0), (34, .int .u64 (w0 (0 + (wi64 (wi64 (first + wi64 (wi64 (2 * x8) + 1)) + 1)).toNat))), (35, v)]), [some (.arr 1 n (rowOf (eI .u64) w0))]⟩ κ
noncomputable def so_sift_r1 (k j1 : Nat) (n : Nat) (hi : Int) (first : Int) (w0 : Nat → Int) (x8 : Int) (x36 : Bool) (κ : AV → Heap → Option ρ) (v : AV) : Option ρ := resAt ctx k n_slices_siftDownOrdered_uint64 1 [.r, .into j1, .r, .r, .r, .l, .l] 12 [] ⟨(envOf 76 [(0, .osl 1 0 0 n false), (2, .int .i64 hi), (3, .int .i64 first), (8, .int .i64 x8), (9, .int .i64 (wi64 (wi64 (2 * x8) + 1))), (36, .bool x36), (39, .osl 1 0 0 n false), (40, .int .i64 first), (41, .int .i64 x8), (42, .int .i64 (wi64 (first + x8))), (43, .eref 0 (0 + (wi64 (first + x8)).toNat) 0), (44, .int .u64 (w0 (0 + (wi64 (first + x8)).toNat))), (45, .osl 1 0 0 n false), (46, .int .i64 first), (47, .int .i64 (wi64 (wi64 (2 * x8) + 1))), (48, .int .i64 (wi64 (first + wi64 (wi64 (2 * x8) + 1)))), (49, .eref 0 (0 + (wi64 (first + wi64 (wi64 (2 * x8) + 1))).toNat) 0), (50, .int .u64 (w0 (0 + (wi64 (first + wi64 (wi64 (2 * x8) + 1))).toNat))), (51, v)]), [some (.arr 1 n (rowOf (eI .u64) w0))]⟩ κ
noncomputable def so_sift_r2 (k j1 : Nat) (n : Nat) (hi : Int) (first : Int) (w0 : Nat → Int) (x8 : Int) (κ : AV → Heap → Option ρ) (v : AV) : Option ρ := resAt ctx k n_slices_siftDownOrdered_uint64 1 [.r, .into j1, .r, .r, .r, .l, .l] 12 [] ⟨(envOf 76 [(0, .osl 1 0 0 n false), (2, .int .i64 hi), (3, .int .i64 first), (8, .int .i64 x8), (9, .int .i64 (wi64 (wi64 (wi64 (2 * x8) + 1) + 1))), (39, .osl 1 0 0 n false), (40, .int .i64 first), (41, .int .i64 x8), (42, .int .i64 (wi64 (first + x8))), (43, .eref 0 (0 + (wi64 (first + x8)).toNat) 0), (44, .int .u64 (w0 (0 + (wi64 (first + x8)).toNat))), (45, .osl 1 0 0 n false), (46, .int .i64 first), (47, .int .i64 (wi64 (wi64 (wi64 (2 * x8) + 1) + 1))), (48, .int .i64 (wi64 (first + wi64 (wi64 (wi64 (2 * x8) + 1) + 1)))), (49, .eref 0 (0 + (wi64 (first + wi64 (wi64 (wi64 (2 * x8) + 1) + 1))).toNat) 0), (50, .int .u64 (w0 (0 + (wi64 (first + wi64 (wi64 (wi64 (2 * x8) + 1) + 1))).toNat))), (51, v)]), [some (.arr 1 n (rowOf (eI .u64) w0))]⟩ κ
noncomputable def so_sift_e0 (k j1 : Nat) (n : Nat) (hi : Int) (first : Int) (w0 : Nat → List AV) (x9 : Int) (κ : AV → Heap → Option ρ) : Option ρ := endAt ctx k n_slices_siftDownOrdered_uint64 1 [.r, .into j1, .r, .r, .r, .r, .l] ⟨(envOf 76 [(0, .osl 1 0 0 n false), (2, .int .i64 hi), (3, .int .i64 first), (9, .int .i64 x9)]), [some (.arr 1 n w0)]⟩ κ
theorem so_sift_h0_s (k j : Nat) (n : Nat) (hi : Int) (first : Int) (x8 : Int) (w0 : Nat → Int) (κ : AV → Heap → Option ρ) : so_sift_h0 k (j + 1) n hi first x8 (rowOf (eI .u64) w0) κ =
  (bif decide (hi ≤ wi64 (wi64 (2 * x8) + 1)) then
   κ (.tup []) [some (.arr 1 n (rowOf (eI .u64) w0))]
  else (bif decide (wi64 (wi64 (wi64 (2 * x8) + 1) + 1) < hi) then
    (bif idxOK (wi64 (first + wi64 (wi64 (2 * x8) + 1))) n then
     (bif decide ((0 + (wi64 (first + wi64 (wi64 (2 * x8) + 1))).toNat) < n) then
      (bif idxOK (wi64 (wi64 (first + wi64 (wi64 (2 * x8) + 1)) + 1)) n then
       (bif decide ((0 + (wi64 (wi64 (first + wi64 (wi64 (2 * x8) + 1)) + 1)).toNat) < n) then
        callP ctx k n_cmp_Less_uint64 [.int .u64 (w0 (0 + (wi64 (first + wi64 (wi64 (2 * x8) + 1))).toNat)), .int .u64 (w0 (0 + (wi64 (wi64 (first + wi64 (wi64 (2 * x8) + 1)) + 1)).toNat))] (so_sift_r0 k j n hi first w0 x8 κ)
       else none)
      else none)
     else none)
    else none)
   else (bif idxOK (wi64 (first + x8)) n then
     (bif decide ((0 + (wi64 (first + x8)).toNat) < n) then
      (bif idxOK (wi64 (first + wi64 (wi64 (2 * x8) + 1))) n then
       (bif decide ((0 + (wi64 (first + wi64 (wi64 (2 * x8) + 1))).toNat) < n) then
        callP ctx k n_cmp_Less_uint64 [.int .u64 (w0 (0 + (wi64 (first + x8)).toNat)), .int .u64 (w0 (0 + (wi64 (first + wi64 (wi64 (2 * x8) + 1))).toNat))] (so_sift_r1 k j n hi first w0 x8 false κ)
       else none)
      else none)
     else none)
    else none))) := by kernel_rfl
theorem so_sift_r0_s (k j1 : Nat) (n : Nat) (hi : Int) (first : Int) (w0 : Nat → Int) (x8 : Int) (r0 : Bool) (κ : AV → Heap → Option ρ) : so_sift_r0 k j1 n hi first w0 x8 κ (.bool r0) =
  (bif r0 then
   (bif idxOK (wi64 (first + x8)) n then
    (bif decide ((0 + (wi64 (first + x8)).toNat) < n) then
     (bif idxOK (wi64 (first + wi64 (wi64 (wi64 (2 * x8) + 1) + 1))) n then
      (bif decide ((0 + (wi64 (first + wi64 (wi64 (wi64 (2 * x8) + 1) + 1))).toNat) < n) then
       callP ctx k n_cmp_Less_uint64 [.int .u64 (w0 (0 + (wi64 (first + x8)).toNat)), .int .u64 (w0 (0 + (wi64 (first + wi64 (wi64 (wi64 (2 * x8) + 1) + 1))).toNat))] (so_sift_r2 k j1 n hi first w0 x8 κ)
      else none)
     else none)
    else none)
   else none)
  else (bif idxOK (wi64 (first + x8)) n then
    (bif decide ((0 + (wi64 (first + x8)).toNat) < n) then
     (bif idxOK (wi64 (first + wi64 (wi64 (2 * x8) + 1))) n then
      (bif decide ((0 + (wi64 (first + wi64 (wi64 (2 * x8) + 1))).toNat) < n) then
       callP ctx k n_cmp_Less_uint64 [.int .u64 (w0 (0 + (wi64 (first + x8)).toNat)), .int .u64 (w0 (0 + (wi64 (first + wi64 (wi64 (2 * x8) + 1))).toNat))] (so_sift_r1 k j1 n hi first w0 x8 r0 κ)
      else none)
     else none)
    else none)
   else none)) := by kernel_rfl
theorem so_sift_r1_s (k j1 : Nat) (n : Nat) (hi : Int) (first : Int) (w0 : Nat → Int) (x8 : Int) (x36 : Bool) (r1 : Bool) (κ : AV → Heap → Option ρ) : so_sift_r1 k j1 n hi first w0 x8 x36 κ (.bool r1) =
  (bif !r1 then
   κ (.tup []) [some (.arr 1 n (rowOf (eI .u64) w0))]
  else (bif idxOK (wi64 (first + wi64 (wi64 (2 * x8) + 1))) n then
    (bif decide ((0 + (wi64 (first + wi64 (wi64 (2 * x8) + 1))).toNat) < n) then
     (bif idxOK (wi64 (first + x8)) n then
      (bif decide ((0 + (wi64 (first + x8)).toNat) < n) then
       (bif idxOK (wi64 (first + x8)) n then
        (bif decide ((0 + (wi64 (first + x8)).toNat) < n) then
         (bif idxOK (wi64 (first + wi64 (wi64 (2 * x8) + 1))) n then
          (bif decide ((0 + (wi64 (first + wi64 (wi64 (2 * x8) + 1))).toNat) < n) then
           so_sift_e0 k j1 n hi first (updRow (0 + (wi64 (first + wi64 (wi64 (2 * x8) + 1))).toNat) 0 ((eI .u64) (w0 (0 + (wi64 (first + x8)).toNat))) (updRow (0 + (wi64 (first + x8)).toNat) 0 ((eI .u64) (w0 (0 + (wi64 (first + wi64 (wi64 (2 * x8) + 1))).toNat))) (rowOf (eI .u64) w0))) (wi64 (wi64 (2 * x8) + 1)) κ
          else none)
         else none)
        else none)
       else none)
      else none)
     else none)
    else none)
   else none)) := by kernel_rfl
theorem so_sift_r2_s (k j1 : Nat) (n : Nat) (hi : Int) (first : Int) (w0 : Nat → Int) (x8 : Int) (r2 : Bool) (κ : AV → Heap → Option ρ) : so_sift_r2 k j1 n hi first w0 x8 κ (.bool r2) =
  (bif !r2 then
   κ (.tup []) [some (.arr 1 n (rowOf (eI .u64) w0))]
  else (bif idxOK (wi64 (first + wi64 (wi64 (wi64 (2 * x8) + 1) + 1))) n then
    (bif decide ((0 + (wi64 (first + wi64 (wi64 (wi64 (2 * x8) + 1) + 1))).toNat) < n) then
     (bif idxOK (wi64 (first + x8)) n then
      (bif decide ((0 + (wi64 (first + x8)).toNat) < n) then
       (bif idxOK (wi64 (first + x8)) n then
        (bif decide ((0 + (wi64 (first + x8)).toNat) < n) then
         (bif idxOK (wi64 (first + wi64 (wi64 (wi64 (2 * x8) + 1) + 1))) n then
          (bif decide ((0 + (wi64 (first + wi64 (wi64 (wi64 (2 * x8) + 1) + 1))).toNat) < n) then
           so_sift_e0 k j1 n hi first (updRow (0 + (wi64 (first + wi64 (wi64 (wi64 (2 * x8) + 1) + 1))).toNat) 0 ((eI .u64) (w0 (0 + (wi64 (first + x8)).toNat))) (updRow (0 + (wi64 (first + x8)).toNat) 0 ((eI .u64) (w0 (0 + (wi64 (first + wi64 (wi64 (wi64 (2 * x8) + 1) + 1))).toNat))) (rowOf (eI .u64) w0))) (wi64 (wi64 (wi64 (2 * x8) + 1) + 1)) κ
          else none)
         else none)
        else none)
       else none)
      else none)
     else none)
    else none)
   else none)) := by kernel_rfl
theorem so_sift_e0_s (k j1 : Nat) (n : Nat) (hi : Int) (first : Int) (w0 : Nat → Int) (x9 : Int) (κ : AV → Heap → Option ρ) : so_sift_e0 k j1 n hi first (rowOf (eI .u64) w0) x9 κ =
  so_sift_h0 k j1 n hi first x9 (rowOf (eI .u64) w0) κ := by kernel_rfl
theorem so_sift_e (k : Nat) (n : Nat) (w : Nat → Int) (lo : Int) (hi : Int) (first : Int) (κ : AV → Heap → Option ρ) : evalF ctx (k + 1) n_slices_siftDownOrdered_uint64 [.osl 1 0 0 n false, .int .i64 lo, .int .i64 hi, .int .i64 first] [some (.arr 1 n (rowOf (eI .u64) w))] κ =
  so_sift_h0 k k n hi first lo (rowOf (eI .u64) w) κ := by kernel_rfl
noncomputable def so_heap_h0 (k j : Nat) (n : Nat) (a : Int) (b : Int) (x9 : Int) (w0 : Nat → List AV) (κ : AV → Heap → Option ρ) : Option ρ := headAt ctx k n_slices_heapSortOrdered_uint64 1 [.r, .r, .r, .l, .r] j ⟨(envOf 56 [(0, .osl 1 0 0 n false), (6, .int .i64 a), (7, .int .i64 0), (8, .int .i64 (wi64 (b - a))), (9, .int .i64 x9)]), [some (.arr 1 n w0)]⟩ κ
noncomputable def so_heap_h1 (k j : Nat) (n : Nat) (a : Int) (x10 : Int) (w0 : Nat → List AV) (κ : AV → Heap → Option ρ) : Option ρ := headAt ctx k n_slices_heapSortOrdered_uint64 1 [.r, .r, .r, .r, .r] j ⟨(envOf 56 [(0, .osl 1 0 0 n false), (6, .int .i64 a), (7, .int .i64 0), (10, .int .i64 x10)]), [some (.arr 1 n w0)]⟩ κ
noncomputable def so_heap_r0 (k j1 : Nat) (n : Nat) (a : Int) (b : Int) (x9 : Int) (w0 : Nat → Int) (κ : AV → Heap → Option ρ) (v : AV) (W : Heap) : Option ρ := backH [0] [some (.arr 1 n (rowOf (eI .u64) w0))] (fun v H => resAt ctx k n_slices_heapSortOrdered_uint64 1 [.r, .r, .r, .l, .r, .into j1, .r, .l] 4 [] ⟨(envOf 56 [(0, .osl 1 0 0 n false), (6, .int .i64 a), (7, .int .i64 0), (8, .int .i64 (wi64 (b - a))), (9, .int .i64 x9), (18, .int .i64 x9), (19, .bool (decide (0 ≤ x9))), (22, .osl 1 0 0 n false), (23, .int .i64 x9), (24, .int .i64 (wi64 (b - a))), (25, .int .i64 a), (26, v)]), H⟩ κ) v W
noncomputable def so_heap_e0 (k j1 : Nat) (n : Nat) (a : Int) (x10 : Int) (w0 : Nat → List AV) (κ : AV → Heap → Option ρ) : Option ρ := endAt ctx k n_slices_heapSortOrdered_uint64 1 [.r, .r, .r, .r, .r, .into j1, .r, .l, .l] ⟨(envOf 56 [(0, .osl 1 0 0 n false), (6, .int .i64 a), (7, .int .i64 0), (10, .int .i64 x10)]), [some (.arr 1 n w0)]⟩ κ
noncomputable def so_heap_r1 (k j1 : Nat) (n : Nat) (a : Int) (w0 : Nat → Int) (x10 : Int) (κ : AV → Heap → Option ρ) (v : AV) (W : Heap) : Option ρ := backH [0] [some (.arr 1 n (rowOf (eI .u64) w0))] (fun v H => resAt ctx k n_slices_heapSortOrdered_uint64 1 [.r, .r, .r, .r, .r, .into j1, .r, .l, .r] 4 [] ⟨(envOf 56 [(0, .osl 1 0 0 n false), (6, .int .i64 a), (7, .int .i64 0), (10, .int .i64 x10), (51, .osl 1 0 0 n false), (52, .int .i64 0), (53, .int .i64 x10), (54, .int .i64 a), (55, v)]), H⟩ κ) v W
theorem so_heap_h0_s (k j : Nat) (n : Nat) (a : Int) (b : Int) (x9 : Int) (w0 : Nat → Int) (κ : AV → Heap → Option ρ) : so_heap_h0 k (j + 1) n a b x9 (rowOf (eI .u64) w0) κ =
  (bif decide (0 ≤ x9) then
   evalF ctx k n_slices_siftDownOrdered_uint64 [.osl 1 0 0 n false, .int .i64 x9, .int .i64 (wi64 (b - a)), .int .i64 a] [some (.arr 1 n (rowOf (eI .u64) w0))] (so_heap_r0 k j n a b x9 w0 κ)
  else so_heap_h1 k k n a (wi64 (wi64 (b - a) - 1)) (rowOf (eI .u64) w0) κ) := by kernel_rfl
theorem so_heap_h1_s (k j : Nat) (n : Nat) (a : Int) (x10 : Int) (w0 : Nat → Int) (κ : AV → Heap → Option ρ) : so_heap_h1 k (j + 1) n a x10 (rowOf (eI .u64) w0) κ =
  (bif decide (0 ≤ x10) then
   (bif idxOK (wi64 (a + x10)) n then
    (bif decide ((0 + (wi64 (a + x10)).toNat) < n) then
     (bif idxOK a n then
      (bif decide ((0 + (a).toNat) < n) then
       (bif idxOK a n then
        (bif decide ((0 + (a).toNat) < n) then
         (bif idxOK (wi64 (a + x10)) n then
          (bif decide ((0 + (wi64 (a + x10)).toNat) < n) then
           so_heap_e0 k j n a x10 (updRow (0 + (wi64 (a + x10)).toNat) 0 ((eI .u64) (w0 (0 + (a).toNat))) (updRow (0 + (a).toNat) 0 ((eI .u64) (w0 (0 + (wi64 (a + x10)).toNat))) (rowOf (eI .u64) w0))) κ
          else none)
         else none)
        else none)
       else none)
      else none)
     else none)
    else none)
   else none)
  else κ (.tup []) [some (.arr 1 n (rowOf (eI .u64) w0))]) := by kernel_rfl
theorem so_heap_r0_s (k j1 : Nat) (n : Nat) (a : Int) (b : Int) (x9 : Int) (w0 : Nat → Int) (r0w : Nat → Int) (κ : AV → Heap → Option ρ) : so_heap_r0 k j1 n a b x9 w0 κ (.tup []) [some (.arr 1 n (rowOf (eI .u64) r0w))] =
  so_heap_h0 k j1 n a b (wi64 (x9 - 1)) (rowOf (eI .u64) r0w) κ := by kernel_rfl
theorem so_heap_e0_s (k j1 : Nat) (n : Nat) (a : Int) (x10 : Int) (w0 : Nat → Int) (κ : AV → Heap → Option ρ) : so_heap_e0 k j1 n a x10 (rowOf (eI .u64) w0) κ =
  evalF ctx k n_slices_siftDownOrdered_uint64 [.osl 1 0 0 n false, .int .i64 0, .int .i64 x10, .int .i64 a] [some (.arr 1 n (rowOf (eI .u64) w0))] (so_heap_r1 k j1 n a w0 x10 κ) := by kernel_rfl
theorem so_heap_r1_s (k j1 : Nat) (n : Nat) (a : Int) (w0 : Nat → Int) (x10 : Int) (r1w : Nat → Int) (κ : AV → Heap → Option ρ) : so_heap_r1 k j1 n a w0 x10 κ (.tup []) [some (.arr 1 n (rowOf (eI .u64) r1w))] =
  so_heap_h1 k j1 n a (wi64 (x10 - 1)) (rowOf (eI .u64) r1w) κ := by kernel_rfl
theorem so_heap_e (k : Nat) (n : Nat) (w : Nat → Int) (a : Int) (b : Int) (κ : AV → Heap → Option ρ) : evalF ctx (k + 1) n_slices_heapSortOrdered_uint64 [.osl 1 0 0 n false, .int .i64 a, .int .i64 b] [some (.arr 1 n (rowOf (eI .u64) w))] κ =
  so_heap_h0 k k n a b (wi64 ((wi64 (wi64 (b - a) - 1)).tdiv 2)) (rowOf (eI .u64) w) κ := by kernel_rfl
noncomputable def so_rev_h0 (k j : Nat) (n : Nat) (x6 : Int) (x7 : Int) (w0 : Nat → List AV) (κ : AV → Heap → Option ρ) : Option ρ := headAt ctx k n_slices_reverseRangeOrdered_uint64 1 [.r, .r] j ⟨(envOf 32 [(0, .osl 1 0 0 n false), (6, .int .i64 x6), (7, .int .i64 x7)]), [some (.arr 1 n w0)]⟩ κ
noncomputable def so_rev_e0 (k j1 : Nat) (n : Nat) (x6 : Int) (x7 : Int) (w0 : Nat → List AV) (κ : AV → Heap → Option ρ) : Option ρ := endAt ctx k n_slices_reverseRangeOrdered_uint64 1 [.r, .r, .into j1, .r, .l] ⟨(envOf 32 [(0, .osl 1 0 0 n false), (6, .int .i64 x6), (7, .int .i64 x7)]), [some (.arr 1 n w0)]⟩ κ
theorem so_rev_h0_s (k j : Nat) (n : Nat) (x6 : Int) (x7 : Int) (w0 : Nat → Int) (κ : AV → Heap → Option ρ) : so_rev_h0 k (j + 1) n x6 x7 (rowOf (eI .u64) w0) κ =
  (bif decide (x6 < x7) then
   (bif idxOK x7 n then
    (bif decide ((0 + (x7).toNat) < n) then
     (bif idxOK x6 n then
      (bif decide ((0 + (x6).toNat) < n) then
       (bif idxOK x6 n then
        (bif decide ((0 + (x6).toNat) < n) then
         (bif idxOK x7 n then
          (bif decide ((0 + (x7).toNat) < n) then
           so_rev_e0 k j n x6 x7 (updRow (0 + (x7).toNat) 0 ((eI .u64) (w0 (0 + (x6).toNat))) (updRow (0 + (x6).toNat) 0 ((eI .u64) (w0 (0 + (x7).toNat))) (rowOf (eI .u64) w0))) κ
          else none)
         else none)
        else none)
       else none)
      else none)
     else none)
    else none)
   else none)
  else κ (.tup []) [some (.arr 1 n (rowOf (eI .u64) w0))]) := by kernel_rfl
theorem so_rev_e0_s (k j1 : Nat) (n : Nat) (x6 : Int) (x7 : Int) (w0 : Nat → Int) (κ : AV → Heap → Option ρ) : so_rev_e0 k j1 n x6 x7 (rowOf (eI .u64) w0) κ =
  so_rev_h0 k j1 n (wi64 (x6 + 1)) (wi64 (x7 - 1)) (rowOf (eI .u64) w0) κ := by kernel_rfl
theorem so_rev_e (k : Nat) (n : Nat) (w : Nat → Int) (a : Int) (b : Int) (κ : AV → Heap → Option ρ) : evalF ctx (k + 1) n_slices_reverseRangeOrdered_uint64 [.osl 1 0 0 n false, .int .i64 a, .int .i64 b] [some (.arr 1 n (rowOf (eI .u64) w))] κ =
  so_rev_h0 k k n a (wi64 (b - 1)) (rowOf (eI .u64) w) κ := by kernel_rfl
end Go.Proofs.YticcbbcgboddpaaC

set_option linter.unusedVariables false
set_option linter.unusedSimpArgs false
set_option maxRecDepth 20000
namespace Go.Proofs.YticcbbcgboddpaaC
open Go Go.Ev Go.Proofs
variable {ρ : Type}
def ltI (x y : Int) : Bool := decide (x < y)
theorem swo_ltI : Sort.SWO ltI where
  irrefl x := by simp [ltI]
  trans x y z h1 h2 := by simp only [ltI, decide_eq_true_eq] at *; omega
  ntrans x y z h1 h2 := by simp only [ltI, decide_eq_false_iff_not] at *; omega
def dA (d : Array Int) : Nat → Int := fun i => d[i]!
theorem upd_dA (d : Array Int) (i : Nat) (x : Int) (h : i < d.size) : updRow i 0 (eI .u64 x) (rowOf (eI .u64) (dA d)) = rowOf (eI .u64) (dA (d.setIfInBounds i x)) := by
  rw [upd_row (eI .u64) i 0 (eI .u64 x) (dA d) x rfl]
  refine row_ext _ ?_
  funext j
  unfold dA
  by_cases hj : j = i
  · subst hj
    rw [if_pos rfl, getElem!_pos (d.setIfInBounds j x) j (by rw [Array.size_setIfInBounds]; exact h)]
    simp
  · rw [if_neg hj]
    by_cases hl : j < d.size
    · rw [getElem!_pos d j hl, getElem!_pos (d.setIfInBounds i x) j (by rw [Array.size_setIfInBounds]; exact hl), Array.getElem_setIfInBounds, if_neg (Ne.symm hj)]
    · rw [getElem!_neg d j hl, getElem!_neg (d.setIfInBounds i x) j (by rw [Array.size_setIfInBounds]; exact hl)]
theorem swp_row (d : Array Int) (i j : Nat) (hi : i < d.size) (hj : j < d.size) : updRow j 0 (eI .u64 (dA d i)) (updRow i 0 (eI .u64 (dA d j)) (rowOf (eI .u64) (dA d))) = rowOf (eI .u64) (dA (Sort.swp d i j)) := by
  rw [upd_dA d i _ hi, upd_dA _ j _ (by rw [Array.size_setIfInBounds]; exact hj)]
  rfl
theorem Less_ok (k : Nat) (x y : Int) (hk : 2 ≤ k) (κ : AV → Option ρ) : callP ctx k n_cmp_Less_uint64 [.int .u64 x, .int .u64 y] κ = κ (.bool (ltI x y)) := by
  obtain ⟨k, rfl⟩ : ∃ k', k = k' + 2 := ⟨k - 2, by omega⟩
  rw [callP_eq, cmp_Less_uint64_e, dec_int, dec_int]
  rfl
theorem wi_pred (j : Nat) (h : j ≤ 4611686018427387904) : wi64 (((j + 1 : Nat) : Int) - 1) = (j : Int) := by rw [wi64_in (by omega) (by omega)]; omega
theorem wi_succ (j : Nat) (h : j ≤ 4611686018427387904) : wi64 ((j : Int) + 1) = ((j + 1 : Nat) : Int) := by rw [wi64_in (by omega) (by omega)]; omega
/-! ### insertion sort -/
theorem so_ins_in (k n a i : Nat) (b : Int) (hn : n ≤ 4611686018427387904) (hk : 2 ≤ k) (κ : AV → Heap → Option ρ) : ∀ (jj j j1 : Nat) (d : Array Int), d.size = n → jj < n → jj < j →
    so_ins_h1 k j1 j n (a : Int) b (jj : Int) (rowOf (eI .u64) (dA d)) (i : Int) κ = so_ins_h0 k j1 n (a : Int) b (wi64 ((i : Int) + 1)) (rowOf (eI .u64) (dA (Sort.insInner ltI a jj d))) κ
  | 0, j + 1, j1, d, hd, h1, h2 => by
    rw [so_ins_h1_s, dec_f (by omega), cond_false]; rfl
  | jj + 1, j + 1, j1, d, hd, h1, h2 => by
    rw [so_ins_h1_s, wi_pred jj (by omega), Sort.insInner]
    simp only [Int.toNat_natCast, Nat.zero_add]
    by_cases h : a < jj + 1
    · have e : (decide (jj + 1 > a) && ltI d[jj + 1]! d[jj]!) = ltI (dA d (jj + 1)) (dA d jj) := by rw [decide_eq_true (show jj + 1 > a from h), Bool.true_and]; rfl
      rw [e, dec_t (by omega), cond_true]
      simp (disch := omega) only [idx_ok, dec_t, cond_true]
      rw [Less_ok k _ _ hk, so_ins_r0_s, wi_pred jj (by omega)]
      simp only [Int.toNat_natCast, Nat.zero_add]
      cases ltI (dA d (jj + 1)) (dA d jj) with
      | false => rfl
      | true =>
        rw [cond_true, if_pos rfl]
        simp (disch := omega) only [idx_ok, dec_t, cond_true]
        rw [swp_row d (jj + 1) jj (by omega) (by omega), so_ins_e0_s, wi_pred jj (by omega)]
        exact so_ins_in k n a i b hn hk κ jj j j1 (Sort.swp d (jj + 1) jj) (by rw [Sort.size_swp, hd]) (by omega) (by omega)
    · rw [dec_f (by omega), cond_false, decide_eq_false (by omega), Bool.false_and]
      rfl
theorem insInner_size (a : Nat) : ∀ (j : Nat) (d : Array Int), (Sort.insInner ltI a j d).size = d.size
  | 0, d => rfl
  | j + 1, d => by
    rw [Sort.insInner]
    split
    · rw [insInner_size a j, Sort.size_swp]
    · rfl
theorem so_ins_out (k n a b : Nat) (hn : n ≤ 4611686018427387904) (hb : b ≤ n) (hk : n + 2 ≤ k) (κ : AV → Heap → Option ρ) : ∀ (j i : Nat) (d : Array Int), d.size = n → i ≤ n + 1 → b < i + j → 0 < j →
    so_ins_h0 k j n (a : Int) (b : Int) (i : Int) (rowOf (eI .u64) (dA d)) κ = κ (.tup []) [some (.arr 1 n (rowOf (eI .u64) (dA (Sort.insOuter ltI a b i d))))]
  | 0, i, d, hd, h0, h1, h2 => by omega
  | j + 1, i, d, hd, h0, h1, h2 => by
    rw [so_ins_h0_s, Sort.insOuter]
    by_cases h : i < b
    · rw [dec_t (by omega), cond_true, if_pos h, so_ins_in k n a i b hn (by omega) κ i k j d hd (by omega) (by omega), wi_succ i (by omega)]
      exact so_ins_out k n a b hn hb hk κ j (i + 1) _ (by rw [insInner_size, hd]) (by omega) (by omega) (by omega)
    · rw [dec_f (by omega), cond_false, if_neg h]
theorem so_ins_ok (k n a b : Nat) (d : Array Int) (hd : d.size = n) (hn : n ≤ 1000000000) (ha : a ≤ n) (hb : b ≤ n) (hk : n + 5 ≤ k) (κ : AV → Heap → Option ρ) :
    evalF ctx k n_slices_insertionSortOrdered_uint64 [.osl 1 0 0 n false, .int .i64 (a : Int), .int .i64 (b : Int)] [some (.arr 1 n (rowOf (eI .u64) (dA d)))] κ = κ (.tup []) [some (.arr 1 n (rowOf (eI .u64) (dA (Sort.insertionSort ltI d a b))))] := by
  obtain ⟨k, rfl⟩ : ∃ k', k = k' + 1 := ⟨k - 1, by omega⟩
  rw [so_ins_e, wi_succ a (by omega), so_ins_out k n a b (by omega) hb (by omega) κ k (a + 1) d hd (by omega) (by omega) (by omega)]
  rfl
/-! ### the heap -/
theorem siftDown_size (hi first : Nat) : ∀ (m root : Nat) (d : Array Int), hi - root ≤ m → (Sort.siftDown ltI hi first root d).size = d.size
  | 0, root, d, h => by rw [Sort.siftDown, dif_pos (by omega)]
  | m + 1, root, d, h => by
    rw [Sort.siftDown]
    split
    · rfl
    · split
      · split
        · rfl
        · split
          · rw [siftDown_size hi first m _ _ (by omega), Sort.size_swp]
          · rfl
      · split
        · rfl
        · rw [siftDown_size hi first m _ _ (by omega), Sort.size_swp]
theorem so_sift_lp (k n hi first : Nat) (hn : n ≤ 1000000000) (hf : first + hi ≤ n) (hk : 2 ≤ k) (κ : AV → Heap → Option ρ) : ∀ (m j root : Nat) (d : Array Int), hi - root ≤ m → m < j → d.size = n → root ≤ n →
    so_sift_h0 k j n (hi : Int) (first : Int) (root : Int) (rowOf (eI .u64) (dA d)) κ = κ (.tup []) [some (.arr 1 n (rowOf (eI .u64) (dA (Sort.siftDown ltI hi first root d))))] := by
  intro m
  induction m with
  | zero =>
    intro j root d h1 h2 hd hr
    obtain ⟨j, rfl⟩ : ∃ j', j = j' + 1 := ⟨j - 1, by omega⟩
    have e1 : wi64 (wi64 (2 * (root : Int)) + 1) = ((2 * root + 1 : Nat) : Int) := by rw [wi64_in (n := 2 * (root : Int)) (by omega) (by omega), wi64_in (by omega) (by omega)]; omega
    rw [so_sift_h0_s, e1, dec_t (by omega), cond_true, Sort.siftDown, dif_pos (by omega)]
  | succ m ih =>
    intro j root d h1 h2 hd hr
    obtain ⟨j, rfl⟩ : ∃ j', j = j' + 1 := ⟨j - 1, by omega⟩
    have e1 : wi64 (wi64 (2 * (root : Int)) + 1) = ((2 * root + 1 : Nat) : Int) := by rw [wi64_in (n := 2 * (root : Int)) (by omega) (by omega), wi64_in (by omega) (by omega)]; omega
    rw [so_sift_h0_s, e1, Sort.siftDown]
    by_cases h : 2 * root + 1 ≥ hi
    · rw [dec_t (by omega), cond_true, dif_pos h]
    · have e2 : wi64 (((2 * root + 1 : Nat) : Int) + 1) = ((2 * root + 2 : Nat) : Int) := by rw [wi64_in (by omega) (by omega)]; omega
      have e3 : wi64 ((first : Int) + ((2 * root + 1 : Nat) : Int)) = ((first + (2 * root + 1) : Nat) : Int) := by rw [wi64_in (by omega) (by omega)]; omega
      have e4 : wi64 (((first + (2 * root + 1) : Nat) : Int) + 1) = ((first + (2 * root + 1) + 1 : Nat) : Int) := by rw [wi64_in (by omega) (by omega)]; omega
      have e5 : wi64 ((first : Int) + (root : Int)) = ((first + root : Nat) : Int) := by rw [wi64_in (by omega) (by omega)]; omega
      have e6 : wi64 ((first : Int) + ((2 * root + 2 : Nat) : Int)) = ((first + (2 * root + 2) : Nat) : Int) := by rw [wi64_in (by omega) (by omega)]; omega
      rw [dec_f (by omega), cond_false, dif_neg h, e2, e3, e4, e5]
      simp only [Int.toNat_natCast, Nat.zero_add]
      -- the left child
      have hL : ∀ x, so_sift_r1 k j n (hi : Int) (first : Int) (dA d) (root : Int) x κ (.bool (ltI (dA d (first + root)) (dA d (first + (2 * root + 1))))) =
          κ (.tup []) [some (.arr 1 n (rowOf (eI .u64) (dA (if !ltI d[first + root]! d[first + (2 * root + 1)]! then d else Sort.siftDown ltI hi first (2 * root + 1) (Sort.swp d (first + root) (first + (2 * root + 1)))))))] := by
        intro x
        rw [so_sift_r1_s, e1, e3, e5]
        simp only [Int.toNat_natCast, Nat.zero_add]
        have e : ltI d[first + root]! d[first + (2 * root + 1)]! = ltI (dA d (first + root)) (dA d (first + (2 * root + 1))) := rfl
        rw [e]
        cases ltI (dA d (first + root)) (dA d (first + (2 * root + 1))) with
        | false => rfl
        | true =>
          rw [Bool.not_true, cond_false, if_neg (by simp)]
          simp (disch := omega) only [idx_ok, dec_t, cond_true]
          rw [swp_row d (first + root) (first + (2 * root + 1)) (by omega) (by omega), so_sift_e0_s]
          exact ih j (2 * root + 1) _ (by omega) (by omega) (by rw [Sort.size_swp, hd]) (by omega)
      by_cases h2 : 2 * root + 2 < hi
      · have e : (decide (2 * root + 1 + 1 < hi) && ltI d[first + (2 * root + 1)]! d[first + (2 * root + 1) + 1]!) = ltI (dA d (first + (2 * root + 1))) (dA d (first + (2 * root + 1) + 1)) := by rw [decide_eq_true (show 2 * root + 1 + 1 < hi from h2), Bool.true_and]; rfl
        rw [e, dec_t (by omega), cond_true]
        simp (disch := omega) only [idx_ok, dec_t, cond_true]
        rw [Less_ok k _ _ hk, so_sift_r0_s, e1, e2, e3, e5, e6]
        simp only [Int.toNat_natCast, Nat.zero_add]
        cases ltI (dA d (first + (2 * root + 1))) (dA d (first + (2 * root + 1) + 1)) with
        | false =>
          rw [cond_false, if_neg (by simp)]
          simp (disch := omega) only [idx_ok, dec_t, cond_true]
          rw [Less_ok k _ _ hk]
          exact hL false
        | true =>
          rw [cond_true, if_pos rfl]
          simp (disch := omega) only [idx_ok, dec_t, cond_true]
          rw [Less_ok k _ _ hk, so_sift_r2_s, e1, e2, e5, e6]
          simp only [Int.toNat_natCast, Nat.zero_add]
          have e : ltI d[first + root]! d[first + (2 * root + 2)]! = ltI (dA d (first + root)) (dA d (first + (2 * root + 2))) := rfl
          rw [e]
          cases ltI (dA d (first + root)) (dA d (first + (2 * root + 2))) with
          | false => rfl
          | true =>
            rw [Bool.not_true, cond_false, if_neg (by simp), dif_pos h2]
            simp (disch := omega) only [idx_ok, dec_t, cond_true]
            rw [swp_row d (first + root) (first + (2 * root + 2)) (by omega) (by omega), so_sift_e0_s]
            exact ih j (2 * root + 2) _ (by omega) (by omega) (by rw [Sort.size_swp, hd]) (by omega)
      · have e : (decide (2 * root + 1 + 1 < hi) && ltI d[first + (2 * root + 1)]! d[first + (2 * root + 1) + 1]!) = false := by rw [decide_eq_false (show ¬ 2 * root + 1 + 1 < hi from h2), Bool.false_and]
        rw [dec_f (by omega), cond_false, e, if_neg (by simp)]
        simp (disch := omega) only [idx_ok, dec_t, cond_true]
        rw [Less_ok k _ _ hk]
        exact hL false
theorem so_sift_ok (k n lo hi first : Nat) (d : Array Int) (hd : d.size = n) (hn : n ≤ 1000000000) (hf : first + hi ≤ n) (hl : lo ≤ n) (hk : n + 5 ≤ k) (κ : AV → Heap → Option ρ) :
    evalF ctx k n_slices_siftDownOrdered_uint64 [.osl 1 0 0 n false, .int .i64 (lo : Int), .int .i64 (hi : Int), .int .i64 (first : Int)] [some (.arr 1 n (rowOf (eI .u64) (dA d)))] κ = κ (.tup []) [some (.arr 1 n (rowOf (eI .u64) (dA (Sort.siftDown ltI hi first lo d))))] := by
  obtain ⟨k, rfl⟩ : ∃ k', k = k' + 1 := ⟨k - 1, by omega⟩
  rw [so_sift_e]
  exact so_sift_lp k n hi first hn hf (by omega) κ hi k lo d (by omega) (by omega) hd hl
theorem heapBuild_size (hi a : Nat) : ∀ (k : Nat) (d : Array Int), (Sort.heapBuild ltI hi a k d).size = d.size
  | 0, d => rfl
  | k + 1, d => by rw [Sort.heapBuild, heapBuild_size hi a k, siftDown_size hi a (hi - k) k d (Nat.le_refl _)]
theorem so_heap_b (k n a b : Nat) (hn : n ≤ 1000000000) (hab : a ≤ b) (hb : b ≤ n) (hk : n + 8 ≤ k) (κ : AV → Heap → Option ρ) : ∀ (kk j : Nat) (d : Array Int), kk ≤ n + 1 → kk < j → d.size = n →
    so_heap_h0 k j n (a : Int) (b : Int) ((kk : Int) - 1) (rowOf (eI .u64) (dA d)) κ = so_heap_h1 k k n (a : Int) (wi64 (wi64 ((b : Int) - (a : Int)) - 1)) (rowOf (eI .u64) (dA (Sort.heapBuild ltI (b - a) a kk d))) κ
  | 0, j, d, h1, h2, hd => by
    obtain ⟨j, rfl⟩ : ∃ j', j = j' + 1 := ⟨j - 1, by omega⟩
    rw [so_heap_h0_s, dec_f (by omega), cond_false]; rfl
  | kk + 1, j, d, h1, h2, hd => by
    obtain ⟨j, rfl⟩ : ∃ j', j = j' + 1 := ⟨j - 1, by omega⟩
    have e1 : ((kk + 1 : Nat) : Int) - 1 = (kk : Int) := by omega
    have e2 : wi64 ((b : Int) - (a : Int)) = ((b - a : Nat) : Int) := by rw [wi64_in (by omega) (by omega)]; omega
    have e3 : wi64 ((kk : Int) - 1) = (kk : Int) - 1 := wi64_in (by omega) (by omega)
    rw [so_heap_h0_s, e1, dec_t (by omega), cond_true, e2, so_sift_ok k n kk (b - a) a d hd hn (by omega) (by omega) (by omega), so_heap_r0_s, e3,
      so_heap_b k n a b hn hab hb hk κ kk j _ (by omega) (by omega) (by rw [siftDown_size (b - a) a (b - a - kk) kk d (Nat.le_refl _), hd]), e2]
    rfl
theorem so_heap_p (k n a : Nat) (hn : n ≤ 1000000000) (hk : n + 8 ≤ k) (κ : AV → Heap → Option ρ) : ∀ (kk j : Nat) (d : Array Int), a + kk ≤ n → kk < j → d.size = n →
    so_heap_h1 k j n (a : Int) ((kk : Int) - 1) (rowOf (eI .u64) (dA d)) κ = κ (.tup []) [some (.arr 1 n (rowOf (eI .u64) (dA (Sort.heapPop ltI a kk d))))]
  | 0, j, d, h1, h2, hd => by
    obtain ⟨j, rfl⟩ : ∃ j', j = j' + 1 := ⟨j - 1, by omega⟩
    rw [so_heap_h1_s, dec_f (by omega), cond_false]; rfl
  | kk + 1, j, d, h1, h2, hd => by
    obtain ⟨j, rfl⟩ : ∃ j', j = j' + 1 := ⟨j - 1, by omega⟩
    have e1 : ((kk + 1 : Nat) : Int) - 1 = (kk : Int) := by omega
    have e2 : wi64 ((a : Int) + (kk : Int)) = ((a + kk : Nat) : Int) := by rw [wi64_in (by omega) (by omega)]; omega
    have e3 : wi64 ((kk : Int) - 1) = (kk : Int) - 1 := wi64_in (by omega) (by omega)
    rw [so_heap_h1_s, e1, e2]
    simp only [Int.toNat_natCast, Nat.zero_add]
    simp (disch := omega) only [idx_ok, dec_t, cond_true]
    rw [swp_row d a (a + kk) (by omega) (by omega), so_heap_e0_s]
    have := so_sift_ok k n 0 kk a (Sort.swp d a (a + kk)) (by rw [Sort.size_swp, hd]) hn (by omega) (by omega) (by omega) (so_heap_r1 k j n (a : Int) (dA (Sort.swp d a (a + kk))) (kk : Int) κ)
    refine this.trans ?_
    rw [so_heap_r1_s, e3, so_heap_p k n a hn hk κ kk j _ (by omega) (by omega) (by rw [siftDown_size kk a kk 0 _ (by omega), Sort.size_swp, hd])]
    rfl
theorem so_heap_ok (k n a b : Nat) (d : Array Int) (hd : d.size = n) (hn : n ≤ 1000000000) (hab : a ≤ b) (hb : b ≤ n) (hk : n + 12 ≤ k) (κ : AV → Heap → Option ρ) :
    evalF ctx k n_slices_heapSortOrdered_uint64 [.osl 1 0 0 n false, .int .i64 (a : Int), .int .i64 (b : Int)] [some (.arr 1 n (rowOf (eI .u64) (dA d)))] κ = κ (.tup []) [some (.arr 1 n (rowOf (eI .u64) (dA (Sort.heapSort ltI d a b))))] := by
  obtain ⟨k, rfl⟩ : ∃ k', k = k' + 1 := ⟨k - 1, by omega⟩
  have e2 : wi64 ((b : Int) - (a : Int)) = ((b - a : Nat) : Int) := by rw [wi64_in (by omega) (by omega)]; omega
  have e3 : wi64 (((b - a : Nat) : Int) - 1) = ((b - a : Nat) : Int) - 1 := wi64_in (by omega) (by omega)
  have e4 : wi64 ((((b - a : Nat) : Int) - 1).tdiv 2) = (((b - a - 1) / 2 + 1 : Nat) : Int) - 1 := by
    have : (((b - a : Nat) : Int) - 1).tdiv 2 = (((b - a - 1) / 2 : Nat) : Int) := by
      rcases Nat.eq_zero_or_pos (b - a) with h | h
      · rw [h]; rfl
      · rw [show ((b - a : Nat) : Int) - 1 = ((b - a - 1 : Nat) : Int) by omega, Int.tdiv_eq_ediv_of_nonneg (by omega)]; omega
    rw [this, wi64_in (by omega) (by omega)]; omega
  rw [so_heap_e, e2, e3, e4, so_heap_b k n a b hn hab hb (by omega) κ _ k d (by omega) (by omega) hd, e2, e3,
    so_heap_p k n a hn (by omega) κ (b - a) k _ (by omega) (by omega) (by rw [heapBuild_size, hd])]
  rfl
/-! ### turned round -/
theorem so_rev_lp (k n : Nat) (hn : n ≤ 1000000000) (κ : AV → Heap → Option ρ) : ∀ (m jf i j : Nat) (d : Array Int), j - i ≤ m → m < jf → j < n → i ≤ n → d.size = n →
    so_rev_h0 k jf n (i : Int) (j : Int) (rowOf (eI .u64) (dA d)) κ = κ (.tup []) [some (.arr 1 n (rowOf (eI .u64) (dA (Sort.reverseLoop i j d))))] := by
  intro m
  induction m with
  | zero =>
    intro jf i j d h1 h2 h3 h4 hd
    obtain ⟨jf, rfl⟩ : ∃ j', jf = j' + 1 := ⟨jf - 1, by omega⟩
    rw [so_rev_h0_s, dec_f (by omega), cond_false, Sort.reverseLoop, if_neg (by omega)]
  | succ m ih =>
    intro jf i j d h1 h2 h3 h4 hd
    obtain ⟨jf, rfl⟩ : ∃ j', jf = j' + 1 := ⟨jf - 1, by omega⟩
    rw [so_rev_h0_s, Sort.reverseLoop]
    by_cases h : i < j
    · rw [dec_t (show (i : Int) < (j : Int) by omega), cond_true, if_pos h]
      simp only [Int.toNat_natCast, Nat.zero_add]
      simp (disch := omega) only [idx_ok, dec_t, cond_true]
      rw [swp_row d i j (by omega) (by omega), so_rev_e0_s, wi_succ i (by omega), show (j : Int) = ((j - 1 + 1 : Nat) : Int) by omega, wi_pred (j - 1) (by omega)]
      exact ih jf (i + 1) (j - 1) _ (by omega) (by omega) (by omega) (by omega) (by rw [Sort.size_swp, hd])
    · rw [dec_f (by omega), cond_false, if_neg h]
theorem so_rev_ok (k n a b : Nat) (d : Array Int) (hd : d.size = n) (hn : n ≤ 1000000000) (hab : a < b) (hb : b ≤ n) (hk : n + 12 ≤ k) (κ : AV → Heap → Option ρ) :
    evalF ctx k n_slices_reverseRangeOrdered_uint64 [.osl 1 0 0 n false, .int .i64 (a : Int), .int .i64 (b : Int)] [some (.arr 1 n (rowOf (eI .u64) (dA d)))] κ = κ (.tup []) [some (.arr 1 n (rowOf (eI .u64) (dA (Sort.reverseRange d a b))))] := by
  obtain ⟨k, rfl⟩ : ∃ k', k = k' + 1 := ⟨k - 1, by omega⟩
  rw [so_rev_e, show (b : Int) = ((b - 1 + 1 : Nat) : Int) by omega, wi_pred (b - 1) (by omega)]
  exact so_rev_lp k n hn κ (b - 1 - a) k a (b - 1) d (by omega) (by omega) (by omega) (by omega) hd
end Go.Proofs.YticcbbcgboddpaaC
