/- What functions come to from one cut to the next. No conditions. -/
import Derived.Test.YticcbbcgboddpaaBLocksAsks3
import Derived.KernelRfl
set_option linter.unusedVariables false
set_option maxRecDepth 20000
namespace Go.Proofs.YticcbbcgboddpaaC
open Go Go.Ev Go.Proofs
variable {ρ : Type}
noncomputable def so_part_h0 (k j : Nat) (n : Nat) (a : Int) (b : Int) (w0 : Nat → Int) (x10 : Int) (κ : AV → Heap → Option ρ) : Option ρ := headAt ctx k n_slices_partitionOrdered_uint64 1 [.r, .r, .r, .l] j ⟨(envOf 168 [(0, .osl 1 0 0 n false), (1, .int .i64 a), (10, .int .i64 x10), (11, .int .i64 (wi64 (b - 1)))]), [some (.arr 1 n (rowOf (eI .u64) w0))]⟩ κ
noncomputable def so_part_h1 (k j : Nat) (n : Nat) (a : Int) (w0 : Nat → Int) (x11 : Int) (x10 : Int) (κ : AV → Heap → Option ρ) : Option ρ := headAt ctx k n_slices_partitionOrdered_uint64 1 [.r, .r, .r, .r, .l] j ⟨(envOf 168 [(0, .osl 1 0 0 n false), (1, .int .i64 a), (10, .int .i64 x10), (11, .int .i64 x11)]), [some (.arr 1 n (rowOf (eI .u64) w0))]⟩ κ
noncomputable def so_part_h2 (k j : Nat) (n : Nat) (a : Int) (w0 : Nat → Int) (x10 : Int) (x11 : Int) (κ : AV → Heap → Option ρ) : Option ρ := headAt ctx k n_slices_partitionOrdered_uint64 1 [.r, .r, .r, .r, .r, .r, .r, .r, .r, .l] j ⟨(envOf 168 [(0, .osl 1 0 0 n false), (1, .int .i64 a), (10, .int .i64 x10), (11, .int .i64 x11)]), [some (.arr 1 n (rowOf (eI .u64) w0))]⟩ κ
noncomputable def so_part_h3 (k j1 j : Nat) (n : Nat) (a : Int) (w0 : Nat → Int) (x10 : Int) (x11 : Int) (κ : AV → Heap → Option ρ) : Option ρ := headAt ctx k n_slices_partitionOrdered_uint64 1 [.r, .r, .r, .r, .r, .r, .r, .r, .r, .l, .into j1, .l] j ⟨(envOf 168 [(0, .osl 1 0 0 n false), (1, .int .i64 a), (10, .int .i64 x10), (11, .int .i64 x11)]), [some (.arr 1 n (rowOf (eI .u64) w0))]⟩ κ
noncomputable def so_part_h4 (k j1 j : Nat) (n : Nat) (a : Int) (w0 : Nat → Int) (x11 : Int) (x10 : Int) (κ : AV → Heap → Option ρ) : Option ρ := headAt ctx k n_slices_partitionOrdered_uint64 1 [.r, .r, .r, .r, .r, .r, .r, .r, .r, .l, .into j1, .r, .l] j ⟨(envOf 168 [(0, .osl 1 0 0 n false), (1, .int .i64 a), (10, .int .i64 x10), (11, .int .i64 x11)]), [some (.arr 1 n (rowOf (eI .u64) w0))]⟩ κ
noncomputable def so_part_e0 (k : Nat) (n : Nat) (a : Int) (b : Int) (w0 : Nat → List AV) (κ : AV → Heap → Option ρ) : Option ρ := endAt ctx k n_slices_partitionOrdered_uint64 1 [.r, .l] ⟨(envOf 168 [(0, .osl 1 0 0 n false), (1, .int .i64 a), (2, .int .i64 b)]), [some (.arr 1 n w0)]⟩ κ
noncomputable def so_part_r0 (k j1 : Nat) (n : Nat) (a : Int) (b : Int) (w0 : Nat → Int) (x10 : Int) (κ : AV → Heap → Option ρ) (v : AV) : Option ρ := resAt ctx k n_slices_partitionOrdered_uint64 1 [.r, .r, .r, .l, .into j1, .l, .l] 12 [(33, true)] ⟨(envOf 168 [(0, .osl 1 0 0 n false), (1, .int .i64 a), (10, .int .i64 x10), (11, .int .i64 (wi64 (b - 1))), (30, .int .i64 x10), (31, .int .i64 (wi64 (b - 1))), (32, .bool (decide (x10 ≤ wi64 (b - 1)))), (33, .bool (decide (x10 ≤ wi64 (b - 1)))), (34, .osl 1 0 0 n false), (35, .int .i64 x10), (36, .eref 0 (0 + (x10).toNat) 0), (37, .int .u64 (w0 (0 + (x10).toNat))), (38, .osl 1 0 0 n false), (39, .int .i64 a), (40, .eref 0 (0 + (a).toNat) 0), (41, .int .u64 (w0 (0 + (a).toNat))), (42, v)]), [some (.arr 1 n (rowOf (eI .u64) w0))]⟩ κ
noncomputable def so_part_r1 (k j1 : Nat) (n : Nat) (a : Int) (w0 : Nat → Int) (x10 : Int) (x11 : Int) (κ : AV → Heap → Option ρ) (v : AV) : Option ρ := resAt ctx k n_slices_partitionOrdered_uint64 1 [.r, .r, .r, .r, .l, .into j1, .l, .l] 12 [(49, true)] ⟨(envOf 168 [(0, .osl 1 0 0 n false), (1, .int .i64 a), (10, .int .i64 x10), (11, .int .i64 x11), (46, .int .i64 x10), (47, .int .i64 x11), (48, .bool (decide (x10 ≤ x11))), (49, .bool (decide (x10 ≤ x11))), (50, .osl 1 0 0 n false), (51, .int .i64 x11), (52, .eref 0 (0 + (x11).toNat) 0), (53, .int .u64 (w0 (0 + (x11).toNat))), (54, .osl 1 0 0 n false), (55, .int .i64 a), (56, .eref 0 (0 + (a).toNat) 0), (57, .int .u64 (w0 (0 + (a).toNat))), (58, v)]), [some (.arr 1 n (rowOf (eI .u64) w0))]⟩ κ
noncomputable def so_part_e1 (k : Nat) (n : Nat) (a : Int) (w0 : Nat → Int) (x10 : Int) (x11 : Int) (κ : AV → Heap → Option ρ) : Option ρ := endAt ctx k n_slices_partitionOrdered_uint64 1 [.r, .r, .r, .r, .r, .l, .l] ⟨(envOf 168 [(0, .osl 1 0 0 n false), (1, .int .i64 a), (10, .int .i64 x10), (11, .int .i64 x11), (65, .bool (decide (x11 < x10)))]), [some (.arr 1 n (rowOf (eI .u64) w0))]⟩ κ
noncomputable def so_part_r2 (k j1 j2 : Nat) (n : Nat) (a : Int) (w0 : Nat → Int) (x10 : Int) (x11 : Int) (κ : AV → Heap → Option ρ) (v : AV) : Option ρ := resAt ctx k n_slices_partitionOrdered_uint64 1 [.r, .r, .r, .r, .r, .r, .r, .r, .r, .l, .into j1, .l, .into j2, .l, .l] 12 [(102, true)] ⟨(envOf 168 [(0, .osl 1 0 0 n false), (1, .int .i64 a), (10, .int .i64 x10), (11, .int .i64 x11), (99, .int .i64 x10), (100, .int .i64 x11), (101, .bool (decide (x10 ≤ x11))), (102, .bool (decide (x10 ≤ x11))), (103, .osl 1 0 0 n false), (104, .int .i64 x10), (105, .eref 0 (0 + (x10).toNat) 0), (106, .int .u64 (w0 (0 + (x10).toNat))), (107, .osl 1 0 0 n false), (108, .int .i64 a), (109, .eref 0 (0 + (a).toNat) 0), (110, .int .u64 (w0 (0 + (a).toNat))), (111, v)]), [some (.arr 1 n (rowOf (eI .u64) w0))]⟩ κ
noncomputable def so_part_r3 (k j1 j2 : Nat) (n : Nat) (a : Int) (w0 : Nat → Int) (x10 : Int) (x11 : Int) (κ : AV → Heap → Option ρ) (v : AV) : Option ρ := resAt ctx k n_slices_partitionOrdered_uint64 1 [.r, .r, .r, .r, .r, .r, .r, .r, .r, .l, .into j1, .r, .l, .into j2, .l, .l] 12 [(118, true)] ⟨(envOf 168 [(0, .osl 1 0 0 n false), (1, .int .i64 a), (10, .int .i64 x10), (11, .int .i64 x11), (115, .int .i64 x10), (116, .int .i64 x11), (117, .bool (decide (x10 ≤ x11))), (118, .bool (decide (x10 ≤ x11))), (119, .osl 1 0 0 n false), (120, .int .i64 x11), (121, .eref 0 (0 + (x11).toNat) 0), (122, .int .u64 (w0 (0 + (x11).toNat))), (123, .osl 1 0 0 n false), (124, .int .i64 a), (125, .eref 0 (0 + (a).toNat) 0), (126, .int .u64 (w0 (0 + (a).toNat))), (127, v)]), [some (.arr 1 n (rowOf (eI .u64) w0))]⟩ κ
noncomputable def so_part_e2 (k j1 : Nat) (n : Nat) (a : Int) (w0 : Nat → Int) (x10 : Int) (x11 : Int) (κ : AV → Heap → Option ρ) : Option ρ := endAt ctx k n_slices_partitionOrdered_uint64 1 [.r, .r, .r, .r, .r, .r, .r, .r, .r, .l, .into j1, .r, .r, .l, .l] ⟨(envOf 168 [(0, .osl 1 0 0 n false), (1, .int .i64 a), (10, .int .i64 x10), (11, .int .i64 x11), (134, .bool (decide (x11 < x10)))]), [some (.arr 1 n (rowOf (eI .u64) w0))]⟩ κ
noncomputable def so_part_e3 (k : Nat) (n : Nat) (x11 : Int) (w0 : Nat → List AV) (κ : AV → Heap → Option ρ) : Option ρ := endAt ctx k n_slices_partitionOrdered_uint64 1 [.r, .r, .r, .r, .r, .l, .r, .l, .l] ⟨(envOf 168 [(11, .int .i64 x11)]), [some (.arr 1 n w0)]⟩ κ
noncomputable def so_part_e4 (k : Nat) (n : Nat) (a : Int) (x10 : Int) (x11 : Int) (w0 : Nat → List AV) (κ : AV → Heap → Option ρ) : Option ρ := endAt ctx k n_slices_partitionOrdered_uint64 1 [.r, .r, .r, .r, .r, .r, .l] ⟨(envOf 168 [(0, .osl 1 0 0 n false), (1, .int .i64 a), (10, .int .i64 x10), (11, .int .i64 x11)]), [some (.arr 1 n w0)]⟩ κ
noncomputable def so_part_e5 (k : Nat) (n : Nat) (x11 : Int) (w0 : Nat → List AV) (κ : AV → Heap → Option ρ) : Option ρ := endAt ctx k n_slices_partitionOrdered_uint64 1 [.r, .r, .r, .r, .r, .r, .r, .r, .r, .r, .l] ⟨(envOf 168 [(11, .int .i64 x11)]), [some (.arr 1 n w0)]⟩ κ
noncomputable def so_part_e6 (k j1 : Nat) (n : Nat) (a : Int) (x10 : Int) (x11 : Int) (w0 : Nat → List AV) (κ : AV → Heap → Option ρ) : Option ρ := endAt ctx k n_slices_partitionOrdered_uint64 1 [.r, .r, .r, .r, .r, .r, .r, .r, .r, .l, .into j1, .r, .r, .r, .l] ⟨(envOf 168 [(0, .osl 1 0 0 n false), (1, .int .i64 a), (10, .int .i64 x10), (11, .int .i64 x11)]), [some (.arr 1 n w0)]⟩ κ
theorem so_part_h0_s (k j : Nat) (n : Nat) (a : Int) (b : Int) (w0 : Nat → Int) (x10 : Int) (κ : AV → Heap → Option ρ) : so_part_h0 k (j + 1) n a b w0 x10 κ =
  (bif decide (x10 ≤ wi64 (b - 1)) then
   (bif idxOK x10 n then
    (bif decide ((0 + (x10).toNat) < n) then
     (bif idxOK a n then
      (bif decide ((0 + (a).toNat) < n) then
       callP ctx k n_cmp_Less_uint64 [.int .u64 (w0 (0 + (x10).toNat)), .int .u64 (w0 (0 + (a).toNat))] (so_part_r0 k j n a b w0 x10 κ)
      else none)
     else none)
    else none)
   else none)
  else so_part_h1 k k n a w0 (wi64 (b - 1)) x10 κ) := by kernel_rfl
theorem so_part_h1_s (k j : Nat) (n : Nat) (a : Int) (w0 : Nat → Int) (x11 : Int) (x10 : Int) (κ : AV → Heap → Option ρ) : so_part_h1 k (j + 1) n a w0 x11 x10 κ =
  (bif decide (x10 ≤ x11) then
   (bif idxOK x11 n then
    (bif decide ((0 + (x11).toNat) < n) then
     (bif idxOK a n then
      (bif decide ((0 + (a).toNat) < n) then
       callP ctx k n_cmp_Less_uint64 [.int .u64 (w0 (0 + (x11).toNat)), .int .u64 (w0 (0 + (a).toNat))] (so_part_r1 k j n a w0 x10 x11 κ)
      else none)
     else none)
    else none)
   else none)
  else so_part_e1 k n a w0 x10 x11 κ) := by kernel_rfl
theorem so_part_h2_s (k j : Nat) (n : Nat) (a : Int) (w0 : Nat → Int) (x10 : Int) (x11 : Int) (κ : AV → Heap → Option ρ) : so_part_h2 k (j + 1) n a w0 x10 x11 κ =
  so_part_h3 k j k n a w0 x10 x11 κ := by kernel_rfl
theorem so_part_h3_s (k j1 j : Nat) (n : Nat) (a : Int) (w0 : Nat → Int) (x10 : Int) (x11 : Int) (κ : AV → Heap → Option ρ) : so_part_h3 k j1 (j + 1) n a w0 x10 x11 κ =
  (bif decide (x10 ≤ x11) then
   (bif idxOK x10 n then
    (bif decide ((0 + (x10).toNat) < n) then
     (bif idxOK a n then
      (bif decide ((0 + (a).toNat) < n) then
       callP ctx k n_cmp_Less_uint64 [.int .u64 (w0 (0 + (x10).toNat)), .int .u64 (w0 (0 + (a).toNat))] (so_part_r2 k j1 j n a w0 x10 x11 κ)
      else none)
     else none)
    else none)
   else none)
  else so_part_h4 k j1 k n a w0 x11 x10 κ) := by kernel_rfl
theorem so_part_h4_s (k j1 j : Nat) (n : Nat) (a : Int) (w0 : Nat → Int) (x11 : Int) (x10 : Int) (κ : AV → Heap → Option ρ) : so_part_h4 k j1 (j + 1) n a w0 x11 x10 κ =
  (bif decide (x10 ≤ x11) then
   (bif idxOK x11 n then
    (bif decide ((0 + (x11).toNat) < n) then
     (bif idxOK a n then
      (bif decide ((0 + (a).toNat) < n) then
       callP ctx k n_cmp_Less_uint64 [.int .u64 (w0 (0 + (x11).toNat)), .int .u64 (w0 (0 + (a).toNat))] (so_part_r3 k j1 j n a w0 x10 x11 κ)
      else none)
     else none)
    else none)
   else none)
  else so_part_e2 k j1 n a w0 x10 x11 κ) := by kernel_rfl
theorem so_part_e0_s (k : Nat) (n : Nat) (a : Int) (b : Int) (w0 : Nat → Int) (κ : AV → Heap → Option ρ) : so_part_e0 k n a b (rowOf (eI .u64) w0) κ =
  so_part_h0 k k n a b w0 (wi64 (a + 1)) κ := by kernel_rfl
theorem so_part_r0_s (k j1 : Nat) (n : Nat) (a : Int) (b : Int) (w0 : Nat → Int) (x10 : Int) (r0 : Bool) (κ : AV → Heap → Option ρ) : so_part_r0 k j1 n a b w0 x10 κ (.bool r0) =
  (bif r0 then
   so_part_h0 k j1 n a b w0 (wi64 (x10 + 1)) κ
  else so_part_h1 k k n a w0 (wi64 (b - 1)) x10 κ) := by kernel_rfl
theorem so_part_r1_s (k j1 : Nat) (n : Nat) (a : Int) (w0 : Nat → Int) (x10 : Int) (x11 : Int) (r1 : Bool) (κ : AV → Heap → Option ρ) : so_part_r1 k j1 n a w0 x10 x11 κ (.bool r1) =
  (bif !r1 then
   so_part_h1 k j1 n a w0 (wi64 (x11 - 1)) x10 κ
  else so_part_e1 k n a w0 x10 x11 κ) := by kernel_rfl
theorem so_part_e1_s (k : Nat) (n : Nat) (a : Int) (w0 : Nat → Int) (x10 : Int) (x11 : Int) (κ : AV → Heap → Option ρ) : so_part_e1 k n a w0 x10 x11 κ =
  (bif decide (x11 < x10) then
   (bif idxOK a n then
    (bif decide ((0 + (a).toNat) < n) then
     (bif idxOK x11 n then
      (bif decide ((0 + (x11).toNat) < n) then
       (bif idxOK x11 n then
        (bif decide ((0 + (x11).toNat) < n) then
         (bif idxOK a n then
          (bif decide ((0 + (a).toNat) < n) then
           so_part_e3 k n x11 (updRow (0 + (a).toNat) 0 ((eI .u64) (w0 (0 + (x11).toNat))) (updRow (0 + (x11).toNat) 0 ((eI .u64) (w0 (0 + (a).toNat))) (rowOf (eI .u64) w0))) κ
          else none)
         else none)
        else none)
       else none)
      else none)
     else none)
    else none)
   else none)
  else (bif idxOK x11 n then
    (bif decide ((0 + (x11).toNat) < n) then
     (bif idxOK x10 n then
      (bif decide ((0 + (x10).toNat) < n) then
       (bif idxOK x10 n then
        (bif decide ((0 + (x10).toNat) < n) then
         (bif idxOK x11 n then
          (bif decide ((0 + (x11).toNat) < n) then
           so_part_e4 k n a x10 x11 (updRow (0 + (x11).toNat) 0 ((eI .u64) (w0 (0 + (x10).toNat))) (updRow (0 + (x10).toNat) 0 ((eI .u64) (w0 (0 + (x11).toNat))) (rowOf (eI .u64) w0))) κ
          else none)
         else none)
        else none)
       else none)
      else none)
     else none)
    else none)
   else none)) := by kernel_rfl
theorem so_part_r2_s (k j1 j2 : Nat) (n : Nat) (a : Int) (w0 : Nat → Int) (x10 : Int) (x11 : Int) (r2 : Bool) (κ : AV → Heap → Option ρ) : so_part_r2 k j1 j2 n a w0 x10 x11 κ (.bool r2) =
  (bif r2 then
   so_part_h3 k j1 j2 n a w0 (wi64 (x10 + 1)) x11 κ
  else so_part_h4 k j1 k n a w0 x11 x10 κ) := by kernel_rfl
theorem so_part_r3_s (k j1 j2 : Nat) (n : Nat) (a : Int) (w0 : Nat → Int) (x10 : Int) (x11 : Int) (r3 : Bool) (κ : AV → Heap → Option ρ) : so_part_r3 k j1 j2 n a w0 x10 x11 κ (.bool r3) =
  (bif !r3 then
   so_part_h4 k j1 j2 n a w0 (wi64 (x11 - 1)) x10 κ
  else so_part_e2 k j1 n a w0 x10 x11 κ) := by kernel_rfl
theorem so_part_e2_s (k j1 : Nat) (n : Nat) (a : Int) (w0 : Nat → Int) (x10 : Int) (x11 : Int) (κ : AV → Heap → Option ρ) : so_part_e2 k j1 n a w0 x10 x11 κ =
  (bif decide (x11 < x10) then
   (bif idxOK a n then
    (bif decide ((0 + (a).toNat) < n) then
     (bif idxOK x11 n then
      (bif decide ((0 + (x11).toNat) < n) then
       (bif idxOK x11 n then
        (bif decide ((0 + (x11).toNat) < n) then
         (bif idxOK a n then
          (bif decide ((0 + (a).toNat) < n) then
           so_part_e5 k n x11 (updRow (0 + (a).toNat) 0 ((eI .u64) (w0 (0 + (x11).toNat))) (updRow (0 + (x11).toNat) 0 ((eI .u64) (w0 (0 + (a).toNat))) (rowOf (eI .u64) w0))) κ
          else none)
         else none)
        else none)
       else none)
      else none)
     else none)
    else none)
   else none)
  else (bif idxOK x11 n then
    (bif decide ((0 + (x11).toNat) < n) then
     (bif idxOK x10 n then
      (bif decide ((0 + (x10).toNat) < n) then
       (bif idxOK x10 n then
        (bif decide ((0 + (x10).toNat) < n) then
         (bif idxOK x11 n then
          (bif decide ((0 + (x11).toNat) < n) then
           so_part_e6 k j1 n a x10 x11 (updRow (0 + (x11).toNat) 0 ((eI .u64) (w0 (0 + (x10).toNat))) (updRow (0 + (x10).toNat) 0 ((eI .u64) (w0 (0 + (x11).toNat))) (rowOf (eI .u64) w0))) κ
          else none)
         else none)
        else none)
       else none)
      else none)
     else none)
    else none)
   else none)) := by kernel_rfl
theorem so_part_e3_s (k : Nat) (n : Nat) (x11 : Int) (w0 : Nat → Int) (κ : AV → Heap → Option ρ) : so_part_e3 k n x11 (rowOf (eI .u64) w0) κ =
  κ (.tup [.int .i64 x11, .bool true]) [some (.arr 1 n (rowOf (eI .u64) w0))] := by kernel_rfl
theorem so_part_e4_s (k : Nat) (n : Nat) (a : Int) (x10 : Int) (x11 : Int) (w0 : Nat → Int) (κ : AV → Heap → Option ρ) : so_part_e4 k n a x10 x11 (rowOf (eI .u64) w0) κ =
  so_part_h2 k k n a w0 (wi64 (x10 + 1)) (wi64 (x11 - 1)) κ := by kernel_rfl
theorem so_part_e5_s (k : Nat) (n : Nat) (x11 : Int) (w0 : Nat → Int) (κ : AV → Heap → Option ρ) : so_part_e5 k n x11 (rowOf (eI .u64) w0) κ =
  κ (.tup [.int .i64 x11, .bool false]) [some (.arr 1 n (rowOf (eI .u64) w0))] := by kernel_rfl
theorem so_part_e6_s (k j1 : Nat) (n : Nat) (a : Int) (x10 : Int) (x11 : Int) (w0 : Nat → Int) (κ : AV → Heap → Option ρ) : so_part_e6 k j1 n a x10 x11 (rowOf (eI .u64) w0) κ =
  so_part_h2 k j1 n a w0 (wi64 (x10 + 1)) (wi64 (x11 - 1)) κ := by kernel_rfl
theorem so_part_e (k : Nat) (n : Nat) (w : Nat → Int) (a : Int) (b : Int) (pivot : Int) (κ : AV → Heap → Option ρ) : evalF ctx (k + 1) n_slices_partitionOrdered_uint64 [.osl 1 0 0 n false, .int .i64 a, .int .i64 b, .int .i64 pivot] [some (.arr 1 n (rowOf (eI .u64) w))] κ =
  (bif idxOK pivot n then
   (bif decide ((0 + (pivot).toNat) < n) then
    (bif idxOK a n then
     (bif decide ((0 + (a).toNat) < n) then
      (bif idxOK a n then
       (bif decide ((0 + (a).toNat) < n) then
        (bif idxOK pivot n then
         (bif decide ((0 + (pivot).toNat) < n) then
          so_part_e0 k n a b (updRow (0 + (pivot).toNat) 0 ((eI .u64) (w (0 + (a).toNat))) (updRow (0 + (a).toNat) 0 ((eI .u64) (w (0 + (pivot).toNat))) (rowOf (eI .u64) w))) κ
         else none)
        else none)
       else none)
      else none)
     else none)
    else none)
   else none)
  else none) := by kernel_rfl
noncomputable def so_parteq_h0 (k j : Nat) (n : Nat) (a : Int) (w0 : Nat → Int) (x9 : Int) (x10 : Int) (κ : AV → Heap → Option ρ) : Option ρ := headAt ctx k n_slices_partitionEqualOrdered_uint64 1 [.r, .r, .r, .l] j ⟨(envOf 84 [(0, .osl 1 0 0 n false), (1, .int .i64 a), (9, .int .i64 x9), (10, .int .i64 x10)]), [some (.arr 1 n (rowOf (eI .u64) w0))]⟩ κ
noncomputable def so_parteq_h1 (k j1 j : Nat) (n : Nat) (a : Int) (w0 : Nat → Int) (x9 : Int) (x10 : Int) (κ : AV → Heap → Option ρ) : Option ρ := headAt ctx k n_slices_partitionEqualOrdered_uint64 1 [.r, .r, .r, .l, .into j1, .l] j ⟨(envOf 84 [(0, .osl 1 0 0 n false), (1, .int .i64 a), (9, .int .i64 x9), (10, .int .i64 x10)]), [some (.arr 1 n (rowOf (eI .u64) w0))]⟩ κ
noncomputable def so_parteq_h2 (k j1 j : Nat) (n : Nat) (a : Int) (w0 : Nat → Int) (x10 : Int) (x9 : Int) (κ : AV → Heap → Option ρ) : Option ρ := headAt ctx k n_slices_partitionEqualOrdered_uint64 1 [.r, .r, .r, .l, .into j1, .r, .l] j ⟨(envOf 84 [(0, .osl 1 0 0 n false), (1, .int .i64 a), (9, .int .i64 x9), (10, .int .i64 x10)]), [some (.arr 1 n (rowOf (eI .u64) w0))]⟩ κ
noncomputable def so_parteq_e0 (k : Nat) (n : Nat) (a : Int) (b : Int) (w0 : Nat → List AV) (κ : AV → Heap → Option ρ) : Option ρ := endAt ctx k n_slices_partitionEqualOrdered_uint64 1 [.r, .l] ⟨(envOf 84 [(0, .osl 1 0 0 n false), (1, .int .i64 a), (2, .int .i64 b)]), [some (.arr 1 n w0)]⟩ κ
noncomputable def so_parteq_r0 (k j1 j2 : Nat) (n : Nat) (a : Int) (w0 : Nat → Int) (x9 : Int) (x10 : Int) (κ : AV → Heap → Option ρ) (v : AV) : Option ρ := resAt ctx k n_slices_partitionEqualOrdered_uint64 1 [.r, .r, .r, .l, .into j1, .l, .into j2, .l, .l] 12 [(32, true)] ⟨(envOf 84 [(0, .osl 1 0 0 n false), (1, .int .i64 a), (9, .int .i64 x9), (10, .int .i64 x10), (29, .int .i64 x9), (30, .int .i64 x10), (31, .bool (decide (x9 ≤ x10))), (32, .bool (decide (x9 ≤ x10))), (33, .osl 1 0 0 n false), (34, .int .i64 a), (35, .eref 0 (0 + (a).toNat) 0), (36, .int .u64 (w0 (0 + (a).toNat))), (37, .osl 1 0 0 n false), (38, .int .i64 x9), (39, .eref 0 (0 + (x9).toNat) 0), (40, .int .u64 (w0 (0 + (x9).toNat))), (41, v)]), [some (.arr 1 n (rowOf (eI .u64) w0))]⟩ κ
noncomputable def so_parteq_r1 (k j1 j2 : Nat) (n : Nat) (a : Int) (w0 : Nat → Int) (x9 : Int) (x10 : Int) (κ : AV → Heap → Option ρ) (v : AV) : Option ρ := resAt ctx k n_slices_partitionEqualOrdered_uint64 1 [.r, .r, .r, .l, .into j1, .r, .l, .into j2, .l, .l] 12 [(49, true)] ⟨(envOf 84 [(0, .osl 1 0 0 n false), (1, .int .i64 a), (9, .int .i64 x9), (10, .int .i64 x10), (46, .int .i64 x9), (47, .int .i64 x10), (48, .bool (decide (x9 ≤ x10))), (49, .bool (decide (x9 ≤ x10))), (50, .osl 1 0 0 n false), (51, .int .i64 a), (52, .eref 0 (0 + (a).toNat) 0), (53, .int .u64 (w0 (0 + (a).toNat))), (54, .osl 1 0 0 n false), (55, .int .i64 x10), (56, .eref 0 (0 + (x10).toNat) 0), (57, .int .u64 (w0 (0 + (x10).toNat))), (58, v)]), [some (.arr 1 n (rowOf (eI .u64) w0))]⟩ κ
noncomputable def so_parteq_e1 (k j1 : Nat) (n : Nat) (a : Int) (w0 : Nat → Int) (x9 : Int) (x10 : Int) (κ : AV → Heap → Option ρ) : Option ρ := endAt ctx k n_slices_partitionEqualOrdered_uint64 1 [.r, .r, .r, .l, .into j1, .r, .r, .l, .l] ⟨(envOf 84 [(0, .osl 1 0 0 n false), (1, .int .i64 a), (9, .int .i64 x9), (10, .int .i64 x10), (64, .bool (decide (x10 < x9)))]), [some (.arr 1 n (rowOf (eI .u64) w0))]⟩ κ
noncomputable def so_parteq_e2 (k j1 : Nat) (n : Nat) (a : Int) (x9 : Int) (x10 : Int) (w0 : Nat → List AV) (κ : AV → Heap → Option ρ) : Option ρ := endAt ctx k n_slices_partitionEqualOrdered_uint64 1 [.r, .r, .r, .l, .into j1, .r, .r, .r, .l] ⟨(envOf 84 [(0, .osl 1 0 0 n false), (1, .int .i64 a), (9, .int .i64 x9), (10, .int .i64 x10)]), [some (.arr 1 n w0)]⟩ κ
theorem so_parteq_h0_s (k j : Nat) (n : Nat) (a : Int) (w0 : Nat → Int) (x9 : Int) (x10 : Int) (κ : AV → Heap → Option ρ) : so_parteq_h0 k (j + 1) n a w0 x9 x10 κ =
  so_parteq_h1 k j k n a w0 x9 x10 κ := by kernel_rfl
theorem so_parteq_h1_s (k j1 j : Nat) (n : Nat) (a : Int) (w0 : Nat → Int) (x9 : Int) (x10 : Int) (κ : AV → Heap → Option ρ) : so_parteq_h1 k j1 (j + 1) n a w0 x9 x10 κ =
  (bif decide (x9 ≤ x10) then
   (bif idxOK a n then
    (bif decide ((0 + (a).toNat) < n) then
     (bif idxOK x9 n then
      (bif decide ((0 + (x9).toNat) < n) then
       callP ctx k n_cmp_Less_uint64 [.int .u64 (w0 (0 + (a).toNat)), .int .u64 (w0 (0 + (x9).toNat))] (so_parteq_r0 k j1 j n a w0 x9 x10 κ)
      else none)
     else none)
    else none)
   else none)
  else so_parteq_h2 k j1 k n a w0 x10 x9 κ) := by kernel_rfl
theorem so_parteq_h2_s (k j1 j : Nat) (n : Nat) (a : Int) (w0 : Nat → Int) (x10 : Int) (x9 : Int) (κ : AV → Heap → Option ρ) : so_parteq_h2 k j1 (j + 1) n a w0 x10 x9 κ =
  (bif decide (x9 ≤ x10) then
   (bif idxOK a n then
    (bif decide ((0 + (a).toNat) < n) then
     (bif idxOK x10 n then
      (bif decide ((0 + (x10).toNat) < n) then
       callP ctx k n_cmp_Less_uint64 [.int .u64 (w0 (0 + (a).toNat)), .int .u64 (w0 (0 + (x10).toNat))] (so_parteq_r1 k j1 j n a w0 x9 x10 κ)
      else none)
     else none)
    else none)
   else none)
  else so_parteq_e1 k j1 n a w0 x9 x10 κ) := by kernel_rfl
theorem so_parteq_e0_s (k : Nat) (n : Nat) (a : Int) (b : Int) (w0 : Nat → Int) (κ : AV → Heap → Option ρ) : so_parteq_e0 k n a b (rowOf (eI .u64) w0) κ =
  so_parteq_h0 k k n a w0 (wi64 (a + 1)) (wi64 (b - 1)) κ := by kernel_rfl
theorem so_parteq_r0_s (k j1 j2 : Nat) (n : Nat) (a : Int) (w0 : Nat → Int) (x9 : Int) (x10 : Int) (r0 : Bool) (κ : AV → Heap → Option ρ) : so_parteq_r0 k j1 j2 n a w0 x9 x10 κ (.bool r0) =
  (bif !r0 then
   so_parteq_h1 k j1 j2 n a w0 (wi64 (x9 + 1)) x10 κ
  else so_parteq_h2 k j1 k n a w0 x10 x9 κ) := by kernel_rfl
theorem so_parteq_r1_s (k j1 j2 : Nat) (n : Nat) (a : Int) (w0 : Nat → Int) (x9 : Int) (x10 : Int) (r1 : Bool) (κ : AV → Heap → Option ρ) : so_parteq_r1 k j1 j2 n a w0 x9 x10 κ (.bool r1) =
  (bif r1 then
   so_parteq_h2 k j1 j2 n a w0 (wi64 (x10 - 1)) x9 κ
  else so_parteq_e1 k j1 n a w0 x9 x10 κ) := by kernel_rfl
theorem so_parteq_e1_s (k j1 : Nat) (n : Nat) (a : Int) (w0 : Nat → Int) (x9 : Int) (x10 : Int) (κ : AV → Heap → Option ρ) : so_parteq_e1 k j1 n a w0 x9 x10 κ =
  (bif decide (x10 < x9) then
   κ (.int .i64 x9) [some (.arr 1 n (rowOf (eI .u64) w0))]
  else (bif idxOK x10 n then
    (bif decide ((0 + (x10).toNat) < n) then
     (bif idxOK x9 n then
      (bif decide ((0 + (x9).toNat) < n) then
       (bif idxOK x9 n then
        (bif decide ((0 + (x9).toNat) < n) then
         (bif idxOK x10 n then
          (bif decide ((0 + (x10).toNat) < n) then
           so_parteq_e2 k j1 n a x9 x10 (updRow (0 + (x10).toNat) 0 ((eI .u64) (w0 (0 + (x9).toNat))) (updRow (0 + (x9).toNat) 0 ((eI .u64) (w0 (0 + (x10).toNat))) (rowOf (eI .u64) w0))) κ
          else none)
         else none)
        else none)
       else none)
      else none)
     else none)
    else none)
   else none)) := by kernel_rfl
theorem so_parteq_e2_s (k j1 : Nat) (n : Nat) (a : Int) (x9 : Int) (x10 : Int) (w0 : Nat → Int) (κ : AV → Heap → Option ρ) : so_parteq_e2 k j1 n a x9 x10 (rowOf (eI .u64) w0) κ =
  so_parteq_h0 k j1 n a w0 (wi64 (x9 + 1)) (wi64 (x10 - 1)) κ := by kernel_rfl
theorem so_parteq_e (k : Nat) (n : Nat) (w : Nat → Int) (a : Int) (b : Int) (pivot : Int) (κ : AV → Heap → Option ρ) : evalF ctx (k + 1) n_slices_partitionEqualOrdered_uint64 [.osl 1 0 0 n false, .int .i64 a, .int .i64 b, .int .i64 pivot] [some (.arr 1 n (rowOf (eI .u64) w))] κ =
  (bif idxOK pivot n then
   (bif decide ((0 + (pivot).toNat) < n) then
    (bif idxOK a n then
     (bif decide ((0 + (a).toNat) < n) then
      (bif idxOK a n then
       (bif decide ((0 + (a).toNat) < n) then
        (bif idxOK pivot n then
         (bif decide ((0 + (pivot).toNat) < n) then
          so_parteq_e0 k n a b (updRow (0 + (pivot).toNat) 0 ((eI .u64) (w (0 + (a).toNat))) (updRow (0 + (a).toNat) 0 ((eI .u64) (w (0 + (pivot).toNat))) (rowOf (eI .u64) w))) κ
         else none)
        else none)
       else none)
      else none)
     else none)
    else none)
   else none)
  else none) := by kernel_rfl
noncomputable def so_pins_h0 (k j : Nat) (n : Nat) (a : Int) (b : Int) (x8 : Int) (w0 : Nat → List AV) (x7 : Int) (κ : AV → Heap → Option ρ) : Option ρ := headAt ctx k n_slices_partialInsertionSortOrdered_uint64 1 [.r, .r, .l, .r] j ⟨(envOf 133 [(0, .osl 1 0 0 n false), (1, .int .i64 a), (2, .int .i64 b), (7, .int .i64 x7), (8, .int .i64 x8)]), [some (.arr 1 n w0)]⟩ κ
noncomputable def so_pins_h1 (k j1 j : Nat) (n : Nat) (a : Int) (b : Int) (x7 : Int) (x8 : Int) (w0 : Nat → List AV) (κ : AV → Heap → Option ρ) : Option ρ := headAt ctx k n_slices_partialInsertionSortOrdered_uint64 1 [.r, .r, .l, .r, .into j1, .r, .l, .l] j ⟨(envOf 133 [(0, .osl 1 0 0 n false), (1, .int .i64 a), (2, .int .i64 b), (7, .int .i64 x7), (8, .int .i64 x8)]), [some (.arr 1 n w0)]⟩ κ
noncomputable def so_pins_h2 (k j1 j : Nat) (n : Nat) (a : Int) (b : Int) (w0 : Nat → Int) (x9 : Int) (x7 : Int) (x8 : Int) (κ : AV → Heap → Option ρ) : Option ρ := headAt ctx k n_slices_partialInsertionSortOrdered_uint64 1 [.r, .r, .l, .r, .into j1, .r, .l, .r, .r, .r, .r, .l, .r, .l, .r] j ⟨(envOf 133 [(0, .osl 1 0 0 n false), (1, .int .i64 a), (2, .int .i64 b), (7, .int .i64 x7), (8, .int .i64 x8), (9, .int .i64 x9)]), [some (.arr 1 n (rowOf (eI .u64) w0))]⟩ κ
noncomputable def so_pins_h3 (k j1 j : Nat) (n : Nat) (a : Int) (b : Int) (w0 : Nat → Int) (x10 : Int) (x7 : Int) (x8 : Int) (κ : AV → Heap → Option ρ) : Option ρ := headAt ctx k n_slices_partialInsertionSortOrdered_uint64 1 [.r, .r, .l, .r, .into j1, .r, .l, .r, .r, .r, .r, .r, .r, .l, .r] j ⟨(envOf 133 [(0, .osl 1 0 0 n false), (1, .int .i64 a), (2, .int .i64 b), (7, .int .i64 x7), (8, .int .i64 x8), (10, .int .i64 x10)]), [some (.arr 1 n (rowOf (eI .u64) w0))]⟩ κ
noncomputable def so_pins_r0 (k j1 j2 : Nat) (n : Nat) (a : Int) (b : Int) (w0 : Nat → Int) (x7 : Int) (x8 : Int) (κ : AV → Heap → Option ρ) (v : AV) : Option ρ := resAt ctx k n_slices_partialInsertionSortOrdered_uint64 1 [.r, .r, .l, .r, .into j1, .r, .l, .l, .into j2, .l, .l] 13 [(20, true)] ⟨(envOf 133 [(0, .osl 1 0 0 n false), (1, .int .i64 a), (2, .int .i64 b), (7, .int .i64 x7), (8, .int .i64 x8), (17, .int .i64 x7), (18, .int .i64 b), (19, .bool (decide (x7 < b))), (20, .bool (decide (x7 < b))), (21, .osl 1 0 0 n false), (22, .int .i64 x7), (23, .eref 0 (0 + (x7).toNat) 0), (24, .int .u64 (w0 (0 + (x7).toNat))), (25, .osl 1 0 0 n false), (26, .int .i64 x7), (27, .int .i64 (wi64 (x7 - 1))), (28, .eref 0 (0 + (wi64 (x7 - 1)).toNat) 0), (29, .int .u64 (w0 (0 + (wi64 (x7 - 1)).toNat))), (30, v)]), [some (.arr 1 n (rowOf (eI .u64) w0))]⟩ κ
noncomputable def so_pins_e0 (k j1 : Nat) (n : Nat) (a : Int) (b : Int) (x7 : Int) (x8 : Int) (w0 : Nat → List AV) (κ : AV → Heap → Option ρ) : Option ρ := endAt ctx k n_slices_partialInsertionSortOrdered_uint64 1 [.r, .r, .l, .r, .into j1, .r, .l, .r, .r, .r, .l] ⟨(envOf 133 [(0, .osl 1 0 0 n false), (1, .int .i64 a), (2, .int .i64 b), (7, .int .i64 x7), (8, .int .i64 x8)]), [some (.arr 1 n w0)]⟩ κ
noncomputable def so_pins_r1 (k j1 j2 : Nat) (n : Nat) (a : Int) (b : Int) (w0 : Nat → Int) (x7 : Int) (x8 : Int) (x9 : Int) (κ : AV → Heap → Option ρ) (v : AV) : Option ρ := resAt ctx k n_slices_partialInsertionSortOrdered_uint64 1 [.r, .r, .l, .r, .into j1, .r, .l, .r, .r, .r, .r, .l, .r, .l, .r, .into j2, .r, .l, .l, .l] 9 [] ⟨(envOf 133 [(0, .osl 1 0 0 n false), (1, .int .i64 a), (2, .int .i64 b), (7, .int .i64 x7), (8, .int .i64 x8), (9, .int .i64 x9), (64, .int .i64 x9), (65, .bool (decide (1 ≤ x9))), (68, .osl 1 0 0 n false), (69, .int .i64 x9), (70, .eref 0 (0 + (x9).toNat) 0), (71, .int .u64 (w0 (0 + (x9).toNat))), (72, .osl 1 0 0 n false), (73, .int .i64 x9), (74, .int .i64 (wi64 (x9 - 1))), (75, .eref 0 (0 + (wi64 (x9 - 1)).toNat) 0), (76, .int .u64 (w0 (0 + (wi64 (x9 - 1)).toNat))), (77, v)]), [some (.arr 1 n (rowOf (eI .u64) w0))]⟩ κ
noncomputable def so_pins_r2 (k j1 j2 : Nat) (n : Nat) (a : Int) (b : Int) (w0 : Nat → Int) (x7 : Int) (x8 : Int) (x10 : Int) (κ : AV → Heap → Option ρ) (v : AV) : Option ρ := resAt ctx k n_slices_partialInsertionSortOrdered_uint64 1 [.r, .r, .l, .r, .into j1, .r, .l, .r, .r, .r, .r, .r, .r, .l, .r, .into j2, .r, .l, .l, .l] 9 [] ⟨(envOf 133 [(0, .osl 1 0 0 n false), (1, .int .i64 a), (2, .int .i64 b), (7, .int .i64 x7), (8, .int .i64 x8), (10, .int .i64 x10), (103, .bool (decide (x10 < b))), (106, .osl 1 0 0 n false), (107, .int .i64 x10), (108, .eref 0 (0 + (x10).toNat) 0), (109, .int .u64 (w0 (0 + (x10).toNat))), (110, .osl 1 0 0 n false), (111, .int .i64 x10), (112, .int .i64 (wi64 (x10 - 1))), (113, .eref 0 (0 + (wi64 (x10 - 1)).toNat) 0), (114, .int .u64 (w0 (0 + (wi64 (x10 - 1)).toNat))), (115, v)]), [some (.arr 1 n (rowOf (eI .u64) w0))]⟩ κ
noncomputable def so_pins_e1 (k j1 j2 : Nat) (n : Nat) (a : Int) (b : Int) (x7 : Int) (x8 : Int) (x9 : Int) (w0 : Nat → List AV) (κ : AV → Heap → Option ρ) : Option ρ := endAt ctx k n_slices_partialInsertionSortOrdered_uint64 1 [.r, .r, .l, .r, .into j1, .r, .l, .r, .r, .r, .r, .l, .r, .l, .r, .into j2, .r, .l, .r] ⟨(envOf 133 [(0, .osl 1 0 0 n false), (1, .int .i64 a), (2, .int .i64 b), (7, .int .i64 x7), (8, .int .i64 x8), (9, .int .i64 x9)]), [some (.arr 1 n w0)]⟩ κ
noncomputable def so_pins_e2 (k j1 j2 : Nat) (n : Nat) (a : Int) (b : Int) (x7 : Int) (x8 : Int) (x10 : Int) (w0 : Nat → List AV) (κ : AV → Heap → Option ρ) : Option ρ := endAt ctx k n_slices_partialInsertionSortOrdered_uint64 1 [.r, .r, .l, .r, .into j1, .r, .l, .r, .r, .r, .r, .r, .r, .l, .r, .into j2, .r, .l, .r] ⟨(envOf 133 [(0, .osl 1 0 0 n false), (1, .int .i64 a), (2, .int .i64 b), (7, .int .i64 x7), (8, .int .i64 x8), (10, .int .i64 x10)]), [some (.arr 1 n w0)]⟩ κ
theorem so_pins_h0_s (k j : Nat) (n : Nat) (a : Int) (b : Int) (x8 : Int) (w0 : Nat → Int) (x7 : Int) (κ : AV → Heap → Option ρ) : so_pins_h0 k (j + 1) n a b x8 (rowOf (eI .u64) w0) x7 κ =
  (bif decide (x8 < 5) then
   so_pins_h1 k j k n a b x7 x8 (rowOf (eI .u64) w0) κ
  else κ (.bool false) [some (.arr 1 n (rowOf (eI .u64) w0))]) := by kernel_rfl
theorem so_pins_h1_s (k j1 j : Nat) (n : Nat) (a : Int) (b : Int) (x7 : Int) (x8 : Int) (w0 : Nat → Int) (κ : AV → Heap → Option ρ) : so_pins_h1 k j1 (j + 1) n a b x7 x8 (rowOf (eI .u64) w0) κ =
  (bif decide (x7 < b) then
   (bif idxOK x7 n then
    (bif decide ((0 + (x7).toNat) < n) then
     (bif idxOK (wi64 (x7 - 1)) n then
      (bif decide ((0 + (wi64 (x7 - 1)).toNat) < n) then
       callP ctx k n_cmp_Less_uint64 [.int .u64 (w0 (0 + (x7).toNat)), .int .u64 (w0 (0 + (wi64 (x7 - 1)).toNat))] (so_pins_r0 k j1 j n a b w0 x7 x8 κ)
      else none)
     else none)
    else none)
   else none)
  else (bif decide (x7 = b) then
    κ (.bool true) [some (.arr 1 n (rowOf (eI .u64) w0))]
   else (bif decide (wi64 (b - a) < 50) then
     κ (.bool false) [some (.arr 1 n (rowOf (eI .u64) w0))]
    else (bif idxOK (wi64 (x7 - 1)) n then
      (bif decide ((0 + (wi64 (x7 - 1)).toNat) < n) then
       (bif idxOK x7 n then
        (bif decide ((0 + (x7).toNat) < n) then
         (bif idxOK x7 n then
          (bif decide ((0 + (x7).toNat) < n) then
           (bif idxOK (wi64 (x7 - 1)) n then
            (bif decide ((0 + (wi64 (x7 - 1)).toNat) < n) then
             so_pins_e0 k j1 n a b x7 x8 (updRow (0 + (wi64 (x7 - 1)).toNat) 0 ((eI .u64) (w0 (0 + (x7).toNat))) (updRow (0 + (x7).toNat) 0 ((eI .u64) (w0 (0 + (wi64 (x7 - 1)).toNat))) (rowOf (eI .u64) w0))) κ
            else none)
           else none)
          else none)
         else none)
        else none)
       else none)
      else none)
     else none)))) := by kernel_rfl
theorem so_pins_h2_s (k j1 j : Nat) (n : Nat) (a : Int) (b : Int) (w0 : Nat → Int) (x9 : Int) (x7 : Int) (x8 : Int) (κ : AV → Heap → Option ρ) : so_pins_h2 k j1 (j + 1) n a b w0 x9 x7 x8 κ =
  (bif decide (1 ≤ x9) then
   (bif idxOK x9 n then
    (bif decide ((0 + (x9).toNat) < n) then
     (bif idxOK (wi64 (x9 - 1)) n then
      (bif decide ((0 + (wi64 (x9 - 1)).toNat) < n) then
       callP ctx k n_cmp_Less_uint64 [.int .u64 (w0 (0 + (x9).toNat)), .int .u64 (w0 (0 + (wi64 (x9 - 1)).toNat))] (so_pins_r1 k j1 j n a b w0 x7 x8 x9 κ)
      else none)
     else none)
    else none)
   else none)
  else (bif decide (2 ≤ wi64 (b - x7)) then
    so_pins_h3 k j1 k n a b w0 (wi64 (x7 + 1)) x7 x8 κ
   else so_pins_h0 k j1 n a b (wi64 (x8 + 1)) (rowOf (eI .u64) w0) x7 κ)) := by kernel_rfl
theorem so_pins_h3_s (k j1 j : Nat) (n : Nat) (a : Int) (b : Int) (w0 : Nat → Int) (x10 : Int) (x7 : Int) (x8 : Int) (κ : AV → Heap → Option ρ) : so_pins_h3 k j1 (j + 1) n a b w0 x10 x7 x8 κ =
  (bif decide (x10 < b) then
   (bif idxOK x10 n then
    (bif decide ((0 + (x10).toNat) < n) then
     (bif idxOK (wi64 (x10 - 1)) n then
      (bif decide ((0 + (wi64 (x10 - 1)).toNat) < n) then
       callP ctx k n_cmp_Less_uint64 [.int .u64 (w0 (0 + (x10).toNat)), .int .u64 (w0 (0 + (wi64 (x10 - 1)).toNat))] (so_pins_r2 k j1 j n a b w0 x7 x8 x10 κ)
      else none)
     else none)
    else none)
   else none)
  else so_pins_h0 k j1 n a b (wi64 (x8 + 1)) (rowOf (eI .u64) w0) x7 κ) := by kernel_rfl
theorem so_pins_r0_s (k j1 j2 : Nat) (n : Nat) (a : Int) (b : Int) (w0 : Nat → Int) (x7 : Int) (x8 : Int) (r0 : Bool) (κ : AV → Heap → Option ρ) : so_pins_r0 k j1 j2 n a b w0 x7 x8 κ (.bool r0) =
  (bif !r0 then
   so_pins_h1 k j1 j2 n a b (wi64 (x7 + 1)) x8 (rowOf (eI .u64) w0) κ
  else (bif decide (x7 = b) then
    κ (.bool true) [some (.arr 1 n (rowOf (eI .u64) w0))]
   else (bif decide (wi64 (b - a) < 50) then
     κ (.bool false) [some (.arr 1 n (rowOf (eI .u64) w0))]
    else (bif idxOK (wi64 (x7 - 1)) n then
      (bif decide ((0 + (wi64 (x7 - 1)).toNat) < n) then
       (bif idxOK x7 n then
        (bif decide ((0 + (x7).toNat) < n) then
         (bif idxOK x7 n then
          (bif decide ((0 + (x7).toNat) < n) then
           (bif idxOK (wi64 (x7 - 1)) n then
            (bif decide ((0 + (wi64 (x7 - 1)).toNat) < n) then
             so_pins_e0 k j1 n a b x7 x8 (updRow (0 + (wi64 (x7 - 1)).toNat) 0 ((eI .u64) (w0 (0 + (x7).toNat))) (updRow (0 + (x7).toNat) 0 ((eI .u64) (w0 (0 + (wi64 (x7 - 1)).toNat))) (rowOf (eI .u64) w0))) κ
            else none)
           else none)
          else none)
         else none)
        else none)
       else none)
      else none)
     else none)))) := by kernel_rfl
theorem so_pins_e0_s (k j1 : Nat) (n : Nat) (a : Int) (b : Int) (x7 : Int) (x8 : Int) (w0 : Nat → Int) (κ : AV → Heap → Option ρ) : so_pins_e0 k j1 n a b x7 x8 (rowOf (eI .u64) w0) κ =
  (bif decide (2 ≤ wi64 (x7 - a)) then
   so_pins_h2 k j1 k n a b w0 (wi64 (x7 - 1)) x7 x8 κ
  else (bif decide (2 ≤ wi64 (b - x7)) then
    so_pins_h3 k j1 k n a b w0 (wi64 (x7 + 1)) x7 x8 κ
   else so_pins_h0 k j1 n a b (wi64 (x8 + 1)) (rowOf (eI .u64) w0) x7 κ)) := by kernel_rfl
theorem so_pins_r1_s (k j1 j2 : Nat) (n : Nat) (a : Int) (b : Int) (w0 : Nat → Int) (x7 : Int) (x8 : Int) (x9 : Int) (r1 : Bool) (κ : AV → Heap → Option ρ) : so_pins_r1 k j1 j2 n a b w0 x7 x8 x9 κ (.bool r1) =
  (bif !r1 then
   (bif decide (2 ≤ wi64 (b - x7)) then
    so_pins_h3 k j1 k n a b w0 (wi64 (x7 + 1)) x7 x8 κ
   else so_pins_h0 k j1 n a b (wi64 (x8 + 1)) (rowOf (eI .u64) w0) x7 κ)
  else (bif idxOK (wi64 (x9 - 1)) n then
    (bif decide ((0 + (wi64 (x9 - 1)).toNat) < n) then
     (bif idxOK x9 n then
      (bif decide ((0 + (x9).toNat) < n) then
       (bif idxOK x9 n then
        (bif decide ((0 + (x9).toNat) < n) then
         (bif idxOK (wi64 (x9 - 1)) n then
          (bif decide ((0 + (wi64 (x9 - 1)).toNat) < n) then
           so_pins_e1 k j1 j2 n a b x7 x8 x9 (updRow (0 + (wi64 (x9 - 1)).toNat) 0 ((eI .u64) (w0 (0 + (x9).toNat))) (updRow (0 + (x9).toNat) 0 ((eI .u64) (w0 (0 + (wi64 (x9 - 1)).toNat))) (rowOf (eI .u64) w0))) κ
          else none)
         else none)
        else none)
       else none)
      else none)
     else none)
    else none)
   else none)) := by kernel_rfl
theorem so_pins_r2_s (k j1 j2 : Nat) (n : Nat) (a : Int) (b : Int) (w0 : Nat → Int) (x7 : Int) (x8 : Int) (x10 : Int) (r2 : Bool) (κ : AV → Heap → Option ρ) : so_pins_r2 k j1 j2 n a b w0 x7 x8 x10 κ (.bool r2) =
  (bif !r2 then
   so_pins_h0 k j1 n a b (wi64 (x8 + 1)) (rowOf (eI .u64) w0) x7 κ
  else (bif idxOK (wi64 (x10 - 1)) n then
    (bif decide ((0 + (wi64 (x10 - 1)).toNat) < n) then
     (bif idxOK x10 n then
      (bif decide ((0 + (x10).toNat) < n) then
       (bif idxOK x10 n then
        (bif decide ((0 + (x10).toNat) < n) then
         (bif idxOK (wi64 (x10 - 1)) n then
          (bif decide ((0 + (wi64 (x10 - 1)).toNat) < n) then
           so_pins_e2 k j1 j2 n a b x7 x8 x10 (updRow (0 + (wi64 (x10 - 1)).toNat) 0 ((eI .u64) (w0 (0 + (x10).toNat))) (updRow (0 + (x10).toNat) 0 ((eI .u64) (w0 (0 + (wi64 (x10 - 1)).toNat))) (rowOf (eI .u64) w0))) κ
          else none)
         else none)
        else none)
       else none)
      else none)
     else none)
    else none)
   else none)) := by kernel_rfl
theorem so_pins_e1_s (k j1 j2 : Nat) (n : Nat) (a : Int) (b : Int) (x7 : Int) (x8 : Int) (x9 : Int) (w0 : Nat → Int) (κ : AV → Heap → Option ρ) : so_pins_e1 k j1 j2 n a b x7 x8 x9 (rowOf (eI .u64) w0) κ =
  so_pins_h2 k j1 j2 n a b w0 (wi64 (x9 - 1)) x7 x8 κ := by kernel_rfl
theorem so_pins_e2_s (k j1 j2 : Nat) (n : Nat) (a : Int) (b : Int) (x7 : Int) (x8 : Int) (x10 : Int) (w0 : Nat → Int) (κ : AV → Heap → Option ρ) : so_pins_e2 k j1 j2 n a b x7 x8 x10 (rowOf (eI .u64) w0) κ =
  so_pins_h3 k j1 j2 n a b w0 (wi64 (x10 + 1)) x7 x8 κ := by kernel_rfl
theorem so_pins_e (k : Nat) (n : Nat) (w : Nat → Int) (a : Int) (b : Int) (κ : AV → Heap → Option ρ) : evalF ctx (k + 1) n_slices_partialInsertionSortOrdered_uint64 [.osl 1 0 0 n false, .int .i64 a, .int .i64 b] [some (.arr 1 n (rowOf (eI .u64) w))] κ =
  so_pins_h0 k k n a b 0 (rowOf (eI .u64) w) (wi64 (a + 1)) κ := by kernel_rfl
end Go.Proofs.YticcbbcgboddpaaC

set_option linter.unusedVariables false
set_option linter.unusedSimpArgs false
set_option maxRecDepth 20000
namespace Go.Proofs.YticcbbcgboddpaaC
open Go Go.Ev Go.Proofs
variable {ρ : Type}
/-! ### the partition -/
theorem so_part_up (k n a b : Nat) (hn : n ≤ 1000000000) (ha : a < n) (hb : b ≤ n) (hb0 : 0 < b) (hk : n + 8 ≤ k) (κ : AV → Heap → Option ρ) (d : Array Int) (hd : d.size = n) : ∀ (m jf i : Nat), b - i ≤ m → m < jf → i ≤ b →
    so_part_h0 k jf n (a : Int) (b : Int) (dA d) (i : Int) κ = so_part_h1 k k n (a : Int) (dA d) ((b - 1 : Nat) : Int) ((Sort.scanUp (fun x => ltI x d[a]!) d (b - 1) i : Nat) : Int) κ := by
  have eb : wi64 ((b : Int) - 1) = ((b - 1 : Nat) : Int) := by rw [wi64_in (by omega) (by omega)]; omega
  intro m
  induction m with
  | zero =>
    intro jf i h1 h2 h3
    obtain ⟨jf, rfl⟩ : ∃ j', jf = j' + 1 := ⟨jf - 1, by omega⟩
    rw [so_part_h0_s, eb, dec_f (by omega), cond_false, Sort.scanUp, if_neg (by simp; omega)]
  | succ m ih =>
    intro jf i h1 h2 h3
    obtain ⟨jf, rfl⟩ : ∃ j', jf = j' + 1 := ⟨jf - 1, by omega⟩
    rw [so_part_h0_s, eb, Sort.scanUp]
    by_cases h : i ≤ b - 1
    · have e : (decide (i ≤ b - 1) && ltI d[i]! d[a]!) = ltI (dA d i) (dA d a) := by rw [decide_eq_true h, Bool.true_and]; rfl
      rw [e, dec_t (show (i : Int) ≤ ((b - 1 : Nat) : Int) by omega), cond_true]
      simp only [Int.toNat_natCast, Nat.zero_add]
      simp (disch := omega) only [idx_ok, dec_t, cond_true]
      rw [Less_ok k _ _ (by omega), so_part_r0_s, eb, wi_succ i (by omega)]
      cases ltI (dA d i) (dA d a) with
      | false => rw [cond_false, if_neg (by simp)]
      | true => rw [cond_true, if_pos rfl]; exact ih jf (i + 1) (by omega) (by omega) (by omega)
    · rw [dec_f (by omega), cond_false, if_neg (by simp; omega)]
theorem so_part_down (k n a i : Nat) (hn : n ≤ 1000000000) (ha : a < n) (hi : 1 ≤ i) (hk : n + 8 ≤ k) (κ : AV → Heap → Option ρ) (d : Array Int) (hd : d.size = n) : ∀ (j jf : Nat), j < n → j < jf →
    so_part_h1 k jf n (a : Int) (dA d) (j : Int) (i : Int) κ = so_part_e1 k n (a : Int) (dA d) (i : Int) ((Sort.scanDown (fun x => !ltI x d[a]!) d i j : Nat) : Int) κ
  | 0, jf, h1, h2 => by
    obtain ⟨jf, rfl⟩ : ∃ j', jf = j' + 1 := ⟨jf - 1, by omega⟩
    rw [so_part_h1_s, dec_f (by omega), cond_false]; rfl
  | j + 1, jf, h1, h2 => by
    obtain ⟨jf, rfl⟩ : ∃ j', jf = j' + 1 := ⟨jf - 1, by omega⟩
    rw [so_part_h1_s, Sort.scanDown]
    by_cases h : i ≤ j + 1
    · have e : (decide (i ≤ j + 1) && !ltI d[j + 1]! d[a]!) = !ltI (dA d (j + 1)) (dA d a) := by rw [decide_eq_true h, Bool.true_and]; rfl
      rw [e, dec_t (show (i : Int) ≤ ((j + 1 : Nat) : Int) by omega), cond_true]
      simp only [Int.toNat_natCast, Nat.zero_add]
      simp (disch := omega) only [idx_ok, dec_t, cond_true]
      rw [Less_ok k _ _ (by omega), so_part_r1_s, wi_pred j (by omega)]
      cases ltI (dA d (j + 1)) (dA d a) with
      | true => rw [Bool.not_true, cond_false, if_neg (by simp)]
      | false => rw [Bool.not_false, cond_true, if_pos rfl]; exact so_part_down k n a i hn ha hi hk κ d hd j jf (by omega) (by omega)
    · rw [dec_f (by omega), cond_false, if_neg (by simp; omega)]
theorem so_part_up2 (k j1 n a J : Nat) (hn : n ≤ 1000000000) (ha : a < n) (hJ : J < n) (hk : n + 8 ≤ k) (κ : AV → Heap → Option ρ) (d : Array Int) (hd : d.size = n) : ∀ (m jf i : Nat), J + 1 - i ≤ m → m < jf → i ≤ n →
    so_part_h3 k j1 jf n (a : Int) (dA d) (i : Int) (J : Int) κ = so_part_h4 k j1 k n (a : Int) (dA d) (J : Int) ((Sort.scanUp (fun x => ltI x d[a]!) d J i : Nat) : Int) κ := by
  intro m
  induction m with
  | zero =>
    intro jf i h1 h2 h3
    obtain ⟨jf, rfl⟩ : ∃ j', jf = j' + 1 := ⟨jf - 1, by omega⟩
    rw [so_part_h3_s, dec_f (by omega), cond_false, Sort.scanUp, if_neg (by simp; omega)]
  | succ m ih =>
    intro jf i h1 h2 h3
    obtain ⟨jf, rfl⟩ : ∃ j', jf = j' + 1 := ⟨jf - 1, by omega⟩
    rw [so_part_h3_s, Sort.scanUp]
    by_cases h : i ≤ J
    · have e : (decide (i ≤ J) && ltI d[i]! d[a]!) = ltI (dA d i) (dA d a) := by rw [decide_eq_true h, Bool.true_and]; rfl
      rw [e, dec_t (show (i : Int) ≤ (J : Int) by omega), cond_true]
      simp only [Int.toNat_natCast, Nat.zero_add]
      simp (disch := omega) only [idx_ok, dec_t, cond_true]
      rw [Less_ok k _ _ (by omega), so_part_r2_s, wi_succ i (by omega)]
      cases ltI (dA d i) (dA d a) with
      | false => rw [cond_false, if_neg (by simp)]
      | true => rw [cond_true, if_pos rfl]; exact ih jf (i + 1) (by omega) (by omega) (by omega)
    · rw [dec_f (by omega), cond_false, if_neg (by simp; omega)]
theorem so_part_down2 (k j1 n a i : Nat) (hn : n ≤ 1000000000) (ha : a < n) (hi : 1 ≤ i) (hk : n + 8 ≤ k) (κ : AV → Heap → Option ρ) (d : Array Int) (hd : d.size = n) : ∀ (j jf : Nat), j < n → j < jf →
    so_part_h4 k j1 jf n (a : Int) (dA d) (j : Int) (i : Int) κ = so_part_e2 k j1 n (a : Int) (dA d) (i : Int) ((Sort.scanDown (fun x => !ltI x d[a]!) d i j : Nat) : Int) κ
  | 0, jf, h1, h2 => by
    obtain ⟨jf, rfl⟩ : ∃ j', jf = j' + 1 := ⟨jf - 1, by omega⟩
    rw [so_part_h4_s, dec_f (by omega), cond_false]; rfl
  | j + 1, jf, h1, h2 => by
    obtain ⟨jf, rfl⟩ : ∃ j', jf = j' + 1 := ⟨jf - 1, by omega⟩
    rw [so_part_h4_s, Sort.scanDown]
    by_cases h : i ≤ j + 1
    · have e : (decide (i ≤ j + 1) && !ltI d[j + 1]! d[a]!) = !ltI (dA d (j + 1)) (dA d a) := by rw [decide_eq_true h, Bool.true_and]; rfl
      rw [e, dec_t (show (i : Int) ≤ ((j + 1 : Nat) : Int) by omega), cond_true]
      simp only [Int.toNat_natCast, Nat.zero_add]
      simp (disch := omega) only [idx_ok, dec_t, cond_true]
      rw [Less_ok k _ _ (by omega), so_part_r3_s, wi_pred j (by omega)]
      cases ltI (dA d (j + 1)) (dA d a) with
      | true => rw [Bool.not_true, cond_false, if_neg (by simp)]
      | false => rw [Bool.not_false, cond_true, if_pos rfl]; exact so_part_down2 k j1 n a i hn ha hi hk κ d hd j jf (by omega) (by omega)
    · rw [dec_f (by omega), cond_false, if_neg (by simp; omega)]
theorem so_part_lp (k n a : Nat) (hn : n ≤ 1000000000) (ha : a < n) (hk : n + 8 ≤ k) (κ : AV → Heap → Option ρ) : ∀ (m jf i j : Nat) (d : Array Int), j + 1 - i ≤ m → m < jf → 1 ≤ i → j < n → i ≤ n → d.size = n →
    so_part_h2 k jf n (a : Int) (dA d) (i : Int) (j : Int) κ = κ (.tup [.int .i64 (((Sort.partLoop ltI a i j d).1 : Nat) : Int), .bool false]) [some (.arr 1 n (rowOf (eI .u64) (dA (Sort.swp (Sort.partLoop ltI a i j d).2 (Sort.partLoop ltI a i j d).1 a))))] := by
  intro m
  induction m with
  | zero =>
    intro jf i j d h1 h2 h3 h4 h5 hd
    obtain ⟨jf, rfl⟩ : ∃ j', jf = j' + 1 := ⟨jf - 1, by omega⟩
    have u1 := Sort.scanUp_ge (fun x => ltI x d[a]!) d j i
    have u2 := Sort.scanDown_le (fun x => !ltI x d[a]!) d (Sort.scanUp (fun x => ltI x d[a]!) d j i) j
    rw [so_part_h2_s, so_part_up2 k jf n a j hn ha h4 hk κ d hd (j + 1 - i) k i (Nat.le_refl _) (by omega) h5, so_part_down2 k jf n a _ hn ha (by omega) hk κ d hd j k h4 (by omega), so_part_e2_s, Sort.partLoop_eq]
    rw [dec_t (by omega), cond_true, if_pos (by omega)]
    simp only [Int.toNat_natCast, Nat.zero_add]
    simp (disch := omega) only [idx_ok, dec_t, cond_true]
    rw [swp_row d _ a (by omega) (by omega), so_part_e5_s]
  | succ m ih =>
    intro jf i j d h1 h2 h3 h4 h5 hd
    obtain ⟨jf, rfl⟩ : ∃ j', jf = j' + 1 := ⟨jf - 1, by omega⟩
    have u1 := Sort.scanUp_ge (fun x => ltI x d[a]!) d j i
    have u2 := Sort.scanDown_le (fun x => !ltI x d[a]!) d (Sort.scanUp (fun x => ltI x d[a]!) d j i) j
    rw [so_part_h2_s, so_part_up2 k jf n a j hn ha h4 hk κ d hd (j + 1 - i) k i (Nat.le_refl _) (by omega) h5, so_part_down2 k jf n a _ hn ha (by omega) hk κ d hd j k h4 (by omega), so_part_e2_s, Sort.partLoop_eq]
    generalize Sort.scanUp (fun x => ltI x d[a]!) d j i = i2 at *
    generalize Sort.scanDown (fun x => !ltI x d[a]!) d i2 j = j2 at *
    by_cases h : i2 > j2
    · rw [dec_t (by omega), cond_true, if_pos h]
      simp only [Int.toNat_natCast, Nat.zero_add]
      simp (disch := omega) only [idx_ok, dec_t, cond_true]
      rw [swp_row d _ a (by omega) (by omega), so_part_e5_s]
    · rw [dec_f (by omega), cond_false, if_neg h]
      simp only [Int.toNat_natCast, Nat.zero_add]
      simp (disch := omega) only [idx_ok, dec_t, cond_true]
      rw [swp_row d i2 j2 (by omega) (by omega), so_part_e6_s, wi_succ i2 (by omega), show (j2 : Int) = ((j2 - 1 + 1 : Nat) : Int) by omega, wi_pred (j2 - 1) (by omega)]
      exact ih jf (i2 + 1) (j2 - 1) _ (by omega) (by omega) (by omega) (by omega) (by omega) (by rw [Sort.size_swp, hd])
theorem so_part_ok (k n a b p : Nat) (d : Array Int) (hd : d.size = n) (hn : n ≤ 1000000000) (hap : a ≤ p) (hpb : p < b) (hb : b ≤ n) (hk : n + 20 ≤ k) (κ : AV → Heap → Option ρ) :
    evalF ctx k n_slices_partitionOrdered_uint64 [.osl 1 0 0 n false, .int .i64 (a : Int), .int .i64 (b : Int), .int .i64 (p : Int)] [some (.arr 1 n (rowOf (eI .u64) (dA d)))] κ =
      κ (.tup [.int .i64 (((Sort.partition ltI d a b p).1 : Nat) : Int), .bool (Sort.partition ltI d a b p).2.1]) [some (.arr 1 n (rowOf (eI .u64) (dA (Sort.partition ltI d a b p).2.2)))] := by
  obtain ⟨k, rfl⟩ : ∃ k', k = k' + 1 := ⟨k - 1, by omega⟩
  rw [so_part_e]
  simp only [Int.toNat_natCast, Nat.zero_add]
  simp (disch := omega) only [idx_ok, dec_t, cond_true]
  rw [swp_row d a p (by omega) (by omega), so_part_e0_s, wi_succ a (by omega)]
  have hd1 : (Sort.swp d a p).size = n := by rw [Sort.size_swp, hd]
  unfold Sort.partition
  generalize Sort.swp d a p = d1 at *
  have u1 := Sort.scanUp_ge (fun x => ltI x d1[a]!) d1 (b - 1) (a + 1)
  have u2 := Sort.scanDown_le (fun x => !ltI x d1[a]!) d1 (Sort.scanUp (fun x => ltI x d1[a]!) d1 (b - 1) (a + 1)) (b - 1)
  rw [so_part_up k n a b hn (by omega) hb (by omega) (by omega) κ d1 hd1 (b - (a + 1)) k (a + 1) (Nat.le_refl _) (by omega) (by omega),
    so_part_down k n a _ hn (by omega) (by omega) (by omega) κ d1 hd1 (b - 1) k (by omega) (by omega), so_part_e1_s]
  dsimp only
  generalize Sort.scanUp (fun x => ltI x d1[a]!) d1 (b - 1) (a + 1) = i2 at *
  generalize Sort.scanDown (fun x => !ltI x d1[a]!) d1 i2 (b - 1) = j2 at *
  by_cases h : i2 > j2
  · rw [dec_t (by omega), cond_true, if_pos h]
    simp only [Int.toNat_natCast, Nat.zero_add]
    simp (disch := omega) only [idx_ok, dec_t, cond_true]
    rw [swp_row d1 _ a (by omega) (by omega), so_part_e3_s]
  · rw [dec_f (by omega), cond_false, if_neg h]
    simp only [Int.toNat_natCast, Nat.zero_add]
    simp (disch := omega) only [idx_ok, dec_t, cond_true]
    rw [swp_row d1 i2 j2 (by omega) (by omega), so_part_e4_s, wi_succ i2 (by omega), show wi64 ((j2 : Int) - 1) = ((j2 - 1 : Nat) : Int) by rw [wi64_in (by omega) (by omega)]; omega]
    exact so_part_lp k n a hn (by omega) (by omega) κ (j2 - 1 + 1 - (i2 + 1)) k (i2 + 1) (j2 - 1) _ (Nat.le_refl _) (by omega) (by omega) (by omega) (by omega) (by rw [Sort.size_swp, hd1])
end Go.Proofs.YticcbbcgboddpaaC

set_option linter.unusedVariables false
set_option linter.unusedSimpArgs false
set_option maxRecDepth 20000
namespace Go.Proofs.YticcbbcgboddpaaC
open Go Go.Ev Go.Proofs
variable {ρ : Type}
/-! ### equals first -/
theorem so_peq_up (k j1 n a J : Nat) (hn : n ≤ 1000000000) (ha : a < n) (hJ : J < n) (hk : n + 8 ≤ k) (κ : AV → Heap → Option ρ) (d : Array Int) (hd : d.size = n) : ∀ (m jf i : Nat), J + 1 - i ≤ m → m < jf → i ≤ n →
    so_parteq_h1 k j1 jf n (a : Int) (dA d) (i : Int) (J : Int) κ = so_parteq_h2 k j1 k n (a : Int) (dA d) (J : Int) ((Sort.scanUp (fun x => !ltI d[a]! x) d J i : Nat) : Int) κ := by
  intro m
  induction m with
  | zero =>
    intro jf i h1 h2 h3
    obtain ⟨jf, rfl⟩ : ∃ j', jf = j' + 1 := ⟨jf - 1, by omega⟩
    rw [so_parteq_h1_s, dec_f (by omega), cond_false, Sort.scanUp, if_neg (by simp; omega)]
  | succ m ih =>
    intro jf i h1 h2 h3
    obtain ⟨jf, rfl⟩ : ∃ j', jf = j' + 1 := ⟨jf - 1, by omega⟩
    rw [so_parteq_h1_s, Sort.scanUp]
    by_cases h : i ≤ J
    · have e : (decide (i ≤ J) && !ltI d[a]! d[i]!) = !ltI (dA d a) (dA d i) := by rw [decide_eq_true h, Bool.true_and]; rfl
      rw [e, dec_t (show (i : Int) ≤ (J : Int) by omega), cond_true]
      simp only [Int.toNat_natCast, Nat.zero_add]
      simp (disch := omega) only [idx_ok, dec_t, cond_true]
      rw [Less_ok k _ _ (by omega), so_parteq_r0_s, wi_succ i (by omega)]
      cases ltI (dA d a) (dA d i) with
      | true => rw [Bool.not_true, cond_false, if_neg (by simp)]
      | false => rw [Bool.not_false, cond_true, if_pos rfl]; exact ih jf (i + 1) (by omega) (by omega) (by omega)
    · rw [dec_f (by omega), cond_false, if_neg (by simp; omega)]
theorem so_peq_down (k j1 n a i : Nat) (hn : n ≤ 1000000000) (ha : a < n) (hi : 1 ≤ i) (hk : n + 8 ≤ k) (κ : AV → Heap → Option ρ) (d : Array Int) (hd : d.size = n) : ∀ (j jf : Nat), j < n → j < jf →
    so_parteq_h2 k j1 jf n (a : Int) (dA d) (j : Int) (i : Int) κ = so_parteq_e1 k j1 n (a : Int) (dA d) (i : Int) ((Sort.scanDown (fun x => ltI d[a]! x) d i j : Nat) : Int) κ
  | 0, jf, h1, h2 => by
    obtain ⟨jf, rfl⟩ : ∃ j', jf = j' + 1 := ⟨jf - 1, by omega⟩
    rw [so_parteq_h2_s, dec_f (by omega), cond_false]; rfl
  | j + 1, jf, h1, h2 => by
    obtain ⟨jf, rfl⟩ : ∃ j', jf = j' + 1 := ⟨jf - 1, by omega⟩
    rw [so_parteq_h2_s, Sort.scanDown]
    by_cases h : i ≤ j + 1
    · have e : (decide (i ≤ j + 1) && ltI d[a]! d[j + 1]!) = ltI (dA d a) (dA d (j + 1)) := by rw [decide_eq_true h, Bool.true_and]; rfl
      rw [e, dec_t (show (i : Int) ≤ ((j + 1 : Nat) : Int) by omega), cond_true]
      simp only [Int.toNat_natCast, Nat.zero_add]
      simp (disch := omega) only [idx_ok, dec_t, cond_true]
      rw [Less_ok k _ _ (by omega), so_parteq_r1_s, wi_pred j (by omega)]
      cases ltI (dA d a) (dA d (j + 1)) with
      | false => rw [cond_false, if_neg (by simp)]
      | true => rw [cond_true, if_pos rfl]; exact so_peq_down k j1 n a i hn ha hi hk κ d hd j jf (by omega) (by omega)
    · rw [dec_f (by omega), cond_false, if_neg (by simp; omega)]
theorem so_peq_lp (k n a : Nat) (hn : n ≤ 1000000000) (ha : a < n) (hk : n + 8 ≤ k) (κ : AV → Heap → Option ρ) : ∀ (m jf i j : Nat) (d : Array Int), j + 1 - i ≤ m → m < jf → 1 ≤ i → j < n → i ≤ n → d.size = n →
    so_parteq_h0 k jf n (a : Int) (dA d) (i : Int) (j : Int) κ = κ (.int .i64 (((Sort.partEqLoop ltI a i j d).1 : Nat) : Int)) [some (.arr 1 n (rowOf (eI .u64) (dA (Sort.partEqLoop ltI a i j d).2)))] := by
  intro m
  induction m with
  | zero =>
    intro jf i j d h1 h2 h3 h4 h5 hd
    obtain ⟨jf, rfl⟩ : ∃ j', jf = j' + 1 := ⟨jf - 1, by omega⟩
    have u1 := Sort.scanUp_ge (fun x => !ltI d[a]! x) d j i
    have u2 := Sort.scanDown_le (fun x => ltI d[a]! x) d (Sort.scanUp (fun x => !ltI d[a]! x) d j i) j
    rw [so_parteq_h0_s, so_peq_up k jf n a j hn ha h4 hk κ d hd (j + 1 - i) k i (Nat.le_refl _) (by omega) h5, so_peq_down k jf n a _ hn ha (by omega) hk κ d hd j k h4 (by omega), so_parteq_e1_s, Sort.partEqLoop_eq]
    rw [dec_t (by omega), cond_true, if_pos (by omega)]
  | succ m ih =>
    intro jf i j d h1 h2 h3 h4 h5 hd
    obtain ⟨jf, rfl⟩ : ∃ j', jf = j' + 1 := ⟨jf - 1, by omega⟩
    have u1 := Sort.scanUp_ge (fun x => !ltI d[a]! x) d j i
    have u2 := Sort.scanDown_le (fun x => ltI d[a]! x) d (Sort.scanUp (fun x => !ltI d[a]! x) d j i) j
    rw [so_parteq_h0_s, so_peq_up k jf n a j hn ha h4 hk κ d hd (j + 1 - i) k i (Nat.le_refl _) (by omega) h5, so_peq_down k jf n a _ hn ha (by omega) hk κ d hd j k h4 (by omega), so_parteq_e1_s, Sort.partEqLoop_eq]
    generalize Sort.scanUp (fun x => !ltI d[a]! x) d j i = i2 at *
    generalize Sort.scanDown (fun x => ltI d[a]! x) d i2 j = j2 at *
    by_cases h : i2 > j2
    · rw [dec_t (by omega), cond_true, if_pos h]
    · rw [dec_f (by omega), cond_false, if_neg h]
      simp only [Int.toNat_natCast, Nat.zero_add]
      simp (disch := omega) only [idx_ok, dec_t, cond_true]
      rw [swp_row d i2 j2 (by omega) (by omega), so_parteq_e2_s, wi_succ i2 (by omega), show wi64 ((j2 : Int) - 1) = ((j2 - 1 : Nat) : Int) by rw [wi64_in (by omega) (by omega)]; omega]
      exact ih jf (i2 + 1) (j2 - 1) _ (by omega) (by omega) (by omega) (by omega) (by omega) (by rw [Sort.size_swp, hd])
theorem so_parteq_ok (k n a b p : Nat) (d : Array Int) (hd : d.size = n) (hn : n ≤ 1000000000) (hap : a ≤ p) (hpb : p < b) (hb : b ≤ n) (hk : n + 20 ≤ k) (κ : AV → Heap → Option ρ) :
    evalF ctx k n_slices_partitionEqualOrdered_uint64 [.osl 1 0 0 n false, .int .i64 (a : Int), .int .i64 (b : Int), .int .i64 (p : Int)] [some (.arr 1 n (rowOf (eI .u64) (dA d)))] κ =
      κ (.int .i64 (((Sort.partitionEqual ltI d a b p).1 : Nat) : Int)) [some (.arr 1 n (rowOf (eI .u64) (dA (Sort.partitionEqual ltI d a b p).2)))] := by
  obtain ⟨k, rfl⟩ : ∃ k', k = k' + 1 := ⟨k - 1, by omega⟩
  rw [so_parteq_e]
  simp only [Int.toNat_natCast, Nat.zero_add]
  simp (disch := omega) only [idx_ok, dec_t, cond_true]
  rw [swp_row d a p (by omega) (by omega), so_parteq_e0_s, wi_succ a (by omega), show wi64 ((b : Int) - 1) = ((b - 1 : Nat) : Int) by rw [wi64_in (by omega) (by omega)]; omega]
  exact so_peq_lp k n a hn (by omega) (by omega) κ (b - 1 + 1 - (a + 1)) k (a + 1) (b - 1) _ (Nat.le_refl _) (by omega) (by omega) (by omega) (by omega) (by rw [Sort.size_swp, hd])
/-! ### partly sorted already -/
noncomputable def pinsT (k j1 n : Nat) (a b : Nat) (x8 : Int) (d : Array Int) (i : Nat) (κ : AV → Heap → Option ρ) : Option ρ :=
  bif decide ((i : Int) = (b : Int)) then κ (.bool true) [some (.arr 1 n (rowOf (eI .u64) (dA d)))]
  else bif decide (wi64 ((b : Int) - (a : Int)) < 50) then κ (.bool false) [some (.arr 1 n (rowOf (eI .u64) (dA d)))]
  else so_pins_e0 k j1 n (a : Int) (b : Int) (i : Int) x8 (rowOf (eI .u64) (dA (Sort.swp d i (i - 1)))) κ
theorem so_pins_up (k j1 n a b : Nat) (x8 : Int) (hn : n ≤ 1000000000) (hb : b ≤ n) (hk : n + 8 ≤ k) (κ : AV → Heap → Option ρ) (d : Array Int) (hd : d.size = n) : ∀ (m jf i : Nat), b - i ≤ m → m < jf → 1 ≤ i → i ≤ b →
    so_pins_h1 k j1 jf n (a : Int) (b : Int) (i : Int) x8 (rowOf (eI .u64) (dA d)) κ = pinsT k j1 n a b x8 d (Sort.scanSorted ltI d b i) κ := by
  intro m
  induction m with
  | zero =>
    intro jf i h1 h2 h3 h4
    obtain ⟨jf, rfl⟩ : ∃ j', jf = j' + 1 := ⟨jf - 1, by omega⟩
    obtain rfl : i = b := by omega
    rw [so_pins_h1_s, dec_f (by omega), cond_false, Sort.scanSorted, if_neg (by simp), dec_t (show (i : Int) = (i : Int) from rfl), cond_true]
    unfold pinsT
    rw [dec_t (show (i : Int) = (i : Int) from rfl), cond_true]
  | succ m ih =>
    intro jf i h1 h2 h3 h4
    obtain ⟨jf, rfl⟩ : ∃ j', jf = j' + 1 := ⟨jf - 1, by omega⟩
    have e1 : wi64 ((i : Int) - 1) = ((i - 1 : Nat) : Int) := by rw [wi64_in (by omega) (by omega)]; omega
    rw [so_pins_h1_s, Sort.scanSorted, e1]
    by_cases h : i < b
    · have e : (decide (i < b) && !ltI d[i]! d[i - 1]!) = !ltI (dA d i) (dA d (i - 1)) := by rw [decide_eq_true h, Bool.true_and]; rfl
      rw [e, dec_t (show (i : Int) < (b : Int) by omega), cond_true]
      simp only [Int.toNat_natCast, Nat.zero_add]
      rw [idx_ok (n := n) (i := (i : Int)) (by omega) (by omega), cond_true, dec_t (show i < n by omega), cond_true, idx_ok (by omega) (by omega), cond_true, dec_t (show i - 1 < n by omega), cond_true]
      rw [Less_ok k _ _ (by omega), so_pins_r0_s, wi_succ i (by omega), e1]
      cases ltI (dA d i) (dA d (i - 1)) with
      | true =>
        rw [Bool.not_true, cond_false, if_neg (by simp)]
        unfold pinsT
        rw [dec_f (show ¬ (i : Int) = (b : Int) by omega), cond_false, cond_false]
        simp only [Int.toNat_natCast, Nat.zero_add]
        rw [swp_row d i (i - 1) (by omega) (by omega)]
        rw [idx_ok (n := n) (i := (i : Int)) (by omega) (by omega), idx_ok (n := n) (i := ((i - 1 : Nat) : Int)) (by omega) (by omega), dec_t (show i < n by omega), dec_t (show i - 1 < n by omega)]
        rfl
      | false => rw [Bool.not_false, cond_true, if_pos rfl]; exact ih jf (i + 1) (by omega) (by omega) (by omega) (by omega)
    · obtain rfl : i = b := by omega
      rw [dec_f (show ¬ (i : Int) < (i : Int) by omega), cond_false, if_neg (by simp), dec_t (show (i : Int) = (i : Int) from rfl), cond_true]
      unfold pinsT
      rw [dec_t (show (i : Int) = (i : Int) from rfl), cond_true]
theorem shiftDown_size : ∀ (j : Nat) (d : Array Int), (Sort.shiftDown ltI j d).size = d.size
  | 0, d => rfl
  | j + 1, d => by
    rw [Sort.shiftDown]
    split
    · rfl
    · rw [shiftDown_size j, Sort.size_swp]
theorem shiftUp_size (b : Nat) : ∀ (m j : Nat) (d : Array Int), b - j ≤ m → (Sort.shiftUp ltI b j d).size = d.size
  | 0, j, d, h => by rw [Sort.shiftUp, if_neg (by omega)]
  | m + 1, j, d, h => by
    rw [Sort.shiftUp]
    split
    · split
      · rfl
      · rw [shiftUp_size b m (j + 1) _ (by omega), Sort.size_swp]
    · rfl
noncomputable def pinsR (k j1 n a b i : Nat) (x8 : Int) (d : Array Int) (κ : AV → Heap → Option ρ) : Option ρ :=
  bif decide (2 ≤ wi64 ((b : Int) - (i : Int))) then so_pins_h3 k j1 k n (a : Int) (b : Int) (dA d) (wi64 ((i : Int) + 1)) (i : Int) x8 κ
  else so_pins_h0 k j1 n (a : Int) (b : Int) (wi64 (x8 + 1)) (rowOf (eI .u64) (dA d)) (i : Int) κ
theorem so_pins_dn (k j1 n a b i : Nat) (x8 : Int) (hn : n ≤ 1000000000) (hk : n + 8 ≤ k) (κ : AV → Heap → Option ρ) : ∀ (j jf : Nat) (d : Array Int), j < n → j < jf → d.size = n →
    so_pins_h2 k j1 jf n (a : Int) (b : Int) (dA d) (j : Int) (i : Int) x8 κ = pinsR k j1 n a b i x8 (Sort.shiftDown ltI j d) κ
  | 0, jf, d, h1, h2, hd => by
    obtain ⟨jf, rfl⟩ : ∃ j', jf = j' + 1 := ⟨jf - 1, by omega⟩
    rw [so_pins_h2_s, dec_f (by omega), cond_false]; rfl
  | j + 1, jf, d, h1, h2, hd => by
    obtain ⟨jf, rfl⟩ : ∃ j', jf = j' + 1 := ⟨jf - 1, by omega⟩
    rw [so_pins_h2_s, Sort.shiftDown, wi_pred j (by omega), dec_t (show 1 ≤ ((j + 1 : Nat) : Int) by omega), cond_true]
    simp only [Int.toNat_natCast, Nat.zero_add]
    rw [idx_ok (n := n) (i := ((j + 1 : Nat) : Int)) (by omega) (by omega), cond_true, dec_t (show j + 1 < n by omega), cond_true, idx_ok (by omega) (by omega), cond_true, dec_t (show j < n by omega), cond_true]
    rw [Less_ok k _ _ (by omega), so_pins_r1_s, wi_pred j (by omega)]
    have e : ltI d[j + 1]! d[j]! = ltI (dA d (j + 1)) (dA d j) := rfl
    rw [e]
    cases ltI (dA d (j + 1)) (dA d j) with
    | false => rfl
    | true =>
      rw [Bool.not_true, cond_false, if_neg (by simp)]
      simp only [Int.toNat_natCast, Nat.zero_add]
      rw [idx_ok (n := n) (i := ((j + 1 : Nat) : Int)) (by omega) (by omega), idx_ok (n := n) (i := (j : Int)) (by omega) (by omega), dec_t (show j + 1 < n by omega), dec_t (show j < n by omega)]
      simp only [cond_true]
      rw [swp_row d (j + 1) j (by omega) (by omega), so_pins_e1_s, wi_pred j (by omega)]
      exact so_pins_dn k j1 n a b i x8 hn hk κ j jf _ (by omega) (by omega) (by rw [Sort.size_swp, hd])
theorem so_pins_sh (k j1 n a b i : Nat) (x8 : Int) (hn : n ≤ 1000000000) (hb : b ≤ n) (hk : n + 8 ≤ k) (κ : AV → Heap → Option ρ) : ∀ (m jf j : Nat) (d : Array Int), b - j ≤ m → m < jf → 1 ≤ j → j ≤ n → d.size = n →
    so_pins_h3 k j1 jf n (a : Int) (b : Int) (dA d) (j : Int) (i : Int) x8 κ = so_pins_h0 k j1 n (a : Int) (b : Int) (wi64 (x8 + 1)) (rowOf (eI .u64) (dA (Sort.shiftUp ltI b j d))) (i : Int) κ := by
  intro m
  induction m with
  | zero =>
    intro jf j d h1 h2 h3 h4 hd
    obtain ⟨jf, rfl⟩ : ∃ j', jf = j' + 1 := ⟨jf - 1, by omega⟩
    rw [so_pins_h3_s, dec_f (by omega), cond_false, Sort.shiftUp, if_neg (by omega)]
  | succ m ih =>
    intro jf j d h1 h2 h3 h4 hd
    obtain ⟨jf, rfl⟩ : ∃ j', jf = j' + 1 := ⟨jf - 1, by omega⟩
    have e1 : wi64 ((j : Int) - 1) = ((j - 1 : Nat) : Int) := by rw [wi64_in (by omega) (by omega)]; omega
    rw [so_pins_h3_s, Sort.shiftUp, e1]
    by_cases h : j < b
    · rw [dec_t (show (j : Int) < (b : Int) by omega), cond_true, if_pos h]
      simp only [Int.toNat_natCast, Nat.zero_add]
      rw [idx_ok (n := n) (i := (j : Int)) (by omega) (by omega), cond_true, dec_t (show j < n by omega), cond_true, idx_ok (by omega) (by omega), cond_true, dec_t (show j - 1 < n by omega), cond_true]
      rw [Less_ok k _ _ (by omega), so_pins_r2_s, e1]
      have e : ltI d[j]! d[j - 1]! = ltI (dA d j) (dA d (j - 1)) := rfl
      rw [e]
      cases ltI (dA d j) (dA d (j - 1)) with
      | false => rfl
      | true =>
        rw [Bool.not_true, cond_false, if_neg (by simp)]
        simp only [Int.toNat_natCast, Nat.zero_add]
        rw [idx_ok (n := n) (i := (j : Int)) (by omega) (by omega), idx_ok (n := n) (i := ((j - 1 : Nat) : Int)) (by omega) (by omega), dec_t (show j < n by omega), dec_t (show j - 1 < n by omega)]
        simp only [cond_true]
        rw [swp_row d j (j - 1) (by omega) (by omega), so_pins_e2_s, wi_succ j (by omega)]
        exact ih jf (j + 1) _ (by omega) (by omega) (by omega) (by omega) (by rw [Sort.size_swp, hd])
    · rw [dec_f (by omega), cond_false, if_neg h]
theorem scanSorted_in (b : Nat) (d : Array Int) : ∀ (m i : Nat), b - i ≤ m → i ≤ b → i ≤ Sort.scanSorted ltI d b i ∧ Sort.scanSorted ltI d b i ≤ b
  | 0, i, h1, h2 => by rw [Sort.scanSorted, if_neg (by simp; omega)]; omega
  | m + 1, i, h1, h2 => by
    rw [Sort.scanSorted]
    split
    · rename_i hc
      simp only [Bool.and_eq_true, decide_eq_true_eq] at hc
      have := scanSorted_in b d m (i + 1) (by omega) (by omega)
      omega
    · omega
theorem so_pins_lp (k n a b : Nat) (hn : n ≤ 1000000000) (ha : a < b) (hb : b ≤ n) (hk : n + 8 ≤ k) (κ : AV → Heap → Option ρ) : ∀ (s jf i : Nat) (d : Array Int), s ≤ 5 → s < jf → 1 ≤ i → a ≤ i → i ≤ b → d.size = n →
    so_pins_h0 k jf n (a : Int) (b : Int) ((5 - s : Nat) : Int) (rowOf (eI .u64) (dA d)) (i : Int) κ = κ (.bool (Sort.partialIns ltI a b s i d).2) [some (.arr 1 n (rowOf (eI .u64) (dA (Sort.partialIns ltI a b s i d).1)))]
  | 0, jf, i, d, h1, h2, h3, h0, h4, hd => by
    obtain ⟨jf, rfl⟩ : ∃ j', jf = j' + 1 := ⟨jf - 1, by omega⟩
    rw [so_pins_h0_s, dec_f (by omega), cond_false]; rfl
  | s + 1, jf, i, d, h1, h2, h3, h0, h4, hd => by
    obtain ⟨jf, rfl⟩ : ∃ j', jf = j' + 1 := ⟨jf - 1, by omega⟩
    have eb : wi64 ((b : Int) - (a : Int)) = ((b - a : Nat) : Int) := by rw [wi64_in (by omega) (by omega)]; omega
    have hs := scanSorted_in b d (b - i) i (Nat.le_refl _) h4
    rw [so_pins_h0_s, dec_t (show ((5 - (s + 1) : Nat) : Int) < 5 by omega), cond_true, so_pins_up k jf n a b _ hn hb hk κ d hd (b - i) k i (Nat.le_refl _) (by omega) h3 h4, Sort.partialIns]
    unfold pinsT
    generalize Sort.scanSorted ltI d b i = i2 at *
    dsimp only
    by_cases h : i2 = b
    · rw [dec_t (show (i2 : Int) = (b : Int) by omega), cond_true, if_pos h]
    · rw [dec_f (show ¬ (i2 : Int) = (b : Int) by omega), cond_false, if_neg h, eb]
      by_cases hx : b - a < 50
      · rw [dec_t (show ((b - a : Nat) : Int) < 50 by omega), cond_true, if_pos hx]
      · rw [dec_f (show ¬ ((b - a : Nat) : Int) < 50 by omega), cond_false, if_neg hx, so_pins_e0_s]
        have ea : wi64 ((i2 : Int) - (a : Int)) = ((i2 - a : Nat) : Int) := by rw [wi64_in (by omega) (by omega)]; omega
        have ei : wi64 ((b : Int) - (i2 : Int)) = ((b - i2 : Nat) : Int) := by rw [wi64_in (by omega) (by omega)]; omega
        have e1 : wi64 ((i2 : Int) - 1) = ((i2 - 1 : Nat) : Int) := by rw [wi64_in (by omega) (by omega)]; omega
        have e8 : wi64 (((5 - (s + 1) : Nat) : Int) + 1) = ((5 - s : Nat) : Int) := by rw [wi64_in (by omega) (by omega)]; omega
        have hd1 : (Sort.swp d i2 (i2 - 1)).size = n := by rw [Sort.size_swp, hd]
        generalize Sort.swp d i2 (i2 - 1) = d1 at *
        have tail : ∀ d2 : Array Int, d2.size = n → pinsR k jf n a b i2 ((5 - (s + 1) : Nat) : Int) d2 κ = κ (.bool (Sort.partialIns ltI a b s i2 (if b - i2 ≥ 2 then Sort.shiftUp ltI b (i2 + 1) d2 else d2)).2) [some (.arr 1 n (rowOf (eI .u64) (dA (Sort.partialIns ltI a b s i2 (if b - i2 ≥ 2 then Sort.shiftUp ltI b (i2 + 1) d2 else d2)).1)))] := by
          intro d2 hd2
          unfold pinsR
          rw [ei, e8, wi_succ i2 (by omega)]
          by_cases hy : b - i2 ≥ 2
          · rw [dec_t (show 2 ≤ ((b - i2 : Nat) : Int) by omega), cond_true, if_pos hy, so_pins_sh k jf n a b i2 _ hn hb hk κ (b - (i2 + 1)) k (i2 + 1) d2 (Nat.le_refl _) (by omega) (by omega) (by omega) hd2, e8]
            exact so_pins_lp k n a b hn ha hb hk κ s jf i2 _ (by omega) (by omega) (by omega) (by omega) (by omega) (by rw [shiftUp_size b (b - (i2 + 1)) (i2 + 1) d2 (Nat.le_refl _), hd2])
          · rw [dec_f (show ¬ 2 ≤ ((b - i2 : Nat) : Int) by omega), cond_false, if_neg hy]
            exact so_pins_lp k n a b hn ha hb hk κ s jf i2 _ (by omega) (by omega) (by omega) (by omega) (by omega) hd2
        rw [ea]
        by_cases hz : i2 - a ≥ 2
        · rw [dec_t (show 2 ≤ ((i2 - a : Nat) : Int) by omega), cond_true, if_pos hz, e1, so_pins_dn k jf n a b i2 _ hn hk κ (i2 - 1) k d1 (by omega) (by omega) hd1]
          exact tail _ (by rw [shiftDown_size, hd1])
        · rw [dec_f (show ¬ 2 ≤ ((i2 - a : Nat) : Int) by omega), cond_false, if_neg hz]
          exact tail d1 hd1
theorem so_pins_ok (k n a b : Nat) (d : Array Int) (hd : d.size = n) (hn : n ≤ 1000000000) (hab : a < b) (hb : b ≤ n) (hk : n + 20 ≤ k) (κ : AV → Heap → Option ρ) :
    evalF ctx k n_slices_partialInsertionSortOrdered_uint64 [.osl 1 0 0 n false, .int .i64 (a : Int), .int .i64 (b : Int)] [some (.arr 1 n (rowOf (eI .u64) (dA d)))] κ =
      κ (.bool (Sort.partialInsertionSort ltI d a b).2) [some (.arr 1 n (rowOf (eI .u64) (dA (Sort.partialInsertionSort ltI d a b).1)))] := by
  obtain ⟨k, rfl⟩ : ∃ k', k = k' + 1 := ⟨k - 1, by omega⟩
  rw [so_pins_e, wi_succ a (by omega)]
  exact so_pins_lp k n a b hn hab hb (by omega) κ 5 k (a + 1) d (by omega) (by omega) (by omega) (by omega) (by omega) hd
end Go.Proofs.YticcbbcgboddpaaC

set_option linter.unusedVariables false
set_option maxRecDepth 20000
namespace Go.Proofs.YticcbbcgboddpaaC
open Go Go.Ev Go.Proofs
variable {ρ : Type}
theorem slices_xorshift_Next_e (k : Nat) (s : Int) (κ : AV → Heap → Option ρ) : evalF ctx (k + 1) n_slices_xorshift_Next [.ref 0 0] [some (.box [.int .u64 s])] κ =
  κ (.int .u64 (wu64 ((BitVec.ofInt 64 (wu64 ((BitVec.ofInt 64 (wu64 ((BitVec.ofInt 64 (s) ^^^ BitVec.ofInt 64 (wu64 (s * 2 ^ 13))).toNat : Int)) ^^^ BitVec.ofInt 64 ((wu64 ((BitVec.ofInt 64 (s) ^^^ BitVec.ofInt 64 (wu64 (s * 2 ^ 13))).toNat : Int)).fdiv (2 ^ 7))).toNat : Int)) ^^^ BitVec.ofInt 64 (wu64 (wu64 ((BitVec.ofInt 64 (wu64 ((BitVec.ofInt 64 (s) ^^^ BitVec.ofInt 64 (wu64 (s * 2 ^ 13))).toNat : Int)) ^^^ BitVec.ofInt 64 ((wu64 ((BitVec.ofInt 64 (s) ^^^ BitVec.ofInt 64 (wu64 (s * 2 ^ 13))).toNat : Int)).fdiv (2 ^ 7))).toNat : Int) * 2 ^ 17))).toNat : Int))) [some (.box [.int .u64 (wu64 ((BitVec.ofInt 64 (wu64 ((BitVec.ofInt 64 (wu64 ((BitVec.ofInt 64 (s) ^^^ BitVec.ofInt 64 (wu64 (s * 2 ^ 13))).toNat : Int)) ^^^ BitVec.ofInt 64 ((wu64 ((BitVec.ofInt 64 (s) ^^^ BitVec.ofInt 64 (wu64 (s * 2 ^ 13))).toNat : Int)).fdiv (2 ^ 7))).toNat : Int)) ^^^ BitVec.ofInt 64 (wu64 (wu64 ((BitVec.ofInt 64 (wu64 ((BitVec.ofInt 64 (s) ^^^ BitVec.ofInt 64 (wu64 (s * 2 ^ 13))).toNat : Int)) ^^^ BitVec.ofInt 64 ((wu64 ((BitVec.ofInt 64 (s) ^^^ BitVec.ofInt 64 (wu64 (s * 2 ^ 13))).toNat : Int)).fdiv (2 ^ 7))).toNat : Int) * 2 ^ 17))).toNat : Int))])] := by kernel_rfl
noncomputable def slices_nextPowerOfTwo_r0 (k : Nat) (x : Int) (κ : AV → Heap → Option ρ) (v : AV) : Option ρ := resAt ctx k n_slices_nextPowerOfTwo 0 [.r, .l] 2 [] ⟨(envOf 7 [(0, .int .i64 x), (2, .int .u64 0), (3, .int .i64 x), (4, .int .u64 (wu64 (x))), (5, v)]), []⟩ κ
theorem slices_nextPowerOfTwo_r0_s (k : Nat) (x : Int) (r0 : Int) (κ : AV → Heap → Option ρ) : slices_nextPowerOfTwo_r0 k x κ (.int .i64 r0) =
  (bif !decide (r0 < 0) then
   κ (.int .u64 (wu64 (1 * 2 ^ (min ((r0).toNat) 64)))) []
  else none) := by kernel_rfl
theorem slices_nextPowerOfTwo_e (k : Nat) (x : Int) (κ : AV → Heap → Option ρ) : evalF ctx (k + 1) n_slices_nextPowerOfTwo [.int .i64 x] [] κ =
  callP ctx k n_math_bits_Len [.int .u64 (wu64 (x))] (slices_nextPowerOfTwo_r0 k x κ) := by kernel_rfl
noncomputable def math_bits_Len_r0 (k : Nat) (x : Int) (κ : AV → Heap → Option ρ) (v : AV) : Option ρ := resAt ctx k n_math_bits_Len 0 [.r, .r, .l] 1 [] ⟨(envOf 8 [(0, .int .u64 x), (2, .int .i64 0), (6, .int .u64 x), (7, v)]), []⟩ κ
theorem math_bits_Len_r0_s (k : Nat) (x : Int) (r0 : Int) (κ : AV → Heap → Option ρ) : math_bits_Len_r0 k x κ (.int .i64 r0) =
  κ (.int .i64 r0) [] := by kernel_rfl
theorem math_bits_Len_e (k : Nat) (x : Int) (κ : AV → Heap → Option ρ) : evalF ctx (k + 1) n_math_bits_Len [.int .u64 x] [] κ =
  callP ctx k n_math_bits_Len64 [.int .u64 x] (math_bits_Len_r0 k x κ) := by kernel_rfl
theorem math_bits_Len64_e (k : Nat) (x : Int) (κ : AV → Heap → Option ρ) : evalF ctx (k + 1) n_math_bits_Len64 [.int .u64 x] [] κ =
  (bif decide (4294967296 ≤ x) then
   (bif decide (65536 ≤ x.fdiv (2 ^ 32)) then
    (bif decide (256 ≤ (x.fdiv (2 ^ 32)).fdiv (2 ^ 16)) then
     (bif idxOK (wu8 (((x.fdiv (2 ^ 32)).fdiv (2 ^ 16)).fdiv (2 ^ 8))) 256 then
      κ (.int .i64 (wi64 (56 + wi64 (((((⟨#[0, 1, 2, 2, 3, 3, 3, 3, 4, 4, 4, 4, 4, 4, 4, 4, 5, 5, 5, 5, 5, 5, 5, 5, 5, 5, 5, 5, 5, 5, 5, 5, 6, 6, 6, 6, 6, 6, 6, 6, 6, 6, 6, 6, 6, 6, 6, 6, 6, 6, 6, 6, 6, 6, 6, 6, 6, 6, 6, 6, 6, 6, 6, 6, 7, 7, 7, 7, 7, 7, 7, 7, 7, 7, 7, 7, 7, 7, 7, 7, 7, 7, 7, 7, 7, 7, 7, 7, 7, 7, 7, 7, 7, 7, 7, 7, 7, 7, 7, 7, 7, 7, 7, 7, 7, 7, 7, 7, 7, 7, 7, 7, 7, 7, 7, 7, 7, 7, 7, 7, 7, 7, 7, 7, 7, 7, 7, 7, 8, 8, 8, 8, 8, 8, 8, 8, 8, 8, 8, 8, 8, 8, 8, 8, 8, 8, 8, 8, 8, 8, 8, 8, 8, 8, 8, 8, 8, 8, 8, 8, 8, 8, 8, 8, 8, 8, 8, 8, 8, 8, 8, 8, 8, 8, 8, 8, 8, 8, 8, 8, 8, 8, 8, 8, 8, 8, 8, 8, 8, 8, 8, 8, 8, 8, 8, 8, 8, 8, 8, 8, 8, 8, 8, 8, 8, 8, 8, 8, 8, 8, 8, 8, 8, 8, 8, 8, 8, 8, 8, 8, 8, 8, 8, 8, 8, 8, 8, 8, 8, 8, 8, 8, 8, 8, 8, 8, 8, 8, 8, 8, 8, 8, 8, 8, 8, 8, 8, 8, 8, 8, 8, 8, 8, 8, 8, 8]⟩ : ByteArray).data.getD ((wu8 (((x.fdiv (2 ^ 32)).fdiv (2 ^ 16)).fdiv (2 ^ 8))).toNat) 0).toNat : Nat) : Int))))) []
     else none)
    else (bif idxOK (wu8 ((x.fdiv (2 ^ 32)).fdiv (2 ^ 16))) 256 then
      κ (.int .i64 (wi64 (48 + wi64 (((((⟨#[0, 1, 2, 2, 3, 3, 3, 3, 4, 4, 4, 4, 4, 4, 4, 4, 5, 5, 5, 5, 5, 5, 5, 5, 5, 5, 5, 5, 5, 5, 5, 5, 6, 6, 6, 6, 6, 6, 6, 6, 6, 6, 6, 6, 6, 6, 6, 6, 6, 6, 6, 6, 6, 6, 6, 6, 6, 6, 6, 6, 6, 6, 6, 6, 7, 7, 7, 7, 7, 7, 7, 7, 7, 7, 7, 7, 7, 7, 7, 7, 7, 7, 7, 7, 7, 7, 7, 7, 7, 7, 7, 7, 7, 7, 7, 7, 7, 7, 7, 7, 7, 7, 7, 7, 7, 7, 7, 7, 7, 7, 7, 7, 7, 7, 7, 7, 7, 7, 7, 7, 7, 7, 7, 7, 7, 7, 7, 7, 8, 8, 8, 8, 8, 8, 8, 8, 8, 8, 8, 8, 8, 8, 8, 8, 8, 8, 8, 8, 8, 8, 8, 8, 8, 8, 8, 8, 8, 8, 8, 8, 8, 8, 8, 8, 8, 8, 8, 8, 8, 8, 8, 8, 8, 8, 8, 8, 8, 8, 8, 8, 8, 8, 8, 8, 8, 8, 8, 8, 8, 8, 8, 8, 8, 8, 8, 8, 8, 8, 8, 8, 8, 8, 8, 8, 8, 8, 8, 8, 8, 8, 8, 8, 8, 8, 8, 8, 8, 8, 8, 8, 8, 8, 8, 8, 8, 8, 8, 8, 8, 8, 8, 8, 8, 8, 8, 8, 8, 8, 8, 8, 8, 8, 8, 8, 8, 8, 8, 8, 8, 8, 8, 8, 8, 8, 8, 8]⟩ : ByteArray).data.getD ((wu8 ((x.fdiv (2 ^ 32)).fdiv (2 ^ 16))).toNat) 0).toNat : Nat) : Int))))) []
     else none))
   else (bif decide (256 ≤ x.fdiv (2 ^ 32)) then
     (bif idxOK (wu8 ((x.fdiv (2 ^ 32)).fdiv (2 ^ 8))) 256 then
      κ (.int .i64 (wi64 (40 + wi64 (((((⟨#[0, 1, 2, 2, 3, 3, 3, 3, 4, 4, 4, 4, 4, 4, 4, 4, 5, 5, 5, 5, 5, 5, 5, 5, 5, 5, 5, 5, 5, 5, 5, 5, 6, 6, 6, 6, 6, 6, 6, 6, 6, 6, 6, 6, 6, 6, 6, 6, 6, 6, 6, 6, 6, 6, 6, 6, 6, 6, 6, 6, 6, 6, 6, 6, 7, 7, 7, 7, 7, 7, 7, 7, 7, 7, 7, 7, 7, 7, 7, 7, 7, 7, 7, 7, 7, 7, 7, 7, 7, 7, 7, 7, 7, 7, 7, 7, 7, 7, 7, 7, 7, 7, 7, 7, 7, 7, 7, 7, 7, 7, 7, 7, 7, 7, 7, 7, 7, 7, 7, 7, 7, 7, 7, 7, 7, 7, 7, 7, 8, 8, 8, 8, 8, 8, 8, 8, 8, 8, 8, 8, 8, 8, 8, 8, 8, 8, 8, 8, 8, 8, 8, 8, 8, 8, 8, 8, 8, 8, 8, 8, 8, 8, 8, 8, 8, 8, 8, 8, 8, 8, 8, 8, 8, 8, 8, 8, 8, 8, 8, 8, 8, 8, 8, 8, 8, 8, 8, 8, 8, 8, 8, 8, 8, 8, 8, 8, 8, 8, 8, 8, 8, 8, 8, 8, 8, 8, 8, 8, 8, 8, 8, 8, 8, 8, 8, 8, 8, 8, 8, 8, 8, 8, 8, 8, 8, 8, 8, 8, 8, 8, 8, 8, 8, 8, 8, 8, 8, 8, 8, 8, 8, 8, 8, 8, 8, 8, 8, 8, 8, 8, 8, 8, 8, 8, 8, 8]⟩ : ByteArray).data.getD ((wu8 ((x.fdiv (2 ^ 32)).fdiv (2 ^ 8))).toNat) 0).toNat : Nat) : Int))))) []
     else none)
    else (bif idxOK (wu8 (x.fdiv (2 ^ 32))) 256 then
      κ (.int .i64 (wi64 (32 + wi64 (((((⟨#[0, 1, 2, 2, 3, 3, 3, 3, 4, 4, 4, 4, 4, 4, 4, 4, 5, 5, 5, 5, 5, 5, 5, 5, 5, 5, 5, 5, 5, 5, 5, 5, 6, 6, 6, 6, 6, 6, 6, 6, 6, 6, 6, 6, 6, 6, 6, 6, 6, 6, 6, 6, 6, 6, 6, 6, 6, 6, 6, 6, 6, 6, 6, 6, 7, 7, 7, 7, 7, 7, 7, 7, 7, 7, 7, 7, 7, 7, 7, 7, 7, 7, 7, 7, 7, 7, 7, 7, 7, 7, 7, 7, 7, 7, 7, 7, 7, 7, 7, 7, 7, 7, 7, 7, 7, 7, 7, 7, 7, 7, 7, 7, 7, 7, 7, 7, 7, 7, 7, 7, 7, 7, 7, 7, 7, 7, 7, 7, 8, 8, 8, 8, 8, 8, 8, 8, 8, 8, 8, 8, 8, 8, 8, 8, 8, 8, 8, 8, 8, 8, 8, 8, 8, 8, 8, 8, 8, 8, 8, 8, 8, 8, 8, 8, 8, 8, 8, 8, 8, 8, 8, 8, 8, 8, 8, 8, 8, 8, 8, 8, 8, 8, 8, 8, 8, 8, 8, 8, 8, 8, 8, 8, 8, 8, 8, 8, 8, 8, 8, 8, 8, 8, 8, 8, 8, 8, 8, 8, 8, 8, 8, 8, 8, 8, 8, 8, 8, 8, 8, 8, 8, 8, 8, 8, 8, 8, 8, 8, 8, 8, 8, 8, 8, 8, 8, 8, 8, 8, 8, 8, 8, 8, 8, 8, 8, 8, 8, 8, 8, 8, 8, 8, 8, 8, 8, 8]⟩ : ByteArray).data.getD ((wu8 (x.fdiv (2 ^ 32))).toNat) 0).toNat : Nat) : Int))))) []
     else none)))
  else (bif decide (65536 ≤ x) then
    (bif decide (256 ≤ x.fdiv (2 ^ 16)) then
     (bif idxOK (wu8 ((x.fdiv (2 ^ 16)).fdiv (2 ^ 8))) 256 then
      κ (.int .i64 (wi64 (24 + wi64 (((((⟨#[0, 1, 2, 2, 3, 3, 3, 3, 4, 4, 4, 4, 4, 4, 4, 4, 5, 5, 5, 5, 5, 5, 5, 5, 5, 5, 5, 5, 5, 5, 5, 5, 6, 6, 6, 6, 6, 6, 6, 6, 6, 6, 6, 6, 6, 6, 6, 6, 6, 6, 6, 6, 6, 6, 6, 6, 6, 6, 6, 6, 6, 6, 6, 6, 7, 7, 7, 7, 7, 7, 7, 7, 7, 7, 7, 7, 7, 7, 7, 7, 7, 7, 7, 7, 7, 7, 7, 7, 7, 7, 7, 7, 7, 7, 7, 7, 7, 7, 7, 7, 7, 7, 7, 7, 7, 7, 7, 7, 7, 7, 7, 7, 7, 7, 7, 7, 7, 7, 7, 7, 7, 7, 7, 7, 7, 7, 7, 7, 8, 8, 8, 8, 8, 8, 8, 8, 8, 8, 8, 8, 8, 8, 8, 8, 8, 8, 8, 8, 8, 8, 8, 8, 8, 8, 8, 8, 8, 8, 8, 8, 8, 8, 8, 8, 8, 8, 8, 8, 8, 8, 8, 8, 8, 8, 8, 8, 8, 8, 8, 8, 8, 8, 8, 8, 8, 8, 8, 8, 8, 8, 8, 8, 8, 8, 8, 8, 8, 8, 8, 8, 8, 8, 8, 8, 8, 8, 8, 8, 8, 8, 8, 8, 8, 8, 8, 8, 8, 8, 8, 8, 8, 8, 8, 8, 8, 8, 8, 8, 8, 8, 8, 8, 8, 8, 8, 8, 8, 8, 8, 8, 8, 8, 8, 8, 8, 8, 8, 8, 8, 8, 8, 8, 8, 8, 8, 8]⟩ : ByteArray).data.getD ((wu8 ((x.fdiv (2 ^ 16)).fdiv (2 ^ 8))).toNat) 0).toNat : Nat) : Int))))) []
     else none)
    else (bif idxOK (wu8 (x.fdiv (2 ^ 16))) 256 then
      κ (.int .i64 (wi64 (16 + wi64 (((((⟨#[0, 1, 2, 2, 3, 3, 3, 3, 4, 4, 4, 4, 4, 4, 4, 4, 5, 5, 5, 5, 5, 5, 5, 5, 5, 5, 5, 5, 5, 5, 5, 5, 6, 6, 6, 6, 6, 6, 6, 6, 6, 6, 6, 6, 6, 6, 6, 6, 6, 6, 6, 6, 6, 6, 6, 6, 6, 6, 6, 6, 6, 6, 6, 6, 7, 7, 7, 7, 7, 7, 7, 7, 7, 7, 7, 7, 7, 7, 7, 7, 7, 7, 7, 7, 7, 7, 7, 7, 7, 7, 7, 7, 7, 7, 7, 7, 7, 7, 7, 7, 7, 7, 7, 7, 7, 7, 7, 7, 7, 7, 7, 7, 7, 7, 7, 7, 7, 7, 7, 7, 7, 7, 7, 7, 7, 7, 7, 7, 8, 8, 8, 8, 8, 8, 8, 8, 8, 8, 8, 8, 8, 8, 8, 8, 8, 8, 8, 8, 8, 8, 8, 8, 8, 8, 8, 8, 8, 8, 8, 8, 8, 8, 8, 8, 8, 8, 8, 8, 8, 8, 8, 8, 8, 8, 8, 8, 8, 8, 8, 8, 8, 8, 8, 8, 8, 8, 8, 8, 8, 8, 8, 8, 8, 8, 8, 8, 8, 8, 8, 8, 8, 8, 8, 8, 8, 8, 8, 8, 8, 8, 8, 8, 8, 8, 8, 8, 8, 8, 8, 8, 8, 8, 8, 8, 8, 8, 8, 8, 8, 8, 8, 8, 8, 8, 8, 8, 8, 8, 8, 8, 8, 8, 8, 8, 8, 8, 8, 8, 8, 8, 8, 8, 8, 8, 8, 8]⟩ : ByteArray).data.getD ((wu8 (x.fdiv (2 ^ 16))).toNat) 0).toNat : Nat) : Int))))) []
     else none))
   else (bif decide (256 ≤ x) then
     (bif idxOK (wu8 (x.fdiv (2 ^ 8))) 256 then
      κ (.int .i64 (wi64 (8 + wi64 (((((⟨#[0, 1, 2, 2, 3, 3, 3, 3, 4, 4, 4, 4, 4, 4, 4, 4, 5, 5, 5, 5, 5, 5, 5, 5, 5, 5, 5, 5, 5, 5, 5, 5, 6, 6, 6, 6, 6, 6, 6, 6, 6, 6, 6, 6, 6, 6, 6, 6, 6, 6, 6, 6, 6, 6, 6, 6, 6, 6, 6, 6, 6, 6, 6, 6, 7, 7, 7, 7, 7, 7, 7, 7, 7, 7, 7, 7, 7, 7, 7, 7, 7, 7, 7, 7, 7, 7, 7, 7, 7, 7, 7, 7, 7, 7, 7, 7, 7, 7, 7, 7, 7, 7, 7, 7, 7, 7, 7, 7, 7, 7, 7, 7, 7, 7, 7, 7, 7, 7, 7, 7, 7, 7, 7, 7, 7, 7, 7, 7, 8, 8, 8, 8, 8, 8, 8, 8, 8, 8, 8, 8, 8, 8, 8, 8, 8, 8, 8, 8, 8, 8, 8, 8, 8, 8, 8, 8, 8, 8, 8, 8, 8, 8, 8, 8, 8, 8, 8, 8, 8, 8, 8, 8, 8, 8, 8, 8, 8, 8, 8, 8, 8, 8, 8, 8, 8, 8, 8, 8, 8, 8, 8, 8, 8, 8, 8, 8, 8, 8, 8, 8, 8, 8, 8, 8, 8, 8, 8, 8, 8, 8, 8, 8, 8, 8, 8, 8, 8, 8, 8, 8, 8, 8, 8, 8, 8, 8, 8, 8, 8, 8, 8, 8, 8, 8, 8, 8, 8, 8, 8, 8, 8, 8, 8, 8, 8, 8, 8, 8, 8, 8, 8, 8, 8, 8, 8, 8]⟩ : ByteArray).data.getD ((wu8 (x.fdiv (2 ^ 8))).toNat) 0).toNat : Nat) : Int))))) []
     else none)
    else (bif idxOK (wu8 (x)) 256 then
      κ (.int .i64 (wi64 (0 + wi64 (((((⟨#[0, 1, 2, 2, 3, 3, 3, 3, 4, 4, 4, 4, 4, 4, 4, 4, 5, 5, 5, 5, 5, 5, 5, 5, 5, 5, 5, 5, 5, 5, 5, 5, 6, 6, 6, 6, 6, 6, 6, 6, 6, 6, 6, 6, 6, 6, 6, 6, 6, 6, 6, 6, 6, 6, 6, 6, 6, 6, 6, 6, 6, 6, 6, 6, 7, 7, 7, 7, 7, 7, 7, 7, 7, 7, 7, 7, 7, 7, 7, 7, 7, 7, 7, 7, 7, 7, 7, 7, 7, 7, 7, 7, 7, 7, 7, 7, 7, 7, 7, 7, 7, 7, 7, 7, 7, 7, 7, 7, 7, 7, 7, 7, 7, 7, 7, 7, 7, 7, 7, 7, 7, 7, 7, 7, 7, 7, 7, 7, 8, 8, 8, 8, 8, 8, 8, 8, 8, 8, 8, 8, 8, 8, 8, 8, 8, 8, 8, 8, 8, 8, 8, 8, 8, 8, 8, 8, 8, 8, 8, 8, 8, 8, 8, 8, 8, 8, 8, 8, 8, 8, 8, 8, 8, 8, 8, 8, 8, 8, 8, 8, 8, 8, 8, 8, 8, 8, 8, 8, 8, 8, 8, 8, 8, 8, 8, 8, 8, 8, 8, 8, 8, 8, 8, 8, 8, 8, 8, 8, 8, 8, 8, 8, 8, 8, 8, 8, 8, 8, 8, 8, 8, 8, 8, 8, 8, 8, 8, 8, 8, 8, 8, 8, 8, 8, 8, 8, 8, 8, 8, 8, 8, 8, 8, 8, 8, 8, 8, 8, 8, 8, 8, 8, 8, 8, 8, 8]⟩ : ByteArray).data.getD ((wu8 (x)).toNat) 0).toNat : Nat) : Int))))) []
     else none)))) := by kernel_rfl
noncomputable def so_ord_r0 (k : Nat) (n : Nat) (w : Nat → Int) (a : Int) (b : Int) (s : Int) (κ : AV → Heap → Option ρ) (v : AV) : Option ρ := resAt ctx k n_slices_order2Ordered_uint64 2 [.r, .l, .l] 8 [] ⟨(envOf 28 [(0, .osl 1 0 0 n false), (1, .int .i64 a), (2, .int .i64 b), (3, .ref 1 0), (8, .int .i64 0), (9, .int .i64 0), (10, .osl 1 0 0 n false), (11, .int .i64 b), (12, .eref 0 (0 + (b).toNat) 0), (13, .int .u64 (w (0 + (b).toNat))), (14, .osl 1 0 0 n false), (15, .int .i64 a), (16, .eref 0 (0 + (a).toNat) 0), (17, .int .u64 (w (0 + (a).toNat))), (18, v)]), [some (.arr 1 n (rowOf (eI .u64) w)), some (.box [.int .i64 s])]⟩ κ
theorem so_ord_r0_s (k : Nat) (n : Nat) (w : Nat → Int) (a : Int) (b : Int) (s : Int) (r0 : Bool) (κ : AV → Heap → Option ρ) : so_ord_r0 k n w a b s κ (.bool r0) =
  (bif r0 then
   κ (.tup [.int .i64 b, .int .i64 a]) [some (.arr 1 n (rowOf (eI .u64) w)), some (.box [.int .i64 (wi64 (s + 1))])]
  else κ (.tup [.int .i64 a, .int .i64 b]) [some (.arr 1 n (rowOf (eI .u64) w)), some (.box [.int .i64 s])]) := by kernel_rfl
theorem so_ord_e (k : Nat) (n : Nat) (w : Nat → Int) (a : Int) (b : Int) (s : Int) (κ : AV → Heap → Option ρ) : evalF ctx (k + 1) n_slices_order2Ordered_uint64 [.osl 1 0 0 n false, .int .i64 a, .int .i64 b, .ref 1 0] [some (.arr 1 n (rowOf (eI .u64) w)), some (.box [.int .i64 s])] κ =
  (bif idxOK b n then
   (bif decide ((0 + (b).toNat) < n) then
    (bif idxOK a n then
     (bif decide ((0 + (a).toNat) < n) then
      callP ctx k n_cmp_Less_uint64 [.int .u64 (w (0 + (b).toNat)), .int .u64 (w (0 + (a).toNat))] (so_ord_r0 k n w a b s κ)
     else none)
    else none)
   else none)
  else none) := by kernel_rfl
noncomputable def so_med_r0 (k : Nat) (n : Nat) (w : Nat → Int) (a : Int) (b : Int) (c : Int) (s : Int) (κ : AV → Heap → Option ρ) (v : AV) (W : Heap) : Option ρ := backH [0, 1] [some (.arr 1 n (rowOf (eI .u64) w)), some (.box [.int .i64 s])] (fun v H => resAt ctx k n_slices_medianOrdered_uint64 2 [.r, .l] 4 [] ⟨(envOf 36 [(0, .osl 1 0 0 n false), (1, .int .i64 a), (2, .int .i64 b), (3, .int .i64 c), (4, .ref 1 0), (10, .int .i64 0), (12, .osl 1 0 0 n false), (13, .int .i64 a), (14, .int .i64 b), (15, .ref 1 0), (16, v)]), H⟩ κ) v W
noncomputable def so_med_r1 (k : Nat) (n : Nat) (w : Nat → Int) (c : Int) (r0p : Int) (r0q : Int) (r0s : Int) (κ : AV → Heap → Option ρ) (v : AV) (W : Heap) : Option ρ := backH [0, 1] [some (.arr 1 n (rowOf (eI .u64) w)), some (.box [.int .i64 r0s])] (fun v H => resAt ctx k n_slices_medianOrdered_uint64 2 [.r, .r, .l] 4 [] ⟨(envOf 36 [(0, .osl 1 0 0 n false), (1, .int .i64 r0p), (2, .int .i64 r0q), (3, .int .i64 c), (4, .ref 1 0), (20, .osl 1 0 0 n false), (21, .int .i64 r0q), (22, .int .i64 c), (23, .ref 1 0), (24, v)]), H⟩ κ) v W
noncomputable def so_med_r2 (k : Nat) (n : Nat) (w : Nat → Int) (r0p : Int) (r1p : Int) (r1s : Int) (κ : AV → Heap → Option ρ) (v : AV) (W : Heap) : Option ρ := backH [0, 1] [some (.arr 1 n (rowOf (eI .u64) w)), some (.box [.int .i64 r1s])] (fun v H => resAt ctx k n_slices_medianOrdered_uint64 2 [.r, .r, .r, .l] 4 [] ⟨(envOf 36 [(0, .osl 1 0 0 n false), (1, .int .i64 r0p), (2, .int .i64 r1p), (4, .ref 1 0), (28, .osl 1 0 0 n false), (29, .int .i64 r0p), (30, .int .i64 r1p), (31, .ref 1 0), (32, v)]), H⟩ κ) v W
theorem so_med_r0_s (k : Nat) (n : Nat) (w : Nat → Int) (a : Int) (b : Int) (c : Int) (s : Int) (r0p : Int) (r0q : Int) (r0s : Int) (κ : AV → Heap → Option ρ) : so_med_r0 k n w a b c s κ (.tup [.int .i64 r0p, .int .i64 r0q]) [some (.arr 1 n (rowOf (eI .u64) w)), some (.box [.int .i64 r0s])] =
  evalF ctx k n_slices_order2Ordered_uint64 [.osl 1 0 0 n false, .int .i64 r0q, .int .i64 c, .ref 1 0] [some (.arr 1 n (rowOf (eI .u64) w)), some (.box [.int .i64 r0s])] (so_med_r1 k n w c r0p r0q r0s κ) := by kernel_rfl
theorem so_med_r1_s (k : Nat) (n : Nat) (w : Nat → Int) (c : Int) (r0p : Int) (r0q : Int) (r0s : Int) (r1p : Int) (r1q : Int) (r1s : Int) (κ : AV → Heap → Option ρ) : so_med_r1 k n w c r0p r0q r0s κ (.tup [.int .i64 r1p, .int .i64 r1q]) [some (.arr 1 n (rowOf (eI .u64) w)), some (.box [.int .i64 r1s])] =
  evalF ctx k n_slices_order2Ordered_uint64 [.osl 1 0 0 n false, .int .i64 r0p, .int .i64 r1p, .ref 1 0] [some (.arr 1 n (rowOf (eI .u64) w)), some (.box [.int .i64 r1s])] (so_med_r2 k n w r0p r1p r1s κ) := by kernel_rfl
theorem so_med_r2_s (k : Nat) (n : Nat) (w : Nat → Int) (r0p : Int) (r1p : Int) (r1s : Int) (r2p : Int) (r2q : Int) (r2s : Int) (κ : AV → Heap → Option ρ) : so_med_r2 k n w r0p r1p r1s κ (.tup [.int .i64 r2p, .int .i64 r2q]) [some (.arr 1 n (rowOf (eI .u64) w)), some (.box [.int .i64 r2s])] =
  κ (.int .i64 r2q) [some (.arr 1 n (rowOf (eI .u64) w)), some (.box [.int .i64 r2s])] := by kernel_rfl
theorem so_med_e (k : Nat) (n : Nat) (w : Nat → Int) (a : Int) (b : Int) (c : Int) (s : Int) (κ : AV → Heap → Option ρ) : evalF ctx (k + 1) n_slices_medianOrdered_uint64 [.osl 1 0 0 n false, .int .i64 a, .int .i64 b, .int .i64 c, .ref 1 0] [some (.arr 1 n (rowOf (eI .u64) w)), some (.box [.int .i64 s])] κ =
  evalF ctx k n_slices_order2Ordered_uint64 [.osl 1 0 0 n false, .int .i64 a, .int .i64 b, .ref 1 0] [some (.arr 1 n (rowOf (eI .u64) w)), some (.box [.int .i64 s])] (so_med_r0 k n w a b c s κ) := by kernel_rfl
noncomputable def so_adj_r0 (k : Nat) (n : Nat) (w : Nat → Int) (a : Int) (s : Int) (κ : AV → Heap → Option ρ) (v : AV) (W : Heap) : Option ρ := backH [0, 1] [some (.arr 1 n (rowOf (eI .u64) w)), some (.box [.int .i64 s])] (fun v H => resAt ctx k n_slices_medianAdjacentOrdered_uint64 2 [.r, .l] 7 [] ⟨(envOf 15 [(0, .osl 1 0 0 n false), (1, .int .i64 a), (2, .ref 1 0), (6, .int .i64 0), (7, .osl 1 0 0 n false), (8, .int .i64 a), (9, .int .i64 (wi64 (a - 1))), (10, .int .i64 a), (11, .int .i64 a), (12, .int .i64 (wi64 (a + 1))), (13, .ref 1 0), (14, v)]), H⟩ κ) v W
theorem so_adj_r0_s (k : Nat) (n : Nat) (w : Nat → Int) (a : Int) (s : Int) (r0p : Int) (r0s : Int) (κ : AV → Heap → Option ρ) : so_adj_r0 k n w a s κ (.int .i64 r0p) [some (.arr 1 n (rowOf (eI .u64) w)), some (.box [.int .i64 r0s])] =
  κ (.int .i64 r0p) [some (.arr 1 n (rowOf (eI .u64) w)), some (.box [.int .i64 r0s])] := by kernel_rfl
theorem so_adj_e (k : Nat) (n : Nat) (w : Nat → Int) (a : Int) (s : Int) (κ : AV → Heap → Option ρ) : evalF ctx (k + 1) n_slices_medianAdjacentOrdered_uint64 [.osl 1 0 0 n false, .int .i64 a, .ref 1 0] [some (.arr 1 n (rowOf (eI .u64) w)), some (.box [.int .i64 s])] κ =
  evalF ctx k n_slices_medianOrdered_uint64 [.osl 1 0 0 n false, .int .i64 (wi64 (a - 1)), .int .i64 a, .int .i64 (wi64 (a + 1)), .ref 1 0] [some (.arr 1 n (rowOf (eI .u64) w)), some (.box [.int .i64 s])] (so_adj_r0 k n w a s κ) := by kernel_rfl
end Go.Proofs.YticcbbcgboddpaaC

set_option linter.unusedVariables false
set_option maxRecDepth 20000
namespace Go.Proofs.YticcbbcgboddpaaC
open Go Go.Ev Go.Proofs
variable {ρ : Type}
noncomputable def so_pdq_h0 (k j : Nat) (n : Nat) (x1 : Int) (w0 : Nat → List AV) (x8 : Bool) (x9 : Bool) (x2 : Int) (x3 : Int) (κ : AV → Heap → Option ρ) : Option ρ := headAt ctx k n_slices_pdqsortOrdered_uint64 1 [.r, .r] j ⟨(envOf 134 [(0, .osl 1 0 0 n false), (1, .int .i64 x1), (2, .int .i64 x2), (3, .int .i64 x3), (8, .bool x8), (9, .bool x9)]), [some (.arr 1 n w0)]⟩ κ
noncomputable def so_pdq_r0 (k j1 : Nat) (n : Nat) (w0 : Nat → Int) (x1 : Int) (x8 : Bool) (x9 : Bool) (x2 : Int) (x3 : Int) (κ : AV → Heap → Option ρ) (v : AV) (W : Heap) : Option ρ := backH [0] [some (.arr 1 n (rowOf (eI .u64) w0))] (fun v H => resAt ctx k n_slices_pdqsortOrdered_uint64 1 [.r, .r, .into j1, .r, .l, .r, .l, .l] 3 [] ⟨(envOf 134 [(0, .osl 1 0 0 n false), (1, .int .i64 x1), (2, .int .i64 x2), (3, .int .i64 x3), (8, .bool x8), (9, .bool x9), (10, .int .i64 (wi64 (x2 - x1))), (22, .int .i64 (wi64 (x2 - x1))), (23, .bool (decide (wi64 (x2 - x1) ≤ 12))), (24, .osl 1 0 0 n false), (25, .int .i64 x1), (26, .int .i64 x2), (27, v)]), H⟩ κ) v W
noncomputable def so_pdq_r1 (k j1 : Nat) (n : Nat) (w0 : Nat → Int) (x1 : Int) (x8 : Bool) (x9 : Bool) (x2 : Int) (x3 : Int) (κ : AV → Heap → Option ρ) (v : AV) (W : Heap) : Option ρ := backH [0] [some (.arr 1 n (rowOf (eI .u64) w0))] (fun v H => resAt ctx k n_slices_pdqsortOrdered_uint64 1 [.r, .r, .into j1, .r, .r, .l, .r, .l, .l] 3 [] ⟨(envOf 134 [(0, .osl 1 0 0 n false), (1, .int .i64 x1), (2, .int .i64 x2), (3, .int .i64 x3), (8, .bool x8), (9, .bool x9), (10, .int .i64 (wi64 (x2 - x1))), (22, .int .i64 (wi64 (x2 - x1))), (23, .bool (decide (wi64 (x2 - x1) ≤ 12))), (28, .int .i64 x3), (29, .bool (decide (x3 = 0))), (30, .osl 1 0 0 n false), (31, .int .i64 x1), (32, .int .i64 x2), (33, v)]), H⟩ κ) v W
noncomputable def so_pdq_r2 (k j1 : Nat) (n : Nat) (w0 : Nat → Int) (x1 : Int) (x8 : Bool) (x9 : Bool) (x2 : Int) (x3 : Int) (κ : AV → Heap → Option ρ) (v : AV) (W : Heap) : Option ρ := backH [0] [some (.arr 1 n (rowOf (eI .u64) w0))] (fun v H => resAt ctx k n_slices_pdqsortOrdered_uint64 1 [.r, .r, .into j1, .r, .r, .r, .l, .r, .l, .l] 3 [] ⟨(envOf 134 [(0, .osl 1 0 0 n false), (1, .int .i64 x1), (2, .int .i64 x2), (3, .int .i64 x3), (8, .bool x8), (9, .bool x9), (10, .int .i64 (wi64 (x2 - x1))), (22, .int .i64 (wi64 (x2 - x1))), (23, .bool (decide (wi64 (x2 - x1) ≤ 12))), (28, .int .i64 x3), (29, .bool (decide (x3 = 0))), (34, .bool x8), (35, .bool (!x8)), (36, .osl 1 0 0 n false), (37, .int .i64 x1), (38, .int .i64 x2), (39, v)]), H⟩ κ) v W
noncomputable def so_pdq_r3 (k j1 : Nat) (n : Nat) (w0 : Nat → Int) (x1 : Int) (x8 : Bool) (x9 : Bool) (x2 : Int) (x3 : Int) (κ : AV → Heap → Option ρ) (v : AV) (W : Heap) : Option ρ := backH [0] [some (.arr 1 n (rowOf (eI .u64) w0))] (fun v H => resAt ctx k n_slices_pdqsortOrdered_uint64 1 [.r, .r, .into j1, .r, .r, .r, .r, .l] 3 [] ⟨(envOf 134 [(0, .osl 1 0 0 n false), (1, .int .i64 x1), (2, .int .i64 x2), (3, .int .i64 x3), (8, .bool x8), (9, .bool x9), (10, .int .i64 (wi64 (x2 - x1))), (22, .int .i64 (wi64 (x2 - x1))), (23, .bool (decide (wi64 (x2 - x1) ≤ 12))), (28, .int .i64 x3), (29, .bool (decide (x3 = 0))), (34, .bool x8), (35, .bool (!x8)), (43, .osl 1 0 0 n false), (44, .int .i64 x1), (45, .int .i64 x2), (46, v)]), H⟩ κ) v W
noncomputable def so_pdq_r4 (k j1 : Nat) (n : Nat) (x1 : Int) (x8 : Bool) (x9 : Bool) (x2 : Int) (r2w : Nat → Int) (x3 : Int) (κ : AV → Heap → Option ρ) (v : AV) (W : Heap) : Option ρ := backH [0] [some (.arr 1 n (rowOf (eI .u64) r2w))] (fun v H => resAt ctx k n_slices_pdqsortOrdered_uint64 1 [.r, .r, .into j1, .r, .r, .r, .r, .l] 3 [] ⟨(envOf 134 [(0, .osl 1 0 0 n false), (1, .int .i64 x1), (2, .int .i64 x2), (3, .int .i64 (wi64 (x3 - 1))), (8, .bool x8), (9, .bool x9), (10, .int .i64 (wi64 (x2 - x1))), (43, .osl 1 0 0 n false), (44, .int .i64 x1), (45, .int .i64 x2), (46, v)]), H⟩ κ) v W
noncomputable def so_pdq_r5 (k j1 : Nat) (n : Nat) (x1 : Int) (x8 : Bool) (x9 : Bool) (x2 : Int) (x3 : Int) (x11 : Int) (x12 : Int) (x49 : Int) (x50 : Bool) (w0 : Nat → List AV) (κ : AV → Heap → Option ρ) (v : AV) (W : Heap) : Option ρ := backH [0] [some (.arr 1 n w0)] (fun v H => resAt ctx k n_slices_pdqsortOrdered_uint64 1 [.r, .r, .into j1, .r, .r, .r, .r, .r, .l, .r, .l, .l] 3 [] ⟨(envOf 134 [(0, .osl 1 0 0 n false), (1, .int .i64 x1), (2, .int .i64 x2), (3, .int .i64 x3), (8, .bool x8), (9, .bool x9), (10, .int .i64 (wi64 (x2 - x1))), (11, .int .i64 x11), (12, .int .i64 x12), (49, .int .i64 x49), (50, .bool x50), (51, .osl 1 0 0 n false), (52, .int .i64 x1), (53, .int .i64 x2), (54, v)]), H⟩ κ) v W
noncomputable def so_pdq_r6 (k j1 : Nat) (n : Nat) (x1 : Int) (x8 : Bool) (x9 : Bool) (x2 : Int) (x3 : Int) (x11 : Int) (x68 : Bool) (w0 : Nat → List AV) (κ : AV → Heap → Option ρ) (v : AV) (W : Heap) : Option ρ := backH [0] [some (.arr 1 n w0)] (fun v H => resAt ctx k n_slices_pdqsortOrdered_uint64 1 [.r, .r, .into j1, .r, .r, .r, .r, .r, .r, .l, .r, .l, .l] 3 [] ⟨(envOf 134 [(0, .osl 1 0 0 n false), (1, .int .i64 x1), (2, .int .i64 x2), (3, .int .i64 x3), (8, .bool x8), (9, .bool x9), (10, .int .i64 (wi64 (x2 - x1))), (11, .int .i64 x11), (68, .bool x68), (69, .osl 1 0 0 n false), (70, .int .i64 x1), (71, .int .i64 x2), (72, v)]), H⟩ κ) v W
noncomputable def so_pdq_r7 (k j1 : Nat) (n : Nat) (x1 : Int) (x8 : Bool) (x9 : Bool) (x2 : Int) (x68 : Bool) (x3 : Int) (x11 : Int) (x80 : Int) (x82 : Int) (x83i : Nat) (x84 : Int) (w0 : Nat → List AV) (xa0 : Int) (xa1 : Int) (κ : AV → Heap → Option ρ) (v : AV) : Option ρ := resAt ctx k n_slices_pdqsortOrdered_uint64 1 [.r, .r, .into j1, .r, .r, .r, .r, .r, .r, .r, .l, .l] 12 [(75, true)] ⟨(envOf 134 [(0, .osl 1 0 0 n false), (1, .int .i64 x1), (2, .int .i64 x2), (3, .int .i64 x3), (8, .bool x8), (9, .bool x9), (10, .int .i64 (wi64 (x2 - x1))), (11, .int .i64 x11), (68, .bool x68), (73, .int .i64 x1), (74, .bool (decide (0 < x1))), (75, .bool (decide (0 < x1))), (76, .osl 1 0 0 n false), (77, .int .i64 x1), (78, .int .i64 (wi64 (x1 - 1))), (79, .eref 0 (0 + (wi64 (x1 - 1)).toNat) 0), (80, .int .u64 x80), (81, .osl 1 0 0 n false), (82, .int .i64 x82), (83, .eref 0 x83i 0), (84, .int .u64 x84), (85, v)]), [some (.arr 1 n w0)]⟩ κ
noncomputable def so_pdq_r8 (k j1 : Nat) (n : Nat) (x1 : Int) (x8 : Bool) (x9 : Bool) (x2 : Int) (x3 : Int) (x11 : Int) (x98 : Int) (w0 : Nat → List AV) (xa3 : Int) (x87 : Bool) (κ : AV → Heap → Option ρ) (v : AV) (W : Heap) : Option ρ := backH [0] [some (.arr 1 n w0)] (fun v H => resAt ctx k n_slices_pdqsortOrdered_uint64 1 [.r, .r, .into j1, .r, .r, .r, .r, .r, .r, .r, .r, .l] 4 [] ⟨(envOf 134 [(0, .osl 1 0 0 n false), (1, .int .i64 x1), (2, .int .i64 x2), (3, .int .i64 x3), (8, .bool x8), (9, .bool x9), (10, .int .i64 (wi64 (x2 - x1))), (11, .int .i64 x11), (87, .bool x87), (95, .osl 1 0 0 n false), (96, .int .i64 x1), (97, .int .i64 x2), (98, .int .i64 x98), (99, v)]), H⟩ κ) v W
noncomputable def so_pdq_r9 (k j1 : Nat) (n : Nat) (x11 : Int) (r6q : Bool) (r6w : Nat → Int) (x1 : Int) (x8 : Bool) (x9 : Bool) (x2 : Int) (x3 : Int) (κ : AV → Heap → Option ρ) (v : AV) : Option ρ := resAt ctx k n_slices_pdqsortOrdered_uint64 1 [.r, .r, .into j1, .r, .r, .r, .r, .r, .r, .r, .l, .l] 12 [(75, true)] ⟨(envOf 134 [(0, .osl 1 0 0 n false), (1, .int .i64 x1), (2, .int .i64 x2), (3, .int .i64 x3), (8, .bool x8), (9, .bool x9), (10, .int .i64 (wi64 (x2 - x1))), (11, .int .i64 x11), (72, .bool r6q), (73, .int .i64 x1), (74, .bool (decide (0 < x1))), (75, .bool (decide (0 < x1))), (76, .osl 1 0 0 n false), (77, .int .i64 x1), (78, .int .i64 (wi64 (x1 - 1))), (79, .eref 0 (0 + (wi64 (x1 - 1)).toNat) 0), (80, .int .u64 (r6w (0 + (wi64 (x1 - 1)).toNat))), (81, .osl 1 0 0 n false), (82, .int .i64 x11), (83, .eref 0 (0 + (x11).toNat) 0), (84, .int .u64 (r6w (0 + (x11).toNat))), (85, v)]), [some (.arr 1 n (rowOf (eI .u64) r6w))]⟩ κ
noncomputable def so_pdq_r10 (k j1 : Nat) (n : Nat) (x11 : Int) (x1 : Int) (x8 : Bool) (x9 : Bool) (x2 : Int) (x3 : Int) (x87 : Bool) (w0 : Nat → List AV) (κ : AV → Heap → Option ρ) (v : AV) (W : Heap) : Option ρ := backH [0] [some (.arr 1 n w0)] (fun v H => resAt ctx k n_slices_pdqsortOrdered_uint64 1 [.r, .r, .into j1, .r, .r, .r, .r, .r, .r, .r, .l, .r, .l, .l] 4 [] ⟨(envOf 134 [(0, .osl 1 0 0 n false), (1, .int .i64 x1), (2, .int .i64 x2), (3, .int .i64 x3), (8, .bool x8), (9, .bool x9), (10, .int .i64 (wi64 (x2 - x1))), (11, .int .i64 x11), (87, .bool x87), (88, .osl 1 0 0 n false), (89, .int .i64 x1), (90, .int .i64 x2), (91, .int .i64 x11), (92, v)]), H⟩ κ) v W
noncomputable def so_pdq_r11 (k j1 : Nat) (n : Nat) (r8p : Int) (r8w : Nat → Int) (x1 : Int) (x2 : Int) (x3 : Int) (r8q : Bool) (κ : AV → Heap → Option ρ) (v : AV) (W : Heap) : Option ρ := backH [0] [some (.arr 1 n (rowOf (eI .u64) r8w))] (fun v H => resAt ctx k n_slices_pdqsortOrdered_uint64 1 [.r, .r, .into j1, .r, .r, .r, .r, .r, .r, .r, .r, .r, .r, .r, .r, .r, .l, .r, .l] 4 [] ⟨(envOf 134 [(0, .osl 1 0 0 n false), (1, .int .i64 x1), (2, .int .i64 x2), (3, .int .i64 x3), (8, .bool (decide (wi64 ((wi64 (x2 - x1)).tdiv 8) ≤ wi64 (r8p - x1)))), (9, .bool r8q), (14, .int .i64 r8p), (117, .osl 1 0 0 n false), (118, .int .i64 x1), (119, .int .i64 r8p), (120, .int .i64 x3), (121, v)]), H⟩ κ) v W
noncomputable def so_pdq_r12 (k j1 : Nat) (n : Nat) (r8p : Int) (r8w : Nat → Int) (x1 : Int) (x2 : Int) (x3 : Int) (r8q : Bool) (κ : AV → Heap → Option ρ) (v : AV) (W : Heap) : Option ρ := backH [0] [some (.arr 1 n (rowOf (eI .u64) r8w))] (fun v H => resAt ctx k n_slices_pdqsortOrdered_uint64 1 [.r, .r, .into j1, .r, .r, .r, .r, .r, .r, .r, .r, .r, .r, .r, .r, .r, .r, .r, .l] 5 [] ⟨(envOf 134 [(0, .osl 1 0 0 n false), (1, .int .i64 x1), (2, .int .i64 x2), (3, .int .i64 x3), (8, .bool (decide (wi64 ((wi64 (x2 - x1)).tdiv 8) ≤ wi64 (x2 - r8p)))), (9, .bool r8q), (14, .int .i64 r8p), (127, .osl 1 0 0 n false), (128, .int .i64 r8p), (129, .int .i64 (wi64 (r8p + 1))), (130, .int .i64 x2), (131, .int .i64 x3), (132, v)]), H⟩ κ) v W
theorem so_pdq_h0_s (k j : Nat) (n : Nat) (x1 : Int) (w0 : Nat → Int) (x8 : Bool) (x9 : Bool) (x2 : Int) (x3 : Int) (κ : AV → Heap → Option ρ) : so_pdq_h0 k (j + 1) n x1 (rowOf (eI .u64) w0) x8 x9 x2 x3 κ =
  (bif decide (wi64 (x2 - x1) ≤ 12) then
   evalF ctx k n_slices_insertionSortOrdered_uint64 [.osl 1 0 0 n false, .int .i64 x1, .int .i64 x2] [some (.arr 1 n (rowOf (eI .u64) w0))] (so_pdq_r0 k j n w0 x1 x8 x9 x2 x3 κ)
  else (bif decide (x3 = 0) then
    evalF ctx k n_slices_heapSortOrdered_uint64 [.osl 1 0 0 n false, .int .i64 x1, .int .i64 x2] [some (.arr 1 n (rowOf (eI .u64) w0))] (so_pdq_r1 k j n w0 x1 x8 x9 x2 x3 κ)
   else (bif !x8 then
     evalF ctx k n_slices_breakPatternsOrdered_uint64 [.osl 1 0 0 n false, .int .i64 x1, .int .i64 x2] [some (.arr 1 n (rowOf (eI .u64) w0))] (so_pdq_r2 k j n w0 x1 x8 x9 x2 x3 κ)
    else evalF ctx k n_slices_choosePivotOrdered_uint64 [.osl 1 0 0 n false, .int .i64 x1, .int .i64 x2] [some (.arr 1 n (rowOf (eI .u64) w0))] (so_pdq_r3 k j n w0 x1 x8 x9 x2 x3 κ)))) := by kernel_rfl
theorem so_pdq_r0_s (k j1 : Nat) (n : Nat) (w0 : Nat → Int) (x1 : Int) (x8 : Bool) (x9 : Bool) (x2 : Int) (x3 : Int) (r0w : Nat → Int) (κ : AV → Heap → Option ρ) : so_pdq_r0 k j1 n w0 x1 x8 x9 x2 x3 κ (.tup []) [some (.arr 1 n (rowOf (eI .u64) r0w))] =
  κ (.tup []) [some (.arr 1 n (rowOf (eI .u64) r0w))] := by kernel_rfl
theorem so_pdq_r1_s (k j1 : Nat) (n : Nat) (w0 : Nat → Int) (x1 : Int) (x8 : Bool) (x9 : Bool) (x2 : Int) (x3 : Int) (r1w : Nat → Int) (κ : AV → Heap → Option ρ) : so_pdq_r1 k j1 n w0 x1 x8 x9 x2 x3 κ (.tup []) [some (.arr 1 n (rowOf (eI .u64) r1w))] =
  κ (.tup []) [some (.arr 1 n (rowOf (eI .u64) r1w))] := by kernel_rfl
theorem so_pdq_r2_s (k j1 : Nat) (n : Nat) (w0 : Nat → Int) (x1 : Int) (x8 : Bool) (x9 : Bool) (x2 : Int) (x3 : Int) (r2w : Nat → Int) (r2s : Int) (κ : AV → Heap → Option ρ) : so_pdq_r2 k j1 n w0 x1 x8 x9 x2 x3 κ (.tup []) [some (.arr 1 n (rowOf (eI .u64) r2w)), some (.box [.int .u64 r2s])] =
  evalF ctx k n_slices_choosePivotOrdered_uint64 [.osl 1 0 0 n false, .int .i64 x1, .int .i64 x2] [some (.arr 1 n (rowOf (eI .u64) r2w))] (so_pdq_r4 k j1 n x1 x8 x9 x2 r2w x3 κ) := by kernel_rfl
theorem so_pdq_r3_s (k j1 : Nat) (n : Nat) (w0 : Nat → Int) (x1 : Int) (x8 : Bool) (x9 : Bool) (x2 : Int) (x3 : Int) (r3p : Int) (r3h : Int) (κ : AV → Heap → Option ρ) : so_pdq_r3 k j1 n w0 x1 x8 x9 x2 x3 κ (.tup [.int .i64 r3p, .int .i64 r3h]) [some (.arr 1 n (rowOf (eI .u64) w0))] =
  (bif decide (r3h = 2) then
   evalF ctx k n_slices_reverseRangeOrdered_uint64 [.osl 1 0 0 n false, .int .i64 x1, .int .i64 x2] [some (.arr 1 n (rowOf (eI .u64) w0))] (so_pdq_r5 k j1 n x1 x8 x9 x2 x3 r3p r3h r3h (decide (r3h = 2)) (rowOf (eI .u64) w0) κ)
  else (bif x8 then
    (bif x9 then
     (bif decide (r3h = 1) then
      evalF ctx k n_slices_partialInsertionSortOrdered_uint64 [.osl 1 0 0 n false, .int .i64 x1, .int .i64 x2] [some (.arr 1 n (rowOf (eI .u64) w0))] (so_pdq_r6 k j1 n x1 x8 x9 x2 x3 r3p (decide (r3h = 1)) (rowOf (eI .u64) w0) κ)
     else (bif decide (0 < x1) then
       (bif idxOK (wi64 (x1 - 1)) n then
        (bif decide ((0 + (wi64 (x1 - 1)).toNat) < n) then
         (bif idxOK r3p n then
          (bif decide ((0 + (r3p).toNat) < n) then
           callP ctx k n_cmp_Less_uint64 [.int .u64 (w0 (0 + (wi64 (x1 - 1)).toNat)), .int .u64 (w0 (0 + (r3p).toNat))] (so_pdq_r7 k j1 n x1 x8 x9 x2 (decide (r3h = 1)) x3 r3p (w0 (0 + (wi64 (x1 - 1)).toNat)) r3p (0 + (r3p).toNat) (w0 (0 + (r3p).toNat)) (rowOf (eI .u64) w0) (w0 (0 + (wi64 (x1 - 1)).toNat)) (w0 (0 + (r3p).toNat)) κ)
          else none)
         else none)
        else none)
       else none)
      else evalF ctx k n_slices_partitionOrdered_uint64 [.osl 1 0 0 n false, .int .i64 x1, .int .i64 x2, .int .i64 r3p] [some (.arr 1 n (rowOf (eI .u64) w0))] (so_pdq_r8 k j1 n x1 x8 x9 x2 x3 r3p r3p (rowOf (eI .u64) w0) r3p false κ)))
    else (bif decide (0 < x1) then
      (bif idxOK (wi64 (x1 - 1)) n then
       (bif decide ((0 + (wi64 (x1 - 1)).toNat) < n) then
        (bif idxOK r3p n then
         (bif decide ((0 + (r3p).toNat) < n) then
          callP ctx k n_cmp_Less_uint64 [.int .u64 (w0 (0 + (wi64 (x1 - 1)).toNat)), .int .u64 (w0 (0 + (r3p).toNat))] (so_pdq_r7 k j1 n x1 x8 x9 x2 false x3 r3p (w0 (0 + (wi64 (x1 - 1)).toNat)) r3p (0 + (r3p).toNat) (w0 (0 + (r3p).toNat)) (rowOf (eI .u64) w0) (w0 (0 + (wi64 (x1 - 1)).toNat)) (w0 (0 + (r3p).toNat)) κ)
         else none)
        else none)
       else none)
      else none)
     else evalF ctx k n_slices_partitionOrdered_uint64 [.osl 1 0 0 n false, .int .i64 x1, .int .i64 x2, .int .i64 r3p] [some (.arr 1 n (rowOf (eI .u64) w0))] (so_pdq_r8 k j1 n x1 x8 x9 x2 x3 r3p r3p (rowOf (eI .u64) w0) r3p false κ)))
   else (bif decide (0 < x1) then
     (bif idxOK (wi64 (x1 - 1)) n then
      (bif decide ((0 + (wi64 (x1 - 1)).toNat) < n) then
       (bif idxOK r3p n then
        (bif decide ((0 + (r3p).toNat) < n) then
         callP ctx k n_cmp_Less_uint64 [.int .u64 (w0 (0 + (wi64 (x1 - 1)).toNat)), .int .u64 (w0 (0 + (r3p).toNat))] (so_pdq_r7 k j1 n x1 x8 x9 x2 false x3 r3p (w0 (0 + (wi64 (x1 - 1)).toNat)) r3p (0 + (r3p).toNat) (w0 (0 + (r3p).toNat)) (rowOf (eI .u64) w0) (w0 (0 + (wi64 (x1 - 1)).toNat)) (w0 (0 + (r3p).toNat)) κ)
        else none)
       else none)
      else none)
     else none)
    else evalF ctx k n_slices_partitionOrdered_uint64 [.osl 1 0 0 n false, .int .i64 x1, .int .i64 x2, .int .i64 r3p] [some (.arr 1 n (rowOf (eI .u64) w0))] (so_pdq_r8 k j1 n x1 x8 x9 x2 x3 r3p r3p (rowOf (eI .u64) w0) r3p false κ)))) := by kernel_rfl
theorem so_pdq_r4_s (k j1 : Nat) (n : Nat) (x1 : Int) (x8 : Bool) (x9 : Bool) (x2 : Int) (r2w : Nat → Int) (x3 : Int) (r4p : Int) (r4h : Int) (κ : AV → Heap → Option ρ) : so_pdq_r4 k j1 n x1 x8 x9 x2 r2w x3 κ (.tup [.int .i64 r4p, .int .i64 r4h]) [some (.arr 1 n (rowOf (eI .u64) r2w))] =
  (bif decide (r4h = 2) then
   evalF ctx k n_slices_reverseRangeOrdered_uint64 [.osl 1 0 0 n false, .int .i64 x1, .int .i64 x2] [some (.arr 1 n (rowOf (eI .u64) r2w))] (so_pdq_r5 k j1 n x1 x8 x9 x2 (wi64 (x3 - 1)) r4p r4h r4h (decide (r4h = 2)) (rowOf (eI .u64) r2w) κ)
  else (bif x8 then
    (bif x9 then
     (bif decide (r4h = 1) then
      evalF ctx k n_slices_partialInsertionSortOrdered_uint64 [.osl 1 0 0 n false, .int .i64 x1, .int .i64 x2] [some (.arr 1 n (rowOf (eI .u64) r2w))] (so_pdq_r6 k j1 n x1 x8 x9 x2 (wi64 (x3 - 1)) r4p (decide (r4h = 1)) (rowOf (eI .u64) r2w) κ)
     else (bif decide (0 < x1) then
       (bif idxOK (wi64 (x1 - 1)) n then
        (bif decide ((0 + (wi64 (x1 - 1)).toNat) < n) then
         (bif idxOK r4p n then
          (bif decide ((0 + (r4p).toNat) < n) then
           callP ctx k n_cmp_Less_uint64 [.int .u64 (r2w (0 + (wi64 (x1 - 1)).toNat)), .int .u64 (r2w (0 + (r4p).toNat))] (so_pdq_r7 k j1 n x1 x8 x9 x2 (decide (r4h = 1)) (wi64 (x3 - 1)) r4p (r2w (0 + (wi64 (x1 - 1)).toNat)) r4p (0 + (r4p).toNat) (r2w (0 + (r4p).toNat)) (rowOf (eI .u64) r2w) (r2w (0 + (wi64 (x1 - 1)).toNat)) (r2w (0 + (r4p).toNat)) κ)
          else none)
         else none)
        else none)
       else none)
      else evalF ctx k n_slices_partitionOrdered_uint64 [.osl 1 0 0 n false, .int .i64 x1, .int .i64 x2, .int .i64 r4p] [some (.arr 1 n (rowOf (eI .u64) r2w))] (so_pdq_r8 k j1 n x1 x8 x9 x2 (wi64 (x3 - 1)) r4p r4p (rowOf (eI .u64) r2w) r4p false κ)))
    else (bif decide (0 < x1) then
      (bif idxOK (wi64 (x1 - 1)) n then
       (bif decide ((0 + (wi64 (x1 - 1)).toNat) < n) then
        (bif idxOK r4p n then
         (bif decide ((0 + (r4p).toNat) < n) then
          callP ctx k n_cmp_Less_uint64 [.int .u64 (r2w (0 + (wi64 (x1 - 1)).toNat)), .int .u64 (r2w (0 + (r4p).toNat))] (so_pdq_r7 k j1 n x1 x8 x9 x2 false (wi64 (x3 - 1)) r4p (r2w (0 + (wi64 (x1 - 1)).toNat)) r4p (0 + (r4p).toNat) (r2w (0 + (r4p).toNat)) (rowOf (eI .u64) r2w) (r2w (0 + (wi64 (x1 - 1)).toNat)) (r2w (0 + (r4p).toNat)) κ)
         else none)
        else none)
       else none)
      else none)
     else evalF ctx k n_slices_partitionOrdered_uint64 [.osl 1 0 0 n false, .int .i64 x1, .int .i64 x2, .int .i64 r4p] [some (.arr 1 n (rowOf (eI .u64) r2w))] (so_pdq_r8 k j1 n x1 x8 x9 x2 (wi64 (x3 - 1)) r4p r4p (rowOf (eI .u64) r2w) r4p false κ)))
   else (bif decide (0 < x1) then
     (bif idxOK (wi64 (x1 - 1)) n then
      (bif decide ((0 + (wi64 (x1 - 1)).toNat) < n) then
       (bif idxOK r4p n then
        (bif decide ((0 + (r4p).toNat) < n) then
         callP ctx k n_cmp_Less_uint64 [.int .u64 (r2w (0 + (wi64 (x1 - 1)).toNat)), .int .u64 (r2w (0 + (r4p).toNat))] (so_pdq_r7 k j1 n x1 x8 x9 x2 false (wi64 (x3 - 1)) r4p (r2w (0 + (wi64 (x1 - 1)).toNat)) r4p (0 + (r4p).toNat) (r2w (0 + (r4p).toNat)) (rowOf (eI .u64) r2w) (r2w (0 + (wi64 (x1 - 1)).toNat)) (r2w (0 + (r4p).toNat)) κ)
        else none)
       else none)
      else none)
     else none)
    else evalF ctx k n_slices_partitionOrdered_uint64 [.osl 1 0 0 n false, .int .i64 x1, .int .i64 x2, .int .i64 r4p] [some (.arr 1 n (rowOf (eI .u64) r2w))] (so_pdq_r8 k j1 n x1 x8 x9 x2 (wi64 (x3 - 1)) r4p r4p (rowOf (eI .u64) r2w) r4p false κ)))) := by kernel_rfl
theorem so_pdq_r5_s (k j1 : Nat) (n : Nat) (x1 : Int) (x8 : Bool) (x9 : Bool) (x2 : Int) (x3 : Int) (x11 : Int) (x12 : Int) (x49 : Int) (x50 : Bool) (w0 : Nat → Int) (r5w : Nat → Int) (κ : AV → Heap → Option ρ) : so_pdq_r5 k j1 n x1 x8 x9 x2 x3 x11 x12 x49 x50 (rowOf (eI .u64) w0) κ (.tup []) [some (.arr 1 n (rowOf (eI .u64) r5w))] =
  (bif x8 then
   (bif x9 then
    evalF ctx k n_slices_partialInsertionSortOrdered_uint64 [.osl 1 0 0 n false, .int .i64 x1, .int .i64 x2] [some (.arr 1 n (rowOf (eI .u64) r5w))] (so_pdq_r6 k j1 n x1 x8 x9 x2 x3 (wi64 (wi64 (x2 - 1) - wi64 (x11 - x1))) true (rowOf (eI .u64) r5w) κ)
   else (bif decide (0 < x1) then
     (bif idxOK (wi64 (x1 - 1)) n then
      (bif decide ((0 + (wi64 (x1 - 1)).toNat) < n) then
       (bif idxOK (wi64 (wi64 (x2 - 1) - wi64 (x11 - x1))) n then
        (bif decide ((0 + (wi64 (wi64 (x2 - 1) - wi64 (x11 - x1))).toNat) < n) then
         callP ctx k n_cmp_Less_uint64 [.int .u64 (r5w (0 + (wi64 (x1 - 1)).toNat)), .int .u64 (r5w (0 + (wi64 (wi64 (x2 - 1) - wi64 (x11 - x1))).toNat))] (so_pdq_r7 k j1 n x1 x8 x9 x2 false x3 (wi64 (wi64 (x2 - 1) - wi64 (x11 - x1))) (r5w (0 + (wi64 (x1 - 1)).toNat)) (wi64 (wi64 (x2 - 1) - wi64 (x11 - x1))) (0 + (wi64 (wi64 (x2 - 1) - wi64 (x11 - x1))).toNat) (r5w (0 + (wi64 (wi64 (x2 - 1) - wi64 (x11 - x1))).toNat)) (rowOf (eI .u64) r5w) (r5w (0 + (wi64 (x1 - 1)).toNat)) (r5w (0 + (wi64 (wi64 (x2 - 1) - wi64 (x11 - x1))).toNat)) κ)
        else none)
       else none)
      else none)
     else none)
    else evalF ctx k n_slices_partitionOrdered_uint64 [.osl 1 0 0 n false, .int .i64 x1, .int .i64 x2, .int .i64 (wi64 (wi64 (x2 - 1) - wi64 (x11 - x1)))] [some (.arr 1 n (rowOf (eI .u64) r5w))] (so_pdq_r8 k j1 n x1 x8 x9 x2 x3 (wi64 (wi64 (x2 - 1) - wi64 (x11 - x1))) (wi64 (wi64 (x2 - 1) - wi64 (x11 - x1))) (rowOf (eI .u64) r5w) (wi64 (wi64 (x2 - 1) - wi64 (x11 - x1))) false κ)))
  else (bif decide (0 < x1) then
    (bif idxOK (wi64 (x1 - 1)) n then
     (bif decide ((0 + (wi64 (x1 - 1)).toNat) < n) then
      (bif idxOK (wi64 (wi64 (x2 - 1) - wi64 (x11 - x1))) n then
       (bif decide ((0 + (wi64 (wi64 (x2 - 1) - wi64 (x11 - x1))).toNat) < n) then
        callP ctx k n_cmp_Less_uint64 [.int .u64 (r5w (0 + (wi64 (x1 - 1)).toNat)), .int .u64 (r5w (0 + (wi64 (wi64 (x2 - 1) - wi64 (x11 - x1))).toNat))] (so_pdq_r7 k j1 n x1 x8 x9 x2 false x3 (wi64 (wi64 (x2 - 1) - wi64 (x11 - x1))) (r5w (0 + (wi64 (x1 - 1)).toNat)) (wi64 (wi64 (x2 - 1) - wi64 (x11 - x1))) (0 + (wi64 (wi64 (x2 - 1) - wi64 (x11 - x1))).toNat) (r5w (0 + (wi64 (wi64 (x2 - 1) - wi64 (x11 - x1))).toNat)) (rowOf (eI .u64) r5w) (r5w (0 + (wi64 (x1 - 1)).toNat)) (r5w (0 + (wi64 (wi64 (x2 - 1) - wi64 (x11 - x1))).toNat)) κ)
       else none)
      else none)
     else none)
    else none)
   else evalF ctx k n_slices_partitionOrdered_uint64 [.osl 1 0 0 n false, .int .i64 x1, .int .i64 x2, .int .i64 (wi64 (wi64 (x2 - 1) - wi64 (x11 - x1)))] [some (.arr 1 n (rowOf (eI .u64) r5w))] (so_pdq_r8 k j1 n x1 x8 x9 x2 x3 (wi64 (wi64 (x2 - 1) - wi64 (x11 - x1))) (wi64 (wi64 (x2 - 1) - wi64 (x11 - x1))) (rowOf (eI .u64) r5w) (wi64 (wi64 (x2 - 1) - wi64 (x11 - x1))) false κ))) := by kernel_rfl
theorem so_pdq_r6_s (k j1 : Nat) (n : Nat) (x1 : Int) (x8 : Bool) (x9 : Bool) (x2 : Int) (x3 : Int) (x11 : Int) (x68 : Bool) (w0 : Nat → Int) (r6q : Bool) (r6w : Nat → Int) (κ : AV → Heap → Option ρ) : so_pdq_r6 k j1 n x1 x8 x9 x2 x3 x11 x68 (rowOf (eI .u64) w0) κ (.bool r6q) [some (.arr 1 n (rowOf (eI .u64) r6w))] =
  (bif r6q then
   κ (.tup []) [some (.arr 1 n (rowOf (eI .u64) r6w))]
  else (bif decide (0 < x1) then
    (bif idxOK (wi64 (x1 - 1)) n then
     (bif decide ((0 + (wi64 (x1 - 1)).toNat) < n) then
      (bif idxOK x11 n then
       (bif decide ((0 + (x11).toNat) < n) then
        callP ctx k n_cmp_Less_uint64 [.int .u64 (r6w (0 + (wi64 (x1 - 1)).toNat)), .int .u64 (r6w (0 + (x11).toNat))] (so_pdq_r9 k j1 n x11 r6q r6w x1 x8 x9 x2 x3 κ)
       else none)
      else none)
     else none)
    else none)
   else evalF ctx k n_slices_partitionOrdered_uint64 [.osl 1 0 0 n false, .int .i64 x1, .int .i64 x2, .int .i64 x11] [some (.arr 1 n (rowOf (eI .u64) r6w))] (so_pdq_r8 k j1 n x1 x8 x9 x2 x3 x11 x11 (rowOf (eI .u64) r6w) x11 false κ))) := by kernel_rfl
theorem so_pdq_r7_s (k j1 : Nat) (n : Nat) (x1 : Int) (x8 : Bool) (x9 : Bool) (x2 : Int) (x68 : Bool) (x3 : Int) (x11 : Int) (x80 : Int) (x82 : Int) (x83i : Nat) (x84 : Int) (w0 : Nat → Int) (xa0 : Int) (xa1 : Int) (r7 : Bool) (κ : AV → Heap → Option ρ) : so_pdq_r7 k j1 n x1 x8 x9 x2 x68 x3 x11 x80 x82 x83i x84 (rowOf (eI .u64) w0) xa0 xa1 κ (.bool r7) =
  (bif !r7 then
   evalF ctx k n_slices_partitionEqualOrdered_uint64 [.osl 1 0 0 n false, .int .i64 x1, .int .i64 x2, .int .i64 x11] [some (.arr 1 n (rowOf (eI .u64) w0))] (so_pdq_r10 k j1 n x11 x1 x8 x9 x2 x3 (!r7) (rowOf (eI .u64) w0) κ)
  else evalF ctx k n_slices_partitionOrdered_uint64 [.osl 1 0 0 n false, .int .i64 x1, .int .i64 x2, .int .i64 x11] [some (.arr 1 n (rowOf (eI .u64) w0))] (so_pdq_r8 k j1 n x1 x8 x9 x2 x3 x11 x11 (rowOf (eI .u64) w0) x11 (!r7) κ)) := by kernel_rfl
theorem so_pdq_r8_s (k j1 : Nat) (n : Nat) (x1 : Int) (x8 : Bool) (x9 : Bool) (x2 : Int) (x3 : Int) (x11 : Int) (x98 : Int) (w0 : Nat → Int) (xa3 : Int) (x87 : Bool) (r8p : Int) (r8q : Bool) (r8w : Nat → Int) (κ : AV → Heap → Option ρ) : so_pdq_r8 k j1 n x1 x8 x9 x2 x3 x11 x98 (rowOf (eI .u64) w0) xa3 x87 κ (.tup [.int .i64 r8p, .bool r8q]) [some (.arr 1 n (rowOf (eI .u64) r8w))] =
  (bif decide (wi64 (r8p - x1) < wi64 (x2 - r8p)) then
   evalF ctx k n_slices_pdqsortOrdered_uint64 [.osl 1 0 0 n false, .int .i64 x1, .int .i64 r8p, .int .i64 x3] [some (.arr 1 n (rowOf (eI .u64) r8w))] (so_pdq_r11 k j1 n r8p r8w x1 x2 x3 r8q κ)
  else evalF ctx k n_slices_pdqsortOrdered_uint64 [.osl 1 0 0 n false, .int .i64 (wi64 (r8p + 1)), .int .i64 x2, .int .i64 x3] [some (.arr 1 n (rowOf (eI .u64) r8w))] (so_pdq_r12 k j1 n r8p r8w x1 x2 x3 r8q κ)) := by kernel_rfl
theorem so_pdq_r9_s (k j1 : Nat) (n : Nat) (x11 : Int) (r6q : Bool) (r6w : Nat → Int) (x1 : Int) (x8 : Bool) (x9 : Bool) (x2 : Int) (x3 : Int) (r9 : Bool) (κ : AV → Heap → Option ρ) : so_pdq_r9 k j1 n x11 r6q r6w x1 x8 x9 x2 x3 κ (.bool r9) =
  (bif !r9 then
   evalF ctx k n_slices_partitionEqualOrdered_uint64 [.osl 1 0 0 n false, .int .i64 x1, .int .i64 x2, .int .i64 x11] [some (.arr 1 n (rowOf (eI .u64) r6w))] (so_pdq_r10 k j1 n x11 x1 x8 x9 x2 x3 (!r9) (rowOf (eI .u64) r6w) κ)
  else evalF ctx k n_slices_partitionOrdered_uint64 [.osl 1 0 0 n false, .int .i64 x1, .int .i64 x2, .int .i64 x11] [some (.arr 1 n (rowOf (eI .u64) r6w))] (so_pdq_r8 k j1 n x1 x8 x9 x2 x3 x11 x11 (rowOf (eI .u64) r6w) x11 (!r9) κ)) := by kernel_rfl
theorem so_pdq_r10_s (k j1 : Nat) (n : Nat) (x11 : Int) (x1 : Int) (x8 : Bool) (x9 : Bool) (x2 : Int) (x3 : Int) (x87 : Bool) (w0 : Nat → Int) (r10p : Int) (r10w : Nat → Int) (κ : AV → Heap → Option ρ) : so_pdq_r10 k j1 n x11 x1 x8 x9 x2 x3 x87 (rowOf (eI .u64) w0) κ (.int .i64 r10p) [some (.arr 1 n (rowOf (eI .u64) r10w))] =
  so_pdq_h0 k j1 n r10p (rowOf (eI .u64) r10w) x8 x9 x2 x3 κ := by kernel_rfl
theorem so_pdq_r11_s (k j1 : Nat) (n : Nat) (r8p : Int) (r8w : Nat → Int) (x1 : Int) (x2 : Int) (x3 : Int) (r8q : Bool) (r11w : Nat → Int) (κ : AV → Heap → Option ρ) : so_pdq_r11 k j1 n r8p r8w x1 x2 x3 r8q κ (.tup []) [some (.arr 1 n (rowOf (eI .u64) r11w))] =
  so_pdq_h0 k j1 n (wi64 (r8p + 1)) (rowOf (eI .u64) r11w) (decide (wi64 ((wi64 (x2 - x1)).tdiv 8) ≤ wi64 (r8p - x1))) r8q x2 x3 κ := by kernel_rfl
theorem so_pdq_r12_s (k j1 : Nat) (n : Nat) (r8p : Int) (r8w : Nat → Int) (x1 : Int) (x2 : Int) (x3 : Int) (r8q : Bool) (r12w : Nat → Int) (κ : AV → Heap → Option ρ) : so_pdq_r12 k j1 n r8p r8w x1 x2 x3 r8q κ (.tup []) [some (.arr 1 n (rowOf (eI .u64) r12w))] =
  so_pdq_h0 k j1 n x1 (rowOf (eI .u64) r12w) (decide (wi64 ((wi64 (x2 - x1)).tdiv 8) ≤ wi64 (x2 - r8p))) r8q r8p x3 κ := by kernel_rfl
theorem so_pdq_e (k : Nat) (n : Nat) (w : Nat → Int) (a : Int) (b : Int) (limit : Int) (κ : AV → Heap → Option ρ) : evalF ctx (k + 1) n_slices_pdqsortOrdered_uint64 [.osl 1 0 0 n false, .int .i64 a, .int .i64 b, .int .i64 limit] [some (.arr 1 n (rowOf (eI .u64) w))] κ =
  so_pdq_h0 k k n a (rowOf (eI .u64) w) true true b limit κ := by kernel_rfl
noncomputable def so_Sort_r0 (k : Nat) (n : Nat) (w : Nat → Int) (κ : AV → Heap → Option ρ) (v : AV) : Option ρ := resAt ctx k n_slices_Sort_uint64 1 [.r] 4 [] ⟨(envOf 11 [(0, .osl 1 0 0 n false), (2, .int .i64 (n : Int)), (5, .osl 1 0 0 n false), (6, .int .i64 (n : Int)), (7, .int .i64 (n : Int)), (8, .int .u64 (wu64 ((n : Int)))), (9, v)]), [some (.arr 1 n (rowOf (eI .u64) w))]⟩ κ
noncomputable def so_Sort_r1 (k : Nat) (n : Nat) (w : Nat → Int) (r0 : Int) (κ : AV → Heap → Option ρ) (v : AV) (W : Heap) : Option ρ := backH [0] [some (.arr 1 n (rowOf (eI .u64) w))] (fun v H => resAt ctx k n_slices_Sort_uint64 1 [.r] 5 [] ⟨(envOf 11 [(0, .osl 1 0 0 n false), (2, .int .i64 (n : Int)), (5, .osl 1 0 0 n false), (6, .int .i64 (n : Int)), (7, .int .i64 (n : Int)), (8, .int .u64 (wu64 ((n : Int)))), (9, .int .i64 r0), (10, v)]), H⟩ κ) v W
theorem so_Sort_r0_s (k : Nat) (n : Nat) (w : Nat → Int) (r0 : Int) (κ : AV → Heap → Option ρ) : so_Sort_r0 k n w κ (.int .i64 r0) =
  evalF ctx k n_slices_pdqsortOrdered_uint64 [.osl 1 0 0 n false, .int .i64 0, .int .i64 (n : Int), .int .i64 r0] [some (.arr 1 n (rowOf (eI .u64) w))] (so_Sort_r1 k n w r0 κ) := by kernel_rfl
theorem so_Sort_r1_s (k : Nat) (n : Nat) (w : Nat → Int) (r0 : Int) (r1w : Nat → Int) (κ : AV → Heap → Option ρ) : so_Sort_r1 k n w r0 κ (.tup []) [some (.arr 1 n (rowOf (eI .u64) r1w))] =
  κ (.tup []) [some (.arr 1 n (rowOf (eI .u64) r1w))] := by kernel_rfl
theorem so_Sort_e (k : Nat) (n : Nat) (w : Nat → Int) (κ : AV → Heap → Option ρ) : evalF ctx (k + 1) n_slices_Sort_uint64 [.osl 1 0 0 n false] [some (.arr 1 n (rowOf (eI .u64) w))] κ =
  callP ctx k n_math_bits_Len [.int .u64 (wu64 ((n : Int)))] (so_Sort_r0 k n w κ) := by kernel_rfl
noncomputable def so_brk_h0 (k j : Nat) (n : Nat) (a : Int) (b : Int) (x9 : Int) (w0 : Nat → List AV) (b1_0 : Int) (x8 : Int) (κ : AV → Heap → Option ρ) : Option ρ := headAt ctx k n_slices_breakPatternsOrdered_uint64 1 [.r, .r, .l, .r, .r, .r] j ⟨(envOf 65 [(0, .osl 1 0 0 n false), (1, .int .i64 a), (6, .int .i64 (wi64 (b - a))), (7, .ref 1 0), (8, .int .u64 x8), (9, .int .i64 x9)]), [some (.arr 1 n w0), some (.box [.int .u64 b1_0])]⟩ κ
noncomputable def so_brk_e0 (k : Nat) (n : Nat) (w : Nat → Int) (a : Int) (b : Int) (κ : AV → Heap → Option ρ) : Option ρ := endAt ctx k n_slices_breakPatternsOrdered_uint64 1 [.r, .r, .l, .l] ⟨(envOf 65 [(0, .osl 1 0 0 n false), (1, .int .i64 a), (6, .int .i64 (wi64 (b - a))), (7, .ref 1 0)]), [some (.arr 1 n (rowOf (eI .u64) w)), some (.box [.int .u64 (wu64 (wi64 (b - a)))])]⟩ κ
noncomputable def so_brk_r0 (k j1 : Nat) (n : Nat) (a : Int) (b : Int) (w0 : Nat → Int) (x9 : Int) (b1_0 : Int) (x8 : Int) (κ : AV → Heap → Option ρ) (v : AV) (W : Heap) : Option ρ := backH [1] [some (.arr 1 n (rowOf (eI .u64) w0)), some (.box [.int .u64 b1_0])] (fun v H => resAt ctx k n_slices_breakPatternsOrdered_uint64 1 [.r, .r, .l, .r, .r, .r, .into j1, .r, .l, .l] 0 [] ⟨(envOf 65 [(0, .osl 1 0 0 n false), (1, .int .i64 a), (6, .int .i64 (wi64 (b - a))), (7, .ref 1 0), (8, .int .u64 x8), (9, .int .i64 x9), (33, .bool (decide (x9 ≤ wi64 (wi64 (a + wi64 (wi64 ((wi64 (b - a)).tdiv 4) * 2)) + 1)))), (36, v)]), H⟩ κ) v W
noncomputable def so_brk_r1 (k : Nat) (n : Nat) (w : Nat → Int) (a : Int) (b : Int) (κ : AV → Heap → Option ρ) (v : AV) : Option ρ := resAt ctx k n_slices_breakPatternsOrdered_uint64 1 [.r, .r, .l, .r, .l] 1 [] ⟨(envOf 65 [(0, .osl 1 0 0 n false), (1, .int .i64 a), (6, .int .i64 (wi64 (b - a))), (7, .ref 1 0), (18, .int .i64 (wi64 (b - a))), (19, v)]), [some (.arr 1 n (rowOf (eI .u64) w)), some (.box [.int .u64 (wu64 (wi64 (b - a)))])]⟩ κ
noncomputable def so_brk_e1 (k j1 : Nat) (n : Nat) (a : Int) (b : Int) (x9 : Int) (r0s : Int) (x8 : Int) (w0 : Nat → List AV) (κ : AV → Heap → Option ρ) : Option ρ := endAt ctx k n_slices_breakPatternsOrdered_uint64 1 [.r, .r, .l, .r, .r, .r, .into j1, .r, .l, .r, .r] ⟨(envOf 65 [(0, .osl 1 0 0 n false), (1, .int .i64 a), (6, .int .i64 (wi64 (b - a))), (7, .ref 1 0), (8, .int .u64 x8), (9, .int .i64 x9)]), [some (.arr 1 n w0), some (.box [.int .u64 r0s])]⟩ κ
theorem so_brk_h0_s (k j : Nat) (n : Nat) (a : Int) (b : Int) (x9 : Int) (w0 : Nat → Int) (b1_0 : Int) (x8 : Int) (κ : AV → Heap → Option ρ) : so_brk_h0 k (j + 1) n a b x9 (rowOf (eI .u64) w0) b1_0 x8 κ =
  (bif decide (x9 ≤ wi64 (wi64 (a + wi64 (wi64 ((wi64 (b - a)).tdiv 4) * 2)) + 1)) then
   evalF ctx k n_slices_xorshift_Next [.ref 0 0] [some (.box [.int .u64 b1_0])] (so_brk_r0 k j n a b w0 x9 b1_0 x8 κ)
  else κ (.tup []) [some (.arr 1 n (rowOf (eI .u64) w0)), some (.box [.int .u64 b1_0])]) := by kernel_rfl
theorem so_brk_e0_s (k : Nat) (n : Nat) (w : Nat → Int) (a : Int) (b : Int) (κ : AV → Heap → Option ρ) : so_brk_e0 k n w a b κ =
  callP ctx k n_slices_nextPowerOfTwo [.int .i64 (wi64 (b - a))] (so_brk_r1 k n w a b κ) := by kernel_rfl
theorem so_brk_r0_s (k j1 : Nat) (n : Nat) (a : Int) (b : Int) (w0 : Nat → Int) (x9 : Int) (b1_0 : Int) (x8 : Int) (r0n : Int) (r0s : Int) (κ : AV → Heap → Option ρ) : so_brk_r0 k j1 n a b w0 x9 b1_0 x8 κ (.int .u64 r0n) [some (.box [.int .u64 r0s])] =
  (bif decide (wi64 (b - a) ≤ wi64 (wu64 ((BitVec.ofInt 64 (r0n) &&& BitVec.ofInt 64 (wu64 (x8 - 1))).toNat : Int))) then
   (bif idxOK (wi64 (a + wi64 (wi64 (wu64 ((BitVec.ofInt 64 (r0n) &&& BitVec.ofInt 64 (wu64 (x8 - 1))).toNat : Int)) - wi64 (b - a)))) n then
    (bif decide ((0 + (wi64 (a + wi64 (wi64 (wu64 ((BitVec.ofInt 64 (r0n) &&& BitVec.ofInt 64 (wu64 (x8 - 1))).toNat : Int)) - wi64 (b - a)))).toNat) < n) then
     (bif idxOK x9 n then
      (bif decide ((0 + (x9).toNat) < n) then
       (bif idxOK x9 n then
        (bif decide ((0 + (x9).toNat) < n) then
         (bif idxOK (wi64 (a + wi64 (wi64 (wu64 ((BitVec.ofInt 64 (r0n) &&& BitVec.ofInt 64 (wu64 (x8 - 1))).toNat : Int)) - wi64 (b - a)))) n then
          (bif decide ((0 + (wi64 (a + wi64 (wi64 (wu64 ((BitVec.ofInt 64 (r0n) &&& BitVec.ofInt 64 (wu64 (x8 - 1))).toNat : Int)) - wi64 (b - a)))).toNat) < n) then
           so_brk_e1 k j1 n a b x9 r0s x8 (updRow (0 + (wi64 (a + wi64 (wi64 (wu64 ((BitVec.ofInt 64 (r0n) &&& BitVec.ofInt 64 (wu64 (x8 - 1))).toNat : Int)) - wi64 (b - a)))).toNat) 0 ((eI .u64) (w0 (0 + (x9).toNat))) (updRow (0 + (x9).toNat) 0 ((eI .u64) (w0 (0 + (wi64 (a + wi64 (wi64 (wu64 ((BitVec.ofInt 64 (r0n) &&& BitVec.ofInt 64 (wu64 (x8 - 1))).toNat : Int)) - wi64 (b - a)))).toNat))) (rowOf (eI .u64) w0))) κ
          else none)
         else none)
        else none)
       else none)
      else none)
     else none)
    else none)
   else none)
  else (bif idxOK (wi64 (a + wi64 (wu64 ((BitVec.ofInt 64 (r0n) &&& BitVec.ofInt 64 (wu64 (x8 - 1))).toNat : Int)))) n then
    (bif decide ((0 + (wi64 (a + wi64 (wu64 ((BitVec.ofInt 64 (r0n) &&& BitVec.ofInt 64 (wu64 (x8 - 1))).toNat : Int)))).toNat) < n) then
     (bif idxOK x9 n then
      (bif decide ((0 + (x9).toNat) < n) then
       (bif idxOK x9 n then
        (bif decide ((0 + (x9).toNat) < n) then
         (bif idxOK (wi64 (a + wi64 (wu64 ((BitVec.ofInt 64 (r0n) &&& BitVec.ofInt 64 (wu64 (x8 - 1))).toNat : Int)))) n then
          (bif decide ((0 + (wi64 (a + wi64 (wu64 ((BitVec.ofInt 64 (r0n) &&& BitVec.ofInt 64 (wu64 (x8 - 1))).toNat : Int)))).toNat) < n) then
           so_brk_e1 k j1 n a b x9 r0s x8 (updRow (0 + (wi64 (a + wi64 (wu64 ((BitVec.ofInt 64 (r0n) &&& BitVec.ofInt 64 (wu64 (x8 - 1))).toNat : Int)))).toNat) 0 ((eI .u64) (w0 (0 + (x9).toNat))) (updRow (0 + (x9).toNat) 0 ((eI .u64) (w0 (0 + (wi64 (a + wi64 (wu64 ((BitVec.ofInt 64 (r0n) &&& BitVec.ofInt 64 (wu64 (x8 - 1))).toNat : Int)))).toNat))) (rowOf (eI .u64) w0))) κ
          else none)
         else none)
        else none)
       else none)
      else none)
     else none)
    else none)
   else none)) := by kernel_rfl
theorem so_brk_r1_s (k : Nat) (n : Nat) (w : Nat → Int) (a : Int) (b : Int) (r1 : Int) (κ : AV → Heap → Option ρ) : so_brk_r1 k n w a b κ (.int .u64 r1) =
  so_brk_h0 k k n a b (wi64 (wi64 (a + wi64 (wi64 ((wi64 (b - a)).tdiv 4) * 2)) - 1)) (rowOf (eI .u64) w) (wu64 (wi64 (b - a))) r1 κ := by kernel_rfl
theorem so_brk_e1_s (k j1 : Nat) (n : Nat) (a : Int) (b : Int) (x9 : Int) (r0s : Int) (x8 : Int) (w0 : Nat → Int) (κ : AV → Heap → Option ρ) : so_brk_e1 k j1 n a b x9 r0s x8 (rowOf (eI .u64) w0) κ =
  so_brk_h0 k j1 n a b (wi64 (x9 + 1)) (rowOf (eI .u64) w0) r0s x8 κ := by kernel_rfl
theorem so_brk_e (k : Nat) (n : Nat) (w : Nat → Int) (a : Int) (b : Int) (κ : AV → Heap → Option ρ) : evalF ctx (k + 1) n_slices_breakPatternsOrdered_uint64 [.osl 1 0 0 n false, .int .i64 a, .int .i64 b] [some (.arr 1 n (rowOf (eI .u64) w))] κ =
  (bif decide (8 ≤ wi64 (b - a)) then
   so_brk_e0 k n w a b κ
  else κ (.tup []) [some (.arr 1 n (rowOf (eI .u64) w))]) := by kernel_rfl
noncomputable def so_piv_r0 (k : Nat) (n : Nat) (w : Nat → Int) (a : Int) (b : Int) (κ : AV → Heap → Option ρ) (v : AV) (W : Heap) : Option ρ := backH [0, 1] [some (.arr 1 n (rowOf (eI .u64) w)), some (.box [.int .i64 0])] (fun v H => resAt ctx k n_slices_choosePivotOrdered_uint64 1 [.r, .r, .r, .r, .r, .r, .l, .r, .l, .l, .r, .l, .l] 2 [] ⟨(envOf 57 [(0, .osl 1 0 0 n false), (8, .int .i64 (wi64 (b - a))), (9, .ref 1 0), (10, .int .i64 (wi64 (a + wi64 (wi64 ((wi64 (b - a)).tdiv 4) * 1)))), (11, .int .i64 (wi64 (a + wi64 (wi64 ((wi64 (b - a)).tdiv 4) * 2)))), (12, .int .i64 (wi64 (a + wi64 (wi64 ((wi64 (b - a)).tdiv 4) * 3)))), (31, .int .i64 (wi64 (b - a))), (32, .bool (decide (8 ≤ wi64 (b - a)))), (33, .int .i64 (wi64 (b - a))), (34, .bool (decide (50 ≤ wi64 (b - a)))), (35, .osl 1 0 0 n false), (36, .int .i64 (wi64 (a + wi64 (wi64 ((wi64 (b - a)).tdiv 4) * 1)))), (37, v)]), H⟩ κ) v W
noncomputable def so_piv_r1 (k : Nat) (n : Nat) (w : Nat → Int) (a : Int) (b : Int) (κ : AV → Heap → Option ρ) (v : AV) (W : Heap) : Option ρ := backH [0, 1] [some (.arr 1 n (rowOf (eI .u64) w)), some (.box [.int .i64 0])] (fun v H => resAt ctx k n_slices_choosePivotOrdered_uint64 1 [.r, .r, .r, .r, .r, .r, .l, .r, .l, .r] 4 [] ⟨(envOf 57 [(0, .osl 1 0 0 n false), (8, .int .i64 (wi64 (b - a))), (9, .ref 1 0), (10, .int .i64 (wi64 (a + wi64 (wi64 ((wi64 (b - a)).tdiv 4) * 1)))), (11, .int .i64 (wi64 (a + wi64 (wi64 ((wi64 (b - a)).tdiv 4) * 2)))), (12, .int .i64 (wi64 (a + wi64 (wi64 ((wi64 (b - a)).tdiv 4) * 3)))), (31, .int .i64 (wi64 (b - a))), (32, .bool (decide (8 ≤ wi64 (b - a)))), (33, .int .i64 (wi64 (b - a))), (34, .bool (decide (50 ≤ wi64 (b - a)))), (44, .osl 1 0 0 n false), (45, .int .i64 (wi64 (a + wi64 (wi64 ((wi64 (b - a)).tdiv 4) * 1)))), (46, .int .i64 (wi64 (a + wi64 (wi64 ((wi64 (b - a)).tdiv 4) * 2)))), (47, .int .i64 (wi64 (a + wi64 (wi64 ((wi64 (b - a)).tdiv 4) * 3)))), (48, v)]), H⟩ κ) v W
noncomputable def so_piv_r2 (k : Nat) (n : Nat) (w : Nat → Int) (a : Int) (b : Int) (r0p : Int) (r0s : Int) (κ : AV → Heap → Option ρ) (v : AV) (W : Heap) : Option ρ := backH [0, 1] [some (.arr 1 n (rowOf (eI .u64) w)), some (.box [.int .i64 r0s])] (fun v H => resAt ctx k n_slices_choosePivotOrdered_uint64 1 [.r, .r, .r, .r, .r, .r, .l, .r, .l, .l, .r, .l, .r, .l] 2 [] ⟨(envOf 57 [(0, .osl 1 0 0 n false), (9, .ref 1 0), (10, .int .i64 r0p), (11, .int .i64 (wi64 (a + wi64 (wi64 ((wi64 (b - a)).tdiv 4) * 2)))), (12, .int .i64 (wi64 (a + wi64 (wi64 ((wi64 (b - a)).tdiv 4) * 3)))), (38, .osl 1 0 0 n false), (39, .int .i64 (wi64 (a + wi64 (wi64 ((wi64 (b - a)).tdiv 4) * 2)))), (40, v)]), H⟩ κ) v W
noncomputable def so_piv_r3 (k : Nat) (n : Nat) (w : Nat → Int) (a : Int) (b : Int) (r0p : Int) (r2p : Int) (r2s : Int) (κ : AV → Heap → Option ρ) (v : AV) (W : Heap) : Option ρ := backH [0, 1] [some (.arr 1 n (rowOf (eI .u64) w)), some (.box [.int .i64 r2s])] (fun v H => resAt ctx k n_slices_choosePivotOrdered_uint64 1 [.r, .r, .r, .r, .r, .r, .l, .r, .l, .l, .r, .l, .r, .r] 2 [] ⟨(envOf 57 [(0, .osl 1 0 0 n false), (9, .ref 1 0), (10, .int .i64 r0p), (11, .int .i64 r2p), (12, .int .i64 (wi64 (a + wi64 (wi64 ((wi64 (b - a)).tdiv 4) * 3)))), (41, .osl 1 0 0 n false), (42, .int .i64 (wi64 (a + wi64 (wi64 ((wi64 (b - a)).tdiv 4) * 3)))), (43, v)]), H⟩ κ) v W
noncomputable def so_piv_r4 (k : Nat) (n : Nat) (w : Nat → Int) (r0p : Int) (r2p : Int) (r3p : Int) (r3s : Int) (κ : AV → Heap → Option ρ) (v : AV) (W : Heap) : Option ρ := backH [0, 1] [some (.arr 1 n (rowOf (eI .u64) w)), some (.box [.int .i64 r3s])] (fun v H => resAt ctx k n_slices_choosePivotOrdered_uint64 1 [.r, .r, .r, .r, .r, .r, .l, .r, .l, .r] 4 [] ⟨(envOf 57 [(0, .osl 1 0 0 n false), (9, .ref 1 0), (10, .int .i64 r0p), (11, .int .i64 r2p), (12, .int .i64 r3p), (44, .osl 1 0 0 n false), (45, .int .i64 r0p), (46, .int .i64 r2p), (47, .int .i64 r3p), (48, v)]), H⟩ κ) v W
theorem so_piv_r0_s (k : Nat) (n : Nat) (w : Nat → Int) (a : Int) (b : Int) (r0p : Int) (r0s : Int) (κ : AV → Heap → Option ρ) : so_piv_r0 k n w a b κ (.int .i64 r0p) [some (.arr 1 n (rowOf (eI .u64) w)), some (.box [.int .i64 r0s])] =
  evalF ctx k n_slices_medianAdjacentOrdered_uint64 [.osl 1 0 0 n false, .int .i64 (wi64 (a + wi64 (wi64 ((wi64 (b - a)).tdiv 4) * 2))), .ref 1 0] [some (.arr 1 n (rowOf (eI .u64) w)), some (.box [.int .i64 r0s])] (so_piv_r2 k n w a b r0p r0s κ) := by kernel_rfl
theorem so_piv_r1_s (k : Nat) (n : Nat) (w : Nat → Int) (a : Int) (b : Int) (r1p : Int) (r1s : Int) (κ : AV → Heap → Option ρ) : so_piv_r1 k n w a b κ (.int .i64 r1p) [some (.arr 1 n (rowOf (eI .u64) w)), some (.box [.int .i64 r1s])] =
  (bif decide (r1s = 0) then
   κ (.tup [.int .i64 r1p, .int .i64 1]) [some (.arr 1 n (rowOf (eI .u64) w))]
  else (bif decide (r1s = 12) then
    κ (.tup [.int .i64 r1p, .int .i64 2]) [some (.arr 1 n (rowOf (eI .u64) w))]
   else κ (.tup [.int .i64 r1p, .int .i64 0]) [some (.arr 1 n (rowOf (eI .u64) w))])) := by kernel_rfl
theorem so_piv_r2_s (k : Nat) (n : Nat) (w : Nat → Int) (a : Int) (b : Int) (r0p : Int) (r0s : Int) (r2p : Int) (r2s : Int) (κ : AV → Heap → Option ρ) : so_piv_r2 k n w a b r0p r0s κ (.int .i64 r2p) [some (.arr 1 n (rowOf (eI .u64) w)), some (.box [.int .i64 r2s])] =
  evalF ctx k n_slices_medianAdjacentOrdered_uint64 [.osl 1 0 0 n false, .int .i64 (wi64 (a + wi64 (wi64 ((wi64 (b - a)).tdiv 4) * 3))), .ref 1 0] [some (.arr 1 n (rowOf (eI .u64) w)), some (.box [.int .i64 r2s])] (so_piv_r3 k n w a b r0p r2p r2s κ) := by kernel_rfl
theorem so_piv_r3_s (k : Nat) (n : Nat) (w : Nat → Int) (a : Int) (b : Int) (r0p : Int) (r2p : Int) (r2s : Int) (r3p : Int) (r3s : Int) (κ : AV → Heap → Option ρ) : so_piv_r3 k n w a b r0p r2p r2s κ (.int .i64 r3p) [some (.arr 1 n (rowOf (eI .u64) w)), some (.box [.int .i64 r3s])] =
  evalF ctx k n_slices_medianOrdered_uint64 [.osl 1 0 0 n false, .int .i64 r0p, .int .i64 r2p, .int .i64 r3p, .ref 1 0] [some (.arr 1 n (rowOf (eI .u64) w)), some (.box [.int .i64 r3s])] (so_piv_r4 k n w r0p r2p r3p r3s κ) := by kernel_rfl
theorem so_piv_r4_s (k : Nat) (n : Nat) (w : Nat → Int) (r0p : Int) (r2p : Int) (r3p : Int) (r3s : Int) (r4p : Int) (r4s : Int) (κ : AV → Heap → Option ρ) : so_piv_r4 k n w r0p r2p r3p r3s κ (.int .i64 r4p) [some (.arr 1 n (rowOf (eI .u64) w)), some (.box [.int .i64 r4s])] =
  (bif decide (r4s = 0) then
   κ (.tup [.int .i64 r4p, .int .i64 1]) [some (.arr 1 n (rowOf (eI .u64) w))]
  else (bif decide (r4s = 12) then
    κ (.tup [.int .i64 r4p, .int .i64 2]) [some (.arr 1 n (rowOf (eI .u64) w))]
   else κ (.tup [.int .i64 r4p, .int .i64 0]) [some (.arr 1 n (rowOf (eI .u64) w))])) := by kernel_rfl
theorem so_piv_e (k : Nat) (n : Nat) (w : Nat → Int) (a : Int) (b : Int) (κ : AV → Heap → Option ρ) : evalF ctx (k + 1) n_slices_choosePivotOrdered_uint64 [.osl 1 0 0 n false, .int .i64 a, .int .i64 b] [some (.arr 1 n (rowOf (eI .u64) w))] κ =
  (bif decide (8 ≤ wi64 (b - a)) then
   (bif decide (50 ≤ wi64 (b - a)) then
    evalF ctx k n_slices_medianAdjacentOrdered_uint64 [.osl 1 0 0 n false, .int .i64 (wi64 (a + wi64 (wi64 ((wi64 (b - a)).tdiv 4) * 1))), .ref 1 0] [some (.arr 1 n (rowOf (eI .u64) w)), some (.box [.int .i64 0])] (so_piv_r0 k n w a b κ)
   else evalF ctx k n_slices_medianOrdered_uint64 [.osl 1 0 0 n false, .int .i64 (wi64 (a + wi64 (wi64 ((wi64 (b - a)).tdiv 4) * 1))), .int .i64 (wi64 (a + wi64 (wi64 ((wi64 (b - a)).tdiv 4) * 2))), .int .i64 (wi64 (a + wi64 (wi64 ((wi64 (b - a)).tdiv 4) * 3))), .ref 1 0] [some (.arr 1 n (rowOf (eI .u64) w)), some (.box [.int .i64 0])] (so_piv_r1 k n w a b κ))
  else κ (.tup [.int .i64 (wi64 (a + wi64 (wi64 ((wi64 (b - a)).tdiv 4) * 2))), .int .i64 1]) [some (.arr 1 n (rowOf (eI .u64) w))]) := by kernel_rfl
end Go.Proofs.YticcbbcgboddpaaC

set_option linter.unusedVariables false
set_option linter.unusedSimpArgs false
set_option maxRecDepth 20000
namespace Go.Proofs.YticcbbcgboddpaaC
open Go Go.Ev Go.Proofs
variable {ρ : Type}
/-! ### how wide a number is -/
def lenTab : ByteArray := ⟨#[0, 1, 2, 2, 3, 3, 3, 3, 4, 4, 4, 4, 4, 4, 4, 4, 5, 5, 5, 5, 5, 5, 5, 5, 5, 5, 5, 5, 5, 5, 5, 5, 6, 6, 6, 6, 6, 6, 6, 6, 6, 6, 6, 6, 6, 6, 6, 6, 6, 6, 6, 6, 6, 6, 6, 6, 6, 6, 6, 6, 6, 6, 6, 6, 7, 7, 7, 7, 7, 7, 7, 7, 7, 7, 7, 7, 7, 7, 7, 7, 7, 7, 7, 7, 7, 7, 7, 7, 7, 7, 7, 7, 7, 7, 7, 7, 7, 7, 7, 7, 7, 7, 7, 7, 7, 7, 7, 7, 7, 7, 7, 7, 7, 7, 7, 7, 7, 7, 7, 7, 7, 7, 7, 7, 7, 7, 7, 7, 8, 8, 8, 8, 8, 8, 8, 8, 8, 8, 8, 8, 8, 8, 8, 8, 8, 8, 8, 8, 8, 8, 8, 8, 8, 8, 8, 8, 8, 8, 8, 8, 8, 8, 8, 8, 8, 8, 8, 8, 8, 8, 8, 8, 8, 8, 8, 8, 8, 8, 8, 8, 8, 8, 8, 8, 8, 8, 8, 8, 8, 8, 8, 8, 8, 8, 8, 8, 8, 8, 8, 8, 8, 8, 8, 8, 8, 8, 8, 8, 8, 8, 8, 8, 8, 8, 8, 8, 8, 8, 8, 8, 8, 8, 8, 8, 8, 8, 8, 8, 8, 8, 8, 8, 8, 8, 8, 8, 8, 8, 8, 8, 8, 8, 8, 8, 8, 8, 8, 8, 8, 8, 8, 8, 8, 8, 8, 8]⟩
def tabN (i : Nat) : Nat := (lenTab.data.getD i 0).toNat
theorem tab_ok : (List.range 256).all (fun i => decide (tabN i ≤ 8) && (decide (i = 0) || decide (2 ^ tabN i ≤ 2 * i))) = true := by kernel_rfl
theorem tabN_le {i : Nat} (h : i < 256) : tabN i ≤ 8 ∧ (1 ≤ i → 2 ^ tabN i ≤ 2 * i) := by
  have := List.all_eq_true.1 tab_ok i (List.mem_range.2 h)
  simp only [Bool.and_eq_true, Bool.or_eq_true, decide_eq_true_eq] at this
  refine ⟨this.1, fun h1 => ?_⟩
  rcases this.2 with h2 | h2
  · omega
  · exact h2
def lenN (x : Nat) : Nat := if 256 ≤ x then 8 + tabN (x / 256) else tabN x
theorem lenN_le {x : Nat} (h : 1 ≤ x) (hx : x < 65536) : lenN x ≤ 16 ∧ 2 ^ lenN x ≤ 2 * x := by
  unfold lenN
  split
  · have h1 := tabN_le (i := x / 256) (by omega)
    have h2 := h1.2 (by omega)
    refine ⟨by omega, ?_⟩
    rw [Nat.pow_add]
    have : (2 : Nat) ^ 8 = 256 := rfl
    rw [this]
    omega
  · have h1 := tabN_le (i := x) (by omega)
    exact ⟨by omega, h1.2 h⟩
theorem fdiv_nat (x m : Nat) : (x : Int).fdiv (m : Int) = ((x / m : Nat) : Int) := by
  rw [Int.fdiv_eq_ediv_of_nonneg _ (by omega)]; rfl
theorem wu8_in {n : Nat} (h : n ≤ 255) : wu8 (n : Int) = (n : Int) := by rw [wu8_mod]; omega
theorem Len64_ok (k x : Nat) (hx : x < 65536) (hk : 1 ≤ k) (κ : AV → Option ρ) : callP ctx k n_math_bits_Len64 [.int .u64 (x : Int)] κ = κ (.int .i64 (lenN x : Nat)) := by
  obtain ⟨k, rfl⟩ : ∃ k', k = k' + 1 := ⟨k - 1, by omega⟩
  rw [callP_eq]
  refine (math_bits_Len64_e k x (pk κ)).trans ?_
  rw [dec_f (show ¬ 4294967296 ≤ (x : Int) by omega), cond_false, dec_f (show ¬ 65536 ≤ (x : Int) by omega), cond_false]
  have e : (x : Int).fdiv (2 ^ 8) = ((x / 256 : Nat) : Int) := fdiv_nat x 256
  unfold lenN
  by_cases h : 256 ≤ x
  · have h1 := tabN_le (i := x / 256) (by omega)
    rw [dec_t (show 256 ≤ (x : Int) by omega), cond_true, if_pos h, e, wu8_in (by omega), idx_ok (by omega) (by omega), cond_true, Int.toNat_natCast]
    have : wi64 (8 + wi64 ((tabN (x / 256) : Nat) : Int)) = ((8 + tabN (x / 256) : Nat) : Int) := by rw [wi64_in (n := ((tabN (x / 256) : Nat) : Int)) (by omega) (by omega), wi64_in (by omega) (by omega)]; omega
    exact congrArg (fun z => κ (.int .i64 z)) this
  · have h1 := tabN_le (i := x) (by omega)
    rw [dec_f (show ¬ 256 ≤ (x : Int) by omega), cond_false, if_neg h, wu8_in (by omega), idx_ok (by omega) (by omega), cond_true, Int.toNat_natCast]
    have : wi64 (0 + wi64 ((tabN x : Nat) : Int)) = ((tabN x : Nat) : Int) := by rw [wi64_in (n := ((tabN x : Nat) : Int)) (by omega) (by omega), wi64_in (by omega) (by omega)]; omega
    exact congrArg (fun z => κ (.int .i64 z)) this
theorem Len_ok (k x : Nat) (hx : x < 65536) (hk : 2 ≤ k) (κ : AV → Option ρ) : callP ctx k n_math_bits_Len [.int .u64 (x : Int)] κ = κ (.int .i64 (lenN x : Nat)) := by
  obtain ⟨k, rfl⟩ : ∃ k', k = k' + 1 := ⟨k - 1, by omega⟩
  rw [callP_eq]
  refine (math_bits_Len_e k x (pk κ)).trans ?_
  rw [Len64_ok k x hx (by omega), math_bits_Len_r0_s]; rfl
theorem nextPow_ok (k x : Nat) (h1 : 1 ≤ x) (hx : x < 65536) (hk : 3 ≤ k) : ∃ M : Nat, 1 ≤ M ∧ M ≤ 2 * x ∧ ∀ κ : AV → Option ρ, callP ctx k n_slices_nextPowerOfTwo [.int .i64 (x : Int)] κ = κ (.int .u64 (M : Nat)) := by
  obtain ⟨k, rfl⟩ : ∃ k', k = k' + 1 := ⟨k - 1, by omega⟩
  have hl := lenN_le h1 hx
  refine ⟨2 ^ lenN x, Nat.one_le_two_pow, hl.2, fun κ => ?_⟩
  rw [callP_eq]
  refine (slices_nextPowerOfTwo_e k x (pk κ)).trans ?_
  rw [wu64_in (by omega) (by omega), Len_ok k x hx (by omega), slices_nextPowerOfTwo_r0_s, dec_f (by omega), Bool.not_false, cond_true, Int.toNat_natCast, Nat.min_eq_left (by omega)]
  have e : (1 : Int) * 2 ^ lenN x = ((2 ^ lenN x : Nat) : Int) := by rw [Int.one_mul]; simp
  have h0 : (1 : Nat) ≤ 2 ^ lenN x := Nat.one_le_two_pow
  have h2 := hl.2
  rw [e]
  generalize 2 ^ lenN x = M at *
  rw [wu64_in (by omega) (by omega)]; rfl
/-! ### three numbers exchanged -/
theorem and_le (r : Int) (M : Nat) (h1 : 1 ≤ M) (h2 : M ≤ 200000) : ∃ v : Nat, v < M ∧ wi64 (wu64 ((BitVec.ofInt 64 r &&& BitVec.ofInt 64 (wu64 ((M : Int) - 1))).toNat : Int)) = (v : Int) := by
  refine ⟨(BitVec.ofInt 64 r &&& BitVec.ofInt 64 (wu64 ((M : Int) - 1))).toNat, ?_, ?_⟩
  all_goals
    have e : (BitVec.ofInt 64 (wu64 ((M : Int) - 1))).toNat = M - 1 := by
      rw [wu64_in (by omega) (by omega), BitVec.toNat_ofInt]; omega
    have hle : (BitVec.ofInt 64 r &&& BitVec.ofInt 64 (wu64 ((M : Int) - 1))).toNat ≤ M - 1 := by
      rw [BitVec.toNat_and, e]; exact Nat.and_le_right
  · omega
  · rw [wu64_in (by omega) (by omega), wi64_in (by omega) (by omega)]
theorem so_brk_lp (k n a b M : Nat) (hn : n ≤ 60000) (hab : a + 12 < b) (hb : b ≤ n) (hM1 : 1 ≤ M) (hM2 : M ≤ 2 * (b - a)) (hk : 10 ≤ k) : ∀ (m jf idx : Nat) (s : Int) (d : Array Int), idx + m = a + (b - a) / 4 * 2 + 2 → m < jf → a ≤ idx → d.size = n →
    ∃ (d' : Array Int) (s' : Int), Sort.PermIn a b d d' ∧ ∀ κ : AV → Heap → Option ρ, so_brk_h0 k jf n (a : Int) (b : Int) (idx : Int) (rowOf (eI .u64) (dA d)) s (M : Int) κ = κ (.tup []) [some (.arr 1 n (rowOf (eI .u64) (dA d'))), some (.box [.int .u64 s'])] := by
  have eb : wi64 ((b : Int) - (a : Int)) = ((b - a : Nat) : Int) := by rw [wi64_in (by omega) (by omega)]; omega
  have e4 : wi64 (((b - a : Nat) : Int).tdiv 4) = (((b - a) / 4 : Nat) : Int) := by
    rw [Int.tdiv_eq_ediv_of_nonneg (by omega), wi64_in (by omega) (by omega)]; rfl
  have e5 : wi64 (wi64 ((a : Int) + wi64 ((((b - a) / 4 : Nat) : Int) * 2)) + 1) = ((a + (b - a) / 4 * 2 + 1 : Nat) : Int) := by
    rw [wi64_in (n := (((b - a) / 4 : Nat) : Int) * 2) (by omega) (by omega), wi64_in (n := (a : Int) + (((b - a) / 4 : Nat) : Int) * 2) (by omega) (by omega), wi64_in (by omega) (by omega)]; omega
  intro m
  induction m with
  | zero =>
    intro jf idx s d h1 h2 h3 hd
    obtain ⟨jf, rfl⟩ : ∃ j', jf = j' + 1 := ⟨jf - 1, by omega⟩
    refine ⟨d, s, Sort.permIn_refl _ _ _, fun κ => ?_⟩
    rw [so_brk_h0_s, eb, e4, e5, dec_f (by omega), cond_false]
  | succ m ih =>
    intro jf idx s d h1 h2 h3 hd
    obtain ⟨jf, rfl⟩ : ∃ j', jf = j' + 1 := ⟨jf - 1, by omega⟩
    obtain ⟨k', rfl⟩ : ∃ k', k = k' + 1 := ⟨k - 1, by omega⟩
    have hX : ∃ X : Int, ∀ κ : AV → Heap → Option ρ, evalF ctx (k' + 1) n_slices_xorshift_Next [.ref 0 0] [some (.box [.int .u64 s])] κ = κ (.int .u64 X) [some (.box [.int .u64 X])] := ⟨_, fun κ => slices_xorshift_Next_e k' s κ⟩
    obtain ⟨X, hX⟩ := hX
    obtain ⟨v, hv, ev⟩ := and_le X M hM1 (by omega)
    obtain ⟨o, ho, eo⟩ : ∃ o : Nat, o < b - a ∧ o = if b - a ≤ v then v - (b - a) else v := ⟨_, by split <;> omega, rfl⟩
    have hsw : Sort.PermIn a b d (Sort.swp d idx (a + o)) := Sort.swp_permIn d a b idx (a + o) (by omega) (by omega) (by omega) (by omega) (by omega)
    obtain ⟨d', s', hp, hd'⟩ := ih jf (idx + 1) X (Sort.swp d idx (a + o)) (by omega) (by omega) (by omega) (by rw [Sort.size_swp, hd])
    refine ⟨d', s', Sort.permIn_trans _ _ _ _ _ hsw hp, fun κ => ?_⟩
    rw [so_brk_h0_s, eb, e4, e5, dec_t (by omega), cond_true, hX, so_brk_r0_s, eb, ev]
    have hi : idx < n := by omega
    by_cases h : b - a ≤ v
    · rw [if_pos h] at eo
      have e6 : wi64 ((a : Int) + wi64 ((v : Int) - ((b - a : Nat) : Int))) = ((a + o : Nat) : Int) := by
        rw [wi64_in (n := (v : Int) - ((b - a : Nat) : Int)) (by omega) (by omega), wi64_in (by omega) (by omega)]; omega
      rw [dec_t (show ((b - a : Nat) : Int) ≤ (v : Int) by omega), cond_true, e6]
      simp only [Int.toNat_natCast, Nat.zero_add]
      rw [swp_row d idx (a + o) (by omega) (by omega)]
      rw [idx_ok (n := n) (i := ((a + o : Nat) : Int)) (by omega) (by omega), idx_ok (n := n) (i := (idx : Int)) (by omega) (by omega), dec_t (show a + o < n by omega), dec_t hi]
      simp only [cond_true]
      rw [so_brk_e1_s, wi_succ idx (by omega)]
      exact hd' κ
    · rw [if_neg h] at eo
      have e6 : wi64 ((a : Int) + (v : Int)) = ((a + o : Nat) : Int) := by rw [wi64_in (by omega) (by omega)]; omega
      rw [dec_f (show ¬ ((b - a : Nat) : Int) ≤ (v : Int) by omega), cond_false, e6]
      simp only [Int.toNat_natCast, Nat.zero_add]
      rw [swp_row d idx (a + o) (by omega) (by omega)]
      rw [idx_ok (n := n) (i := ((a + o : Nat) : Int)) (by omega) (by omega), idx_ok (n := n) (i := (idx : Int)) (by omega) (by omega), dec_t (show a + o < n by omega), dec_t hi]
      simp only [cond_true]
      rw [so_brk_e1_s, wi_succ idx (by omega)]
      exact hd' κ
theorem so_brk_ok (k n a b : Nat) (d : Array Int) (hd : d.size = n) (hn : n ≤ 60000) (hab : a + 12 < b) (hb : b ≤ n) (hk : 20 ≤ k) :
    ∃ (d' : Array Int) (s' : Int), Sort.PermIn a b d d' ∧ ∀ κ : AV → Heap → Option ρ, evalF ctx k n_slices_breakPatternsOrdered_uint64 [.osl 1 0 0 n false, .int .i64 (a : Int), .int .i64 (b : Int)] [some (.arr 1 n (rowOf (eI .u64) (dA d)))] κ = κ (.tup []) [some (.arr 1 n (rowOf (eI .u64) (dA d'))), some (.box [.int .u64 s'])] := by
  obtain ⟨k, rfl⟩ : ∃ k', k = k' + 1 := ⟨k - 1, by omega⟩
  have eb : wi64 ((b : Int) - (a : Int)) = ((b - a : Nat) : Int) := by rw [wi64_in (by omega) (by omega)]; omega
  have e4 : wi64 (((b - a : Nat) : Int).tdiv 4) = (((b - a) / 4 : Nat) : Int) := by
    rw [Int.tdiv_eq_ediv_of_nonneg (by omega), wi64_in (by omega) (by omega)]; rfl
  have e5 : wi64 (wi64 ((a : Int) + wi64 ((((b - a) / 4 : Nat) : Int) * 2)) - 1) = ((a + (b - a) / 4 * 2 - 1 : Nat) : Int) := by
    rw [wi64_in (n := (((b - a) / 4 : Nat) : Int) * 2) (by omega) (by omega), wi64_in (n := (a : Int) + (((b - a) / 4 : Nat) : Int) * 2) (by omega) (by omega), wi64_in (by omega) (by omega)]; omega
  obtain ⟨M, h1, h2, hM⟩ := nextPow_ok (ρ := ρ) k (b - a) (by omega) (by omega) (by omega)
  obtain ⟨d', s', hp, hd'⟩ := so_brk_lp (ρ := ρ) k n a b M hn hab hb h1 h2 (by omega) 3 k (a + (b - a) / 4 * 2 - 1) (wu64 ((b - a : Nat) : Int)) d (by omega) (by omega) (by omega) hd
  refine ⟨d', s', hp, fun κ => ?_⟩
  rw [so_brk_e, eb, dec_t (by omega), cond_true, so_brk_e0_s, eb, hM, so_brk_r1_s, eb, e4, e5]
  exact hd' κ
/-! ### the pivot -/
theorem so_ord_ok (k n x y : Nat) (s : Int) (d : Array Int) (hd : d.size = n) (hn : n ≤ 1000000000) (hx : x < n) (hy : y < n) (hk : 5 ≤ k) :
    ∃ (p q : Nat) (s' : Int), ((p = x ∧ q = y) ∨ (p = y ∧ q = x)) ∧ ∀ κ : AV → Heap → Option ρ, evalF ctx k n_slices_order2Ordered_uint64 [.osl 1 0 0 n false, .int .i64 (x : Int), .int .i64 (y : Int), .ref 1 0] [some (.arr 1 n (rowOf (eI .u64) (dA d))), some (.box [.int .i64 s])] κ =
      κ (.tup [.int .i64 (p : Int), .int .i64 (q : Int)]) [some (.arr 1 n (rowOf (eI .u64) (dA d))), some (.box [.int .i64 s'])] := by
  obtain ⟨k, rfl⟩ : ∃ k', k = k' + 1 := ⟨k - 1, by omega⟩
  cases h : ltI (dA d y) (dA d x) with
  | true =>
    refine ⟨y, x, wi64 (s + 1), .inr ⟨rfl, rfl⟩, fun κ => ?_⟩
    rw [so_ord_e]
    simp only [Int.toNat_natCast, Nat.zero_add]
    simp (disch := omega) only [idx_ok, dec_t, cond_true]
    rw [Less_ok k _ _ (by omega), so_ord_r0_s, h]; rfl
  | false =>
    refine ⟨x, y, s, .inl ⟨rfl, rfl⟩, fun κ => ?_⟩
    rw [so_ord_e]
    simp only [Int.toNat_natCast, Nat.zero_add]
    simp (disch := omega) only [idx_ok, dec_t, cond_true]
    rw [Less_ok k _ _ (by omega), so_ord_r0_s, h]; rfl
theorem so_med_ok (k n x y z : Nat) (s : Int) (d : Array Int) (hd : d.size = n) (hn : n ≤ 1000000000) (hx : x < n) (hy : y < n) (hz : z < n) (hk : 6 ≤ k) :
    ∃ (p : Nat) (s' : Int), (p = x ∨ p = y ∨ p = z) ∧ ∀ κ : AV → Heap → Option ρ, evalF ctx k n_slices_medianOrdered_uint64 [.osl 1 0 0 n false, .int .i64 (x : Int), .int .i64 (y : Int), .int .i64 (z : Int), .ref 1 0] [some (.arr 1 n (rowOf (eI .u64) (dA d))), some (.box [.int .i64 s])] κ =
      κ (.int .i64 (p : Int)) [some (.arr 1 n (rowOf (eI .u64) (dA d))), some (.box [.int .i64 s'])] := by
  obtain ⟨k, rfl⟩ : ∃ k', k = k' + 1 := ⟨k - 1, by omega⟩
  obtain ⟨p1, q1, s1, h1, c1⟩ := so_ord_ok (ρ := ρ) k n x y s d hd hn hx hy (by omega)
  obtain ⟨p2, q2, s2, h2, c2⟩ := so_ord_ok (ρ := ρ) k n q1 z s1 d hd hn (by omega) hz (by omega)
  obtain ⟨p3, q3, s3, h3, c3⟩ := so_ord_ok (ρ := ρ) k n p1 p2 s2 d hd hn (by omega) (by omega) (by omega)
  refine ⟨q3, s3, by omega, fun κ => ?_⟩
  rw [so_med_e, c1, so_med_r0_s, c2, so_med_r1_s, c3, so_med_r2_s]
theorem so_adj_ok (k n x : Nat) (s : Int) (d : Array Int) (hd : d.size = n) (hn : n ≤ 1000000000) (hx : 1 ≤ x) (hy : x + 1 < n) (hk : 7 ≤ k) :
    ∃ (p : Nat) (s' : Int), (p = x - 1 ∨ p = x ∨ p = x + 1) ∧ ∀ κ : AV → Heap → Option ρ, evalF ctx k n_slices_medianAdjacentOrdered_uint64 [.osl 1 0 0 n false, .int .i64 (x : Int), .ref 1 0] [some (.arr 1 n (rowOf (eI .u64) (dA d))), some (.box [.int .i64 s])] κ =
      κ (.int .i64 (p : Int)) [some (.arr 1 n (rowOf (eI .u64) (dA d))), some (.box [.int .i64 s'])] := by
  obtain ⟨k, rfl⟩ : ∃ k', k = k' + 1 := ⟨k - 1, by omega⟩
  obtain ⟨p, s', h, c⟩ := so_med_ok (ρ := ρ) k n (x - 1) x (x + 1) s d hd hn (by omega) (by omega) (by omega) (by omega)
  refine ⟨p, s', h, fun κ => ?_⟩
  rw [so_adj_e, wi_succ x (by omega), show wi64 ((x : Int) - 1) = ((x - 1 : Nat) : Int) by rw [wi64_in (by omega) (by omega)]; omega, c, so_adj_r0_s]
theorem so_piv_ok (k n a b : Nat) (d : Array Int) (hd : d.size = n) (hn : n ≤ 1000000000) (hab : a + 12 < b) (hb : b ≤ n) (hk : 10 ≤ k) :
    ∃ (p : Nat) (h : Int), a ≤ p ∧ p < b ∧ ∀ κ : AV → Heap → Option ρ, evalF ctx k n_slices_choosePivotOrdered_uint64 [.osl 1 0 0 n false, .int .i64 (a : Int), .int .i64 (b : Int)] [some (.arr 1 n (rowOf (eI .u64) (dA d)))] κ =
      κ (.tup [.int .i64 (p : Int), .int .i64 h]) [some (.arr 1 n (rowOf (eI .u64) (dA d)))] := by
  obtain ⟨k, rfl⟩ : ∃ k', k = k' + 1 := ⟨k - 1, by omega⟩
  have eb : wi64 ((b : Int) - (a : Int)) = ((b - a : Nat) : Int) := by rw [wi64_in (by omega) (by omega)]; omega
  have e4 : wi64 (((b - a : Nat) : Int).tdiv 4) = (((b - a) / 4 : Nat) : Int) := by
    rw [Int.tdiv_eq_ediv_of_nonneg (by omega), wi64_in (by omega) (by omega)]; rfl
  have ei : ∀ c : Nat, c ≤ 3 → wi64 ((a : Int) + wi64 ((((b - a) / 4 : Nat) : Int) * (c : Int))) = ((a + (b - a) / 4 * c : Nat) : Int) := by
    intro c hc
    have : (((b - a) / 4 : Nat) : Int) * (c : Int) = (((b - a) / 4 * c : Nat) : Int) := by rw [Int.natCast_mul]
    have hle : (b - a) / 4 * c ≤ (b - a) / 4 * 3 := Nat.mul_le_mul_left _ hc
    rw [this, wi64_in (n := (((b - a) / 4 * c : Nat) : Int)) (by omega) (by omega), wi64_in (by omega) (by omega)]; omega
  have e1 : wi64 ((a : Int) + wi64 ((((b - a) / 4 : Nat) : Int) * 1)) = ((a + (b - a) / 4 * 1 : Nat) : Int) := ei 1 (by omega)
  have e2 : wi64 ((a : Int) + wi64 ((((b - a) / 4 : Nat) : Int) * 2)) = ((a + (b - a) / 4 * 2 : Nat) : Int) := ei 2 (by omega)
  have e3 : wi64 ((a : Int) + wi64 ((((b - a) / 4 : Nat) : Int) * 3)) = ((a + (b - a) / 4 * 3 : Nat) : Int) := ei 3 (by omega)
  have hq : 3 ≤ (b - a) / 4 ∧ a + (b - a) / 4 * 3 + 3 ≤ b + 3 ∧ (b - a) / 4 * 4 ≤ b - a := by omega
  generalize (b - a) / 4 = q at *
  by_cases h : 50 ≤ b - a
  · obtain ⟨p1, s1, h1, c1⟩ := so_adj_ok (ρ := ρ) k n (a + q * 1) 0 d hd hn (by omega) (by omega) (by omega)
    have b1 : a ≤ p1 ∧ p1 < b := by omega
    clear h1
    obtain ⟨p2, s2, h2, c2⟩ := so_adj_ok (ρ := ρ) k n (a + q * 2) s1 d hd hn (by omega) (by omega) (by omega)
    have b2 : a ≤ p2 ∧ p2 < b := by omega
    clear h2
    obtain ⟨p3, s3, h3, c3⟩ := so_adj_ok (ρ := ρ) k n (a + q * 3) s2 d hd hn (by omega) (by omega) (by omega)
    have b3 : a ≤ p3 ∧ p3 < b := by omega
    clear h3
    obtain ⟨p4, s4, h4, c4⟩ := so_med_ok (ρ := ρ) k n p1 p2 p3 s3 d hd hn (by omega) (by omega) (by omega) (by omega)
    have b4 : a ≤ p4 ∧ p4 < b := by omega
    refine ⟨p4, if s4 = 0 then 1 else if s4 = 12 then 2 else 0, b4.1, b4.2, fun κ => ?_⟩
    rw [so_piv_e, eb, dec_t (by omega), cond_true, dec_t (by omega), cond_true, e4, e1, c1, so_piv_r0_s, eb, e4, e2, c2, so_piv_r2_s, eb, e4, e3, c3, so_piv_r3_s, c4, so_piv_r4_s]
    by_cases z : s4 = 0
    · rw [dec_t z, if_pos z]; rfl
    · by_cases z2 : s4 = 12
      · rw [dec_f z, if_neg z, dec_t z2, if_pos z2]; rfl
      · rw [dec_f z, if_neg z, dec_f z2, if_neg z2]; rfl
  · obtain ⟨p4, s4, h4, c4⟩ := so_med_ok (ρ := ρ) k n (a + q * 1) (a + q * 2) (a + q * 3) 0 d hd hn (by omega) (by omega) (by omega) (by omega)
    have b4 : a ≤ p4 ∧ p4 < b := by omega
    refine ⟨p4, if s4 = 0 then 1 else if s4 = 12 then 2 else 0, b4.1, b4.2, fun κ => ?_⟩
    rw [so_piv_e, eb, dec_t (by omega), cond_true, dec_f (by omega), cond_false, e4, e1, e2, e3, c4, so_piv_r1_s]
    by_cases z : s4 = 0
    · rw [dec_t z, if_pos z]; rfl
    · by_cases z2 : s4 = 12
      · rw [dec_f z, if_neg z, dec_t z2, if_pos z2]; rfl
      · rw [dec_f z, if_neg z, dec_f z2, if_neg z2]; rfl
end Go.Proofs.YticcbbcgboddpaaC

set_option linter.unusedVariables false
set_option linter.unusedSimpArgs false
set_option maxRecDepth 20000
namespace Go.Proofs.YticcbbcgboddpaaC
open Go Go.Ev Go.Proofs
variable {ρ : Type}
abbrev rA (d : Array Int) (n : Nat) : Option Ob := some (.arr 1 n (rowOf (eI .u64) (dA d)))
/-- what stands behind the choice of a pivot -/
noncomputable def pdT (k j1 n : Nat) (x1 : Int) (x8 x9 : Bool) (x2 x3 r3p r3h : Int) (w0 : Nat → Int) (κ : AV → Heap → Option ρ) : Option ρ :=
  (bif decide (r3h = 2) then evalF ctx k n_slices_reverseRangeOrdered_uint64 [.osl 1 0 0 n false, .int .i64 x1, .int .i64 x2] [some (.arr 1 n (rowOf (eI .u64) w0))] (so_pdq_r5 k j1 n x1 x8 x9 x2 x3 r3p r3h r3h (decide (r3h = 2)) (rowOf (eI .u64) w0) κ) else (bif x8 then (bif x9 then (bif decide (r3h = 1) then evalF ctx k n_slices_partialInsertionSortOrdered_uint64 [.osl 1 0 0 n false, .int .i64 x1, .int .i64 x2] [some (.arr 1 n (rowOf (eI .u64) w0))] (so_pdq_r6 k j1 n x1 x8 x9 x2 x3 r3p (decide (r3h = 1)) (rowOf (eI .u64) w0) κ) else (bif decide (0 < x1) then (bif idxOK (wi64 (x1 - 1)) n then (bif decide ((0 + (wi64 (x1 - 1)).toNat) < n) then (bif idxOK r3p n then (bif decide ((0 + (r3p).toNat) < n) then callP ctx k n_cmp_Less_uint64 [.int .u64 (w0 (0 + (wi64 (x1 - 1)).toNat)), .int .u64 (w0 (0 + (r3p).toNat))] (so_pdq_r7 k j1 n x1 x8 x9 x2 (decide (r3h = 1)) x3 r3p (w0 (0 + (wi64 (x1 - 1)).toNat)) r3p (0 + (r3p).toNat) (w0 (0 + (r3p).toNat)) (rowOf (eI .u64) w0) (w0 (0 + (wi64 (x1 - 1)).toNat)) (w0 (0 + (r3p).toNat)) κ) else none) else none) else none) else none) else evalF ctx k n_slices_partitionOrdered_uint64 [.osl 1 0 0 n false, .int .i64 x1, .int .i64 x2, .int .i64 r3p] [some (.arr 1 n (rowOf (eI .u64) w0))] (so_pdq_r8 k j1 n x1 x8 x9 x2 x3 r3p r3p (rowOf (eI .u64) w0) r3p false κ))) else (bif decide (0 < x1) then (bif idxOK (wi64 (x1 - 1)) n then (bif decide ((0 + (wi64 (x1 - 1)).toNat) < n) then (bif idxOK r3p n then (bif decide ((0 + (r3p).toNat) < n) then callP ctx k n_cmp_Less_uint64 [.int .u64 (w0 (0 + (wi64 (x1 - 1)).toNat)), .int .u64 (w0 (0 + (r3p).toNat))] (so_pdq_r7 k j1 n x1 x8 x9 x2 false x3 r3p (w0 (0 + (wi64 (x1 - 1)).toNat)) r3p (0 + (r3p).toNat) (w0 (0 + (r3p).toNat)) (rowOf (eI .u64) w0) (w0 (0 + (wi64 (x1 - 1)).toNat)) (w0 (0 + (r3p).toNat)) κ) else none) else none) else none) else none) else evalF ctx k n_slices_partitionOrdered_uint64 [.osl 1 0 0 n false, .int .i64 x1, .int .i64 x2, .int .i64 r3p] [some (.arr 1 n (rowOf (eI .u64) w0))] (so_pdq_r8 k j1 n x1 x8 x9 x2 x3 r3p r3p (rowOf (eI .u64) w0) r3p false κ))) else (bif decide (0 < x1) then (bif idxOK (wi64 (x1 - 1)) n then (bif decide ((0 + (wi64 (x1 - 1)).toNat) < n) then (bif idxOK r3p n then (bif decide ((0 + (r3p).toNat) < n) then callP ctx k n_cmp_Less_uint64 [.int .u64 (w0 (0 + (wi64 (x1 - 1)).toNat)), .int .u64 (w0 (0 + (r3p).toNat))] (so_pdq_r7 k j1 n x1 x8 x9 x2 false x3 r3p (w0 (0 + (wi64 (x1 - 1)).toNat)) r3p (0 + (r3p).toNat) (w0 (0 + (r3p).toNat)) (rowOf (eI .u64) w0) (w0 (0 + (wi64 (x1 - 1)).toNat)) (w0 (0 + (r3p).toNat)) κ) else none) else none) else none) else none) else evalF ctx k n_slices_partitionOrdered_uint64 [.osl 1 0 0 n false, .int .i64 x1, .int .i64 x2, .int .i64 r3p] [some (.arr 1 n (rowOf (eI .u64) w0))] (so_pdq_r8 k j1 n x1 x8 x9 x2 x3 r3p r3p (rowOf (eI .u64) w0) r3p false κ))))
theorem so_pdq_main (n : Nat) (hn : n ≤ 60000) (m : Nat) : ∀ (k : Nat), n + 60 + m ≤ k → ∀ (jf a b : Nat) (lim : Int) (wb wp : Bool) (d : Array Int), b - a ≤ m → m < jf → a ≤ b → b ≤ n → d.size = n → Sort.Below ltI a b d →
    ∃ d', Sort.PermIn a b d d' ∧ Sort.SortedIn ltI a b d' ∧ ∀ κ : AV → Heap → Option ρ, so_pdq_h0 k jf n (a : Int) (rowOf (eI .u64) (dA d)) wb wp (b : Int) lim κ = κ (.tup []) [rA d' n] := by
  induction m using Nat.strongRecOn with
  | _ m ih =>
  intro k hk jf a b lim wb wp d hm hj hab hb hd hB
  obtain ⟨k, rfl⟩ : ∃ k', k = k' + 1 := ⟨k - 1, by omega⟩
  obtain ⟨jf, rfl⟩ : ∃ k', jf = k' + 1 := ⟨jf - 1, by omega⟩
  have eb : wi64 ((b : Int) - (a : Int)) = ((b - a : Nat) : Int) := by rw [wi64_in (by omega) (by omega)]; omega
  by_cases h12 : b - a ≤ 12
  · obtain ⟨hp, hs⟩ := Sort.insertionSort_holds (lt := ltI) swo_ltI d a b hab (by omega)
    refine ⟨Sort.insertionSort ltI d a b, hp, hs, fun κ => ?_⟩
    rw [so_pdq_h0_s, eb, dec_t (by omega), cond_true, so_ins_ok (k + 1) n a b d hd (by omega) (by omega) hb (by omega), so_pdq_r0_s]
  by_cases hl : lim = 0
  · obtain ⟨hp, hs⟩ := Sort.heapSort_holds (lt := ltI) swo_ltI d a b hab (by omega)
    refine ⟨Sort.heapSort ltI d a b, hp, hs, fun κ => ?_⟩
    rw [so_pdq_h0_s, eb, dec_f (by omega), cond_false, dec_t hl, cond_true, so_heap_ok (k + 1) n a b d hd (by omega) hab hb (by omega), so_pdq_r1_s]
  -- a round that parts the row
  have part : ∀ (d3 : Array Int) (p : Nat) (lim : Int), d3.size = n → Sort.Below ltI a b d3 → a ≤ p → p < b → ∃ d', Sort.PermIn a b d3 d' ∧ Sort.SortedIn ltI a b d' ∧
      ∀ (κ : AV → Heap → Option ρ) (x8 x9 : Bool) (x11 x98 : Int) (w0 : Nat → Int) (xa3 : Int) (x87 : Bool), evalF ctx (k + 1) n_slices_partitionOrdered_uint64 [.osl 1 0 0 n false, .int .i64 (a : Int), .int .i64 (b : Int), .int .i64 (p : Int)] [rA d3 n] (so_pdq_r8 (k + 1) jf n (a : Int) x8 x9 (b : Int) lim x11 x98 (rowOf (eI .u64) w0) xa3 x87 κ) = κ (.tup []) [rA d' n] := by
    intro d3 p lim hd3 hB3 hp1 hp2
    obtain ⟨mid, ap, d4, hx⟩ : ∃ mid ap d4, Sort.partition ltI d3 a b p = (mid, ap, d4) := ⟨_, _, _, rfl⟩
    obtain ⟨h1, h2, hd4, hBl, hBr, hL, hR⟩ := Sort.round_part swo_ltI (Sort.partition_holds ltI) hp1 hp2 (by omega) hB3 hx
    have hpe : ∀ Q : AV → Heap → Option ρ, evalF ctx (k + 1) n_slices_partitionOrdered_uint64 [.osl 1 0 0 n false, .int .i64 (a : Int), .int .i64 (b : Int), .int .i64 (p : Int)] [rA d3 n] Q = Q (.tup [.int .i64 (mid : Int), .bool ap]) [rA d4 n] := by
      intro Q
      have := so_part_ok (k + 1) n a b p d3 hd3 (by omega) hp1 hp2 hb (by omega) Q
      rw [hx] at this
      exact this
    have e1 : wi64 ((mid : Int) - (a : Int)) = ((mid - a : Nat) : Int) := by rw [wi64_in (by omega) (by omega)]; omega
    have e2 : wi64 ((b : Int) - (mid : Int)) = ((b - mid : Nat) : Int) := by rw [wi64_in (by omega) (by omega)]; omega
    by_cases hlt : mid - a < b - mid
    · obtain ⟨d5, hp5, hs5, c5⟩ := ih (mid - a) (by omega) k (by omega) k a mid lim true true d4 (Nat.le_refl _) (by omega) h1 (by omega) (by omega) hBl
      obtain ⟨hB5, hF⟩ := hL d5 hp5 hs5
      obtain ⟨d6, hp6, hs6, c6⟩ := ih (b - (mid + 1)) (by omega) (k + 1) (by omega) jf (mid + 1) b lim (decide (wi64 ((wi64 ((b : Int) - (a : Int))).tdiv 8) ≤ wi64 ((mid : Int) - (a : Int)))) ap d5 (Nat.le_refl _) (by omega) (by omega) hb (by rw [hp5.1, hd4, hd3]) hB5
      obtain ⟨g1, g2⟩ := hF d6 hp6 hs6
      refine ⟨d6, g1, g2, fun κ x8 x9 x11 x98 w0 xa3 x87 => ?_⟩
      rw [hpe, so_pdq_r8_s, e1, e2, dec_t (by omega), cond_true, so_pdq_e, c5, so_pdq_r11_s, wi_succ mid (by omega)]
      exact c6 κ
    · obtain ⟨d5, hp5, hs5, c5⟩ := ih (b - (mid + 1)) (by omega) k (by omega) k (mid + 1) b lim true true d4 (Nat.le_refl _) (by omega) (by omega) hb (by omega) hBr
      obtain ⟨hB5, hF⟩ := hR d5 hp5 hs5
      obtain ⟨d6, hp6, hs6, c6⟩ := ih (mid - a) (by omega) (k + 1) (by omega) jf a mid lim (decide (wi64 ((wi64 ((b : Int) - (a : Int))).tdiv 8) ≤ wi64 ((b : Int) - (mid : Int)))) ap d5 (Nat.le_refl _) (by omega) h1 (by omega) (by rw [hp5.1, hd4, hd3]) hB5
      obtain ⟨g1, g2⟩ := hF d6 hp6 hs6
      refine ⟨d6, g1, g2, fun κ x8 x9 x11 x98 w0 xa3 x87 => ?_⟩
      rw [hpe, so_pdq_r8_s, e1, e2, dec_f (by omega), cond_false, wi_succ mid (by omega), so_pdq_e, c5, so_pdq_r12_s]
      exact c6 κ
  -- a round that puts the equal ones first
  have eqp : ∀ (d3 : Array Int) (p : Nat) (lim : Int), d3.size = n → Sort.Below ltI a b d3 → a ≤ p → p < b → 0 < a → ltI d3[a - 1]! d3[p]! = false → ∃ d', Sort.PermIn a b d3 d' ∧ Sort.SortedIn ltI a b d' ∧
      ∀ (κ : AV → Heap → Option ρ) (x11 : Int) (w0 : Nat → Int) (x87 : Bool), evalF ctx (k + 1) n_slices_partitionEqualOrdered_uint64 [.osl 1 0 0 n false, .int .i64 (a : Int), .int .i64 (b : Int), .int .i64 (p : Int)] [rA d3 n] (so_pdq_r10 (k + 1) jf n x11 (a : Int) wb wp (b : Int) lim x87 (rowOf (eI .u64) w0) κ) = κ (.tup []) [rA d' n] := by
    intro d3 p lim hd3 hB3 hp1 hp2 ha0 hnl
    obtain ⟨mid, d4, hx⟩ : ∃ mid d4, Sort.partitionEqual ltI d3 a b p = (mid, d4) := ⟨_, _, rfl⟩
    obtain ⟨h1, h2, hd4, hB4, hF⟩ := Sort.round_eq swo_ltI (Sort.partitionEqual_holds ltI) ha0 hp1 hp2 (by omega) hB3 hnl hx
    have hpe : ∀ Q : AV → Heap → Option ρ, evalF ctx (k + 1) n_slices_partitionEqualOrdered_uint64 [.osl 1 0 0 n false, .int .i64 (a : Int), .int .i64 (b : Int), .int .i64 (p : Int)] [rA d3 n] Q = Q (.int .i64 (mid : Int)) [rA d4 n] := by
      intro Q
      have := so_parteq_ok (k + 1) n a b p d3 hd3 (by omega) hp1 hp2 hb (by omega) Q
      rw [hx] at this
      exact this
    obtain ⟨d6, hp6, hs6, c6⟩ := ih (b - mid) (by omega) (k + 1) (by omega) jf mid b lim wb wp d4 (Nat.le_refl _) (by omega) h2 hb (by omega) hB4
    obtain ⟨g1, g2⟩ := hF d6 hp6 hs6
    refine ⟨d6, g1, g2, fun κ x11 w0 x87 => ?_⟩
    rw [hpe, so_pdq_r10_s]
    exact c6 κ
  have five : ∀ (d3 : Array Int) (p : Nat) (lim : Int), d3.size = n → Sort.Below ltI a b d3 → a ≤ p → p < b → ∃ d', Sort.PermIn a b d3 d' ∧ Sort.SortedIn ltI a b d' ∧
      ∀ (κ : AV → Heap → Option ρ) (R : AV → Option ρ) (Q : AV → Heap → Option ρ),
        (∃ x11 w0 x87, R (.bool false) = evalF ctx (k + 1) n_slices_partitionEqualOrdered_uint64 [.osl 1 0 0 n false, .int .i64 (a : Int), .int .i64 (b : Int), .int .i64 (p : Int)] [rA d3 n] (so_pdq_r10 (k + 1) jf n x11 (a : Int) wb wp (b : Int) lim x87 (rowOf (eI .u64) w0) κ)) →
        (∃ x8 x9 x11 x98 w0 xa3 x87, R (.bool true) = evalF ctx (k + 1) n_slices_partitionOrdered_uint64 [.osl 1 0 0 n false, .int .i64 (a : Int), .int .i64 (b : Int), .int .i64 (p : Int)] [rA d3 n] (so_pdq_r8 (k + 1) jf n (a : Int) x8 x9 (b : Int) lim x11 x98 (rowOf (eI .u64) w0) xa3 x87 κ)) →
        (∃ x8 x9 x11 x98 w0 xa3 x87, Q = so_pdq_r8 (k + 1) jf n (a : Int) x8 x9 (b : Int) lim x11 x98 (rowOf (eI .u64) w0) xa3 x87 κ) →
        (bif decide (0 < (a : Int)) then
          (bif idxOK (wi64 ((a : Int) - 1)) n then (bif decide ((0 + (wi64 ((a : Int) - 1)).toNat) < n) then (bif idxOK (p : Int) n then (bif decide ((0 + ((p : Int)).toNat) < n) then
            callP ctx (k + 1) n_cmp_Less_uint64 [.int .u64 (dA d3 (0 + (wi64 ((a : Int) - 1)).toNat)), .int .u64 (dA d3 (0 + ((p : Int)).toNat))] R else none) else none) else none) else none)
         else evalF ctx (k + 1) n_slices_partitionOrdered_uint64 [.osl 1 0 0 n false, .int .i64 (a : Int), .int .i64 (b : Int), .int .i64 (p : Int)] [rA d3 n] Q) = κ (.tup []) [rA d' n] := by
    intro d3 p lim hd3 hB3 hp1 hp2
    by_cases ha0 : 0 < a
    · have e1 : wi64 ((a : Int) - 1) = ((a - 1 : Nat) : Int) := by rw [wi64_in (by omega) (by omega)]; omega
      have hle : ∀ R : AV → Option ρ, callP ctx (k + 1) n_cmp_Less_uint64 [.int .u64 (dA d3 (a - 1)), .int .u64 (dA d3 p)] R = R (.bool (ltI d3[a - 1]! d3[p]!)) := fun R => Less_ok (k + 1) _ _ (by omega) R
      cases hnl : ltI d3[a - 1]! d3[p]! with
      | false =>
        obtain ⟨d', g1, g2, c⟩ := eqp d3 p lim hd3 hB3 hp1 hp2 ha0 hnl
        refine ⟨d', g1, g2, fun κ R Q h1 h2 h3 => ?_⟩
        obtain ⟨x11, w0, x87, h1⟩ := h1
        rw [dec_t (by omega), cond_true, e1]
        simp only [Int.toNat_natCast, Nat.zero_add]
        rw [hle, hnl, h1, c κ x11 w0 x87, idx_ok (by omega) (by omega), cond_true, dec_t (by omega), cond_true, idx_ok (by omega) (by omega), cond_true, dec_t (by omega), cond_true]
      | true =>
        obtain ⟨d', g1, g2, c⟩ := part d3 p lim hd3 hB3 hp1 hp2
        refine ⟨d', g1, g2, fun κ R Q h1 h2 h3 => ?_⟩
        obtain ⟨x8, x9, x11, x98, w0, xa3, x87, h2⟩ := h2
        rw [dec_t (by omega), cond_true, e1]
        simp only [Int.toNat_natCast, Nat.zero_add]
        rw [hle, hnl, h2, c κ x8 x9 x11 x98 w0 xa3 x87, idx_ok (by omega) (by omega), cond_true, dec_t (by omega), cond_true, idx_ok (by omega) (by omega), cond_true, dec_t (by omega), cond_true]
    · obtain ⟨d', g1, g2, c⟩ := part d3 p lim hd3 hB3 hp1 hp2
      refine ⟨d', g1, g2, fun κ R Q h1 h2 h3 => ?_⟩
      obtain ⟨x8, x9, x11, x98, w0, xa3, x87, rfl⟩ := h3
      rw [dec_f (by omega), cond_false, c κ x8 x9 x11 x98 w0 xa3 x87]
  -- behind the pivot
  have four : ∀ (d2 : Array Int) (p : Nat) (lim : Int), d2.size = n → Sort.Below ltI a b d2 → a ≤ p → p < b → ∃ d', Sort.PermIn a b d2 d' ∧ Sort.SortedIn ltI a b d' ∧
      ∀ (κ : AV → Heap → Option ρ) (x68 : Bool) (w0 : Nat → Int), evalF ctx (k + 1) n_slices_partialInsertionSortOrdered_uint64 [.osl 1 0 0 n false, .int .i64 (a : Int), .int .i64 (b : Int)] [rA d2 n] (so_pdq_r6 (k + 1) jf n (a : Int) wb wp (b : Int) lim (p : Int) x68 (rowOf (eI .u64) w0) κ) = κ (.tup []) [rA d' n] := by
    intro d2 p lim hd2 hB2 hp1 hp2
    obtain ⟨hp, hs⟩ := Sort.partialInsertionSort_holds (lt := ltI) swo_ltI d2 a b (by omega) (by omega) hB2
    have hpe : ∀ Q : AV → Heap → Option ρ, evalF ctx (k + 1) n_slices_partialInsertionSortOrdered_uint64 [.osl 1 0 0 n false, .int .i64 (a : Int), .int .i64 (b : Int)] [rA d2 n] Q = Q (.bool (Sort.partialInsertionSort ltI d2 a b).2) [rA (Sort.partialInsertionSort ltI d2 a b).1 n] := fun Q => so_pins_ok (k + 1) n a b d2 hd2 (by omega) (by omega) hb (by omega) Q
    generalize Sort.partialInsertionSort ltI d2 a b = r at *
    obtain ⟨d3, q⟩ := r
    dsimp only at hp hs hpe
    cases q with
    | true =>
      refine ⟨d3, hp, hs rfl, fun κ x68 w0 => ?_⟩
      rw [hpe, so_pdq_r6_s, cond_true]
    | false =>
      obtain ⟨d', g1, g2, c⟩ := five d3 p lim (by rw [hp.1, hd2]) (hB2.perm (by omega) hp) hp1 hp2
      refine ⟨d', Sort.permIn_trans _ _ _ _ _ hp g1, g2, fun κ x68 w0 => ?_⟩
      rw [hpe, so_pdq_r6_s, cond_false]
      exact c κ _ _ ⟨_, _, _, so_pdq_r9_s (k + 1) jf n _ _ _ _ _ _ _ _ false κ⟩ ⟨_, _, _, _, _, _, _, so_pdq_r9_s (k + 1) jf n _ _ _ _ _ _ _ _ true κ⟩ ⟨_, _, _, _, _, _, _, rfl⟩
  have three : ∀ (d1 : Array Int) (lim : Int), d1.size = n → Sort.Below ltI a b d1 → ∃ d', Sort.PermIn a b d1 d' ∧ Sort.SortedIn ltI a b d' ∧
      ∀ (κ : AV → Heap → Option ρ) (Q : AV → Heap → Option ρ), (∀ p h : Int, Q (.tup [.int .i64 p, .int .i64 h]) [rA d1 n] = pdT (k + 1) jf n (a : Int) wb wp (b : Int) lim p h (dA d1) κ) →
        evalF ctx (k + 1) n_slices_choosePivotOrdered_uint64 [.osl 1 0 0 n false, .int .i64 (a : Int), .int .i64 (b : Int)] [rA d1 n] Q = κ (.tup []) [rA d' n] := by
    intro d1 lim hd1 hB1
    obtain ⟨p, h, hp1, hp2, cp⟩ := so_piv_ok (ρ := ρ) (k + 1) n a b d1 hd1 (by omega) (by omega) hb (by omega)
    by_cases h2 : h = 2
    · -- turned round
      have hr := Sort.reverseRange_holds d1 a b hab (by omega)
      have hre : ∀ Q : AV → Heap → Option ρ, evalF ctx (k + 1) n_slices_reverseRangeOrdered_uint64 [.osl 1 0 0 n false, .int .i64 (a : Int), .int .i64 (b : Int)] [rA d1 n] Q = Q (.tup []) [rA (Sort.reverseRange d1 a b) n] := fun Q => so_rev_ok (k + 1) n a b d1 hd1 (by omega) (by omega) hb (by omega) Q
      have ep : wi64 (wi64 ((b : Int) - 1) - wi64 ((p : Int) - (a : Int))) = ((b - 1 - (p - a) : Nat) : Int) := by
        rw [wi64_in (n := (b : Int) - 1) (by omega) (by omega), wi64_in (n := (p : Int) - (a : Int)) (by omega) (by omega), wi64_in (by omega) (by omega)]; omega
      generalize Sort.reverseRange d1 a b = d2 at *
      have hd2 : d2.size = n := by rw [hr.1, hd1]
      have hB2 := hB1.perm (by omega) hr
      by_cases hw : wb = true ∧ wp = true
      · obtain ⟨d', g1, g2, c⟩ := four d2 (b - 1 - (p - a)) lim hd2 hB2 (by omega) (by omega)
        refine ⟨d', Sort.permIn_trans _ _ _ _ _ hr g1, g2, fun κ Q hQ => ?_⟩
        rw [cp, hQ]
        unfold pdT
        rw [dec_t h2, cond_true, hre, so_pdq_r5_s, ep, hw.1, hw.2, cond_true, cond_true]
        have := c κ true (dA d2)
        rw [hw.1, hw.2] at this
        exact this
      · obtain ⟨d', g1, g2, c⟩ := five d2 (b - 1 - (p - a)) lim hd2 hB2 (by omega) (by omega)
        refine ⟨d', Sort.permIn_trans _ _ _ _ _ hr g1, g2, fun κ Q hQ => ?_⟩
        rw [cp, hQ]
        unfold pdT
        rw [dec_t h2, cond_true, hre, so_pdq_r5_s, ep]
        cases hwb : wb with
        | false =>
          rw [cond_false]
          rw [hwb] at c
          exact c κ _ _ ⟨_, _, _, so_pdq_r7_s (k + 1) jf n _ _ _ _ _ _ _ _ _ _ _ _ _ _ false κ⟩ ⟨_, _, _, _, _, _, _, so_pdq_r7_s (k + 1) jf n _ _ _ _ _ _ _ _ _ _ _ _ _ _ true κ⟩ ⟨_, _, _, _, _, _, _, rfl⟩
        | true =>
          cases hwp : wp with
          | true => exact absurd ⟨hwb, hwp⟩ hw
          | false =>
            rw [cond_true, cond_false]
            rw [hwb, hwp] at c
            exact c κ _ _ ⟨_, _, _, so_pdq_r7_s (k + 1) jf n _ _ _ _ _ _ _ _ _ _ _ _ _ _ false κ⟩ ⟨_, _, _, _, _, _, _, so_pdq_r7_s (k + 1) jf n _ _ _ _ _ _ _ _ _ _ _ _ _ _ true κ⟩ ⟨_, _, _, _, _, _, _, rfl⟩
    · by_cases hw : wb = true ∧ wp = true ∧ h = 1
      · obtain ⟨d', g1, g2, c⟩ := four d1 p lim hd1 hB1 hp1 hp2
        refine ⟨d', g1, g2, fun κ Q hQ => ?_⟩
        rw [cp, hQ]
        unfold pdT
        rw [dec_f h2, cond_false, dec_t hw.2.2, hw.1, hw.2.1]
        simp only [cond_true]
        have := c κ true (dA d1)
        rw [hw.1, hw.2.1] at this
        exact this
      · obtain ⟨d', g1, g2, c⟩ := five d1 p lim hd1 hB1 hp1 hp2
        refine ⟨d', g1, g2, fun κ Q hQ => ?_⟩
        rw [cp, hQ]
        unfold pdT
        rw [dec_f h2, cond_false]
        cases hwb : wb with
        | false =>
          rw [cond_false]
          rw [hwb] at c
          exact c κ _ _ ⟨_, _, _, so_pdq_r7_s (k + 1) jf n _ _ _ _ _ _ _ _ _ _ _ _ _ _ false κ⟩ ⟨_, _, _, _, _, _, _, so_pdq_r7_s (k + 1) jf n _ _ _ _ _ _ _ _ _ _ _ _ _ _ true κ⟩ ⟨_, _, _, _, _, _, _, rfl⟩
        | true =>
          cases hwp : wp with
          | true =>
            have h1 : ¬ h = 1 := fun x => hw ⟨hwb, hwp, x⟩
            rw [cond_true, cond_true, dec_f h1, cond_false]
            rw [hwb, hwp] at c
            exact c κ _ _ ⟨_, _, _, so_pdq_r7_s (k + 1) jf n _ _ _ _ _ _ _ _ _ _ _ _ _ _ false κ⟩ ⟨_, _, _, _, _, _, _, so_pdq_r7_s (k + 1) jf n _ _ _ _ _ _ _ _ _ _ _ _ _ _ true κ⟩ ⟨_, _, _, _, _, _, _, rfl⟩
          | false =>
            rw [cond_true, cond_false]
            rw [hwb, hwp] at c
            exact c κ _ _ ⟨_, _, _, so_pdq_r7_s (k + 1) jf n _ _ _ _ _ _ _ _ _ _ _ _ _ _ false κ⟩ ⟨_, _, _, _, _, _, _, so_pdq_r7_s (k + 1) jf n _ _ _ _ _ _ _ _ _ _ _ _ _ _ true κ⟩ ⟨_, _, _, _, _, _, _, rfl⟩
  cases hwb : wb with
  | true =>
    obtain ⟨d', g1, g2, c⟩ := three d lim hd hB
    refine ⟨d', g1, g2, fun κ => ?_⟩
    rw [so_pdq_h0_s, eb, dec_f (by omega), cond_false, dec_f hl, cond_false, Bool.not_true, cond_false]
    rw [hwb] at c
    exact c κ _ fun p h => so_pdq_r3_s (k + 1) jf n (dA d) (a : Int) true wp (b : Int) lim p h κ
  | false =>
    obtain ⟨d1, s1, hp1, c1⟩ := so_brk_ok (ρ := ρ) (k + 1) n a b d hd hn (by omega) hb (by omega)
    obtain ⟨d', g1, g2, c⟩ := three d1 (wi64 (lim - 1)) (by rw [hp1.1, hd]) (hB.perm (by omega) hp1)
    refine ⟨d', Sort.permIn_trans _ _ _ _ _ hp1 g1, g2, fun κ => ?_⟩
    rw [so_pdq_h0_s, eb, dec_f (by omega), cond_false, dec_f hl, cond_false, Bool.not_false, cond_true, c1, so_pdq_r2_s]
    rw [hwb] at c
    exact c κ _ fun p h => so_pdq_r4_s (k + 1) jf n (a : Int) false wp (b : Int) (dA d1) lim p h κ
/-- the library's sort of numbers -/
theorem so_Sort_ok (k n : Nat) (d : Array Int) (hd : d.size = n) (hn : n ≤ 60000) (hk : 2 * n + 100 ≤ k) :
    ∃ d' : Array Int, Sort.PermIn 0 n d d' ∧ Sort.SortedIn ltI 0 n d' ∧ ∀ κ : AV → Heap → Option ρ, evalF ctx k n_slices_Sort_uint64 [.osl 1 0 0 n false] [some (.arr 1 n (rowOf (eI .u64) (dA d)))] κ = κ (.tup []) [some (.arr 1 n (rowOf (eI .u64) (dA d')))] := by
  obtain ⟨k, rfl⟩ : ∃ k', k = k' + 2 := ⟨k - 2, by omega⟩
  obtain ⟨d', g1, g2, c⟩ := so_pdq_main (ρ := ρ) n hn n k (by omega) k 0 n (lenN n) true true d (by omega) (by omega) (Nat.zero_le _) (Nat.le_refl _) hd (Or.inl rfl)
  refine ⟨d', g1, g2, fun κ => ?_⟩
  rw [so_Sort_e, wu64_in (by omega) (by omega), Len_ok (k + 1) n (by omega) (by omega), so_Sort_r0_s, so_pdq_e]
  refine (c _).trans ?_
  exact so_Sort_r1_s (k + 1) n _ _ _ κ
end Go.Proofs.YticcbbcgboddpaaC

set_option linter.unusedVariables false
set_option maxRecDepth 20000
namespace Go.Proofs.YticcbbcgboddpaaC
open Go Go.Ev Go.Proofs
variable {ρ : Type}
noncomputable def so_cmp_h0 (k j : Nat) (n : Nat) (w : Nat → Int) (x3 : Int) (κ : AV → Heap → Option ρ) : Option ρ := headAt ctx k n_slices_Compact_uint64 1 [.r, .r, .l, .r] j ⟨(envOf 61 [(0, .osl 1 0 0 n false), (3, .int .i64 x3)]), [some (.arr 1 n (rowOf (eI .u64) w))]⟩ κ
noncomputable def so_cmp_h1 (k j1 j : Nat) (n : Nat) (x5 : Int) (x3 : Int) (w0 : Nat → List AV) (x4o : Nat) (x4n : Nat) (κ : AV → Heap → Option ρ) : Option ρ := headAt ctx k n_slices_Compact_uint64 1 [.r, .r, .l, .r, .into j1, .r, .l, .r, .l, .r, .l, .r] j ⟨(envOf 61 [(0, .osl 1 0 0 n false), (3, .int .i64 x3), (4, .osl 1 0 x4o x4n false), (5, .int .i64 x5)]), [some (.arr 1 n w0)]⟩ κ
noncomputable def so_cmp_e0 (k j1 j2 : Nat) (n : Nat) (x3 : Int) (x5 : Int) (x4o : Nat) (x4n : Nat) (w0 : Nat → List AV) (κ : AV → Heap → Option ρ) : Option ρ := endAt ctx k n_slices_Compact_uint64 1 [.r, .r, .l, .r, .into j1, .r, .l, .r, .l, .r, .l, .r, .into j2, .r, .l, .r, .l, .l] ⟨(envOf 61 [(0, .osl 1 0 0 n false), (3, .int .i64 x3), (4, .osl 1 0 x4o x4n false), (5, .int .i64 x5)]), [some (.arr 1 n w0)]⟩ κ
theorem so_cmp_h0_s (k j : Nat) (n : Nat) (w : Nat → Int) (x3 : Int) (κ : AV → Heap → Option ρ) : so_cmp_h0 k (j + 1) n w x3 κ =
  (bif decide (x3 < (n : Int)) then
   (bif idxOK x3 n then
    (bif decide ((0 + (x3).toNat) < n) then
     (bif idxOK (wi64 (x3 - 1)) n then
      (bif decide ((0 + (wi64 (x3 - 1)).toNat) < n) then
       (bif decide ((w (0 + (x3).toNat)) = (w (0 + (wi64 (x3 - 1)).toNat))) then
        (bif (cutOK n x3 (n : Int) (n : Int) && true) then
         so_cmp_h1 k j k n 1 x3 (rowOf (eI .u64) w) (0 + (x3).toNat) (n - (x3).toNat) κ
        else none)
       else so_cmp_h0 k j n w (wi64 (x3 + 1)) κ)
      else none)
     else none)
    else none)
   else none)
  else κ (.osl 1 0 0 n false) [some (.arr 1 n (rowOf (eI .u64) w))]) := by kernel_rfl
theorem so_cmp_h1_s (k j1 j : Nat) (n : Nat) (x5 : Int) (x3 : Int) (w0 : Nat → Int) (x4o : Nat) (x4n : Nat) (κ : AV → Heap → Option ρ) : so_cmp_h1 k j1 (j + 1) n x5 x3 (rowOf (eI .u64) w0) x4o x4n κ =
  (bif decide (x5 < (x4n : Int)) then
   (bif idxOK x5 x4n then
    (bif decide ((x4o + (x5).toNat) < n) then
     (bif idxOK (wi64 (x5 - 1)) x4n then
      (bif decide ((x4o + (wi64 (x5 - 1)).toNat) < n) then
       (bif !decide ((w0 (x4o + (x5).toNat)) = (w0 (x4o + (wi64 (x5 - 1)).toNat))) then
        (bif idxOK x5 x4n then
         (bif decide ((x4o + (x5).toNat) < n) then
          (bif idxOK x3 n then
           (bif decide ((0 + (x3).toNat) < n) then
            so_cmp_e0 k j1 j n x3 x5 x4o x4n (updRow (0 + (x3).toNat) 0 ((eI .u64) (w0 (x4o + (x5).toNat))) (rowOf (eI .u64) w0)) κ
           else none)
          else none)
         else none)
        else none)
       else so_cmp_h1 k j1 j n (wi64 (x5 + 1)) x3 (rowOf (eI .u64) w0) x4o x4n κ)
      else none)
     else none)
    else none)
   else none)
  else (bif (cutOK n x3 (n : Int) (n : Int) && true) then
    (bif (cutOK n 0 x3 (n : Int) && true) then
     κ (.osl 1 0 0 ((x3).toNat) false) [some (.arr 1 n (putRow (0 + (x3).toNat) ((0 + (x3).toNat) + (n - (x3).toNat)) (rowOf (eI .u64) (fun _ => 0)) (rowOf (eI .u64) w0)))]
    else none)
   else none)) := by kernel_rfl
theorem so_cmp_e0_s (k j1 j2 : Nat) (n : Nat) (x3 : Int) (x5 : Int) (x4o : Nat) (x4n : Nat) (w0 : Nat → Int) (κ : AV → Heap → Option ρ) : so_cmp_e0 k j1 j2 n x3 x5 x4o x4n (rowOf (eI .u64) w0) κ =
  so_cmp_h1 k j1 j2 n (wi64 (x5 + 1)) (wi64 (x3 + 1)) (rowOf (eI .u64) w0) x4o x4n κ := by kernel_rfl
theorem so_cmp_e (k : Nat) (n : Nat) (w : Nat → Int) (κ : AV → Heap → Option ρ) : evalF ctx (k + 1) n_slices_Compact_uint64 [.osl 1 0 0 n false] [some (.arr 1 n (rowOf (eI .u64) w))] κ =
  (bif decide ((n : Int) < 2) then
   κ (.osl 1 0 0 n false) [some (.arr 1 n (rowOf (eI .u64) w))]
  else so_cmp_h0 k k n w 1 κ) := by kernel_rfl
end Go.Proofs.YticcbbcgboddpaaC

set_option linter.unusedVariables false
set_option maxRecDepth 20000
namespace Go.Proofs.YticcbbcgboddpaaC
open Go Go.Ev Go.Proofs
variable {ρ : Type}
noncomputable def index_Blk_h0 (k j : Nat) (l : Sl TLock) (tx : Int) (x8 : Int) (κ : AV → Heap → Option ρ) : Option ρ := headAt ctx k n_slices_IndexFunc_Lock 1 [.r, .l, .r] j ⟨(envOf 19 [(0, .sl 5 l.n (rowOf eLock l.w) l.u), (1, .fn n_locks_Blockers_1 [] [.ref 0 0]), (7, .int .i64 (l.n : Int)), (8, .int .i64 x8)]), [some (.box [.int .u64 tx])]⟩ κ
theorem index_Blk_h0_s (k j : Nat) (l : Sl TLock) (tx : Int) (x8 : Int) (κ : AV → Heap → Option ρ) : index_Blk_h0 (k + 1) (j + 1) l tx x8 κ =
  (bif decide (x8 < (l.n : Int)) then
   (bif idxOK x8 l.n then
    (bif decide (((l.w ((x8).toNat)).Tx) = tx) then
     κ (.int .i64 x8) [some (.box [.int .u64 tx])]
    else index_Blk_h0 (k + 1) j l tx (wi64 (x8 + 1)) κ)
   else none)
  else κ (.int .i64 (-1)) [some (.box [.int .u64 tx])]) := by kernel_rfl
theorem index_Blk_e (k : Nat) (l : Sl TLock) (tx : Int) (κ : AV → Heap → Option ρ) : evalF ctx (k + 1) n_slices_IndexFunc_Lock [.sl 5 l.n (rowOf eLock l.w) l.u, .fn n_locks_Blockers_1 [] [.ref 0 0]] [some (.box [.int .u64 tx])] κ =
  index_Blk_h0 k k l tx 0 κ := by kernel_rfl
theorem slices_Concat_Lock_e (k : Nat) (x : Sl TLock) (y : Sl TLock) (κ : AV → Heap → Option ρ) : evalF ctx (k + 4) n_slices_Concat_Lock [.sl 1 2 (litRow (eL 5 eLock) [x, y] ⟨0, fun _ => zLock, true⟩) true] [] κ =
  (bif decide (wi64 (0 + (x.n : Int)) < 0) then
   none
  else (bif decide (wi64 (wi64 (0 + (x.n : Int)) + (y.n : Int)) < 0) then
    none
   else (bif decide (wi64 (wi64 (0 + (x.n : Int)) + (y.n : Int)) < 0) then
     none
    else (bif decide (0 < wi64 (wi64 (wi64 (0 + (x.n : Int)) + (y.n : Int)) - 0)) then
      (bif ((decide (0 ≤ wi64 (wi64 (wi64 (0 + (x.n : Int)) + (y.n : Int)) - 0))) && (roomOf ((wi64 (wi64 (wi64 (0 + (x.n : Int)) + (y.n : Int)) - 0)).toNat) 56)) then
       (bif decide ((wi64 (wi64 (wi64 (0 + (x.n : Int)) + (y.n : Int)) - 0)).toNat = 0) then
        (bif decide (x.n = 0) then
         (bif decide (y.n = 0) then
          κ (.sl 5 0 (shRow 0 (shRow 0 (rowOf eLock (fun _ => zLock)))) true) []
         else (bif roomOf (0 + y.n) 56 then
           κ (.osl 5 0 0 (0 + y.n) false) [some (.arr 5 (0 + y.n) (catRow 0 (shRow 0 (shRow 0 (rowOf eLock (fun _ => zLock)))) (rowOf eLock y.w)))]
          else none))
        else (bif roomOf (0 + x.n) 56 then
          (bif decide (y.n = 0) then
           κ (.osl 5 0 0 (0 + x.n) false) [some (.arr 5 (0 + x.n) (catRow 0 (shRow 0 (shRow 0 (rowOf eLock (fun _ => zLock)))) (rowOf eLock x.w)))]
          else (bif decide (((0 + (0 + x.n)) + y.n) ≤ (0 + x.n)) then
            κ (.osl 5 0 0 ((0 + x.n) + y.n) false) [some (.arr 5 (0 + x.n) (putRow (0 + (0 + x.n)) ((0 + (0 + x.n)) + y.n) (rowOf eLock y.w) (catRow 0 (shRow 0 (shRow 0 (rowOf eLock (fun _ => zLock)))) (rowOf eLock x.w))))]
           else (bif ((decide ((0 + x.n) = (0 + x.n))) && (roomOf ((0 + x.n) + y.n) 56)) then
             κ (.osl 5 0 0 ((0 + x.n) + y.n) false) [some (.arr 5 ((0 + x.n) + y.n) (catRow (0 + x.n) (catRow 0 (shRow 0 (shRow 0 (rowOf eLock (fun _ => zLock)))) (rowOf eLock x.w)) (rowOf eLock y.w)))]
            else none)))
         else none))
       else (bif roomOf (0 + (wi64 (wi64 (wi64 (0 + (x.n : Int)) + (y.n : Int)) - 0)).toNat) 56 then
         (bif (cutOK (0 + (wi64 (wi64 (wi64 (0 + (x.n : Int)) + (y.n : Int)) - 0)).toNat) 0 0 (((0 + (wi64 (wi64 (wi64 (0 + (x.n : Int)) + (y.n : Int)) - 0)).toNat) : Nat) : Int) && true) then
          (bif decide (x.n = 0) then
           (bif decide (y.n = 0) then
            κ (.osl 5 0 0 0 false) [some (.arr 5 (0 + (wi64 (wi64 (wi64 (0 + (x.n : Int)) + (y.n : Int)) - 0)).toNat) (catRow 0 (shRow 0 (rowOf eLock (fun _ => zLock))) (rowOf eLock (fun _ => zLock))))]
           else (bif decide ((0 + y.n) ≤ (0 + (wi64 (wi64 (wi64 (0 + (x.n : Int)) + (y.n : Int)) - 0)).toNat)) then
             κ (.osl 5 0 0 (0 + y.n) false) [some (.arr 5 (0 + (wi64 (wi64 (wi64 (0 + (x.n : Int)) + (y.n : Int)) - 0)).toNat) (putRow 0 (0 + y.n) (rowOf eLock y.w) (catRow 0 (shRow 0 (rowOf eLock (fun _ => zLock))) (rowOf eLock (fun _ => zLock)))))]
            else (bif ((decide (0 = (0 + (wi64 (wi64 (wi64 (0 + (x.n : Int)) + (y.n : Int)) - 0)).toNat))) && (roomOf (0 + y.n) 56)) then
              κ (.osl 5 0 0 (0 + y.n) false) [some (.arr 5 (0 + y.n) (catRow 0 (catRow 0 (shRow 0 (rowOf eLock (fun _ => zLock))) (rowOf eLock (fun _ => zLock))) (rowOf eLock y.w)))]
             else none)))
          else (bif decide ((0 + x.n) ≤ (0 + (wi64 (wi64 (wi64 (0 + (x.n : Int)) + (y.n : Int)) - 0)).toNat)) then
            (bif decide (y.n = 0) then
             κ (.osl 5 0 0 (0 + x.n) false) [some (.arr 5 (0 + (wi64 (wi64 (wi64 (0 + (x.n : Int)) + (y.n : Int)) - 0)).toNat) (putRow 0 (0 + x.n) (rowOf eLock x.w) (catRow 0 (shRow 0 (rowOf eLock (fun _ => zLock))) (rowOf eLock (fun _ => zLock)))))]
            else (bif decide (((0 + (0 + x.n)) + y.n) ≤ (0 + (wi64 (wi64 (wi64 (0 + (x.n : Int)) + (y.n : Int)) - 0)).toNat)) then
              κ (.osl 5 0 0 ((0 + x.n) + y.n) false) [some (.arr 5 (0 + (wi64 (wi64 (wi64 (0 + (x.n : Int)) + (y.n : Int)) - 0)).toNat) (putRow (0 + (0 + x.n)) ((0 + (0 + x.n)) + y.n) (rowOf eLock y.w) (putRow 0 (0 + x.n) (rowOf eLock x.w) (catRow 0 (shRow 0 (rowOf eLock (fun _ => zLock))) (rowOf eLock (fun _ => zLock))))))]
             else (bif ((decide ((0 + x.n) = (0 + (wi64 (wi64 (wi64 (0 + (x.n : Int)) + (y.n : Int)) - 0)).toNat))) && (roomOf ((0 + x.n) + y.n) 56)) then
               κ (.osl 5 0 0 ((0 + x.n) + y.n) false) [some (.arr 5 ((0 + x.n) + y.n) (catRow (0 + x.n) (putRow 0 (0 + x.n) (rowOf eLock x.w) (catRow 0 (shRow 0 (rowOf eLock (fun _ => zLock))) (rowOf eLock (fun _ => zLock)))) (rowOf eLock y.w)))]
              else none)))
           else (bif ((decide (0 = (0 + (wi64 (wi64 (wi64 (0 + (x.n : Int)) + (y.n : Int)) - 0)).toNat))) && (roomOf (0 + x.n) 56)) then
             (bif decide (y.n = 0) then
              κ (.osl 5 0 0 (0 + x.n) false) [some (.arr 5 (0 + x.n) (catRow 0 (catRow 0 (shRow 0 (rowOf eLock (fun _ => zLock))) (rowOf eLock (fun _ => zLock))) (rowOf eLock x.w)))]
             else (bif decide (((0 + (0 + x.n)) + y.n) ≤ (0 + x.n)) then
               κ (.osl 5 0 0 ((0 + x.n) + y.n) false) [some (.arr 5 (0 + x.n) (putRow (0 + (0 + x.n)) ((0 + (0 + x.n)) + y.n) (rowOf eLock y.w) (catRow 0 (catRow 0 (shRow 0 (rowOf eLock (fun _ => zLock))) (rowOf eLock (fun _ => zLock))) (rowOf eLock x.w))))]
              else (bif ((decide ((0 + x.n) = (0 + x.n))) && (roomOf ((0 + x.n) + y.n) 56)) then
                κ (.osl 5 0 0 ((0 + x.n) + y.n) false) [some (.arr 5 ((0 + x.n) + y.n) (catRow (0 + x.n) (catRow 0 (catRow 0 (shRow 0 (rowOf eLock (fun _ => zLock))) (rowOf eLock (fun _ => zLock))) (rowOf eLock x.w)) (rowOf eLock y.w)))]
               else none)))
            else none)))
         else none)
        else none))
      else none)
     else (bif decide (x.n = 0) then
       (bif decide (y.n = 0) then
        κ (.sl 5 0 (rowOf eLock (fun _ => zLock)) true) []
       else (bif roomOf (0 + y.n) 56 then
         κ (.osl 5 0 0 (0 + y.n) false) [some (.arr 5 (0 + y.n) (catRow 0 (rowOf eLock (fun _ => zLock)) (rowOf eLock y.w)))]
        else none))
      else (bif roomOf (0 + x.n) 56 then
        (bif decide (y.n = 0) then
         κ (.osl 5 0 0 (0 + x.n) false) [some (.arr 5 (0 + x.n) (catRow 0 (rowOf eLock (fun _ => zLock)) (rowOf eLock x.w)))]
        else (bif decide (((0 + (0 + x.n)) + y.n) ≤ (0 + x.n)) then
          κ (.osl 5 0 0 ((0 + x.n) + y.n) false) [some (.arr 5 (0 + x.n) (putRow (0 + (0 + x.n)) ((0 + (0 + x.n)) + y.n) (rowOf eLock y.w) (catRow 0 (rowOf eLock (fun _ => zLock)) (rowOf eLock x.w))))]
         else (bif ((decide ((0 + x.n) = (0 + x.n))) && (roomOf ((0 + x.n) + y.n) 56)) then
           κ (.osl 5 0 0 ((0 + x.n) + y.n) false) [some (.arr 5 ((0 + x.n) + y.n) (catRow (0 + x.n) (catRow 0 (rowOf eLock (fun _ => zLock)) (rowOf eLock x.w)) (rowOf eLock y.w)))]
          else none)))
       else none)))))) := by kernel_rfl
noncomputable def locks_Blockers_h0 (k j : Nat) (s : TLocks) (r0 : Int) (x29 : Int) (x27 : Sl TLock) (x28 : Int) (κ : AV → Heap → Option ρ) : Option ρ := headAt ctx k n_locks_Blockers 0 [.r, .r, .r, .r, .l, .r] j ⟨(envOf 50 [(2, .ref 0 0), (5, .int .i64 r0), (6, .sl 1 0 (rowOf (eI .u64) (fun _ => 0)) true), (27, .sl 5 x27.n (rowOf eLock x27.w) false), (28, .int .i64 x28), (29, .int .i64 x29)]), [some (.box [.sl 5 s.Held.n (rowOf eLock s.Held.w) s.Held.u, .sl 5 s.Waits.n (rowOf eLock s.Waits.w) s.Waits.u])]⟩ κ
noncomputable def locks_Blockers_h1 (k j : Nat) (s : TLocks) (r0 : Int) (x6n : Nat) (x29 : Int) (n1 : Nat) (w1 : Nat → List AV) (x27 : Sl TLock) (x28 : Int) (κ : AV → Heap → Option ρ) : Option ρ := headAt ctx k n_locks_Blockers 0 [.r, .r, .r, .r, .l, .r] j ⟨(envOf 50 [(2, .ref 0 0), (5, .int .i64 r0), (6, .osl 1 1 0 x6n false), (27, .sl 5 x27.n (rowOf eLock x27.w) false), (28, .int .i64 x28), (29, .int .i64 x29)]), [some (.box [.sl 5 s.Held.n (rowOf eLock s.Held.w) s.Held.u, .sl 5 s.Waits.n (rowOf eLock s.Waits.w) s.Waits.u]), some (.arr 1 n1 w1)]⟩ κ
noncomputable def locks_Blockers_r0 (k : Nat) (s : TLocks) (tx : Int) (κ : AV → Heap → Option ρ) (v : AV) (W : Heap) : Option ρ := backH [1] [some (.box [.sl 5 s.Held.n (rowOf eLock s.Held.w) s.Held.u, .sl 5 s.Waits.n (rowOf eLock s.Waits.w) s.Waits.u]), some (.box [.int .u64 tx])] (fun v H => resAt ctx k n_locks_Blockers 0 [.r, .l] 3 [] ⟨(envOf 50 [(2, .ref 0 0), (3, .ref 1 0), (9, .ref 0 1), (10, .sl 5 s.Waits.n (rowOf eLock s.Waits.w) s.Waits.u), (11, .fn n_locks_Blockers_1 [] [.ref 1 0]), (12, v)]), H⟩ κ) v W
noncomputable def locks_Blockers_r1 (k j1 : Nat) (s : TLocks) (r0 : Int) (x29 : Int) (x27 : Sl TLock) (x28 : Int) (κ : AV → Heap → Option ρ) (v : AV) : Option ρ := resAt ctx k n_locks_Blockers 0 [.r, .r, .r, .r, .l, .r, .into j1, .r, .r, .l, .r, .l] 6 [] ⟨(envOf 50 [(2, .ref 0 0), (5, .int .i64 r0), (6, .sl 1 0 (rowOf (eI .u64) (fun _ => 0)) true), (8, .ref 1 0), (27, .sl 5 x27.n (rowOf eLock x27.w) false), (28, .int .i64 x28), (29, .int .i64 x29), (33, .ref 0 1), (34, .sl 5 s.Waits.n (rowOf eLock s.Waits.w) s.Waits.u), (35, .int .i64 r0), (36, .rref [.int .u64 ((s.Waits.w ((r0).toNat)).Tx), .str (((s.Waits.w ((r0).toNat)).R).From), .str (((s.Waits.w ((r0).toNat)).R).To), .bool (((s.Waits.w ((r0).toNat)).R).End), .bool ((s.Waits.w ((r0).toNat)).X)] 0), (37, .agg (eLock ⟨((s.Waits.w ((r0).toNat)).Tx), ⟨(((s.Waits.w ((r0).toNat)).R).From), (((s.Waits.w ((r0).toNat)).R).To), (((s.Waits.w ((r0).toNat)).R).End)⟩, ((s.Waits.w ((r0).toNat)).X)⟩)), (38, .agg (eLock ⟨((x27.w ((x29).toNat)).Tx), ⟨(((x27.w ((x29).toNat)).R).From), (((x27.w ((x29).toNat)).R).To), (((x27.w ((x29).toNat)).R).End)⟩, ((x27.w ((x29).toNat)).X)⟩)), (39, v)]), [some (.box [.sl 5 s.Held.n (rowOf eLock s.Held.w) s.Held.u, .sl 5 s.Waits.n (rowOf eLock s.Waits.w) s.Waits.u]), some (.box (eLock ⟨((x27.w ((x29).toNat)).Tx), ⟨(((x27.w ((x29).toNat)).R).From), (((x27.w ((x29).toNat)).R).To), (((x27.w ((x29).toNat)).R).End)⟩, ((x27.w ((x29).toNat)).X)⟩))]⟩ κ
noncomputable def locks_Blockers_r2 (k : Nat) (s : TLocks) (r0 : Int) (x29 : Int) (x27 : Sl TLock) (x28 : Int) (κ : AV → Heap → Option ρ) (v : AV) (W : Heap) : Option ρ := backH [] [some (.box [.sl 5 s.Held.n (rowOf eLock s.Held.w) s.Held.u, .sl 5 s.Waits.n (rowOf eLock s.Waits.w) s.Waits.u])] (fun v H => resAt ctx k n_locks_Blockers 0 [.r, .r, .r, .r, .r, .l] 1 [] ⟨(envOf 50 [(2, .ref 0 0), (5, .int .i64 r0), (6, .sl 1 0 (rowOf (eI .u64) (fun _ => 0)) true), (27, .sl 5 x27.n (rowOf eLock x27.w) false), (28, .int .i64 x28), (29, .int .i64 x29), (30, .bool (decide (x29 < x28))), (46, .sl 1 0 (rowOf (eI .u64) (fun _ => 0)) true), (47, v)]), H⟩ κ) v W
noncomputable def locks_Blockers_r3 (k j1 : Nat) (s : TLocks) (r0 : Int) (x29 : Int) (x6n : Nat) (n1 : Nat) (w1 : Nat → Int) (x27 : Sl TLock) (x28 : Int) (κ : AV → Heap → Option ρ) (v : AV) : Option ρ := resAt ctx k n_locks_Blockers 0 [.r, .r, .r, .r, .l, .r, .into j1, .r, .r, .l, .r, .l] 6 [] ⟨(envOf 50 [(2, .ref 0 0), (5, .int .i64 r0), (6, .osl 1 1 0 x6n false), (8, .ref 2 0), (27, .sl 5 x27.n (rowOf eLock x27.w) false), (28, .int .i64 x28), (29, .int .i64 x29), (33, .ref 0 1), (34, .sl 5 s.Waits.n (rowOf eLock s.Waits.w) s.Waits.u), (35, .int .i64 r0), (36, .rref [.int .u64 ((s.Waits.w ((r0).toNat)).Tx), .str (((s.Waits.w ((r0).toNat)).R).From), .str (((s.Waits.w ((r0).toNat)).R).To), .bool (((s.Waits.w ((r0).toNat)).R).End), .bool ((s.Waits.w ((r0).toNat)).X)] 0), (37, .agg (eLock ⟨((s.Waits.w ((r0).toNat)).Tx), ⟨(((s.Waits.w ((r0).toNat)).R).From), (((s.Waits.w ((r0).toNat)).R).To), (((s.Waits.w ((r0).toNat)).R).End)⟩, ((s.Waits.w ((r0).toNat)).X)⟩)), (38, .agg (eLock ⟨((x27.w ((x29).toNat)).Tx), ⟨(((x27.w ((x29).toNat)).R).From), (((x27.w ((x29).toNat)).R).To), (((x27.w ((x29).toNat)).R).End)⟩, ((x27.w ((x29).toNat)).X)⟩)), (39, v)]), [some (.box [.sl 5 s.Held.n (rowOf eLock s.Held.w) s.Held.u, .sl 5 s.Waits.n (rowOf eLock s.Waits.w) s.Waits.u]), some (.arr 1 n1 (rowOf (eI .u64) w1)), some (.box (eLock ⟨((x27.w ((x29).toNat)).Tx), ⟨(((x27.w ((x29).toNat)).R).From), (((x27.w ((x29).toNat)).R).To), (((x27.w ((x29).toNat)).R).End)⟩, ((x27.w ((x29).toNat)).X)⟩))]⟩ κ
noncomputable def locks_Blockers_r4 (k : Nat) (s : TLocks) (r0 : Int) (x29 : Int) (x6n : Nat) (n1 : Nat) (w1 : Nat → Int) (x27 : Sl TLock) (x28 : Int) (κ : AV → Heap → Option ρ) (v : AV) (W : Heap) : Option ρ := backH [1] [some (.box [.sl 5 s.Held.n (rowOf eLock s.Held.w) s.Held.u, .sl 5 s.Waits.n (rowOf eLock s.Waits.w) s.Waits.u]), some (.arr 1 n1 (rowOf (eI .u64) w1))] (fun v H => resAt ctx k n_locks_Blockers 0 [.r, .r, .r, .r, .r, .l] 1 [] ⟨(envOf 50 [(2, .ref 0 0), (5, .int .i64 r0), (6, .osl 1 1 0 x6n false), (27, .sl 5 x27.n (rowOf eLock x27.w) false), (28, .int .i64 x28), (29, .int .i64 x29), (30, .bool (decide (x29 < x28))), (46, .osl 1 1 0 x6n false), (47, v)]), H⟩ κ) v W
noncomputable def locks_Blockers_r5 (k : Nat) (s : TLocks) (r0 : Int) (κ : AV → Heap → Option ρ) (v : AV) : Option ρ := resAt ctx k n_locks_Blockers 0 [.r, .r, .l, .l] 4 [(15, false)] ⟨(envOf 50 [(2, .ref 0 0), (5, .int .i64 r0), (13, .int .i64 r0), (14, .bool (decide (r0 < 0))), (15, .bool (decide (r0 < 0))), (16, .agg (eLocks s)), (17, v)]), [some (.box [.sl 5 s.Held.n (rowOf eLock s.Held.w) s.Held.u, .sl 5 s.Waits.n (rowOf eLock s.Waits.w) s.Waits.u])]⟩ κ
noncomputable def locks_Blockers_r6 (k : Nat) (s : TLocks) (r0 : Int) (x29 : Int) (x27 : Sl TLock) (x28 : Int) (κ : AV → Heap → Option ρ) (v : AV) (W : Heap) : Option ρ := backH [] [some (.box [.sl 5 s.Held.n (rowOf eLock s.Held.w) s.Held.u, .sl 5 s.Waits.n (rowOf eLock s.Waits.w) s.Waits.u])] (fun v H => resAt ctx k n_locks_Blockers 0 [.r, .r, .r, .r, .r, .r, .l] 1 [] ⟨(envOf 50 [(2, .ref 0 0), (5, .int .i64 r0), (6, .sl 1 0 (rowOf (eI .u64) (fun _ => 0)) true), (27, .sl 5 x27.n (rowOf eLock x27.w) false), (28, .int .i64 x28), (29, .int .i64 x29), (30, .bool (decide (x29 < x28))), (46, .sl 1 0 (rowOf (eI .u64) (fun _ => 0)) true), (47, .tup []), (48, .sl 1 0 (rowOf (eI .u64) (fun _ => 0)) true), (49, v)]), H⟩ κ) v W
noncomputable def locks_Blockers_r7 (k : Nat) (s : TLocks) (r0 : Int) (x29 : Int) (x6n : Nat) (r4w : Nat → Int) (x27 : Sl TLock) (x28 : Int) (κ : AV → Heap → Option ρ) (v : AV) (W : Heap) : Option ρ := backH [1] [some (.box [.sl 5 s.Held.n (rowOf eLock s.Held.w) s.Held.u, .sl 5 s.Waits.n (rowOf eLock s.Waits.w) s.Waits.u]), some (.arr 1 x6n (rowOf (eI .u64) r4w))] (fun v H => resAt ctx k n_locks_Blockers 0 [.r, .r, .r, .r, .r, .r, .l] 1 [] ⟨(envOf 50 [(2, .ref 0 0), (5, .int .i64 r0), (6, .osl 1 1 0 x6n false), (27, .sl 5 x27.n (rowOf eLock x27.w) false), (28, .int .i64 x28), (29, .int .i64 x29), (30, .bool (decide (x29 < x28))), (46, .osl 1 1 0 x6n false), (47, .tup []), (48, .osl 1 1 0 x6n false), (49, v)]), H⟩ κ) v W
noncomputable def locks_Blockers_r8 (k : Nat) (s : TLocks) (r0 : Int) (r5 : Int) (κ : AV → Heap → Option ρ) (v : AV) : Option ρ := resAt ctx k n_locks_Blockers 0 [.r, .r, .r, .r, .l, .l] 7 [] ⟨(envOf 50 [(2, .ref 0 0), (5, .int .i64 r0), (6, .sl 1 0 (rowOf (eI .u64) (fun _ => 0)) true), (19, .bool (!decide (r5 = 0))), (20, .ref 0 0), (21, .sl 5 s.Held.n (rowOf eLock s.Held.w) s.Held.u), (22, .ref 0 1), (23, .sl 5 s.Waits.n (rowOf eLock s.Waits.w) s.Waits.u), (24, .int .i64 r0), (25, .sl 5 ((r0).toNat) (rowOf eLock (fun i => s.Waits.w (0 + i))) (s.Waits.u && (decide (r0 = (s.Waits.n : Int))))), (26, .sl 1 2 (litRow (eL 5 eLock) [s.Held, ⟨(r0).toNat, fun i => s.Waits.w (0 + i), (s.Waits.u && (decide (r0 = (s.Waits.n : Int))))⟩] ⟨0, fun _ => zLock, true⟩) true), (27, v)]), [some (.box [.sl 5 s.Held.n (rowOf eLock s.Held.w) s.Held.u, .sl 5 s.Waits.n (rowOf eLock s.Waits.w) s.Waits.u])]⟩ κ
theorem locks_Blockers_h0_s (k j : Nat) (s : TLocks) (r0 : Int) (x29 : Int) (x27 : Sl TLock) (x28 : Int) (κ : AV → Heap → Option ρ) : locks_Blockers_h0 k (j + 1) s r0 x29 x27 x28 κ =
  (bif decide (x29 < x28) then
   (bif idxOK x29 x27.n then
    (bif idxOK r0 s.Waits.n then
     callP ctx k n_locks_lock_against [.agg (eLock ⟨((s.Waits.w ((r0).toNat)).Tx), ⟨(((s.Waits.w ((r0).toNat)).R).From), (((s.Waits.w ((r0).toNat)).R).To), (((s.Waits.w ((r0).toNat)).R).End)⟩, ((s.Waits.w ((r0).toNat)).X)⟩), .agg (eLock ⟨((x27.w ((x29).toNat)).Tx), ⟨(((x27.w ((x29).toNat)).R).From), (((x27.w ((x29).toNat)).R).To), (((x27.w ((x29).toNat)).R).End)⟩, ((x27.w ((x29).toNat)).X)⟩)] (locks_Blockers_r1 k j s r0 x29 x27 x28 κ)
    else none)
   else none)
  else evalF ctx k n_slices_Sort_uint64 [.sl 1 0 (rowOf (eI .u64) (fun _ => 0)) true] [] (locks_Blockers_r2 k s r0 x29 x27 x28 κ)) := by kernel_rfl
theorem locks_Blockers_h1_s (k j : Nat) (s : TLocks) (r0 : Int) (x6n : Nat) (x29 : Int) (n1 : Nat) (w1 : Nat → Int) (x27 : Sl TLock) (x28 : Int) (κ : AV → Heap → Option ρ) : locks_Blockers_h1 k (j + 1) s r0 x6n x29 n1 (rowOf (eI .u64) w1) x27 x28 κ =
  (bif decide (x29 < x28) then
   (bif idxOK x29 x27.n then
    (bif idxOK r0 s.Waits.n then
     callP ctx k n_locks_lock_against [.agg (eLock ⟨((s.Waits.w ((r0).toNat)).Tx), ⟨(((s.Waits.w ((r0).toNat)).R).From), (((s.Waits.w ((r0).toNat)).R).To), (((s.Waits.w ((r0).toNat)).R).End)⟩, ((s.Waits.w ((r0).toNat)).X)⟩), .agg (eLock ⟨((x27.w ((x29).toNat)).Tx), ⟨(((x27.w ((x29).toNat)).R).From), (((x27.w ((x29).toNat)).R).To), (((x27.w ((x29).toNat)).R).End)⟩, ((x27.w ((x29).toNat)).X)⟩)] (locks_Blockers_r3 k j s r0 x29 x6n n1 w1 x27 x28 κ)
    else none)
   else none)
  else evalF ctx k n_slices_Sort_uint64 [.osl 1 0 0 x6n false] [some (.arr 1 n1 (rowOf (eI .u64) w1))] (locks_Blockers_r4 k s r0 x29 x6n n1 w1 x27 x28 κ)) := by kernel_rfl
theorem locks_Blockers_r0_s (k : Nat) (s : TLocks) (tx : Int) (r0 : Int) (κ : AV → Heap → Option ρ) : locks_Blockers_r0 k s tx κ (.int .i64 r0) [some (.box [.int .u64 tx])] =
  (bif decide (r0 < 0) then
   κ (.sl 1 0 (rowOf (eI .u64) (fun _ => 0)) true) [some (.box [.sl 5 s.Held.n (rowOf eLock s.Held.w) s.Held.u, .sl 5 s.Waits.n (rowOf eLock s.Waits.w) s.Waits.u])]
  else callP ctx k n_locks_Check [.agg (eLocks s)] (locks_Blockers_r5 k s r0 κ)) := by kernel_rfl
theorem locks_Blockers_r1_s (k j1 : Nat) (s : TLocks) (r0 : Int) (x29 : Int) (x27 : Sl TLock) (x28 : Int) (r1 : Bool) (κ : AV → Heap → Option ρ) : locks_Blockers_r1 k j1 s r0 x29 x27 x28 κ (.bool r1) =
  (bif r1 then
   locks_Blockers_h1 k j1 s r0 1 (wi64 (x29 + 1)) 1 (catRow 0 (rowOf (eI .u64) (fun _ => 0)) (litRow (eI .u64) [((x27.w ((x29).toNat)).Tx)] 0)) ⟨x27.n, x27.w, false⟩ x28 κ
  else locks_Blockers_h0 k j1 s r0 (wi64 (x29 + 1)) ⟨x27.n, x27.w, false⟩ x28 κ) := by kernel_rfl
theorem locks_Blockers_r2_s (k : Nat) (s : TLocks) (r0 : Int) (x29 : Int) (x27 : Sl TLock) (x28 : Int) (κ : AV → Heap → Option ρ) : locks_Blockers_r2 k s r0 x29 x27 x28 κ (.tup []) [] =
  evalF ctx k n_slices_Compact_uint64 [.sl 1 0 (rowOf (eI .u64) (fun _ => 0)) true] [] (locks_Blockers_r6 k s r0 x29 x27 x28 κ) := by kernel_rfl
theorem locks_Blockers_r3_s (k j1 : Nat) (s : TLocks) (r0 : Int) (x29 : Int) (x6n : Nat) (n1 : Nat) (w1 : Nat → Int) (x27 : Sl TLock) (x28 : Int) (r3 : Bool) (κ : AV → Heap → Option ρ) : locks_Blockers_r3 k j1 s r0 x29 x6n n1 w1 x27 x28 κ (.bool r3) =
  (bif r3 then
   (bif decide (((0 + x6n) + 1) ≤ n1) then
    locks_Blockers_h1 k j1 s r0 (x6n + 1) (wi64 (x29 + 1)) n1 (putRow (0 + x6n) ((0 + x6n) + 1) (litRow (eI .u64) [((x27.w ((x29).toNat)).Tx)] 0) (rowOf (eI .u64) w1)) ⟨x27.n, x27.w, false⟩ x28 κ
   else (bif ((decide (x6n = n1)) && (roomOf (x6n + 1) 8)) then
     locks_Blockers_h1 k j1 s r0 (x6n + 1) (wi64 (x29 + 1)) (x6n + 1) (catRow x6n (rowOf (eI .u64) w1) (litRow (eI .u64) [((x27.w ((x29).toNat)).Tx)] 0)) ⟨x27.n, x27.w, false⟩ x28 κ
    else none))
  else locks_Blockers_h1 k j1 s r0 x6n (wi64 (x29 + 1)) n1 (rowOf (eI .u64) w1) ⟨x27.n, x27.w, false⟩ x28 κ) := by kernel_rfl
theorem locks_Blockers_r4_s (k : Nat) (s : TLocks) (r0 : Int) (x29 : Int) (x6n : Nat) (n1 : Nat) (w1 : Nat → Int) (x27 : Sl TLock) (x28 : Int) (r4w : Nat → Int) (κ : AV → Heap → Option ρ) : locks_Blockers_r4 k s r0 x29 x6n n1 w1 x27 x28 κ (.tup []) [some (.arr 1 x6n (rowOf (eI .u64) r4w))] =
  evalF ctx k n_slices_Compact_uint64 [.osl 1 0 0 x6n false] [some (.arr 1 x6n (rowOf (eI .u64) r4w))] (locks_Blockers_r7 k s r0 x29 x6n r4w x27 x28 κ) := by kernel_rfl
theorem locks_Blockers_r5_s (k : Nat) (s : TLocks) (r0 : Int) (r5 : Int) (κ : AV → Heap → Option ρ) : locks_Blockers_r5 k s r0 κ (.int .i64 r5) =
  (bif !decide (r5 = 0) then
   κ (.sl 1 0 (rowOf (eI .u64) (fun _ => 0)) true) [some (.box [.sl 5 s.Held.n (rowOf eLock s.Held.w) s.Held.u, .sl 5 s.Waits.n (rowOf eLock s.Waits.w) s.Waits.u])]
  else (bif cutOK s.Waits.n 0 r0 (s.Waits.n : Int) then
    callP ctx k n_slices_Concat_Lock [.sl 1 2 (litRow (eL 5 eLock) [s.Held, ⟨(r0).toNat, fun i => s.Waits.w (0 + i), (s.Waits.u && (decide (r0 = (s.Waits.n : Int))))⟩] ⟨0, fun _ => zLock, true⟩) true] (locks_Blockers_r8 k s r0 r5 κ)
   else none)) := by kernel_rfl
theorem locks_Blockers_r6_s (k : Nat) (s : TLocks) (r0 : Int) (x29 : Int) (x27 : Sl TLock) (x28 : Int) (κ : AV → Heap → Option ρ) : locks_Blockers_r6 k s r0 x29 x27 x28 κ (.sl 1 0 (rowOf (eI .u64) (fun _ => 0)) true) [] =
  κ (.sl 1 0 (rowOf (eI .u64) (fun _ => 0)) true) [] := by kernel_rfl
theorem locks_Blockers_r7_s (k : Nat) (s : TLocks) (r0 : Int) (x29 : Int) (x6n : Nat) (r4w : Nat → Int) (x27 : Sl TLock) (x28 : Int) (r7m : Nat) (r7w : Nat → Int) (κ : AV → Heap → Option ρ) : locks_Blockers_r7 k s r0 x29 x6n r4w x27 x28 κ (.osl 1 0 0 r7m false) [some (.arr 1 x6n (rowOf (eI .u64) r7w))] =
  κ (.osl 1 0 0 r7m false) [some (.arr 1 x6n (rowOf (eI .u64) r7w))] := by kernel_rfl
theorem locks_Blockers_r8_s (k : Nat) (s : TLocks) (r0 : Int) (r5 : Int) (r8 : Sl TLock) (κ : AV → Heap → Option ρ) : locks_Blockers_r8 k s r0 r5 κ (.sl 5 r8.n (rowOf eLock r8.w) false) =
  locks_Blockers_h0 k k s r0 0 ⟨r8.n, r8.w, false⟩ (r8.n : Int) κ := by kernel_rfl
theorem locks_Blockers_e (k : Nat) (s : TLocks) (tx : Int) (κ : AV → Heap → Option ρ) : evalF ctx (k + 1) n_locks_Blockers [.agg (eLocks s), .int .u64 tx] [] κ =
  evalF ctx k n_slices_IndexFunc_Lock [.sl 5 s.Waits.n (rowOf eLock s.Waits.w) s.Waits.u, .fn n_locks_Blockers_1 [] [.ref 0 0]] [some (.box [.int .u64 tx])] (locks_Blockers_r0 k s tx κ) := by kernel_rfl
end Go.Proofs.YticcbbcgboddpaaC

set_option linter.unusedVariables false
set_option linter.unusedSimpArgs false
set_option maxRecDepth 20000
namespace Go.Proofs.YticcbbcgboddpaaC
open Go Go.Ev Go.Proofs
variable {ρ : Type}
/-! ### Withdraw -/
theorem wit_ok (k : Nat) (s : TLocks) (tx : Int) (hc : checkB s = true) (hk : s.Held.n + s.Waits.n + 100 ≤ k) :
    ∃ n v, lst n v = s.Held.l ++ (serveF s.Held.l [] [] (othL s.Waits.l tx)).1 ∧ ∀ κ : AV → Option ρ, callP ctx k n_locks_Withdraw [.agg (eLocks s), .int .u64 tx] κ =
      κ (.tup [.agg (eLocks ⟨⟨n, v, false⟩, lsl (serveF s.Held.l [] [] (othL s.Waits.l tx)).2⟩), .sl 1 (txs (serveF s.Held.l [] [] (othL s.Waits.l tx)).1).length (rowOf (eI .u64) (gd 0 (txs (serveF s.Held.l [] [] (othL s.Waits.l tx)).1))) false, .int .i64 0]) := by
  have h200 : s.Held.n + s.Waits.n ≤ 200 := by
    unfold checkB at hc
    simp only [Bool.and_eq_true, decide_eq_true_eq] at hc
    exact hc.1
  obtain ⟨k, rfl⟩ : ∃ k', k = k' + 3 := ⟨k - 3, by omega⟩
  have start : ∀ κ : AV → Option ρ, callP ctx (k + 3) n_locks_Withdraw [.agg (eLocks s), .int .u64 tx] κ = evalF ctx (k + 2) n_slices_Clone_Lock [.sl 5 s.Held.n (rowOf eLock s.Held.w) s.Held.u] [] (locks_Withdraw_r1 (k + 2) s tx 0 (pk κ)) := by
    intro κ
    rw [callP_eq]
    refine (locks_Withdraw_e (k + 2) s tx (pk κ)).trans ?_
    rw [locks_Check_ok (k + 2) s (by omega) (by omega) (by omega), locks_Withdraw_r0_s]
    unfold checkE'
    rw [if_pos hc, dec_int, Bool.not_true, cond_false]
  have hB : (othL (lst s.Waits.n s.Waits.w) tx).length ≤ 200 := Nat.le_trans (List.length_filter_le ..) (by rw [lst_len]; omega)
  have hAB : (othL (lst s.Waits.n s.Waits.w) tx).length ≤ s.Waits.n := Nat.le_trans (List.length_filter_le ..) (by rw [lst_len]; omega)
  have kw := fun κ' : AV → Heap → Option ρ => kept_others_ok (k + 2) s.Waits.n s.Waits.w s.Waits.u tx (by omega) (by omega) κ'
  have hH : s.Held.l = lst s.Held.n s.Held.w := rfl
  have hW : s.Waits.l = lst s.Waits.n s.Waits.w := rfl
  rw [hW]
  generalize othL (lst s.Waits.n s.Waits.w) tx = B at *
  by_cases h0 : s.Held.n = 0
  · have hl : s.Held.l = [] := by rw [hH, h0]; rfl
    have st2 : ∀ κ : AV → Option ρ, callP ctx (k + 3) n_locks_Withdraw [.agg (eLocks s), .int .u64 tx] κ = evalF ctx (k + 2) n_locks_kept_Lock [.sl 5 s.Waits.n (rowOf eLock s.Waits.w) s.Waits.u, .fn n_locks_others_1 [] [.ref 0 0]] [some (.box [.int .u64 tx])] (locks_Withdraw_r4 (k + 2) s tx 0 (pk κ)) := by
      intro κ
      rw [start, clone_lock (k + 1) _ _ _ (by omega), if_pos h0, locks_Withdraw_r1_s, locks_others_e, locks_Withdraw_r2_s]
    rw [hl, List.nil_append]
    cases B with
    | nil =>
      refine ⟨0, fun _ => zLock, rfl, fun κ => ?_⟩
      rw [st2, kw]
      refine (locks_Withdraw_r4_s (k + 2) s tx 0 (pk κ)).trans ?_
      rw [dec_int, cond_true, serve00_e, serve00_h0_s]
      exact locks_Withdraw_r6_s (k + 2) s tx 0 (pk κ)
    | cons b B =>
      simp only [List.length_cons] at hB hAB
      have st3 : ∀ κ : AV → Option ρ, callP ctx (k + 3) n_locks_Withdraw [.agg (eLocks s), .int .u64 tx] κ = fin01 (b :: B) (locks_Withdraw_r7 (k + 2) s tx 0 (B.length + 1) (gd zLock (b :: B)) (pk κ)) (serveF [] [] [] (b :: B)).1 (serveF [] [] [] (b :: B)).2 := by
        intro κ
        rw [st2, kw]
        refine (locks_Withdraw_r4_s1 (k + 2) s tx 0 (B.length + 1) (gd zLock (b :: B)) (pk κ)).trans ?_
        rw [dec_int, cond_true]
        exact serve01_ok (k + 2) (b :: B) (by simp only [List.length_cons]; omega) (by simp) (by simp only [List.length_cons]; omega) _
      generalize serveF [] [] [] (b :: B) = S at *
      obtain ⟨G, W⟩ := S
      cases G with
      | nil =>
        refine ⟨0, fun _ => zLock, rfl, fun κ => ?_⟩
        rw [st3]
        cases W with
        | nil => exact locks_Withdraw_r7_s (k + 2) s tx 0 (B.length + 1) (gd zLock (b :: B)) (pk κ)
        | cons w W =>
          refine (locks_Withdraw_r7_s1 (k + 2) s tx 0 (B.length + 1) (gd zLock (b :: B)) (W.length + 1) (gd zLock (w :: W)) (pk κ)).trans ?_
          show κ (.tup [.agg [.sl 5 0 (rowOf eLock (fun _ => zLock)) false, .sl 5 (W.length + 1) (rowOf eLock fun i => gd zLock (w :: W) (0 + i)) false], .sl 1 0 (rowOf (eI .u64) fun _ => 0) false, .int .i64 0]) = _
          rw [zrow]; rfl
      | cons g G =>
        refine ⟨(g :: G).length, gd zLock (g :: G), gd_lst _ _, fun κ => ?_⟩
        rw [st3]
        cases W with
        | nil =>
          refine (locks_Withdraw_r7_s2 (k + 2) s tx 0 (B.length + 1) (gd zLock (b :: B)) (G.length + 1) (gd 0 (txs (g :: G))) (G.length + 1) (gd zLock (g :: G)) (pk κ)).trans ?_
          show κ (.tup [.agg [.sl 5 (G.length + 1) (rowOf eLock fun i => gd zLock (g :: G) (0 + i)) false, .sl 5 0 (rowOf eLock (fun _ => zLock)) false], .sl 1 (G.length + 1) (rowOf (eI .u64) fun i => gd 0 (txs (g :: G)) (0 + i)) false, .int .i64 0]) = _
          rw [zrow, zrowI, len_tx]; rfl
        | cons w W =>
          refine (locks_Withdraw_r7_s3 (k + 2) s tx 0 (B.length + 1) (gd zLock (b :: B)) (G.length + 1) (gd 0 (txs (g :: G))) (G.length + 1) (gd zLock (g :: G)) (W.length + 1) (gd zLock (w :: W)) (pk κ)).trans ?_
          show κ (.tup [.agg [.sl 5 (G.length + 1) (rowOf eLock fun i => gd zLock (g :: G) (0 + i)) false, .sl 5 (W.length + 1) (rowOf eLock fun i => gd zLock (w :: W) (0 + i)) false], .sl 1 (G.length + 1) (rowOf (eI .u64) fun i => gd 0 (txs (g :: G)) (0 + i)) false, .int .i64 0]) = _
          rw [zrow, zrow, zrowI, len_tx]; rfl
  · have st2 : ∀ κ : AV → Option ρ, callP ctx (k + 3) n_locks_Withdraw [.agg (eLocks s), .int .u64 tx] κ = evalF ctx (k + 2) n_locks_kept_Lock [.sl 5 s.Waits.n (rowOf eLock s.Waits.w) s.Waits.u, .fn n_locks_others_1 [] [.ref 0 0]] [some (.box [.int .u64 tx])] (locks_Withdraw_r5 (k + 2) s tx 0 (pk κ)) := by
      intro κ
      rw [start, clone_lock (k + 1) _ _ _ (by omega), if_neg h0, locks_Withdraw_r1_s1, locks_others_e, locks_Withdraw_r3_s]
    cases B with
    | nil =>
      refine ⟨s.Held.n, s.Held.w, by show _ = s.Held.l ++ []; rw [List.append_nil], fun κ => ?_⟩
      rw [st2, kw]
      refine (locks_Withdraw_r5_s (k + 2) s tx 0 (pk κ)).trans ?_
      rw [dec_int, cond_true, serve10_e, serve10_h0_s]
      refine (locks_Withdraw_r8_s (k + 2) s tx 0 (pk κ)).trans ?_
      show κ (.tup [.agg [.sl 5 s.Held.n (rowOf eLock fun i => s.Held.w (0 + i)) false, .sl 5 0 (rowOf eLock (fun _ => zLock)) false], .sl 1 0 (rowOf (eI .u64) fun _ => 0) false, .int .i64 0]) = _
      rw [zrow]; rfl
    | cons b B =>
      simp only [List.length_cons] at hB hAB
      have hlen : s.Held.l.length = s.Held.n := lst_len _ _
      have st3 : ∀ κ : AV → Option ρ, callP ctx (k + 3) n_locks_Withdraw [.agg (eLocks s), .int .u64 tx] κ = fin11 s.Held.w s.Held.l (b :: B) (locks_Withdraw_r9 (k + 2) s tx 0 (B.length + 1) (gd zLock (b :: B)) (pk κ)) (serveF s.Held.l [] [] (b :: B)).1 (serveF s.Held.l [] [] (b :: B)).2 := by
        intro κ
        rw [st2, kw]
        refine (locks_Withdraw_r5_s1 (k + 2) s tx 0 (B.length + 1) (gd zLock (b :: B)) (pk κ)).trans ?_
        rw [dec_int, cond_true]
        have := serve11_ok (k + 2) s.Held.w s.Held.l (b :: B) (by rw [hlen]) (by omega) (by simp only [List.length_cons]; omega) (by simp) (by simp only [List.length_cons]; omega) (locks_Withdraw_r9 (k + 2) s tx 0 (B.length + 1) (gd zLock (b :: B)) (pk κ))
        rw [hlen] at this
        exact this
      generalize serveF s.Held.l [] [] (b :: B) = S at *
      obtain ⟨G, W⟩ := S
      cases G with
      | nil =>
        refine ⟨s.Held.n, s.Held.w, by show _ = s.Held.l ++ []; rw [List.append_nil], fun κ => ?_⟩
        rw [st3]
        unfold fin11
        dsimp only
        rw [hlen]
        cases W with
        | nil =>
          refine (locks_Withdraw_r9_s (k + 2) s tx 0 (B.length + 1) (gd zLock (b :: B)) (pk κ)).trans ?_
          show κ (.tup [.agg [.sl 5 s.Held.n (rowOf eLock fun i => s.Held.w (0 + i)) false, .sl 5 0 (rowOf eLock (fun _ => zLock)) false], .sl 1 0 (rowOf (eI .u64) fun _ => 0) false, .int .i64 0]) = _
          rw [zrow]; rfl
        | cons w W =>
          refine (locks_Withdraw_r9_s1 (k + 2) s tx 0 (B.length + 1) (gd zLock (b :: B)) (W.length + 1) (gd zLock (w :: W)) (pk κ)).trans ?_
          show κ (.tup [.agg [.sl 5 s.Held.n (rowOf eLock fun i => s.Held.w (0 + i)) false, .sl 5 (W.length + 1) (rowOf eLock fun i => gd zLock (w :: W) (0 + i)) false], .sl 1 0 (rowOf (eI .u64) fun _ => 0) false, .int .i64 0]) = _
          rw [zrow, zrow]; rfl
      | cons g G =>
        refine ⟨s.Held.l.length + (G.length + 1), gd zLock (s.Held.l ++ g :: G), by rw [← lenA]; exact gd_lst _ _, fun κ => ?_⟩
        rw [st3]
        cases W with
        | nil =>
          refine (locks_Withdraw_r9_s2 (k + 2) s tx 0 (B.length + 1) (gd zLock (b :: B)) (G.length + 1) (gd 0 (txs (g :: G))) (s.Held.l.length + (G.length + 1)) (gd zLock (s.Held.l ++ g :: G)) (pk κ)).trans ?_
          show κ (.tup [.agg [.sl 5 (s.Held.l.length + (G.length + 1)) (rowOf eLock fun i => gd zLock (s.Held.l ++ g :: G) (0 + i)) false, .sl 5 0 (rowOf eLock (fun _ => zLock)) false], .sl 1 (G.length + 1) (rowOf (eI .u64) fun i => gd 0 (txs (g :: G)) (0 + i)) false, .int .i64 0]) = _
          rw [zrow, zrowI, len_tx]; rfl
        | cons w W =>
          refine (locks_Withdraw_r9_s3 (k + 2) s tx 0 (B.length + 1) (gd zLock (b :: B)) (G.length + 1) (gd 0 (txs (g :: G))) (s.Held.l.length + (G.length + 1)) (gd zLock (s.Held.l ++ g :: G)) (W.length + 1) (gd zLock (w :: W)) (pk κ)).trans ?_
          show κ (.tup [.agg [.sl 5 (s.Held.l.length + (G.length + 1)) (rowOf eLock fun i => gd zLock (s.Held.l ++ g :: G) (0 + i)) false, .sl 5 (W.length + 1) (rowOf eLock fun i => gd zLock (w :: W) (0 + i)) false], .sl 1 (G.length + 1) (rowOf (eI .u64) fun i => gd 0 (txs (g :: G)) (0 + i)) false, .int .i64 0]) = _
          rw [zrow, zrow, zrowI, len_tx]; rfl
/-! ### neighbours that are the same, but once -/
def ddN (w : Nat → Int) : Nat → List Int
  | 0 => []
  | i + 1 => if 0 < i ∧ w i = w (i - 1) then ddN w i else ddN w i ++ [w i]
theorem ddN_len (w : Nat → Int) : ∀ i, (ddN w i).length ≤ i ∧ (0 < i → 0 < (ddN w i).length)
  | 0 => ⟨Nat.le_refl _, fun h => h⟩
  | i + 1 => by
    have := ddN_len w i
    rw [ddN]
    split
    · rename_i h; exact ⟨by omega, fun _ => this.2 h.1⟩
    · rw [List.length_append, List.length_singleton]; omega
theorem upd_row64 (w : Nat → Int) (i : Nat) (x : Int) : updRow i 0 (eI .u64 x) (rowOf (eI .u64) w) = rowOf (eI .u64) (fun j => if j = i then x else w j) := upd_row (eI .u64) i 0 (eI .u64 x) w x rfl
theorem so_cmp_in (k j1 n : Nat) (w : Nat → Int) (k0 : Nat) (hn : n ≤ 1000000000) (h0 : 1 ≤ k0) : ∀ (jf x5 x3 : Nat) (v : Nat → Int), n < k0 + x5 + jf → k0 + x5 ≤ n → 1 ≤ x5 → x3 ≤ k0 + x5 - 1 → 1 ≤ x3 → (∀ i, k0 + x5 - 1 ≤ i → v i = w i) → lst x3 v = ddN w (k0 + x5) →
    ∃ m v', lst m v' = ddN w n ∧ ∀ κ : AV → Heap → Option ρ, so_cmp_h1 k j1 jf n (x5 : Int) (x3 : Int) (rowOf (eI .u64) v) k0 (n - k0) κ = κ (.osl 1 0 0 m false) [some (.arr 1 n (rowOf (eI .u64) v'))]
  | 0, x5, x3, v, h1, h2, _, _, _, _, _ => by omega
  | jf + 1, x5, x3, v, h1, h2, h3, h4, h5, hv, hl => by
    by_cases hx : k0 + x5 < n
    · have e1 : wi64 ((x5 : Int) - 1) = ((x5 - 1 : Nat) : Int) := by rw [wi64_in (by omega) (by omega)]; omega
      have g1 : v (k0 + x5) = w (k0 + x5) := hv _ (by omega)
      have g2 : v (k0 + (x5 - 1)) = w (k0 + x5 - 1) := by rw [show k0 + (x5 - 1) = k0 + x5 - 1 by omega]; exact hv _ (by omega)
      have head : ∀ κ : AV → Heap → Option ρ, so_cmp_h1 k j1 (jf + 1) n (x5 : Int) (x3 : Int) (rowOf (eI .u64) v) k0 (n - k0) κ =
          (bif !decide (w (k0 + x5) = w (k0 + x5 - 1)) then so_cmp_h1 k j1 jf n ((x5 + 1 : Nat) : Int) ((x3 + 1 : Nat) : Int) (rowOf (eI .u64) (fun j => if j = x3 then w (k0 + x5) else v j)) k0 (n - k0) κ
           else so_cmp_h1 k j1 jf n ((x5 + 1 : Nat) : Int) (x3 : Int) (rowOf (eI .u64) v) k0 (n - k0) κ) := by
        intro κ
        rw [so_cmp_h1_s, e1, dec_t (show (x5 : Int) < ((n - k0 : Nat) : Int) by omega), cond_true]
        simp only [Int.toNat_natCast, Nat.zero_add, g1, g2]
        rw [upd_row64, so_cmp_e0_s, wi_succ x5 (by omega), wi_succ x3 (by omega), idx_ok (n := n - k0) (i := (x5 : Int)) (by omega) (by omega), idx_ok (n := n - k0) (i := ((x5 - 1 : Nat) : Int)) (by omega) (by omega), idx_ok (n := n) (i := (x3 : Int)) (by omega) (by omega), dec_t (show k0 + x5 < n by omega), dec_t (show k0 + (x5 - 1) < n by omega), dec_t (show x3 < n by omega)]
        rfl
      by_cases he : w (k0 + x5) = w (k0 + x5 - 1)
      · obtain ⟨m, v', q1, q2⟩ := so_cmp_in k j1 n w k0 hn h0 jf (x5 + 1) x3 v (by omega) (by omega) (by omega) (by omega) h5 (fun i hi => hv i (by omega)) (by rw [show k0 + (x5 + 1) = (k0 + x5) + 1 by omega, ddN, if_pos ⟨by omega, he⟩]; exact hl)
        refine ⟨m, v', q1, fun κ => ?_⟩
        rw [head, dec_t he, Bool.not_true, cond_false]
        exact q2 κ
      · obtain ⟨m, v', q1, q2⟩ := so_cmp_in k j1 n w k0 hn h0 jf (x5 + 1) (x3 + 1) (fun j => if j = x3 then w (k0 + x5) else v j) (by omega) (by omega) (by omega) (by omega) (by omega) (fun i hi => by
            rw [if_neg (by omega)]; exact hv i (by omega)) (by
            rw [show k0 + (x5 + 1) = (k0 + x5) + 1 by omega, ddN, if_neg (fun x => he x.2), lst_succ, if_pos rfl, ← hl]
            congr 1
            apply List.map_congr_left
            intro i hi
            have hi := List.mem_range.1 hi
            rw [if_neg (by omega)])
        refine ⟨m, v', q1, fun κ => ?_⟩
        rw [head, dec_f he, Bool.not_false, cond_true]
        exact q2 κ
    · have hnn : k0 + x5 = n := by omega
      refine ⟨x3, putW x3 (x3 + (n - x3)) (fun _ => 0) v, ?_, fun κ => ?_⟩
      · rw [← hnn, ← hl]
        apply List.map_congr_left
        intro i hi
        have hi := List.mem_range.1 hi
        unfold putW
        rw [if_neg (by omega)]
      · rw [so_cmp_h1_s, dec_f (show ¬ (x5 : Int) < ((n - k0 : Nat) : Int) by omega), cond_false, cut_ok (by omega) (by omega) (by omega) (by omega), cut_ok (by omega) (by omega) (by omega) (by omega)]
        simp only [Int.toNat_natCast, Nat.zero_add, put_row]
        rfl
theorem so_cmp_find (k n : Nat) (w : Nat → Int) (hn : n ≤ 1000000000) (hk : n + 3 ≤ k) : ∀ (jf x3 : Nat), n < x3 + jf → x3 ≤ n → 1 ≤ x3 → lst x3 w = ddN w x3 →
    ∃ m v', lst m v' = ddN w n ∧ ∀ κ : AV → Heap → Option ρ, so_cmp_h0 k jf n w (x3 : Int) κ = κ (.osl 1 0 0 m false) [some (.arr 1 n (rowOf (eI .u64) v'))]
  | 0, x3, h1, h2, _, _ => by omega
  | jf + 1, x3, h1, h2, h3, hl => by
    by_cases hx : x3 < n
    · have e1 : wi64 ((x3 : Int) - 1) = ((x3 - 1 : Nat) : Int) := by rw [wi64_in (by omega) (by omega)]; omega
      have head : ∀ κ : AV → Heap → Option ρ, so_cmp_h0 k (jf + 1) n w (x3 : Int) κ = (bif decide (w x3 = w (x3 - 1)) then so_cmp_h1 k jf k n 1 (x3 : Int) (rowOf (eI .u64) w) x3 (n - x3) κ else so_cmp_h0 k jf n w ((x3 + 1 : Nat) : Int) κ) := by
        intro κ
        rw [so_cmp_h0_s, e1, dec_t (show (x3 : Int) < (n : Int) by omega), cond_true]
        simp only [Int.toNat_natCast, Nat.zero_add]
        rw [wi_succ x3 (by omega), idx_ok (n := n) (i := (x3 : Int)) (by omega) (by omega), idx_ok (n := n) (i := ((x3 - 1 : Nat) : Int)) (by omega) (by omega), dec_t (show x3 < n by omega), dec_t (show x3 - 1 < n by omega), cut_ok (by omega) (by omega) (by omega) (by omega)]
        rfl
      by_cases he : w x3 = w (x3 - 1)
      · obtain ⟨m, v', q1, q2⟩ := so_cmp_in (ρ := ρ) k jf n w x3 hn h3 k 1 x3 w (by omega) (by omega) (by omega) (by omega) h3 (fun _ _ => rfl) (by rw [ddN, if_pos ⟨by omega, he⟩]; exact hl)
        refine ⟨m, v', q1, fun κ => ?_⟩
        rw [head, dec_t he, cond_true]
        exact q2 κ
      · obtain ⟨m, v', q1, q2⟩ := so_cmp_find k n w hn hk jf (x3 + 1) (by omega) (by omega) (by omega) (by rw [lst_succ, ddN, if_neg (fun x => he x.2), hl])
        refine ⟨m, v', q1, fun κ => ?_⟩
        rw [head, dec_f he, cond_false]
        exact q2 κ
    · have : x3 = n := by omega
      subst this
      refine ⟨x3, w, hl, fun κ => ?_⟩
      rw [so_cmp_h0_s, dec_f (by omega), cond_false]
theorem so_cmp_ok (k n : Nat) (w : Nat → Int) (hn : n ≤ 1000000000) (hk : n + 5 ≤ k) :
    ∃ m v', lst m v' = ddN w n ∧ ∀ κ : AV → Heap → Option ρ, evalF ctx k n_slices_Compact_uint64 [.osl 1 0 0 n false] [some (.arr 1 n (rowOf (eI .u64) w))] κ = κ (.osl 1 0 0 m false) [some (.arr 1 n (rowOf (eI .u64) v'))] := by
  obtain ⟨k, rfl⟩ : ∃ k', k = k' + 1 := ⟨k - 1, by omega⟩
  by_cases h : n < 2
  · refine ⟨n, w, ?_, fun κ => ?_⟩
    · have : n = 0 ∨ n = 1 := by omega
      rcases this with rfl | rfl <;> rfl
    · rw [so_cmp_e, dec_t (by omega), cond_true]
  · obtain ⟨m, v', q1, q2⟩ := so_cmp_find (ρ := ρ) k n w hn (by omega) k 1 (by omega) (by omega) (by omega) rfl
    refine ⟨m, v', q1, fun κ => ?_⟩
    rw [so_cmp_e, dec_f (by omega), cond_false]
    exact q2 κ
end Go.Proofs.YticcbbcgboddpaaC

set_option linter.unusedVariables false
set_option linter.unusedSimpArgs false
set_option maxRecDepth 20000
namespace Go.Proofs.YticcbbcgboddpaaC
open Go Go.Ev Go.Proofs
variable {ρ : Type}
/-! ### two rows behind one another -/
theorem Concat_Lock_ok (k : Nat) (x y : Sl TLock) (hx : x.n ≤ 1000000000) (hy : y.n ≤ 1000000000) (hk : 10 ≤ k) :
    ∃ (m : Nat) (w : Nat → TLock), lst m w = lst x.n x.w ++ lst y.n y.w ∧ ∀ κ : AV → Option ρ, callP ctx k n_slices_Concat_Lock [.sl 1 2 (litRow (eL 5 eLock) [x, y] ⟨0, fun _ => zLock, true⟩) true] κ = κ (.sl 5 m (rowOf eLock w) false) := by
  obtain ⟨k, rfl⟩ : ∃ k', k = k' + 4 := ⟨k - 4, by omega⟩
  have e1 : wi64 (0 + (x.n : Int)) = (x.n : Int) := by rw [wi64_in (by omega) (by omega)]; omega
  have e2 : wi64 ((x.n : Int) + (y.n : Int)) = ((x.n + y.n : Nat) : Int) := by rw [wi64_in (by omega) (by omega)]; omega
  have e3 : wi64 (((x.n + y.n : Nat) : Int) - 0) = ((x.n + y.n : Nat) : Int) := by rw [wi64_in (by omega) (by omega)]; omega
  have start : ∀ κ : AV → Option ρ, callP ctx (k + 4) n_slices_Concat_Lock [.sl 1 2 (litRow (eL 5 eLock) [x, y] ⟨0, fun _ => zLock, true⟩) true] κ = _ := fun κ => slices_Concat_Lock_e k x y (pk κ)
  simp only [e1, e2, e3, Int.toNat_natCast, Nat.zero_add, sh0_row, put_row, cat_row, dec_f (show ¬ (x.n : Int) < 0 by omega), dec_f (show ¬ ((x.n + y.n : Nat) : Int) < 0 by omega), cond_false] at start
  by_cases h0 : x.n + y.n = 0
  · refine ⟨0, fun _ => zLock, by rw [show x.n = 0 by omega, show y.n = 0 by omega]; rfl, fun κ => (start κ).trans ?_⟩
    rw [dec_f (show ¬ 0 < ((x.n + y.n : Nat) : Int) by omega), cond_false, decide_eq_true (show x.n = 0 by omega), decide_eq_true (show y.n = 0 by omega)]
    rfl
  · simp only [dec_t (show 0 < ((x.n + y.n : Nat) : Int) by omega), dec_t (show 0 ≤ ((x.n + y.n : Nat) : Int) by omega), dec_f h0, cond_true, cond_false, room_of (show (x.n + y.n) * 56 ≤ 70368744177664 by omega) (by omega), Bool.and_self, Bool.and_true, cut_ok (n := x.n + y.n) (l := 0) (h := 0) (m := ((x.n + y.n : Nat) : Int)) (by omega) (by omega) (by omega) (by omega)] at start
    by_cases hx0 : x.n = 0
    · have hy0 : y.n ≠ 0 := by omega
      simp only [dec_t hx0, dec_f hy0, cond_true, cond_false, dec_t (show y.n ≤ x.n + y.n by omega)] at start
      refine ⟨y.n, _, ?_, fun κ => (start κ).trans (pk_osl κ eLock 5 y.n _ _)⟩
      rw [hx0]
      show _ = [] ++ lst y.n y.w
      rw [List.nil_append]
      apply List.map_congr_left
      intro i hi
      have hi := List.mem_range.1 hi
      unfold putW
      rw [if_pos ⟨by omega, hi⟩, Nat.sub_zero]
    · by_cases hy0 : y.n = 0
      · simp only [dec_f hx0, dec_t hy0, cond_true, cond_false, dec_t (show x.n ≤ x.n + y.n by omega)] at start
        refine ⟨x.n, _, ?_, fun κ => (start κ).trans (pk_osl κ eLock 5 x.n _ _)⟩
        rw [hy0]
        show _ = lst x.n x.w ++ []
        rw [List.append_nil]
        apply List.map_congr_left
        intro i hi
        have hi := List.mem_range.1 hi
        unfold putW
        rw [if_pos ⟨by omega, hi⟩, Nat.sub_zero]
      · simp only [dec_f hx0, dec_f hy0, cond_true, cond_false, dec_t (show x.n ≤ x.n + y.n by omega), dec_t (show x.n + y.n ≤ x.n + y.n by omega)] at start
        refine ⟨x.n + y.n, _, ?_, fun κ => (start κ).trans (pk_osl κ eLock 5 (x.n + y.n) _ _)⟩
        show _ = lst x.n x.w ++ lst y.n y.w
        have : lst (x.n + y.n) (catW x.n x.w y.w) = lst x.n x.w ++ lst y.n y.w := l_cat x.n y.n x.w y.w false
        refine Eq.trans ?_ this
        apply List.map_congr_left
        intro i hi
        have hi := List.mem_range.1 hi
        unfold putW catW
        by_cases h : i < x.n
        · rw [if_neg (by omega), if_pos ⟨by omega, h⟩, if_pos h, Nat.sub_zero]
        · rw [if_pos ⟨by omega, hi⟩, if_neg h]
theorem index_Blk_ok (k n : Nat) (w : Nat → TLock) (u : Bool) (tx : Int) (hn : n ≤ 10000) (hk : n + 20 ≤ k) (κ : AV → Heap → Option ρ) :
    evalF ctx k n_slices_IndexFunc_Lock [.sl 5 n (rowOf eLock w) u, .fn n_locks_Blockers_1 [] [.ref 0 0]] [some (.box [.int .u64 tx])] κ = κ (.int .i64 (firstI n fun i => decide ((w i).Tx = tx))) [some (.box [.int .u64 tx])] := by
  obtain ⟨k, rfl⟩ : ∃ k', k = k' + 2 := ⟨k - 2, by omega⟩
  refine (index_Blk_e (k + 1) ⟨n, w, u⟩ tx κ).trans ?_
  have h := find_loop (n := n) (P := fun i => decide ((w i).Tx = tx)) (hd := fun j i => index_Blk_h0 (k + 1) j ⟨n, w, u⟩ tx (i : Int) κ) (at_ := fun i => κ (.int .i64 (i : Int)) [some (.box [.int .u64 tx])]) (no := κ (.int .i64 (-1)) [some (.box [.int .u64 tx])]) (fun j i hi => ?_) (fun j => ?_) (k + 1) 0 (by omega) (by omega) (fun i h => by omega)
  · refine h.trans ?_
    unfold firstI
    cases (List.range n).find? (fun i => decide ((w i).Tx = tx)) <;> rfl
  · rw [index_Blk_h0_s]
    dsimp only
    rw [dec_t (show (i : Int) < (n : Int) by omega), cond_true, idx_ok (by omega) (by omega), cond_true, wi64_succ (by omega)]
    simp only [Int.toNat_natCast]
    cases decide ((w i).Tx = tx) <;> rfl
  · rw [index_Blk_h0_s]
    dsimp only
    rw [dec_f (by omega), cond_false]
/-! ### numbers in order, each once -/
theorem dA_list (B : List Int) : dA B.toArray = gd 0 B := by
  funext i
  unfold dA gd
  by_cases h : i < B.length
  · rw [getElem!_pos B.toArray i (by simpa using h)]; simp [h]
  · rw [getElem!_neg B.toArray i (by simpa using h)]; simp [h]
theorem ddN_facts (w : Nat → Int) (n : Nat) (hs : ∀ i, i + 1 < n → w i ≤ w (i + 1)) : ∀ i, i ≤ n → List.Pairwise (· < ·) (ddN w i) ∧ (∀ t, t ∈ ddN w i ↔ ∃ j, j < i ∧ w j = t) ∧ (∀ t, t ∈ ddN w i → t ≤ w (i - 1))
  | 0, _ => ⟨.nil, fun t => by simp [ddN], fun t h => by simp [ddN] at h⟩
  | i + 1, h => by
    obtain ⟨h1, h2, h3⟩ := ddN_facts w n hs i (by omega)
    rw [ddN, Nat.add_sub_cancel]
    by_cases hd : 0 < i ∧ w i = w (i - 1)
    · rw [if_pos hd]
      refine ⟨h1, fun t => ?_, fun t ht => by rw [hd.2]; exact h3 t ht⟩
      rw [h2]
      constructor
      · rintro ⟨j, hj, e⟩; exact ⟨j, by omega, e⟩
      · rintro ⟨j, hj, e⟩
        by_cases hji : j = i
        · subst hji; exact ⟨j - 1, by omega, by rw [← hd.2]; exact e⟩
        · exact ⟨j, by omega, e⟩
    · rw [if_neg hd]
      have hlt : ∀ t, t ∈ ddN w i → t < w i := by
        intro t ht
        have hi : 0 < i := by
          obtain ⟨j, hj, _⟩ := (h2 t).1 ht; omega
        have a1 := h3 t ht
        have a2 := hs (i - 1) (by omega)
        rw [show i - 1 + 1 = i by omega] at a2
        have a3 : w i ≠ w (i - 1) := fun e => hd ⟨hi, e⟩
        omega
      refine ⟨List.pairwise_append.2 ⟨h1, List.pairwise_singleton _ _, fun a ha b hb => ?_⟩, fun t => ?_, fun t ht => ?_⟩
      · rw [List.mem_singleton] at hb; subst hb; exact hlt a ha
      · rw [List.mem_append, List.mem_singleton, h2]
        constructor
        · rintro (⟨j, hj, e⟩ | e)
          · exact ⟨j, by omega, e⟩
          · exact ⟨i, by omega, e.symm⟩
        · rintro ⟨j, hj, e⟩
          by_cases hji : j = i
          · subst hji; exact .inr e.symm
          · exact .inl ⟨j, by omega, e⟩
      · rcases List.mem_append.1 ht with h | h
        · exact Int.le_of_lt (hlt t h)
        · rw [List.mem_singleton] at h; omega
theorem mem_get! {d : Array Int} {n : Nat} (h : d.size = n) (t : Int) : (∃ j, j < n ∧ dA d j = t) ↔ t ∈ d.toList := by
  unfold dA
  constructor
  · rintro ⟨j, hj, e⟩
    rw [getElem!_pos d j (by omega)] at e
    rw [← e]; simp
  · intro ht
    obtain ⟨j, hj, e⟩ := List.getElem_of_mem ht
    have hj' : j < d.size := by simpa using hj
    exact ⟨j, by omega, by rw [getElem!_pos d j hj']; simpa using e⟩
/-- a row of numbers, sorted, each once -/
theorem sort_cmp (k : Nat) (B : List Int) (hB : B.length ≤ 50000) (hk : 2 * B.length + 100 ≤ k) :
    ∃ (d' : Array Int) (m : Nat) (v' : Nat → Int), List.Pairwise (· < ·) (lst m v') ∧ (∀ t, t ∈ lst m v' ↔ t ∈ B) ∧
      (∀ κ : AV → Heap → Option ρ, evalF ctx k n_slices_Sort_uint64 [.osl 1 0 0 B.length false] [some (.arr 1 B.length (rowOf (eI .u64) (gd 0 B)))] κ = κ (.tup []) [some (.arr 1 B.length (rowOf (eI .u64) (dA d')))]) ∧
      (∀ κ : AV → Heap → Option ρ, evalF ctx k n_slices_Compact_uint64 [.osl 1 0 0 B.length false] [some (.arr 1 B.length (rowOf (eI .u64) (dA d')))] κ = κ (.osl 1 0 0 m false) [some (.arr 1 B.length (rowOf (eI .u64) v'))]) := by
  obtain ⟨d', hp, hs, c1⟩ := so_Sort_ok (ρ := ρ) k B.length B.toArray (by simp) (by omega) hk
  obtain ⟨m, v', q1, q2⟩ := so_cmp_ok (ρ := ρ) k B.length (dA d') (by omega) (by omega)
  have hz : d'.size = B.length := by rw [hp.1]; simp
  have hpm : d'.toList.Perm B := by
    have := hp.2.2
    rw [Array.extract_eq_self_of_le (by simp [hz]), Array.extract_eq_self_of_le (by simp)] at this
    simpa using this
  obtain ⟨f1, f2, _⟩ := ddN_facts (dA d') B.length (fun i hi => by
    have := hs i (i + 1) (by omega) (by omega) hi
    simp only [ltI, decide_eq_false_iff_not] at this
    unfold dA; omega) B.length (Nat.le_refl _)
  refine ⟨d', m, v', by rw [q1]; exact f1, fun t => ?_, ?_, q2⟩
  · rw [q1, f2, mem_get! hz]; exact hpm.mem_iff
  · intro κ
    have := c1 κ
    rw [dA_list] at this
    exact this
theorem so_Sort_nil (k : Nat) (κ : AV → Heap → Option ρ) : evalF ctx (k + 40) n_slices_Sort_uint64 [.sl 1 0 (rowOf (eI .u64) (fun _ => 0)) true] [] κ = κ (.tup []) [] := by kernel_rfl
theorem so_cmp_nil (k : Nat) (κ : AV → Heap → Option ρ) : evalF ctx (k + 40) n_slices_Compact_uint64 [.sl 1 0 (rowOf (eI .u64) (fun _ => 0)) true] [] κ = κ (.sl 1 0 (rowOf (eI .u64) (fun _ => 0)) true) [] := by kernel_rfl
/-! ### Blockers -/
noncomputable def hdB (k : Nat) (s : TLocks) (r0 : Int) (C : Sl TLock) (κ : AV → Heap → Option ρ) (j i : Nat) : List Int → Option ρ
  | [] => locks_Blockers_h0 k j s r0 (i : Int) ⟨C.n, C.w, false⟩ (C.n : Int) κ
  | b :: B => locks_Blockers_h1 k j s r0 (B.length + 1) (i : Int) (B.length + 1) (rowOf (eI .u64) (gd 0 (b :: B))) ⟨C.n, C.w, false⟩ (C.n : Int) κ
theorem hdB_nil (k : Nat) (s : TLocks) (r0 : Int) (C : Sl TLock) (κ : AV → Heap → Option ρ) (j i : Nat) : hdB k s r0 C κ j i [] = locks_Blockers_h0 k j s r0 (i : Int) ⟨C.n, C.w, false⟩ (C.n : Int) κ := rfl
theorem hdB_cons (k : Nat) (s : TLocks) (r0 : Int) (C : Sl TLock) (κ : AV → Heap → Option ρ) (j i : Nat) (b : Int) (B : List Int) : hdB k s r0 C κ j i (b :: B) = locks_Blockers_h1 k j s r0 (B.length + 1) (i : Int) (B.length + 1) (rowOf (eI .u64) (gd 0 (b :: B))) ⟨C.n, C.w, false⟩ (C.n : Int) κ := rfl
noncomputable def finB (k : Nat) (s : TLocks) (r0 : Int) (C : Sl TLock) (κ : AV → Heap → Option ρ) : List Int → Option ρ
  | [] => evalF ctx k n_slices_Sort_uint64 [.sl 1 0 (rowOf (eI .u64) (fun _ => 0)) true] [] (locks_Blockers_r2 k s r0 (C.n : Int) ⟨C.n, C.w, false⟩ (C.n : Int) κ)
  | b :: B => evalF ctx k n_slices_Sort_uint64 [.osl 1 0 0 (B.length + 1) false] [some (.arr 1 (B.length + 1) (rowOf (eI .u64) (gd 0 (b :: B))))] (locks_Blockers_r4 k s r0 (C.n : Int) (B.length + 1) (B.length + 1) (gd 0 (b :: B)) ⟨C.n, C.w, false⟩ (C.n : Int) κ)
/-- those against whom the i-th waiter's lock stands -/
def blkL (H W : List TLock) (i : Nat) (x : TLock) : List Int := ((H ++ W.take i).filter (againstB x)).map (·.Tx)
theorem Blk_loop (k : Nat) (s : TLocks) (r0 : Nat) (hr : r0 < s.Waits.n) (hm : s.Waits.n ≤ 10000) (C : Sl TLock) (hC : C.n ≤ 20000) (hk : C.n + 20 ≤ k) (κ : AV → Heap → Option ρ) :
    hdB k s (r0 : Int) C κ k 0 [] = finB k s (r0 : Int) C κ (((lst C.n C.w).filter (againstB (s.Waits.w r0))).map (·.Tx)) := by
  have ag : ∀ (i : Nat) (κ' : AV → Option ρ), callP ctx k n_locks_lock_against [.agg (eLock ⟨((s.Waits.w (((r0 : Nat) : Int)).toNat).Tx), ⟨(((s.Waits.w (((r0 : Nat) : Int)).toNat).R).From), (((s.Waits.w (((r0 : Nat) : Int)).toNat).R).To), (((s.Waits.w (((r0 : Nat) : Int)).toNat).R).End)⟩, ((s.Waits.w (((r0 : Nat) : Int)).toNat).X)⟩), .agg (eLock ⟨((C.w (((i : Nat) : Int)).toNat).Tx), ⟨(((C.w (((i : Nat) : Int)).toNat).R).From), (((C.w (((i : Nat) : Int)).toNat).R).To), (((C.w (((i : Nat) : Int)).toNat).R).End)⟩, ((C.w (((i : Nat) : Int)).toNat).X)⟩)] κ' = κ' (.bool (againstB (s.Waits.w r0) (C.w i))) := fun i κ' => against_ok k (s.Waits.w r0) (C.w i) (by omega) κ'
  have h := filter_loop (n := C.n) (P := fun i => againstB (s.Waits.w r0) (C.w i)) (w := fun i => (C.w i).Tx) (hd := fun j i L => hdB k s (r0 : Int) C κ j i L) (fin := finB k s (r0 : Int) C κ) (fun j i L hi hL => ?_) (fun j L => ?_) k 0 [] (by omega) (by omega) (by simp)
  · refine h.trans ?_
    rw [List.nil_append, Nat.sub_zero, ← List.range_eq_range']
    congr 1
    unfold lst
    rw [List.filter_map, List.map_map]; rfl
  · cases L with
    | nil =>
      rw [hdB_nil, locks_Blockers_h0_s, dec_t (show (i : Int) < (C.n : Int) by omega), cond_true]
      dsimp only
      rw [idx_ok (n := C.n) (i := (i : Int)) (by omega) (by omega), cond_true, idx_ok (n := s.Waits.n) (i := (r0 : Int)) (by omega) (by omega), cond_true, ag, locks_Blockers_r1_s, row_first, wi64_succ (by omega)]
      dsimp only
      rw [Int.toNat_natCast]
      cases againstB (s.Waits.w r0) (C.w i) with
      | true => rfl
      | false => rfl
    | cons b B =>
      simp only [List.length_cons] at hL
      rw [hdB_cons, locks_Blockers_h1_s, dec_t (show (i : Int) < (C.n : Int) by omega), cond_true]
      dsimp only
      rw [idx_ok (n := C.n) (i := (i : Int)) (by omega) (by omega), cond_true, idx_ok (n := s.Waits.n) (i := (r0 : Int)) (by omega) (by omega), cond_true, ag, locks_Blockers_r3_s, wi64_succ (by omega)]
      dsimp only
      rw [Int.toNat_natCast]
      cases againstB (s.Waits.w r0) (C.w i) with
      | true =>
        rw [cond_true, if_pos rfl, more_sz 8 (B.length + 1) (B.length + 1) _ _ rfl (by omega) (by omega) (by omega), row_next (eI .u64) (b :: B) _ 0 (B.length + 1) rfl]
        show _ = locks_Blockers_h1 k j s (r0 : Int) ((B ++ [(C.w i).Tx]).length + 1) ((i + 1 : Nat) : Int) ((B ++ [(C.w i).Tx]).length + 1) (rowOf (eI .u64) (gd 0 (b :: (B ++ [(C.w i).Tx])))) ⟨C.n, C.w, false⟩ (C.n : Int) κ
        rw [List.length_append]; rfl
      | false => rfl
  · cases L with
    | nil => rw [hdB_nil, locks_Blockers_h0_s, dec_f (by omega), cond_false]; rfl
    | cons b B => rw [hdB_cons, locks_Blockers_h1_s, dec_f (by omega), cond_false]; rfl
theorem Blockers_ok (k : Nat) (s : TLocks) (i : Nat) (hc : checkB s = true) (hi : i < s.Waits.n) (hu : ∀ j, j < i → (s.Waits.w j).Tx ≠ (s.Waits.w i).Tx) (hk : 1000 ≤ k) :
    ∃ (m : Nat) (v : Nat → Int), List.Pairwise (· < ·) (lst m v) ∧ (∀ t, t ∈ lst m v ↔ t ∈ blkL s.Held.l s.Waits.l i (s.Waits.w i)) ∧ ∀ κ : AV → Option ρ, callP ctx k n_locks_Blockers [.agg (eLocks s), .int .u64 (s.Waits.w i).Tx] κ = κ (.sl 1 m (rowOf (eI .u64) v) false) := by
  have h200 : s.Held.n + s.Waits.n ≤ 200 := by
    unfold checkB at hc
    simp only [Bool.and_eq_true, decide_eq_true_eq] at hc
    exact hc.1
  obtain ⟨k, rfl⟩ : ∃ k', k = k' + 1 := ⟨k - 1, by omega⟩
  have hf : firstI s.Waits.n (fun j => decide ((s.Waits.w j).Tx = (s.Waits.w i).Tx)) = (i : Int) := by
    unfold firstI
    have : (List.range s.Waits.n).find? (fun j => decide ((s.Waits.w j).Tx = (s.Waits.w i).Tx)) = some i := by
      rw [List.find?_range_eq_some]
      exact ⟨by simp, by simpa using hi, fun j hj => by simpa using hu j hj⟩
    rw [this]
  obtain ⟨m0, w0, hw0, cC⟩ := Concat_Lock_ok (ρ := ρ) k s.Held ⟨i, fun j => s.Waits.w (0 + j), (s.Waits.u && (decide ((i : Int) = (s.Waits.n : Int))))⟩ (by omega) (by dsimp only; omega) (by omega)
  have hw1 : lst m0 w0 = s.Held.l ++ s.Waits.l.take i := by
    rw [hw0]
    dsimp only
    rw [show s.Waits.l.take i = lst i s.Waits.w from lst_take _ _ _ (by omega), zrow]
  have hm0 : m0 = s.Held.n + i := by
    have := congrArg List.length hw0
    rw [lst_len, List.length_append, lst_len, lst_len] at this
    exact this
  have start : ∀ κ : AV → Option ρ, callP ctx (k + 1) n_locks_Blockers [.agg (eLocks s), .int .u64 (s.Waits.w i).Tx] κ = finB k s (i : Int) ⟨m0, w0, false⟩ (pk κ) (blkL s.Held.l s.Waits.l i (s.Waits.w i)) := by
    intro κ
    rw [callP_eq]
    refine (locks_Blockers_e k s _ (pk κ)).trans ?_
    rw [index_Blk_ok k _ _ _ _ (by omega) (by omega), hf, locks_Blockers_r0_s, dec_f (by omega), cond_false, locks_Check_ok k s (by omega) (by omega) (by omega)]
    unfold checkE'
    rw [if_pos hc, locks_Blockers_r5_s, dec_int, Bool.not_true, cond_false, cut_ok (by omega) (by omega) (by omega) (by omega), cond_true, Int.toNat_natCast, cC]
    refine (locks_Blockers_r8_s k s (i : Int) 0 ⟨m0, w0, false⟩ (pk κ)).trans ?_
    refine (Blk_loop k s i hi (by omega) ⟨m0, w0, false⟩ (by dsimp only; omega) (by dsimp only; omega) (pk κ)).trans ?_
    dsimp only
    rw [hw1]; rfl
  have hlen : (blkL s.Held.l s.Waits.l i (s.Waits.w i)).length ≤ 400 := by
    unfold blkL
    rw [List.length_map]
    refine Nat.le_trans (List.length_filter_le ..) ?_
    rw [← hw1, lst_len]; omega
  generalize blkL s.Held.l s.Waits.l i (s.Waits.w i) = B at *
  cases B with
  | nil =>
    refine ⟨0, fun _ => 0, .nil, fun t => by simp [lst], fun κ => ?_⟩
    rw [start]
    unfold finB
    obtain ⟨k', rfl⟩ : ∃ k', k = k' + 40 := ⟨k - 40, by omega⟩
    rw [so_Sort_nil, locks_Blockers_r2_s, so_cmp_nil, locks_Blockers_r6_s]; rfl
  | cons b B =>
    simp only [List.length_cons] at hlen
    obtain ⟨d', m, v, f1, f2, c1, c2⟩ := sort_cmp (ρ := ρ) k (b :: B) (by simp only [List.length_cons]; omega) (by simp only [List.length_cons]; omega)
    refine ⟨m, v, f1, f2, fun κ => ?_⟩
    rw [start]
    unfold finB
    dsimp only
    refine (c1 _).trans ?_
    refine (locks_Blockers_r4_s k s (i : Int) (m0 : Int) (B.length + 1) (B.length + 1) (gd 0 (b :: B)) ⟨m0, w0, false⟩ (m0 : Int) (dA d') (pk κ)).trans ?_
    refine (c2 _).trans ?_
    refine (locks_Blockers_r7_s k s (i : Int) (m0 : Int) (B.length + 1) (dA d') ⟨m0, w0, false⟩ (m0 : Int) m v (pk κ)).trans ?_
    exact pk_osl κ (eI .u64) 1 m (B.length + 1) v
end Go.Proofs.YticcbbcgboddpaaC
