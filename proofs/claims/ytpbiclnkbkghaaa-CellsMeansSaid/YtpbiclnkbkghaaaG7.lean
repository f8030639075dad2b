/- What functions come to from one cut to the next. No conditions. -/
import Derived.Test.YtpbiclnkbkghaaaGS
import Derived.KernelRfl
set_option linter.unusedVariables false
set_option maxRecDepth 20000
namespace Go.Proofs.YtpbiclnkbkghaaaC
open Go Go.Ev Go.Proofs
variable {ρ : Type}
noncomputable def law10_CellsMeans_r0 (k : Nat) (a : (Sl TCell)) (c : TCell) (key : ByteArray) (κ : AV → Heap → Option ρ) (v : AV) : Option ρ := resAt ctx k n_law10_CellsMeans 0 [.r, .l, .l] 1 [] ⟨(envOf 164 [(0, .sl 2 a.n (rowOf eCell a.w) a.u), (1, .agg (eCell c)), (2, .str key), (4, .ref 0 0), (6, .bool false), (17, .sl 2 a.n (rowOf eCell a.w) a.u), (18, v)]), [some (.box [.str c.Key, .str c.Value])]⟩ κ
noncomputable def law10_CellsMeans_e0 (k : Nat) (a : (Sl TCell)) (c : TCell) (key : ByteArray) (x35 : Bool) (κ : AV → Heap → Option ρ) : Option ρ := endAt ctx k n_law10_CellsMeans 0 [.r, .l, .l] ⟨(envOf 164 [(0, .sl 2 a.n (rowOf eCell a.w) a.u), (2, .str key), (4, .ref 0 0), (35, .bool x35)]), [some (.box [.str c.Key, .str c.Value])]⟩ κ
noncomputable def law10_CellsMeans_r1 (k : Nat) (a : (Sl TCell)) (c : TCell) (key : ByteArray) (r0 : Bool) (κ : AV → Heap → Option ρ) (v : AV) : Option ρ := resAt ctx k n_law10_CellsMeans 0 [.r, .l, .l] 4 [(19, false)] ⟨(envOf 164 [(0, .sl 2 a.n (rowOf eCell a.w) a.u), (1, .agg (eCell c)), (2, .str key), (4, .ref 0 0), (6, .bool false), (17, .sl 2 a.n (rowOf eCell a.w) a.u), (18, .bool r0), (19, .bool r0), (20, .sl 2 a.n (rowOf eCell a.w) a.u), (21, v)]), [some (.box [.str c.Key, .str c.Value])]⟩ κ
noncomputable def law10_CellsMeans_r2 (k : Nat) (a : (Sl TCell)) (c : TCell) (key : ByteArray) (x35 : Bool) (κ : AV → Heap → Option ρ) (v : AV) : Option ρ := resAt ctx k n_law10_CellsMeans 0 [.r, .l, .r, .l, .l] 0 [] ⟨(envOf 164 [(0, .sl 2 a.n (rowOf eCell a.w) a.u), (2, .str key), (4, .ref 0 0), (35, .bool x35), (36, v)]), [some (.box [.str c.Key, .str c.Value])]⟩ κ
noncomputable def law10_CellsMeans_r3 (k : Nat) (a : (Sl TCell)) (c : TCell) (key : ByteArray) (x35 : Bool) (κ : AV → Heap → Option ρ) (v : AV) : Option ρ := resAt ctx k n_law10_CellsMeans 0 [.r, .r, .l] 2 [] ⟨(envOf 164 [(0, .sl 2 a.n (rowOf eCell a.w) a.u), (2, .str key), (4, .ref 0 0), (35, .bool x35), (38, .sl 2 a.n (rowOf eCell a.w) a.u), (39, .str key), (40, v)]), [some (.box [.str c.Key, .str c.Value])]⟩ κ
noncomputable def law10_CellsMeans_r4 (k : Nat) (a : (Sl TCell)) (c : TCell) (key : ByteArray) (r3a : ByteArray) (r3b : Bool) (κ : AV → Heap → Option ρ) (v : AV) : Option ρ := resAt ctx k n_law10_CellsMeans 0 [.r, .r, .r, .l] 2 [] ⟨(envOf 164 [(0, .sl 2 a.n (rowOf eCell a.w) a.u), (2, .str key), (4, .ref 0 0), (7, .str r3a), (8, .bool r3b), (44, .sl 2 a.n (rowOf eCell a.w) a.u), (45, .agg (eCell c)), (46, v)]), [some (.box [.str c.Key, .str c.Value])]⟩ κ
noncomputable def law10_CellsMeans_r5 (k : Nat) (c : TCell) (key : ByteArray) (r3a : ByteArray) (r3b : Bool) (r4a : Sl TCell) (r4b : Int) (κ : AV → Heap → Option ρ) (v : AV) : Option ρ := resAt ctx k n_law10_CellsMeans 0 [.r, .r, .r, .r, .l] 2 [] ⟨(envOf 164 [(2, .str key), (4, .ref 0 0), (7, .str r3a), (8, .bool r3b), (9, .sl 2 r4a.n (rowOf eCell r4a.w) false), (10, .int .i64 r4b), (50, .sl 2 r4a.n (rowOf eCell r4a.w) false), (51, .str key), (52, v)]), [some (.box [.str c.Key, .str c.Value])]⟩ κ
noncomputable def law10_CellsMeans_e1 (k : Nat) (c : TCell) (key : ByteArray) (r3a : ByteArray) (r3b : Bool) (r4a : Sl TCell) (x93 : Bool) (κ : AV → Heap → Option ρ) : Option ρ := endAt ctx k n_law10_CellsMeans 0 [.r, .r, .r, .r, .r, .l, .l] ⟨(envOf 164 [(2, .str key), (4, .ref 0 0), (7, .str r3a), (8, .bool r3b), (9, .sl 2 r4a.n (rowOf eCell r4a.w) false), (93, .bool x93)]), [some (.box [.str c.Key, .str c.Value])]⟩ κ
noncomputable def law10_CellsMeans_r6 (k : Nat) (c : TCell) (key : ByteArray) (r3a : ByteArray) (r3b : Bool) (r4a : Sl TCell) (r4b : Int) (r5a : ByteArray) (r5b : Bool) (κ : AV → Heap → Option ρ) (v : AV) : Option ρ := resAt ctx k n_law10_CellsMeans 0 [.r, .r, .r, .r, .r, .l, .l] 4 [(57, false)] ⟨(envOf 164 [(2, .str key), (4, .ref 0 0), (7, .str r3a), (8, .bool r3b), (9, .sl 2 r4a.n (rowOf eCell r4a.w) false), (10, .int .i64 r4b), (11, .str r5a), (12, .bool r5b), (55, .int .i64 r4b), (56, .bool (!decide (r4b = 0))), (57, .bool (!decide (r4b = 0))), (58, .sl 2 r4a.n (rowOf eCell r4a.w) false), (59, v)]), [some (.box [.str c.Key, .str c.Value])]⟩ κ
noncomputable def law10_CellsMeans_r7 (k : Nat) (c : TCell) (key : ByteArray) (r3a : ByteArray) (r3b : Bool) (r4a : Sl TCell) (x93 : Bool) (κ : AV → Heap → Option ρ) (v : AV) : Option ρ := resAt ctx k n_law10_CellsMeans 0 [.r, .r, .r, .r, .r, .r, .l] 3 [] ⟨(envOf 164 [(2, .str key), (4, .ref 0 0), (7, .str r3a), (8, .bool r3b), (9, .sl 2 r4a.n (rowOf eCell r4a.w) false), (93, .bool x93), (95, .sl 2 r4a.n (rowOf eCell r4a.w) false), (96, .ref 0 0), (97, .str c.Key), (98, v)]), [some (.box [.str c.Key, .str c.Value])]⟩ κ
noncomputable def law10_CellsMeans_r8 (k : Nat) (c : TCell) (key : ByteArray) (r3a : ByteArray) (r3b : Bool) (r4a : Sl TCell) (r7a : Sl TCell) (r7b : Int) (κ : AV → Heap → Option ρ) (v : AV) : Option ρ := resAt ctx k n_law10_CellsMeans 0 [.r, .r, .r, .r, .r, .r, .r, .l] 2 [] ⟨(envOf 164 [(2, .str key), (4, .ref 0 0), (7, .str r3a), (8, .bool r3b), (9, .sl 2 r4a.n (rowOf eCell r4a.w) false), (13, .sl 2 r7a.n (rowOf eCell r7a.w) false), (14, .int .i64 r7b), (102, .sl 2 r7a.n (rowOf eCell r7a.w) false), (103, .str key), (104, v)]), [some (.box [.str c.Key, .str c.Value])]⟩ κ
noncomputable def law10_CellsMeans_e2 (k : Nat) (c : TCell) (r4a : Sl TCell) (r7a : Sl TCell) (x138 : Bool) (κ : AV → Heap → Option ρ) : Option ρ := endAt ctx k n_law10_CellsMeans 0 [.r, .r, .r, .r, .r, .r, .r, .r, .l, .l] ⟨(envOf 164 [(4, .ref 0 0), (9, .sl 2 r4a.n (rowOf eCell r4a.w) false), (13, .sl 2 r7a.n (rowOf eCell r7a.w) false), (138, .bool x138)]), [some (.box [.str c.Key, .str c.Value])]⟩ κ
noncomputable def law10_CellsMeans_r9 (k : Nat) (c : TCell) (key : ByteArray) (r3a : ByteArray) (r3b : Bool) (r4a : Sl TCell) (r7a : Sl TCell) (r7b : Int) (r8a : ByteArray) (r8b : Bool) (κ : AV → Heap → Option ρ) (v : AV) : Option ρ := resAt ctx k n_law10_CellsMeans 0 [.r, .r, .r, .r, .r, .r, .r, .r, .l, .l] 4 [(109, false)] ⟨(envOf 164 [(2, .str key), (4, .ref 0 0), (7, .str r3a), (8, .bool r3b), (9, .sl 2 r4a.n (rowOf eCell r4a.w) false), (13, .sl 2 r7a.n (rowOf eCell r7a.w) false), (14, .int .i64 r7b), (15, .str r8a), (16, .bool r8b), (107, .int .i64 r7b), (108, .bool (!decide (r7b = 0))), (109, .bool (!decide (r7b = 0))), (110, .sl 2 r7a.n (rowOf eCell r7a.w) false), (111, v)]), [some (.box [.str c.Key, .str c.Value])]⟩ κ
noncomputable def law10_CellsMeans_r10 (k : Nat) (c : TCell) (r4a : Sl TCell) (r7a : Sl TCell) (x138 : Bool) (κ : AV → Heap → Option ρ) (v : AV) : Option ρ := resAt ctx k n_law10_CellsMeans 0 [.r, .r, .r, .r, .r, .r, .r, .r, .r, .l] 1 [] ⟨(envOf 164 [(4, .ref 0 0), (9, .sl 2 r4a.n (rowOf eCell r4a.w) false), (13, .sl 2 r7a.n (rowOf eCell r7a.w) false), (138, .bool x138), (139, .sl 2 r4a.n (rowOf eCell r4a.w) false), (140, v)]), [some (.box [.str c.Key, .str c.Value])]⟩ κ
noncomputable def law10_CellsMeans_r11 (k : Nat) (c : TCell) (r4a : Sl TCell) (r7a : Sl TCell) (x138 : Bool) (r10 : Int) (κ : AV → Heap → Option ρ) (v : AV) : Option ρ := resAt ctx k n_law10_CellsMeans 0 [.r, .r, .r, .r, .r, .r, .r, .r, .r, .l] 3 [] ⟨(envOf 164 [(4, .ref 0 0), (9, .sl 2 r4a.n (rowOf eCell r4a.w) false), (13, .sl 2 r7a.n (rowOf eCell r7a.w) false), (138, .bool x138), (139, .sl 2 r4a.n (rowOf eCell r4a.w) false), (140, .int .i64 r10), (141, .sl 2 r7a.n (rowOf eCell r7a.w) false), (142, v)]), [some (.box [.str c.Key, .str c.Value])]⟩ κ
noncomputable def law10_CellsMeans_r12 (k : Nat) (c : TCell) (r4a : Sl TCell) (r7a : Sl TCell) (x138 : Bool) (r10 : Int) (r11 : Int) (κ : AV → Heap → Option ρ) (v : AV) : Option ρ := resAt ctx k n_law10_CellsMeans 0 [.r, .r, .r, .r, .r, .r, .r, .r, .r, .l] 23 [(161, true), (153, true)] ⟨(envOf 164 [(4, .ref 0 0), (9, .sl 2 r4a.n (rowOf eCell r4a.w) false), (13, .sl 2 r7a.n (rowOf eCell r7a.w) false), (138, .bool x138), (139, .sl 2 r4a.n (rowOf eCell r4a.w) false), (140, .int .i64 r10), (141, .sl 2 r7a.n (rowOf eCell r7a.w) false), (142, .int .i64 r11), (143, .int .i64 (wi64 (r11 + 4))), (144, .ref 0 0), (145, .str c.Key), (146, .int .i64 (c.Key.size : Int)), (147, .int .i64 (wi64 (wi64 (r11 + 4) + (c.Key.size : Int)))), (148, .ref 0 1), (149, .str c.Value), (150, .int .i64 (c.Value.size : Int)), (151, .int .i64 (wi64 (wi64 (wi64 (r11 + 4) + (c.Key.size : Int)) + (c.Value.size : Int)))), (152, .bool (decide (r10 = wi64 (wi64 (wi64 (r11 + 4) + (c.Key.size : Int)) + (c.Value.size : Int))))), (153, .bool (decide (r10 = wi64 (wi64 (wi64 (r11 + 4) + (c.Key.size : Int)) + (c.Value.size : Int))))), (154, .sl 2 r4a.n (rowOf eCell r4a.w) false), (155, .int .i64 (r4a.n : Int)), (156, .sl 2 r7a.n (rowOf eCell r7a.w) false), (157, .int .i64 (r7a.n : Int)), (158, .int .i64 (wi64 ((r7a.n : Int) + 1))), (159, .bool (decide ((r4a.n : Int) = wi64 ((r7a.n : Int) + 1)))), (160, .bool (decide ((r4a.n : Int) = wi64 ((r7a.n : Int) + 1)))), (161, .bool (decide ((r4a.n : Int) = wi64 ((r7a.n : Int) + 1)))), (162, v)]), [some (.box [.str c.Key, .str c.Value])]⟩ κ
noncomputable def law10_CellsMeans_e3 (k : Nat) (x6 : Bool) (κ : AV → Heap → Option ρ) : Option ρ := endAt ctx k n_law10_CellsMeans 0 [.r, .r, .r, .r, .r, .r, .r, .r, .r, .l] ⟨(envOf 164 [(6, .bool x6)]), []⟩ κ
theorem law10_CellsMeans_r0_s (k : Nat) (a : (Sl TCell)) (c : TCell) (key : ByteArray) (r0 : Bool) (κ : AV → Heap → Option ρ) : law10_CellsMeans_r0 k a c key κ (.bool r0) =
  (bif r0 then
   law10_CellsMeans_e0 k a c key true κ
  else callP ctx k n_cells_Right [.sl 2 a.n (rowOf eCell a.w) a.u] (law10_CellsMeans_r1 k a c key r0 κ)) := by kernel_rfl
theorem law10_CellsMeans_e0_s (k : Nat) (a : (Sl TCell)) (c : TCell) (key : ByteArray) (x35 : Bool) (κ : AV → Heap → Option ρ) : law10_CellsMeans_e0 k a c key x35 κ =
  (bif x35 then
   callP ctx k n_law10_head [] (law10_CellsMeans_r2 k a c key x35 κ)
  else callP ctx k n_cells_Find [.sl 2 a.n (rowOf eCell a.w) a.u, .str key] (law10_CellsMeans_r3 k a c key x35 κ)) := by kernel_rfl
theorem law10_CellsMeans_r1_s (k : Nat) (a : (Sl TCell)) (c : TCell) (key : ByteArray) (r0 : Bool) (r1 : Bool) (κ : AV → Heap → Option ρ) : law10_CellsMeans_r1 k a c key r0 κ (.bool r1) =
  (bif !r1 then
   law10_CellsMeans_e0 k a c key true κ
  else (bif decide (513 < (c.Key.size : Int)) then
    law10_CellsMeans_e0 k a c key true κ
   else law10_CellsMeans_e0 k a c key (decide (2048 < (c.Value.size : Int))) κ)) := by kernel_rfl
theorem law10_CellsMeans_r2_s (k : Nat) (a : (Sl TCell)) (c : TCell) (key : ByteArray) (x35 : Bool) (r2 : Bool) (κ : AV → Heap → Option ρ) : law10_CellsMeans_r2 k a c key x35 κ (.bool r2) =
  κ (.bool r2) [some (.box [.str c.Key, .str c.Value])] := by kernel_rfl
theorem law10_CellsMeans_r3_s (k : Nat) (a : (Sl TCell)) (c : TCell) (key : ByteArray) (x35 : Bool) (r3a : ByteArray) (r3b : Bool) (κ : AV → Heap → Option ρ) : law10_CellsMeans_r3 k a c key x35 κ (.tup [.str r3a, .bool r3b]) =
  callP ctx k n_cells_Put [.sl 2 a.n (rowOf eCell a.w) a.u, .agg (eCell c)] (law10_CellsMeans_r4 k a c key r3a r3b κ) := by kernel_rfl
theorem law10_CellsMeans_r4_s (k : Nat) (a : (Sl TCell)) (c : TCell) (key : ByteArray) (r3a : ByteArray) (r3b : Bool) (r4a : Sl TCell) (r4b : Int) (κ : AV → Heap → Option ρ) : law10_CellsMeans_r4 k a c key r3a r3b κ (.tup [.sl 2 r4a.n (rowOf eCell r4a.w) false, .int .i64 r4b]) =
  callP ctx k n_cells_Find [.sl 2 r4a.n (rowOf eCell r4a.w) false, .str key] (law10_CellsMeans_r5 k c key r3a r3b r4a r4b κ) := by kernel_rfl
theorem law10_CellsMeans_r5_s (k : Nat) (c : TCell) (key : ByteArray) (r3a : ByteArray) (r3b : Bool) (r4a : Sl TCell) (r4b : Int) (r5a : ByteArray) (r5b : Bool) (κ : AV → Heap → Option ρ) : law10_CellsMeans_r5 k c key r3a r3b r4a r4b κ (.tup [.str r5a, .bool r5b]) =
  (bif !decide (r4b = 0) then
   law10_CellsMeans_e1 k c key r3a r3b r4a true κ
  else callP ctx k n_cells_Right [.sl 2 r4a.n (rowOf eCell r4a.w) false] (law10_CellsMeans_r6 k c key r3a r3b r4a r4b r5a r5b κ)) := by kernel_rfl
theorem law10_CellsMeans_e1_s (k : Nat) (c : TCell) (key : ByteArray) (r3a : ByteArray) (r3b : Bool) (r4a : Sl TCell) (x93 : Bool) (κ : AV → Heap → Option ρ) : law10_CellsMeans_e1 k c key r3a r3b r4a x93 κ =
  (bif x93 then
   κ (.bool false) [some (.box [.str c.Key, .str c.Value])]
  else callP ctx k n_cells_Delete [.sl 2 r4a.n (rowOf eCell r4a.w) false, .str c.Key] (law10_CellsMeans_r7 k c key r3a r3b r4a x93 κ)) := by kernel_rfl
theorem law10_CellsMeans_r6_s (k : Nat) (c : TCell) (key : ByteArray) (r3a : ByteArray) (r3b : Bool) (r4a : Sl TCell) (r4b : Int) (r5a : ByteArray) (r5b : Bool) (r6 : Bool) (κ : AV → Heap → Option ρ) : law10_CellsMeans_r6 k c key r3a r3b r4a r4b r5a r5b κ (.bool r6) =
  (bif !r6 then
   law10_CellsMeans_e1 k c key r3a r3b r4a true κ
  else (bif decide (key = c.Key) then
    (bif !r5b then
     law10_CellsMeans_e1 k c key r3a r3b r4a true κ
    else (bif !decide (r5a = c.Value) then
      law10_CellsMeans_e1 k c key r3a r3b r4a true κ
     else (bif !decide (key = c.Key) then
       (bif !decide (r5a = r3a) then
        law10_CellsMeans_e1 k c key r3a r3b r4a true κ
       else law10_CellsMeans_e1 k c key r3a r3b r4a (!(r5b == r3b)) κ)
      else law10_CellsMeans_e1 k c key r3a r3b r4a false κ)))
   else (bif !decide (key = c.Key) then
     (bif !decide (r5a = r3a) then
      law10_CellsMeans_e1 k c key r3a r3b r4a true κ
     else law10_CellsMeans_e1 k c key r3a r3b r4a (!(r5b == r3b)) κ)
    else law10_CellsMeans_e1 k c key r3a r3b r4a false κ))) := by kernel_rfl
theorem law10_CellsMeans_r7_s (k : Nat) (c : TCell) (key : ByteArray) (r3a : ByteArray) (r3b : Bool) (r4a : Sl TCell) (x93 : Bool) (r7a : Sl TCell) (r7b : Int) (κ : AV → Heap → Option ρ) : law10_CellsMeans_r7 k c key r3a r3b r4a x93 κ (.tup [.sl 2 r7a.n (rowOf eCell r7a.w) false, .int .i64 r7b]) =
  callP ctx k n_cells_Find [.sl 2 r7a.n (rowOf eCell r7a.w) false, .str key] (law10_CellsMeans_r8 k c key r3a r3b r4a r7a r7b κ) := by kernel_rfl
theorem law10_CellsMeans_r8_s (k : Nat) (c : TCell) (key : ByteArray) (r3a : ByteArray) (r3b : Bool) (r4a : Sl TCell) (r7a : Sl TCell) (r7b : Int) (r8a : ByteArray) (r8b : Bool) (κ : AV → Heap → Option ρ) : law10_CellsMeans_r8 k c key r3a r3b r4a r7a r7b κ (.tup [.str r8a, .bool r8b]) =
  (bif !decide (r7b = 0) then
   law10_CellsMeans_e2 k c r4a r7a true κ
  else callP ctx k n_cells_Right [.sl 2 r7a.n (rowOf eCell r7a.w) false] (law10_CellsMeans_r9 k c key r3a r3b r4a r7a r7b r8a r8b κ)) := by kernel_rfl
theorem law10_CellsMeans_e2_s (k : Nat) (c : TCell) (r4a : Sl TCell) (r7a : Sl TCell) (x138 : Bool) (κ : AV → Heap → Option ρ) : law10_CellsMeans_e2 k c r4a r7a x138 κ =
  (bif x138 then
   κ (.bool false) [some (.box [.str c.Key, .str c.Value])]
  else callP ctx k n_cells_Size [.sl 2 r4a.n (rowOf eCell r4a.w) false] (law10_CellsMeans_r10 k c r4a r7a x138 κ)) := by kernel_rfl
theorem law10_CellsMeans_r9_s (k : Nat) (c : TCell) (key : ByteArray) (r3a : ByteArray) (r3b : Bool) (r4a : Sl TCell) (r7a : Sl TCell) (r7b : Int) (r8a : ByteArray) (r8b : Bool) (r9 : Bool) (κ : AV → Heap → Option ρ) : law10_CellsMeans_r9 k c key r3a r3b r4a r7a r7b r8a r8b κ (.bool r9) =
  (bif !r9 then
   law10_CellsMeans_e2 k c r4a r7a true κ
  else (bif decide (key = c.Key) then
    (bif r8b then
     law10_CellsMeans_e2 k c r4a r7a true κ
    else (bif !decide (key = c.Key) then
      (bif !decide (r8a = r3a) then
       law10_CellsMeans_e2 k c r4a r7a true κ
      else law10_CellsMeans_e2 k c r4a r7a (!(r8b == r3b)) κ)
     else law10_CellsMeans_e2 k c r4a r7a false κ))
   else (bif !decide (key = c.Key) then
     (bif !decide (r8a = r3a) then
      law10_CellsMeans_e2 k c r4a r7a true κ
     else law10_CellsMeans_e2 k c r4a r7a (!(r8b == r3b)) κ)
    else law10_CellsMeans_e2 k c r4a r7a false κ))) := by kernel_rfl
theorem law10_CellsMeans_r10_s (k : Nat) (c : TCell) (r4a : Sl TCell) (r7a : Sl TCell) (x138 : Bool) (r10 : Int) (κ : AV → Heap → Option ρ) : law10_CellsMeans_r10 k c r4a r7a x138 κ (.int .i64 r10) =
  callP ctx k n_cells_Size [.sl 2 r7a.n (rowOf eCell r7a.w) false] (law10_CellsMeans_r11 k c r4a r7a x138 r10 κ) := by kernel_rfl
theorem law10_CellsMeans_r11_s (k : Nat) (c : TCell) (r4a : Sl TCell) (r7a : Sl TCell) (x138 : Bool) (r10 : Int) (r11 : Int) (κ : AV → Heap → Option ρ) : law10_CellsMeans_r11 k c r4a r7a x138 r10 κ (.int .i64 r11) =
  (bif decide (r10 = wi64 (wi64 (wi64 (r11 + 4) + (c.Key.size : Int)) + (c.Value.size : Int))) then
   (bif decide ((r4a.n : Int) = wi64 ((r7a.n : Int) + 1)) then
    callP ctx k n_law10_head [] (law10_CellsMeans_r12 k c r4a r7a x138 r10 r11 κ)
   else law10_CellsMeans_e3 k false κ)
  else law10_CellsMeans_e3 k false κ) := by kernel_rfl
theorem law10_CellsMeans_r12_s (k : Nat) (c : TCell) (r4a : Sl TCell) (r7a : Sl TCell) (x138 : Bool) (r10 : Int) (r11 : Int) (r12 : Bool) (κ : AV → Heap → Option ρ) : law10_CellsMeans_r12 k c r4a r7a x138 r10 r11 κ (.bool r12) =
  law10_CellsMeans_e3 k r12 κ := by kernel_rfl
theorem law10_CellsMeans_e3_s (k : Nat) (x6 : Bool) (κ : AV → Heap → Option ρ) : law10_CellsMeans_e3 k x6 κ =
  κ (.bool x6) [] := by kernel_rfl
theorem law10_CellsMeans_e (k : Nat) (a : (Sl TCell)) (c : TCell) (key : ByteArray) (κ : AV → Heap → Option ρ) : evalF ctx (k + 1) n_law10_CellsMeans [.sl 2 a.n (rowOf eCell a.w) a.u, .agg (eCell c), .str key] [] κ =
  callP ctx k n_law10_great [.sl 2 a.n (rowOf eCell a.w) a.u] (law10_CellsMeans_r0 k a c key κ) := by kernel_rfl
end Go.Proofs.YtpbiclnkbkghaaaC
