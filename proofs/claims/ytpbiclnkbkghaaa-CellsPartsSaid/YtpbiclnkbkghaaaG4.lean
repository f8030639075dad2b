/- What functions come to from one cut to the next. No conditions. -/
import Derived.Test.YtpbiclnkbkghaaaGS
import Derived.KernelRfl
set_option linter.unusedVariables false
set_option maxRecDepth 20000
namespace Go.Proofs.YtpbiclnkbkghaaaC
open Go Go.Ev Go.Proofs
variable {ρ : Type}
noncomputable def law10_CellsParts_r0 (k : Nat) (x : TCuts) (κ : AV → Heap → Option ρ) (v : AV) : Option ρ := resAt ctx k n_law10_CellsParts 0 [.r, .r, .l, .l] 1 [] ⟨(envOf 130 [(3, .sl 2 x.A.n (rowOf eCell x.A.w) x.A.u), (4, .str x.Low), (5, .str x.Mid), (6, .str x.High), (21, .sl 2 x.A.n (rowOf eCell x.A.w) x.A.u), (22, v)]), []⟩ κ
noncomputable def law10_CellsParts_e0 (k : Nat) (x : TCuts) (x52 : Bool) (κ : AV → Heap → Option ρ) : Option ρ := endAt ctx k n_law10_CellsParts 0 [.r, .r, .l, .l] ⟨(envOf 130 [(3, .sl 2 x.A.n (rowOf eCell x.A.w) x.A.u), (4, .str x.Low), (5, .str x.Mid), (6, .str x.High), (52, .bool x52)]), []⟩ κ
noncomputable def law10_CellsParts_r1 (k : Nat) (x : TCuts) (r0 : Bool) (κ : AV → Heap → Option ρ) (v : AV) : Option ρ := resAt ctx k n_law10_CellsParts 0 [.r, .r, .l, .l] 4 [(23, false)] ⟨(envOf 130 [(3, .sl 2 x.A.n (rowOf eCell x.A.w) x.A.u), (4, .str x.Low), (5, .str x.Mid), (6, .str x.High), (21, .sl 2 x.A.n (rowOf eCell x.A.w) x.A.u), (22, .bool r0), (23, .bool r0), (24, .sl 2 x.A.n (rowOf eCell x.A.w) x.A.u), (25, v)]), []⟩ κ
noncomputable def law10_CellsParts_r2 (k : Nat) (x : TCuts) (x52 : Bool) (κ : AV → Heap → Option ρ) (v : AV) : Option ρ := resAt ctx k n_law10_CellsParts 0 [.r, .r, .l, .r, .l, .l] 0 [] ⟨(envOf 130 [(3, .sl 2 x.A.n (rowOf eCell x.A.w) x.A.u), (4, .str x.Low), (5, .str x.Mid), (6, .str x.High), (52, .bool x52), (53, v)]), []⟩ κ
noncomputable def law10_CellsParts_r3 (k : Nat) (x : TCuts) (x52 : Bool) (κ : AV → Heap → Option ρ) (v : AV) : Option ρ := resAt ctx k n_law10_CellsParts 0 [.r, .r, .r, .l] 4 [] ⟨(envOf 130 [(3, .sl 2 x.A.n (rowOf eCell x.A.w) x.A.u), (4, .str x.Low), (5, .str x.Mid), (6, .str x.High), (52, .bool x52), (54, .sl 2 x.A.n (rowOf eCell x.A.w) x.A.u), (55, .str x.Low), (56, .str x.Mid), (57, .agg (eRange ⟨x.Low, x.Mid, true⟩)), (58, v)]), []⟩ κ
noncomputable def law10_CellsParts_r4 (k : Nat) (x : TCuts) (r3 : Sl TCell) (κ : AV → Heap → Option ρ) (v : AV) : Option ρ := resAt ctx k n_law10_CellsParts 0 [.r, .r, .r, .r, .l] 4 [] ⟨(envOf 130 [(3, .sl 2 x.A.n (rowOf eCell x.A.w) x.A.u), (4, .str x.Low), (5, .str x.Mid), (6, .str x.High), (7, .sl 2 r3.n (rowOf eCell r3.w) false), (59, .sl 2 x.A.n (rowOf eCell x.A.w) x.A.u), (60, .str x.Mid), (61, .str x.High), (62, .agg (eRange ⟨x.Mid, x.High, true⟩)), (63, v)]), []⟩ κ
noncomputable def law10_CellsParts_r5 (k : Nat) (x : TCuts) (r3 : Sl TCell) (r4 : Sl TCell) (κ : AV → Heap → Option ρ) (v : AV) : Option ρ := resAt ctx k n_law10_CellsParts 0 [.r, .r, .r, .r, .r, .l] 4 [] ⟨(envOf 130 [(3, .sl 2 x.A.n (rowOf eCell x.A.w) x.A.u), (4, .str x.Low), (6, .str x.High), (7, .sl 2 r3.n (rowOf eCell r3.w) false), (8, .sl 2 r4.n (rowOf eCell r4.w) false), (64, .sl 2 x.A.n (rowOf eCell x.A.w) x.A.u), (65, .str x.Low), (66, .str x.High), (67, .agg (eRange ⟨x.Low, x.High, true⟩)), (68, v)]), []⟩ κ
noncomputable def law10_CellsParts_r6 (k : Nat) (x : TCuts) (r3 : Sl TCell) (r4 : Sl TCell) (r5 : Sl TCell) (κ : AV → Heap → Option ρ) (v : AV) : Option ρ := resAt ctx k n_law10_CellsParts 0 [.r, .r, .r, .r, .r, .r, .l, .l] 5 [] ⟨(envOf 130 [(3, .sl 2 x.A.n (rowOf eCell x.A.w) x.A.u), (7, .sl 2 r3.n (rowOf eCell r3.w) false), (8, .sl 2 r4.n (rowOf eCell r4.w) false), (9, .sl 2 r5.n (rowOf eCell r5.w) false), (69, .sl 2 r3.n (rowOf eCell r3.w) false), (70, .sl 2 0 (rowOf eCell (fun _ => zCell)) true), (71, .sl 2 r4.n (rowOf eCell r4.w) false), (72, .sl 2 0 (rowOf eCell (fun _ => zCell)) true), (73, .sl 2 r5.n (rowOf eCell r5.w) false), (74, v)]), []⟩ κ
noncomputable def law10_CellsParts_r7 (k : Nat) (x : TCuts) (r3 : Sl TCell) (r4 : Sl TCell) (r5 : Sl TCell) (κ : AV → Heap → Option ρ) (v : AV) : Option ρ := retH false [.osl 2 0 0 (0 + r4.n) false, .sl 2 r5.n (rowOf eCell r5.w) false] [some (.arr 2 (0 + r4.n) (catRow 0 (rowOf eCell (fun _ => zCell)) (rowOf eCell r4.w)))] (fun v H => resAt ctx k n_law10_CellsParts 0 [.r, .r, .r, .r, .r, .r, .l, .l] 5 [] ⟨(envOf 130 [(3, .sl 2 x.A.n (rowOf eCell x.A.w) x.A.u), (7, .sl 2 r3.n (rowOf eCell r3.w) false), (8, .sl 2 r4.n (rowOf eCell r4.w) false), (9, .sl 2 r5.n (rowOf eCell r5.w) false), (69, .sl 2 r3.n (rowOf eCell r3.w) false), (70, .sl 2 0 (rowOf eCell (fun _ => zCell)) true), (71, .sl 2 r4.n (rowOf eCell r4.w) false), (72, .osl 2 0 0 (0 + r4.n) false), (73, .sl 2 r5.n (rowOf eCell r5.w) false), (74, v)]), H⟩ κ) v
noncomputable def law10_CellsParts_r8 (k : Nat) (x : TCuts) (r3 : Sl TCell) (r4 : Sl TCell) (r5 : Sl TCell) (x72n : Nat) (w0 : Nat → List AV) (xa0n : Nat) (κ : AV → Heap → Option ρ) (v : AV) : Option ρ := retH false [.osl 2 0 0 xa0n false, .sl 2 r5.n (rowOf eCell r5.w) false] [some (.arr 2 (0 + r3.n) w0)] (fun v H => resAt ctx k n_law10_CellsParts 0 [.r, .r, .r, .r, .r, .r, .l, .l] 5 [] ⟨(envOf 130 [(3, .sl 2 x.A.n (rowOf eCell x.A.w) x.A.u), (7, .sl 2 r3.n (rowOf eCell r3.w) false), (8, .sl 2 r4.n (rowOf eCell r4.w) false), (9, .sl 2 r5.n (rowOf eCell r5.w) false), (69, .sl 2 r3.n (rowOf eCell r3.w) false), (70, .osl 2 0 0 (0 + r3.n) false), (71, .sl 2 r4.n (rowOf eCell r4.w) false), (72, .osl 2 0 0 x72n false), (73, .sl 2 r5.n (rowOf eCell r5.w) false), (74, v)]), H⟩ κ) v
noncomputable def law10_CellsParts_r9 (k : Nat) (x : TCuts) (r3 : Sl TCell) (r4 : Sl TCell) (r5 : Sl TCell) (κ : AV → Heap → Option ρ) (v : AV) : Option ρ := retH false [.osl 2 1 0 ((0 + r3.n) + r4.n) false, .sl 2 r5.n (rowOf eCell r5.w) false] [none, some (.arr 2 ((0 + r3.n) + r4.n) (catRow (0 + r3.n) (catRow 0 (rowOf eCell (fun _ => zCell)) (rowOf eCell r3.w)) (rowOf eCell r4.w)))] (fun v H => resAt ctx k n_law10_CellsParts 0 [.r, .r, .r, .r, .r, .r, .l, .l] 5 [] ⟨(envOf 130 [(3, .sl 2 x.A.n (rowOf eCell x.A.w) x.A.u), (7, .sl 2 r3.n (rowOf eCell r3.w) false), (8, .sl 2 r4.n (rowOf eCell r4.w) false), (9, .sl 2 r5.n (rowOf eCell r5.w) false), (69, .sl 2 r3.n (rowOf eCell r3.w) false), (70, .osl 2 0 0 (0 + r3.n) false), (71, .sl 2 r4.n (rowOf eCell r4.w) false), (72, .osl 2 1 0 ((0 + r3.n) + r4.n) false), (73, .sl 2 r5.n (rowOf eCell r5.w) false), (74, v)]), H⟩ κ) v
noncomputable def law10_CellsParts_r10 (k : Nat) (x : TCuts) (x75 : Bool) (κ : AV → Heap → Option ρ) (v : AV) : Option ρ := resAt ctx k n_law10_CellsParts 0 [.r, .r, .r, .r, .r, .r, .r, .l] 1 [] ⟨(envOf 130 [(3, .sl 2 x.A.n (rowOf eCell x.A.w) x.A.u), (75, .bool x75), (77, .sl 2 x.A.n (rowOf eCell x.A.w) x.A.u), (78, v)]), []⟩ κ
noncomputable def law10_CellsParts_r11 (k : Nat) (x : TCuts) (r10a : Int) (r10b : Int) (κ : AV → Heap → Option ρ) (v : AV) : Option ρ := resAt ctx k n_law10_CellsParts 0 [.r, .r, .r, .r, .r, .r, .r, .r, .l, .r, .l, .l] 4 [(86, true)] ⟨(envOf 130 [(3, .sl 2 x.A.n (rowOf eCell x.A.w) x.A.u), (10, .int .i64 r10a), (11, .int .i64 r10b), (81, .int .i64 r10b), (82, .bool (!decide (r10b = 0))), (83, .sl 2 x.A.n (rowOf eCell x.A.w) x.A.u), (84, .int .i64 (x.A.n : Int)), (85, .bool (decide ((x.A.n : Int) < 2))), (86, .bool (decide ((x.A.n : Int) < 2))), (87, v)]), []⟩ κ
noncomputable def law10_CellsParts_e1 (k : Nat) (x2 : Bool) (κ : AV → Heap → Option ρ) : Option ρ := endAt ctx k n_law10_CellsParts 0 [.r, .r, .r, .r, .r, .r, .r, .r, .l, .r, .l, .l] ⟨(envOf 130 [(2, .bool x2)]), []⟩ κ
noncomputable def law10_CellsParts_e2 (k : Nat) (x : TCuts) (r10a : Int) (x96 : Bool) (κ : AV → Heap → Option ρ) : Option ρ := endAt ctx k n_law10_CellsParts 0 [.r, .r, .r, .r, .r, .r, .r, .r, .r, .l, .l] ⟨(envOf 130 [(3, .sl 2 x.A.n (rowOf eCell x.A.w) x.A.u), (10, .int .i64 r10a), (96, .bool x96)]), []⟩ κ
noncomputable def law10_CellsParts_r12 (k : Nat) (x : TCuts) (r10a : Int) (x96 : Bool) (κ : AV → Heap → Option ρ) (v : AV) : Option ρ := resAt ctx k n_law10_CellsParts 0 [.r, .r, .r, .r, .r, .r, .r, .r, .r, .r, .l] 1 [] ⟨(envOf 130 [(3, .sl 2 x.A.n (rowOf eCell x.A.w) x.A.u), (10, .int .i64 r10a), (96, .bool x96), (97, .sl 2 x.A.n (rowOf eCell x.A.w) x.A.u), (98, v)]), []⟩ κ
noncomputable def law10_CellsParts_r13 (k : Nat) (x : TCuts) (r10a : Int) (r12 : Int) (κ : AV → Heap → Option ρ) (v : AV) : Option ρ := resAt ctx k n_law10_CellsParts 0 [.r, .r, .r, .r, .r, .r, .r, .r, .r, .r, .r, .l] 29 [(127, true), (117, true), (111, true), (101, true)] ⟨(envOf 130 [(3, .sl 2 x.A.n (rowOf eCell x.A.w) x.A.u), (10, .int .i64 r10a), (12, .int .i64 r12), (99, .int .i64 r10a), (100, .bool (decide (r10a = 1))), (101, .bool (decide (r10a = 1))), (102, .und), (103, .und), (104, .und), (105, .und), (106, .und), (107, .und), (108, .und), (109, .und), (110, .bool true), (111, .bool true), (112, .int .i64 r10a), (113, .sl 2 x.A.n (rowOf eCell x.A.w) x.A.u), (114, .int .i64 (x.A.n : Int)), (115, .int .i64 (wi64 ((x.A.n : Int) - 1))), (116, .bool (decide (r10a = wi64 ((x.A.n : Int) - 1)))), (117, .bool (decide (r10a = wi64 ((x.A.n : Int) - 1)))), (118, .und), (119, .und), (120, .und), (121, .und), (122, .und), (123, .und), (124, .und), (125, .bool true), (126, .bool true), (127, .bool true), (128, v)]), []⟩ κ
noncomputable def law10_CellsParts_r14 (k : Nat) (x : TCuts) (r10a : Int) (r12 : Int) (κ : AV → Heap → Option ρ) (v : AV) : Option ρ := resAt ctx k n_law10_CellsParts 0 [.r, .r, .r, .r, .r, .r, .r, .r, .r, .r, .r, .l] 22 [(117, false), (111, true), (101, true)] ⟨(envOf 130 [(3, .sl 2 x.A.n (rowOf eCell x.A.w) x.A.u), (10, .int .i64 r10a), (12, .int .i64 r12), (99, .int .i64 r10a), (100, .bool (decide (r10a = 1))), (101, .bool (decide (r10a = 1))), (102, .und), (103, .und), (104, .und), (105, .und), (106, .und), (107, .und), (108, .und), (109, .und), (110, .bool true), (111, .bool true), (112, .int .i64 r10a), (113, .sl 2 x.A.n (rowOf eCell x.A.w) x.A.u), (114, .int .i64 (x.A.n : Int)), (115, .int .i64 (wi64 ((x.A.n : Int) - 1))), (116, .bool (decide (r10a = wi64 ((x.A.n : Int) - 1)))), (117, .bool (decide (r10a = wi64 ((x.A.n : Int) - 1)))), (118, .sl 2 x.A.n (rowOf eCell x.A.w) x.A.u), (119, .int .i64 r10a), (120, .sl 2 ((r10a).toNat) (rowOf eCell (fun i => x.A.w (0 + i))) (x.A.u && (decide (r10a = (x.A.n : Int))))), (121, v)]), []⟩ κ
noncomputable def law10_CellsParts_r15 (k : Nat) (x : TCuts) (r10a : Int) (r12 : Int) (κ : AV → Heap → Option ρ) (v : AV) : Option ρ := resAt ctx k n_law10_CellsParts 0 [.r, .r, .r, .r, .r, .r, .r, .r, .r, .r, .r, .l] 7 [(101, false)] ⟨(envOf 130 [(3, .sl 2 x.A.n (rowOf eCell x.A.w) x.A.u), (10, .int .i64 r10a), (12, .int .i64 r12), (99, .int .i64 r10a), (100, .bool (decide (r10a = 1))), (101, .bool (decide (r10a = 1))), (102, .sl 2 x.A.n (rowOf eCell x.A.w) x.A.u), (103, .int .i64 r10a), (104, .int .i64 (wi64 (r10a - 1))), (105, .sl 2 ((wi64 (r10a - 1)).toNat) (rowOf eCell (fun i => x.A.w (0 + i))) (x.A.u && (decide (wi64 (r10a - 1) = (x.A.n : Int))))), (106, v)]), []⟩ κ
noncomputable def law10_CellsParts_e3 (k : Nat) (x2 : Bool) (κ : AV → Heap → Option ρ) : Option ρ := endAt ctx k n_law10_CellsParts 0 [.r, .r, .r, .r, .r, .r, .r, .r, .r, .r, .r, .l] ⟨(envOf 130 [(2, .bool x2)]), []⟩ κ
noncomputable def law10_CellsParts_r16 (k : Nat) (x : TCuts) (r10a : Int) (r12 : Int) (r14 : Int) (κ : AV → Heap → Option ρ) (v : AV) : Option ρ := resAt ctx k n_law10_CellsParts 0 [.r, .r, .r, .r, .r, .r, .r, .r, .r, .r, .r, .l] 29 [(127, true), (117, false), (111, true), (101, true)] ⟨(envOf 130 [(3, .sl 2 x.A.n (rowOf eCell x.A.w) x.A.u), (10, .int .i64 r10a), (12, .int .i64 r12), (99, .int .i64 r10a), (100, .bool (decide (r10a = 1))), (101, .bool (decide (r10a = 1))), (102, .und), (103, .und), (104, .und), (105, .und), (106, .und), (107, .und), (108, .und), (109, .und), (110, .bool true), (111, .bool true), (112, .int .i64 r10a), (113, .sl 2 x.A.n (rowOf eCell x.A.w) x.A.u), (114, .int .i64 (x.A.n : Int)), (115, .int .i64 (wi64 ((x.A.n : Int) - 1))), (116, .bool (decide (r10a = wi64 ((x.A.n : Int) - 1)))), (117, .bool (decide (r10a = wi64 ((x.A.n : Int) - 1)))), (118, .sl 2 x.A.n (rowOf eCell x.A.w) x.A.u), (119, .int .i64 r10a), (120, .sl 2 ((r10a).toNat) (rowOf eCell (fun i => x.A.w (0 + i))) (x.A.u && (decide (r10a = (x.A.n : Int))))), (121, .int .i64 r14), (122, .int .i64 (wi64 (2 * r14))), (123, .int .i64 r12), (124, .bool (decide (r12 ≤ wi64 (2 * r14)))), (125, .bool (decide (r12 ≤ wi64 (2 * r14)))), (126, .bool (decide (r12 ≤ wi64 (2 * r14)))), (127, .bool (decide (r12 ≤ wi64 (2 * r14)))), (128, v)]), []⟩ κ
noncomputable def law10_CellsParts_r17 (k : Nat) (x : TCuts) (r10a : Int) (r12 : Int) (r15 : Int) (κ : AV → Heap → Option ρ) (v : AV) : Option ρ := resAt ctx k n_law10_CellsParts 0 [.r, .r, .r, .r, .r, .r, .r, .r, .r, .r, .r, .l] 29 [(127, true), (117, true), (111, true), (101, false)] ⟨(envOf 130 [(3, .sl 2 x.A.n (rowOf eCell x.A.w) x.A.u), (10, .int .i64 r10a), (12, .int .i64 r12), (99, .int .i64 r10a), (100, .bool (decide (r10a = 1))), (101, .bool (decide (r10a = 1))), (102, .sl 2 x.A.n (rowOf eCell x.A.w) x.A.u), (103, .int .i64 r10a), (104, .int .i64 (wi64 (r10a - 1))), (105, .sl 2 ((wi64 (r10a - 1)).toNat) (rowOf eCell (fun i => x.A.w (0 + i))) (x.A.u && (decide (wi64 (r10a - 1) = (x.A.n : Int))))), (106, .int .i64 r15), (107, .int .i64 (wi64 (2 * r15))), (108, .int .i64 r12), (109, .bool (decide (wi64 (2 * r15) < r12))), (110, .bool (decide (wi64 (2 * r15) < r12))), (111, .bool (decide (wi64 (2 * r15) < r12))), (112, .int .i64 r10a), (113, .sl 2 x.A.n (rowOf eCell x.A.w) x.A.u), (114, .int .i64 (x.A.n : Int)), (115, .int .i64 (wi64 ((x.A.n : Int) - 1))), (116, .bool (decide (r10a = wi64 ((x.A.n : Int) - 1)))), (117, .bool (decide (r10a = wi64 ((x.A.n : Int) - 1)))), (118, .und), (119, .und), (120, .und), (121, .und), (122, .und), (123, .und), (124, .und), (125, .bool true), (126, .bool true), (127, .bool true), (128, v)]), []⟩ κ
noncomputable def law10_CellsParts_r18 (k : Nat) (x : TCuts) (r10a : Int) (r12 : Int) (r15 : Int) (κ : AV → Heap → Option ρ) (v : AV) : Option ρ := resAt ctx k n_law10_CellsParts 0 [.r, .r, .r, .r, .r, .r, .r, .r, .r, .r, .r, .l] 22 [(117, false), (111, true), (101, false)] ⟨(envOf 130 [(3, .sl 2 x.A.n (rowOf eCell x.A.w) x.A.u), (10, .int .i64 r10a), (12, .int .i64 r12), (99, .int .i64 r10a), (100, .bool (decide (r10a = 1))), (101, .bool (decide (r10a = 1))), (102, .sl 2 x.A.n (rowOf eCell x.A.w) x.A.u), (103, .int .i64 r10a), (104, .int .i64 (wi64 (r10a - 1))), (105, .sl 2 ((wi64 (r10a - 1)).toNat) (rowOf eCell (fun i => x.A.w (0 + i))) (x.A.u && (decide (wi64 (r10a - 1) = (x.A.n : Int))))), (106, .int .i64 r15), (107, .int .i64 (wi64 (2 * r15))), (108, .int .i64 r12), (109, .bool (decide (wi64 (2 * r15) < r12))), (110, .bool (decide (wi64 (2 * r15) < r12))), (111, .bool (decide (wi64 (2 * r15) < r12))), (112, .int .i64 r10a), (113, .sl 2 x.A.n (rowOf eCell x.A.w) x.A.u), (114, .int .i64 (x.A.n : Int)), (115, .int .i64 (wi64 ((x.A.n : Int) - 1))), (116, .bool (decide (r10a = wi64 ((x.A.n : Int) - 1)))), (117, .bool (decide (r10a = wi64 ((x.A.n : Int) - 1)))), (118, .sl 2 x.A.n (rowOf eCell x.A.w) x.A.u), (119, .int .i64 r10a), (120, .sl 2 ((r10a).toNat) (rowOf eCell (fun i => x.A.w (0 + i))) (x.A.u && (decide (r10a = (x.A.n : Int))))), (121, v)]), []⟩ κ
noncomputable def law10_CellsParts_r19 (k : Nat) (x : TCuts) (r10a : Int) (r12 : Int) (r15 : Int) (r18 : Int) (κ : AV → Heap → Option ρ) (v : AV) : Option ρ := resAt ctx k n_law10_CellsParts 0 [.r, .r, .r, .r, .r, .r, .r, .r, .r, .r, .r, .l] 29 [(127, true), (117, false), (111, true), (101, false)] ⟨(envOf 130 [(3, .sl 2 x.A.n (rowOf eCell x.A.w) x.A.u), (10, .int .i64 r10a), (12, .int .i64 r12), (99, .int .i64 r10a), (100, .bool (decide (r10a = 1))), (101, .bool (decide (r10a = 1))), (102, .sl 2 x.A.n (rowOf eCell x.A.w) x.A.u), (103, .int .i64 r10a), (104, .int .i64 (wi64 (r10a - 1))), (105, .sl 2 ((wi64 (r10a - 1)).toNat) (rowOf eCell (fun i => x.A.w (0 + i))) (x.A.u && (decide (wi64 (r10a - 1) = (x.A.n : Int))))), (106, .int .i64 r15), (107, .int .i64 (wi64 (2 * r15))), (108, .int .i64 r12), (109, .bool (decide (wi64 (2 * r15) < r12))), (110, .bool (decide (wi64 (2 * r15) < r12))), (111, .bool (decide (wi64 (2 * r15) < r12))), (112, .int .i64 r10a), (113, .sl 2 x.A.n (rowOf eCell x.A.w) x.A.u), (114, .int .i64 (x.A.n : Int)), (115, .int .i64 (wi64 ((x.A.n : Int) - 1))), (116, .bool (decide (r10a = wi64 ((x.A.n : Int) - 1)))), (117, .bool (decide (r10a = wi64 ((x.A.n : Int) - 1)))), (118, .sl 2 x.A.n (rowOf eCell x.A.w) x.A.u), (119, .int .i64 r10a), (120, .sl 2 ((r10a).toNat) (rowOf eCell (fun i => x.A.w (0 + i))) (x.A.u && (decide (r10a = (x.A.n : Int))))), (121, .int .i64 r18), (122, .int .i64 (wi64 (2 * r18))), (123, .int .i64 r12), (124, .bool (decide (r12 ≤ wi64 (2 * r18)))), (125, .bool (decide (r12 ≤ wi64 (2 * r18)))), (126, .bool (decide (r12 ≤ wi64 (2 * r18)))), (127, .bool (decide (r12 ≤ wi64 (2 * r18)))), (128, v)]), []⟩ κ
theorem law10_CellsParts_r0_s (k : Nat) (x : TCuts) (r0 : Bool) (κ : AV → Heap → Option ρ) : law10_CellsParts_r0 k x κ (.bool r0) =
  (bif r0 then
   law10_CellsParts_e0 k x true κ
  else callP ctx k n_cells_Right [.sl 2 x.A.n (rowOf eCell x.A.w) x.A.u] (law10_CellsParts_r1 k x r0 κ)) := by kernel_rfl
theorem law10_CellsParts_e0_s (k : Nat) (x : TCuts) (x52 : Bool) (κ : AV → Heap → Option ρ) : law10_CellsParts_e0 k x x52 κ =
  (bif x52 then
   callP ctx k n_law10_head [] (law10_CellsParts_r2 k x x52 κ)
  else callP ctx k n_cells_Part [.sl 2 x.A.n (rowOf eCell x.A.w) x.A.u, .agg (eRange ⟨x.Low, x.Mid, true⟩)] (law10_CellsParts_r3 k x x52 κ)) := by kernel_rfl
theorem law10_CellsParts_r1_s (k : Nat) (x : TCuts) (r0 : Bool) (r1 : Bool) (κ : AV → Heap → Option ρ) : law10_CellsParts_r1 k x r0 κ (.bool r1) =
  (bif !r1 then
   law10_CellsParts_e0 k x true κ
  else (bif decide (500 < (x.Low.size : Int)) then
    law10_CellsParts_e0 k x true κ
   else (bif decide (500 < (x.Mid.size : Int)) then
     law10_CellsParts_e0 k x true κ
    else (bif decide (500 < (x.High.size : Int)) then
      law10_CellsParts_e0 k x true κ
     else (bif !bl x.Low x.Mid then
       law10_CellsParts_e0 k x true κ
      else law10_CellsParts_e0 k x (!bl x.Mid x.High) κ))))) := by kernel_rfl
theorem law10_CellsParts_r2_s (k : Nat) (x : TCuts) (x52 : Bool) (r2 : Bool) (κ : AV → Heap → Option ρ) : law10_CellsParts_r2 k x x52 κ (.bool r2) =
  κ (.bool r2) [] := by kernel_rfl
theorem law10_CellsParts_r3_s (k : Nat) (x : TCuts) (x52 : Bool) (r3 : Sl TCell) (κ : AV → Heap → Option ρ) : law10_CellsParts_r3 k x x52 κ (.sl 2 r3.n (rowOf eCell r3.w) false) =
  callP ctx k n_cells_Part [.sl 2 x.A.n (rowOf eCell x.A.w) x.A.u, .agg (eRange ⟨x.Mid, x.High, true⟩)] (law10_CellsParts_r4 k x r3 κ) := by kernel_rfl
theorem law10_CellsParts_r4_s (k : Nat) (x : TCuts) (r3 : Sl TCell) (r4 : Sl TCell) (κ : AV → Heap → Option ρ) : law10_CellsParts_r4 k x r3 κ (.sl 2 r4.n (rowOf eCell r4.w) false) =
  callP ctx k n_cells_Part [.sl 2 x.A.n (rowOf eCell x.A.w) x.A.u, .agg (eRange ⟨x.Low, x.High, true⟩)] (law10_CellsParts_r5 k x r3 r4 κ) := by kernel_rfl
theorem law10_CellsParts_r5_s (k : Nat) (x : TCuts) (r3 : Sl TCell) (r4 : Sl TCell) (r5 : Sl TCell) (κ : AV → Heap → Option ρ) : law10_CellsParts_r5 k x r3 r4 κ (.sl 2 r5.n (rowOf eCell r5.w) false) =
  (bif decide (r3.n = 0) then
   (bif decide (r4.n = 0) then
    callP ctx k n_cells_Same [.sl 2 0 (rowOf eCell (fun _ => zCell)) true, .sl 2 r5.n (rowOf eCell r5.w) false] (law10_CellsParts_r6 k x r3 r4 r5 κ)
   else (bif roomOf (0 + r4.n) 32 then
     callP ctx k n_cells_Same [.sl 2 (0 + r4.n) (shRow 0 (catRow 0 (rowOf eCell (fun _ => zCell)) (rowOf eCell r4.w))) false, .sl 2 r5.n (rowOf eCell r5.w) false] (law10_CellsParts_r7 k x r3 r4 r5 κ)
    else none))
  else (bif roomOf (0 + r3.n) 32 then
    (bif decide (r4.n = 0) then
     callP ctx k n_cells_Same [.sl 2 (0 + r3.n) (shRow 0 (catRow 0 (rowOf eCell (fun _ => zCell)) (rowOf eCell r3.w))) false, .sl 2 r5.n (rowOf eCell r5.w) false] (law10_CellsParts_r8 k x r3 r4 r5 (0 + r3.n) (catRow 0 (rowOf eCell (fun _ => zCell)) (rowOf eCell r3.w)) (0 + r3.n) κ)
    else (bif decide (((0 + (0 + r3.n)) + r4.n) ≤ (0 + r3.n)) then
      callP ctx k n_cells_Same [.sl 2 ((0 + r3.n) + r4.n) (shRow 0 (putRow (0 + (0 + r3.n)) ((0 + (0 + r3.n)) + r4.n) (rowOf eCell r4.w) (catRow 0 (rowOf eCell (fun _ => zCell)) (rowOf eCell r3.w)))) false, .sl 2 r5.n (rowOf eCell r5.w) false] (law10_CellsParts_r8 k x r3 r4 r5 ((0 + r3.n) + r4.n) (putRow (0 + (0 + r3.n)) ((0 + (0 + r3.n)) + r4.n) (rowOf eCell r4.w) (catRow 0 (rowOf eCell (fun _ => zCell)) (rowOf eCell r3.w))) ((0 + r3.n) + r4.n) κ)
     else (bif ((decide ((0 + r3.n) = (0 + r3.n))) && (roomOf ((0 + r3.n) + r4.n) 32)) then
       callP ctx k n_cells_Same [.sl 2 ((0 + r3.n) + r4.n) (shRow 0 (catRow (0 + r3.n) (catRow 0 (rowOf eCell (fun _ => zCell)) (rowOf eCell r3.w)) (rowOf eCell r4.w))) false, .sl 2 r5.n (rowOf eCell r5.w) false] (law10_CellsParts_r9 k x r3 r4 r5 κ)
      else none)))
   else none)) := by kernel_rfl
theorem law10_CellsParts_r6_s (k : Nat) (x : TCuts) (r3 : Sl TCell) (r4 : Sl TCell) (r5 : Sl TCell) (r6 : Bool) (κ : AV → Heap → Option ρ) : law10_CellsParts_r6 k x r3 r4 r5 κ (.bool r6) =
  (bif !r6 then
   κ (.bool false) []
  else callP ctx k n_cells_Half [.sl 2 x.A.n (rowOf eCell x.A.w) x.A.u] (law10_CellsParts_r10 k x (!r6) κ)) := by kernel_rfl
theorem law10_CellsParts_r7_s (k : Nat) (x : TCuts) (r3 : Sl TCell) (r4 : Sl TCell) (r5 : Sl TCell) (r7 : Bool) (κ : AV → Heap → Option ρ) : law10_CellsParts_r7 k x r3 r4 r5 κ (.bool r7) =
  (bif !r7 then
   κ (.bool false) []
  else callP ctx k n_cells_Half [.sl 2 x.A.n (rowOf eCell x.A.w) x.A.u] (law10_CellsParts_r10 k x (!r7) κ)) := by kernel_rfl
theorem law10_CellsParts_r8_s (k : Nat) (x : TCuts) (r3 : Sl TCell) (r4 : Sl TCell) (r5 : Sl TCell) (x72n : Nat) (w0 : Nat → TCell) (xa0n : Nat) (r8 : Bool) (κ : AV → Heap → Option ρ) : law10_CellsParts_r8 k x r3 r4 r5 x72n (rowOf eCell w0) xa0n κ (.bool r8) =
  (bif !r8 then
   κ (.bool false) []
  else callP ctx k n_cells_Half [.sl 2 x.A.n (rowOf eCell x.A.w) x.A.u] (law10_CellsParts_r10 k x (!r8) κ)) := by kernel_rfl
theorem law10_CellsParts_r9_s (k : Nat) (x : TCuts) (r3 : Sl TCell) (r4 : Sl TCell) (r5 : Sl TCell) (r9 : Bool) (κ : AV → Heap → Option ρ) : law10_CellsParts_r9 k x r3 r4 r5 κ (.bool r9) =
  (bif !r9 then
   κ (.bool false) []
  else callP ctx k n_cells_Half [.sl 2 x.A.n (rowOf eCell x.A.w) x.A.u] (law10_CellsParts_r10 k x (!r9) κ)) := by kernel_rfl
theorem law10_CellsParts_r10_s (k : Nat) (x : TCuts) (x75 : Bool) (r10a : Int) (r10b : Int) (κ : AV → Heap → Option ρ) : law10_CellsParts_r10 k x x75 κ (.tup [.int .i64 r10a, .int .i64 r10b]) =
  (bif !decide (r10b = 0) then
   (bif decide ((x.A.n : Int) < 2) then
    callP ctx k n_law10_head [] (law10_CellsParts_r11 k x r10a r10b κ)
   else law10_CellsParts_e1 k false κ)
  else (bif decide (r10a < 1) then
    law10_CellsParts_e2 k x r10a true κ
   else law10_CellsParts_e2 k x r10a (decide ((x.A.n : Int) ≤ r10a)) κ)) := by kernel_rfl
theorem law10_CellsParts_r11_s (k : Nat) (x : TCuts) (r10a : Int) (r10b : Int) (r11 : Bool) (κ : AV → Heap → Option ρ) : law10_CellsParts_r11 k x r10a r10b κ (.bool r11) =
  law10_CellsParts_e1 k r11 κ := by kernel_rfl
theorem law10_CellsParts_e1_s (k : Nat) (x2 : Bool) (κ : AV → Heap → Option ρ) : law10_CellsParts_e1 k x2 κ =
  κ (.bool x2) [] := by kernel_rfl
theorem law10_CellsParts_e2_s (k : Nat) (x : TCuts) (r10a : Int) (x96 : Bool) (κ : AV → Heap → Option ρ) : law10_CellsParts_e2 k x r10a x96 κ =
  (bif x96 then
   κ (.bool false) []
  else callP ctx k n_cells_Size [.sl 2 x.A.n (rowOf eCell x.A.w) x.A.u] (law10_CellsParts_r12 k x r10a x96 κ)) := by kernel_rfl
theorem law10_CellsParts_r12_s (k : Nat) (x : TCuts) (r10a : Int) (x96 : Bool) (r12 : Int) (κ : AV → Heap → Option ρ) : law10_CellsParts_r12 k x r10a x96 κ (.int .i64 r12) =
  (bif decide (r10a = 1) then
   (bif decide (r10a = wi64 ((x.A.n : Int) - 1)) then
    callP ctx k n_law10_head [] (law10_CellsParts_r13 k x r10a r12 κ)
   else (bif cutOK x.A.n 0 r10a (x.A.n : Int) then
     callP ctx k n_cells_Size [.sl 2 ((r10a).toNat) (rowOf eCell (fun i => x.A.w (0 + i))) (x.A.u && (decide (r10a = (x.A.n : Int))))] (law10_CellsParts_r14 k x r10a r12 κ)
    else none))
  else (bif cutOK x.A.n 0 (wi64 (r10a - 1)) (x.A.n : Int) then
    callP ctx k n_cells_Size [.sl 2 ((wi64 (r10a - 1)).toNat) (rowOf eCell (fun i => x.A.w (0 + i))) (x.A.u && (decide (wi64 (r10a - 1) = (x.A.n : Int))))] (law10_CellsParts_r15 k x r10a r12 κ)
   else none)) := by kernel_rfl
theorem law10_CellsParts_r13_s (k : Nat) (x : TCuts) (r10a : Int) (r12 : Int) (r13 : Bool) (κ : AV → Heap → Option ρ) : law10_CellsParts_r13 k x r10a r12 κ (.bool r13) =
  law10_CellsParts_e3 k r13 κ := by kernel_rfl
theorem law10_CellsParts_r14_s (k : Nat) (x : TCuts) (r10a : Int) (r12 : Int) (r14 : Int) (κ : AV → Heap → Option ρ) : law10_CellsParts_r14 k x r10a r12 κ (.int .i64 r14) =
  (bif decide (r12 ≤ wi64 (2 * r14)) then
   callP ctx k n_law10_head [] (law10_CellsParts_r16 k x r10a r12 r14 κ)
  else law10_CellsParts_e3 k false κ) := by kernel_rfl
theorem law10_CellsParts_r15_s (k : Nat) (x : TCuts) (r10a : Int) (r12 : Int) (r15 : Int) (κ : AV → Heap → Option ρ) : law10_CellsParts_r15 k x r10a r12 κ (.int .i64 r15) =
  (bif decide (wi64 (2 * r15) < r12) then
   (bif decide (r10a = wi64 ((x.A.n : Int) - 1)) then
    callP ctx k n_law10_head [] (law10_CellsParts_r17 k x r10a r12 r15 κ)
   else (bif cutOK x.A.n 0 r10a (x.A.n : Int) then
     callP ctx k n_cells_Size [.sl 2 ((r10a).toNat) (rowOf eCell (fun i => x.A.w (0 + i))) (x.A.u && (decide (r10a = (x.A.n : Int))))] (law10_CellsParts_r18 k x r10a r12 r15 κ)
    else none))
  else law10_CellsParts_e3 k false κ) := by kernel_rfl
theorem law10_CellsParts_e3_s (k : Nat) (x2 : Bool) (κ : AV → Heap → Option ρ) : law10_CellsParts_e3 k x2 κ =
  κ (.bool x2) [] := by kernel_rfl
theorem law10_CellsParts_r16_s (k : Nat) (x : TCuts) (r10a : Int) (r12 : Int) (r14 : Int) (r16 : Bool) (κ : AV → Heap → Option ρ) : law10_CellsParts_r16 k x r10a r12 r14 κ (.bool r16) =
  law10_CellsParts_e3 k r16 κ := by kernel_rfl
theorem law10_CellsParts_r17_s (k : Nat) (x : TCuts) (r10a : Int) (r12 : Int) (r15 : Int) (r17 : Bool) (κ : AV → Heap → Option ρ) : law10_CellsParts_r17 k x r10a r12 r15 κ (.bool r17) =
  law10_CellsParts_e3 k r17 κ := by kernel_rfl
theorem law10_CellsParts_r18_s (k : Nat) (x : TCuts) (r10a : Int) (r12 : Int) (r15 : Int) (r18 : Int) (κ : AV → Heap → Option ρ) : law10_CellsParts_r18 k x r10a r12 r15 κ (.int .i64 r18) =
  (bif decide (r12 ≤ wi64 (2 * r18)) then
   callP ctx k n_law10_head [] (law10_CellsParts_r19 k x r10a r12 r15 r18 κ)
  else law10_CellsParts_e3 k false κ) := by kernel_rfl
theorem law10_CellsParts_r19_s (k : Nat) (x : TCuts) (r10a : Int) (r12 : Int) (r15 : Int) (r18 : Int) (r19 : Bool) (κ : AV → Heap → Option ρ) : law10_CellsParts_r19 k x r10a r12 r15 r18 κ (.bool r19) =
  law10_CellsParts_e3 k r19 κ := by kernel_rfl
theorem law10_CellsParts_e (k : Nat) (x : TCuts) (κ : AV → Heap → Option ρ) : evalF ctx (k + 1) n_law10_CellsParts [.agg (eCuts x)] [] κ =
  callP ctx k n_law10_great [.sl 2 x.A.n (rowOf eCell x.A.w) x.A.u] (law10_CellsParts_r0 k x κ) := by kernel_rfl
end Go.Proofs.YtpbiclnkbkghaaaC
