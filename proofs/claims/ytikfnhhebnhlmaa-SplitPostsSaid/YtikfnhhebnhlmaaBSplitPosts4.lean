/- For every parent, every child and every number Post tells what the document tells, and what it hands back shares nothing with the parent: the law's function hands back true and leaves what it was handed. No conditions. -/
import Derived.Test.YtikfnhhebnhlmaaBSplitPosts3
import Derived.KernelRfl
import Derived.Test.YtikfnhhebnhlmaaRows
import Derived.WalkKit
import Derived.ProofKit
import Derived.OpenShut
import Derived.ShutString
import Derived.ChangeOld
import Derived.Below
import Derived.SizedLaws
import Derived.Carry
set_option linter.unusedVariables false
set_option maxRecDepth 20000
namespace Go.Proofs.YtikfnhhebnhlmaaC
open Go Go.Ev Go.Proofs
variable {ρ : Type}
noncomputable def law15_SplitPosts_h0 (k j : Nat) (parent : TPage) (b1_0 : Int) (b1_1 : Int) (b1_2 : Int) (b1_3 : ByteArray) (b1_4 : ByteArray) (b1_5 : Bool) (b1_6 : Int) (b1_7 : Int) (b1_8 : Sl Int) (b1_9 : Sl TCell) (κ : AV → Heap → Option ρ) : Option ρ := headAt ctx k n_law15_SplitPosts 0 [.r, .r, .r, .r, .r, .r, .l, .r] j ⟨(envOf 65 [(3, .ref 0 0), (7, .ref 1 0), (8, .ref 2 0), (12, .int .i64 0)]), [some (.box (ePage parent)), some (.box (ePage ⟨b1_0, b1_1, b1_2, b1_3, b1_4, b1_5, b1_6, ⟨b1_7, ⟨b1_8.n, b1_8.w, false⟩⟩, ⟨b1_9.n, b1_9.w, false⟩⟩)), some (.box (ePage zPage))]⟩ κ
noncomputable def law15_SplitPosts_h1 (k j : Nat) (parent : TPage) (x12 : Int) (w3 : Nat → List AV) (b1_0 : Int) (b1_1 : Int) (b1_2 : Int) (b1_3 : ByteArray) (b1_4 : ByteArray) (b1_5 : Bool) (b1_6 : Int) (b1_7 : Int) (b1_8 : Sl Int) (b1_9 : Sl TCell) (b2_0 : Int) (b2_1 : Int) (b2_2 : Int) (b2_3 : ByteArray) (b2_4 : ByteArray) (b2_5 : Bool) (b2_6 : Int) (b2_7 : Int) (b2_8 : Sl Int) (b2_9n : Nat) (n3 : Nat) (κ : AV → Heap → Option ρ) : Option ρ := headAt ctx k n_law15_SplitPosts 0 [.r, .r, .r, .r, .r, .r, .l, .r] j ⟨(envOf 65 [(3, .ref 0 0), (7, .ref 1 0), (8, .ref 2 0), (12, .int .i64 x12)]), [some (.box (ePage parent)), some (.box (ePage ⟨b1_0, b1_1, b1_2, b1_3, b1_4, b1_5, b1_6, ⟨b1_7, ⟨b1_8.n, b1_8.w, false⟩⟩, ⟨b1_9.n, b1_9.w, false⟩⟩)), some (.box [.int .u64 b2_0, .int .u64 b2_1, .int .u8 b2_2, .str b2_3, .str b2_4, .bool b2_5, .int .u64 b2_6, .int .u64 b2_7, .sl 1 b2_8.n (rowOf (eI .u64) b2_8.w) b2_8.u, .osl 2 3 0 b2_9n false]), some (.arr 2 n3 w3)]⟩ κ
noncomputable def law15_SplitPosts_r0 (k : Nat) (parent : TPage) (child : TPage) (dsn : Int) (κ : AV → Heap → Option ρ) (v : AV) : Option ρ := resAt ctx k n_law15_SplitPosts 0 [.r, .l, .l] 1 [] ⟨(envOf 65 [(2, .int .u64 dsn), (3, .ref 0 0), (4, .ref 1 0), (13, .agg (ePage parent)), (14, v)]), [some (.box (ePage parent)), some (.box (ePage child))]⟩ κ
noncomputable def law15_SplitPosts_r1 (k : Nat) (parent : TPage) (b1_0 : Int) (b1_1 : Int) (b1_2 : Int) (b1_3 : ByteArray) (b1_4 : ByteArray) (b1_5 : Bool) (b1_6 : Int) (b1_7 : Int) (b1_8 : Sl Int) (b1_9 : Sl TCell) (κ : AV → Heap → Option ρ) (v : AV) : Option ρ := resAt ctx k n_law15_SplitPosts 0 [.r, .r, .r, .r, .r, .r, .r, .l] 2 [] ⟨(envOf 65 [(3, .ref 0 0), (7, .ref 1 0), (8, .ref 2 0), (12, .int .i64 0), (51, .bool false), (59, .agg (ePage ⟨b1_0, b1_1, b1_2, b1_3, b1_4, b1_5, b1_6, ⟨b1_7, ⟨b1_8.n, b1_8.w, false⟩⟩, ⟨b1_9.n, b1_9.w, false⟩⟩)), (60, .agg (ePage parent)), (61, v)]), [some (.box (ePage parent)), some (.box (ePage ⟨b1_0, b1_1, b1_2, b1_3, b1_4, b1_5, b1_6, ⟨b1_7, ⟨b1_8.n, b1_8.w, false⟩⟩, ⟨b1_9.n, b1_9.w, false⟩⟩)), some (.box (ePage zPage))]⟩ κ
noncomputable def law15_SplitPosts_r2 (k : Nat) (parent : TPage) (x12 : Int) (w3 : Nat → TCell) (b1_0 : Int) (b1_1 : Int) (b1_2 : Int) (b1_3 : ByteArray) (b1_4 : ByteArray) (b1_5 : Bool) (b1_6 : Int) (b1_7 : Int) (b1_8 : Sl Int) (b1_9 : Sl TCell) (b2_0 : Int) (b2_1 : Int) (b2_2 : Int) (b2_3 : ByteArray) (b2_4 : ByteArray) (b2_5 : Bool) (b2_6 : Int) (b2_7 : Int) (b2_8 : Sl Int) (b2_9n : Nat) (n3 : Nat) (κ : AV → Heap → Option ρ) (v : AV) : Option ρ := resAt ctx k n_law15_SplitPosts 0 [.r, .r, .r, .r, .r, .r, .r, .l] 2 [] ⟨(envOf 65 [(3, .ref 0 0), (7, .ref 1 0), (8, .ref 2 0), (12, .int .i64 x12), (51, .bool (decide (x12 < (b2_9n : Int)))), (59, .agg (ePage ⟨b1_0, b1_1, b1_2, b1_3, b1_4, b1_5, b1_6, ⟨b1_7, ⟨b1_8.n, b1_8.w, false⟩⟩, ⟨b1_9.n, b1_9.w, false⟩⟩)), (60, .agg (ePage parent)), (61, v)]), [some (.box (ePage parent)), some (.box (ePage ⟨b1_0, b1_1, b1_2, b1_3, b1_4, b1_5, b1_6, ⟨b1_7, ⟨b1_8.n, b1_8.w, false⟩⟩, ⟨b1_9.n, b1_9.w, false⟩⟩)), some (.box [.int .u64 b2_0, .int .u64 b2_1, .int .u8 b2_2, .str b2_3, .str b2_4, .bool b2_5, .int .u64 b2_6, .int .u64 b2_7, .sl 1 b2_8.n (rowOf (eI .u64) b2_8.w) b2_8.u, .osl 2 3 0 b2_9n false]), some (.arr 2 n3 (rowOf eCell w3))]⟩ κ
noncomputable def law15_SplitPosts_r3 (k : Nat) (parent : TPage) (child : TPage) (dsn : Int) (x20 : Bool) (κ : AV → Heap → Option ρ) (v : AV) : Option ρ := resAt ctx k n_law15_SplitPosts 0 [.r, .l, .r, .l, .l] 0 [] ⟨(envOf 65 [(2, .int .u64 dsn), (3, .ref 0 0), (4, .ref 1 0), (20, .bool x20), (21, v)]), [some (.box (ePage parent)), some (.box (ePage child))]⟩ κ
noncomputable def law15_SplitPosts_r4 (k : Nat) (parent : TPage) (child : TPage) (dsn : Int) (r0 : Bool) (κ : AV → Heap → Option ρ) (v : AV) : Option ρ := resAt ctx k n_law15_SplitPosts 0 [.r, .l, .l] 5 [(16, false)] ⟨(envOf 65 [(2, .int .u64 dsn), (3, .ref 0 0), (4, .ref 1 0), (13, .agg (ePage parent)), (14, .bool r0), (15, .bool (!r0)), (16, .bool (!r0)), (17, .agg (ePage child)), (18, v)]), [some (.box (ePage parent)), some (.box (ePage child))]⟩ κ
noncomputable def law15_SplitPosts_r5 (k : Nat) (parent : TPage) (r1 : Bool) (b1_0 : Int) (b1_1 : Int) (b1_2 : Int) (b1_3 : ByteArray) (b1_4 : ByteArray) (b1_5 : Bool) (b1_6 : Int) (b1_7 : Int) (b1_8 : Sl Int) (b1_9 : Sl TCell) (κ : AV → Heap → Option ρ) (v : AV) : Option ρ := resAt ctx k n_law15_SplitPosts 0 [.r, .r, .r, .r, .r, .r, .r, .l] 4 [(62, true)] ⟨(envOf 65 [(3, .ref 0 0), (7, .ref 1 0), (8, .ref 2 0), (12, .int .i64 0), (51, .bool false), (59, .agg (ePage ⟨b1_0, b1_1, b1_2, b1_3, b1_4, b1_5, b1_6, ⟨b1_7, ⟨b1_8.n, b1_8.w, false⟩⟩, ⟨b1_9.n, b1_9.w, false⟩⟩)), (60, .agg (ePage parent)), (61, .bool r1), (62, .bool r1), (63, v)]), [some (.box (ePage parent)), some (.box (ePage ⟨b1_0, b1_1, b1_2, b1_3, b1_4, b1_5, b1_6, ⟨b1_7, ⟨b1_8.n, b1_8.w, false⟩⟩, ⟨b1_9.n, b1_9.w, false⟩⟩)), some (.box (ePage zPage))]⟩ κ
noncomputable def law15_SplitPosts_r6 (k : Nat) (parent : TPage) (r2 : Bool) (x12 : Int) (w3 : Nat → TCell) (b1_0 : Int) (b1_1 : Int) (b1_2 : Int) (b1_3 : ByteArray) (b1_4 : ByteArray) (b1_5 : Bool) (b1_6 : Int) (b1_7 : Int) (b1_8 : Sl Int) (b1_9 : Sl TCell) (b2_0 : Int) (b2_1 : Int) (b2_2 : Int) (b2_3 : ByteArray) (b2_4 : ByteArray) (b2_5 : Bool) (b2_6 : Int) (b2_7 : Int) (b2_8 : Sl Int) (b2_9n : Nat) (n3 : Nat) (κ : AV → Heap → Option ρ) (v : AV) : Option ρ := resAt ctx k n_law15_SplitPosts 0 [.r, .r, .r, .r, .r, .r, .r, .l] 4 [(62, true)] ⟨(envOf 65 [(3, .ref 0 0), (7, .ref 1 0), (8, .ref 2 0), (12, .int .i64 x12), (51, .bool (decide (x12 < (b2_9n : Int)))), (59, .agg (ePage ⟨b1_0, b1_1, b1_2, b1_3, b1_4, b1_5, b1_6, ⟨b1_7, ⟨b1_8.n, b1_8.w, false⟩⟩, ⟨b1_9.n, b1_9.w, false⟩⟩)), (60, .agg (ePage parent)), (61, .bool r2), (62, .bool r2), (63, v)]), [some (.box (ePage parent)), some (.box (ePage ⟨b1_0, b1_1, b1_2, b1_3, b1_4, b1_5, b1_6, ⟨b1_7, ⟨b1_8.n, b1_8.w, false⟩⟩, ⟨b1_9.n, b1_9.w, false⟩⟩)), some (.box [.int .u64 b2_0, .int .u64 b2_1, .int .u8 b2_2, .str b2_3, .str b2_4, .bool b2_5, .int .u64 b2_6, .int .u64 b2_7, .sl 1 b2_8.n (rowOf (eI .u64) b2_8.w) b2_8.u, .osl 2 3 0 b2_9n false]), some (.arr 2 n3 (rowOf eCell w3))]⟩ κ
noncomputable def law15_SplitPosts_r7 (k : Nat) (parent : TPage) (child : TPage) (dsn : Int) (r4 : Bool) (κ : AV → Heap → Option ρ) (v : AV) : Option ρ := resAt ctx k n_law15_SplitPosts 0 [.r, .r, .l] 1 [] ⟨(envOf 65 [(2, .int .u64 dsn), (3, .ref 0 0), (4, .ref 1 0), (20, .bool (!r4)), (22, .agg (ePage parent)), (23, v)]), [some (.box (ePage parent)), some (.box (ePage child))]⟩ κ
noncomputable def law15_SplitPosts_r8 (k : Nat) (parent : TPage) (child : TPage) (dsn : Int) (r7 : TPage) (κ : AV → Heap → Option ρ) (v : AV) (W : Heap) : Option ρ := backF [.agg (ePage ⟨r7.Id, r7.Right, r7.Level, r7.Low, r7.High, r7.End, r7.Dsn, ⟨r7.Set.Low, ⟨r7.Set.In.n, r7.Set.In.w, false⟩⟩, ⟨r7.Cells.n, r7.Cells.w, false⟩⟩), .agg (ePage child), .int .u64 dsn] [some (.box (ePage parent)), some (.box (ePage child)), some (.box (ePage ⟨r7.Id, r7.Right, r7.Level, r7.Low, r7.High, r7.End, r7.Dsn, ⟨r7.Set.Low, ⟨r7.Set.In.n, r7.Set.In.w, false⟩⟩, ⟨r7.Cells.n, r7.Cells.w, false⟩⟩))] (fun v H => resAt ctx k n_law15_SplitPosts 0 [.r, .r, .r, .l] 3 [] ⟨(envOf 65 [(2, .int .u64 dsn), (3, .ref 0 0), (4, .ref 1 0), (7, .ref 2 0), (25, .agg (ePage ⟨r7.Id, r7.Right, r7.Level, r7.Low, r7.High, r7.End, r7.Dsn, ⟨r7.Set.Low, ⟨r7.Set.In.n, r7.Set.In.w, false⟩⟩, ⟨r7.Cells.n, r7.Cells.w, false⟩⟩)), (26, .agg (ePage child)), (27, .int .u64 dsn), (28, v)]), H⟩ κ) v W
noncomputable def law15_SplitPosts_r9 (k : Nat) (parent : TPage) (child : TPage) (dsn : Int) (r7 : TPage) (r8e : Int) (κ : AV → Heap → Option ρ) (v : AV) : Option ρ := resAt ctx k n_law15_SplitPosts 0 [.r, .r, .r, .r, .l] 3 [] ⟨(envOf 65 [(2, .int .u64 dsn), (3, .ref 0 0), (4, .ref 1 0), (7, .ref 2 0), (8, .ref 3 0), (9, .int .i64 r8e), (32, .agg (ePage parent)), (33, .agg (ePage child)), (34, .int .u64 dsn), (35, v)]), [some (.box (ePage parent)), some (.box (ePage child)), some (.box (ePage ⟨r7.Id, r7.Right, r7.Level, r7.Low, r7.High, r7.End, r7.Dsn, ⟨r7.Set.Low, ⟨r7.Set.In.n, r7.Set.In.w, false⟩⟩, ⟨r7.Cells.n, r7.Cells.w, false⟩⟩)), some (.box (ePage zPage))]⟩ κ
noncomputable def law15_SplitPosts_r10 (k : Nat) (parent : TPage) (child : TPage) (dsn : Int) (r7 : TPage) (r8 : TPage) (r8n : Nat) (r8w : Nat → TCell) (κ : AV → Heap → Option ρ) (v : AV) : Option ρ := resAt ctx k n_law15_SplitPosts 0 [.r, .r, .r, .r, .l] 3 [] ⟨(envOf 65 [(2, .int .u64 dsn), (3, .ref 0 0), (4, .ref 1 0), (7, .ref 2 0), (8, .ref 3 0), (9, .int .i64 0), (32, .agg (ePage parent)), (33, .agg (ePage child)), (34, .int .u64 dsn), (35, v)]), [some (.box (ePage parent)), some (.box (ePage child)), some (.box (ePage ⟨r7.Id, r7.Right, r7.Level, r7.Low, r7.High, r7.End, r7.Dsn, ⟨r7.Set.Low, ⟨r7.Set.In.n, r7.Set.In.w, false⟩⟩, ⟨r7.Cells.n, r7.Cells.w, false⟩⟩)), some (.box [.int .u64 r8.Id, .int .u64 r8.Right, .int .u8 r8.Level, .str r8.Low, .str r8.High, .bool r8.End, .int .u64 r8.Dsn, .int .u64 r8.Set.Low, .sl 1 r8.Set.In.n (rowOf (eI .u64) r8.Set.In.w) r8.Set.In.u, .osl 2 4 0 r8n false]), some (.arr 2 r8n (rowOf eCell r8w))]⟩ κ
noncomputable def law15_SplitPosts_r11 (k : Nat) (parent : TPage) (r7 : TPage) (r8e : Int) (r9a : TPage) (r9b : Int) (κ : AV → Heap → Option ρ) (v : AV) : Option ρ := resAt ctx k n_law15_SplitPosts 0 [.r, .r, .r, .r, .r, .l, .l] 2 [] ⟨(envOf 65 [(3, .ref 0 0), (7, .ref 1 0), (8, .ref 2 0), (9, .int .i64 r8e), (10, .ref 3 0), (11, .int .i64 r9b), (38, .agg (ePage zPage)), (39, .agg (ePage ⟨r9a.Id, r9a.Right, r9a.Level, r9a.Low, r9a.High, r9a.End, r9a.Dsn, ⟨r9a.Set.Low, ⟨r9a.Set.In.n, r9a.Set.In.w, false⟩⟩, ⟨r9a.Cells.n, r9a.Cells.w, false⟩⟩)), (40, v)]), [some (.box (ePage parent)), some (.box (ePage ⟨r7.Id, r7.Right, r7.Level, r7.Low, r7.High, r7.End, r7.Dsn, ⟨r7.Set.Low, ⟨r7.Set.In.n, r7.Set.In.w, false⟩⟩, ⟨r7.Cells.n, r7.Cells.w, false⟩⟩)), some (.box (ePage zPage)), some (.box (ePage ⟨r9a.Id, r9a.Right, r9a.Level, r9a.Low, r9a.High, r9a.End, r9a.Dsn, ⟨r9a.Set.Low, ⟨r9a.Set.In.n, r9a.Set.In.w, false⟩⟩, ⟨r9a.Cells.n, r9a.Cells.w, false⟩⟩))]⟩ κ
noncomputable def law15_SplitPosts_r12 (k : Nat) (parent : TPage) (r7 : TPage) (r8 : TPage) (r8n : Nat) (r8w : Nat → TCell) (r10a : TPage) (r10b : Int) (κ : AV → Heap → Option ρ) (v : AV) : Option ρ := retH false [.agg [.int .u64 r8.Id, .int .u64 r8.Right, .int .u8 r8.Level, .str r8.Low, .str r8.High, .bool r8.End, .int .u64 r8.Dsn, .int .u64 r8.Set.Low, .sl 1 r8.Set.In.n (rowOf (eI .u64) r8.Set.In.w) r8.Set.In.u, .osl 2 4 0 r8n false], .agg (ePage ⟨r10a.Id, r10a.Right, r10a.Level, r10a.Low, r10a.High, r10a.End, r10a.Dsn, ⟨r10a.Set.Low, ⟨r10a.Set.In.n, r10a.Set.In.w, false⟩⟩, ⟨r10a.Cells.n, r10a.Cells.w, false⟩⟩)] [some (.box (ePage parent)), some (.box (ePage ⟨r7.Id, r7.Right, r7.Level, r7.Low, r7.High, r7.End, r7.Dsn, ⟨r7.Set.Low, ⟨r7.Set.In.n, r7.Set.In.w, false⟩⟩, ⟨r7.Cells.n, r7.Cells.w, false⟩⟩)), some (.box [.int .u64 r8.Id, .int .u64 r8.Right, .int .u8 r8.Level, .str r8.Low, .str r8.High, .bool r8.End, .int .u64 r8.Dsn, .int .u64 r8.Set.Low, .sl 1 r8.Set.In.n (rowOf (eI .u64) r8.Set.In.w) r8.Set.In.u, .osl 2 4 0 r8n false]), some (.box (ePage ⟨r10a.Id, r10a.Right, r10a.Level, r10a.Low, r10a.High, r10a.End, r10a.Dsn, ⟨r10a.Set.Low, ⟨r10a.Set.In.n, r10a.Set.In.w, false⟩⟩, ⟨r10a.Cells.n, r10a.Cells.w, false⟩⟩)), some (.arr 2 r8n (rowOf eCell r8w))] (fun v H => resAt ctx k n_law15_SplitPosts 0 [.r, .r, .r, .r, .r, .l, .l] 2 [] ⟨(envOf 65 [(3, .ref 0 0), (7, .ref 1 0), (8, .ref 2 0), (9, .int .i64 0), (10, .ref 3 0), (11, .int .i64 r10b), (38, .agg [.int .u64 r8.Id, .int .u64 r8.Right, .int .u8 r8.Level, .str r8.Low, .str r8.High, .bool r8.End, .int .u64 r8.Dsn, .int .u64 r8.Set.Low, .sl 1 r8.Set.In.n (rowOf (eI .u64) r8.Set.In.w) r8.Set.In.u, .osl 2 4 0 r8n false]), (39, .agg (ePage ⟨r10a.Id, r10a.Right, r10a.Level, r10a.Low, r10a.High, r10a.End, r10a.Dsn, ⟨r10a.Set.Low, ⟨r10a.Set.In.n, r10a.Set.In.w, false⟩⟩, ⟨r10a.Cells.n, r10a.Cells.w, false⟩⟩)), (40, v)]), H⟩ κ) v
theorem law15_SplitPosts_h0_s (k j : Nat) (parent : TPage) (b1_0 : Int) (b1_1 : Int) (b1_2 : Int) (b1_3 : ByteArray) (b1_4 : ByteArray) (b1_5 : Bool) (b1_6 : Int) (b1_7 : Int) (b1_8 : Sl Int) (b1_9 : Sl TCell) (κ : AV → Heap → Option ρ) : law15_SplitPosts_h0 k (j + 1) parent b1_0 b1_1 b1_2 b1_3 b1_4 b1_5 b1_6 b1_7 b1_8 b1_9 κ =
  callP ctx k n_r11_Same [.agg (ePage ⟨b1_0, b1_1, b1_2, b1_3, b1_4, b1_5, b1_6, ⟨b1_7, ⟨b1_8.n, b1_8.w, false⟩⟩, ⟨b1_9.n, b1_9.w, false⟩⟩), .agg (ePage parent)] (law15_SplitPosts_r1 k parent b1_0 b1_1 b1_2 b1_3 b1_4 b1_5 b1_6 b1_7 b1_8 b1_9 κ) := by kernel_rfl
theorem law15_SplitPosts_h1_s (k j : Nat) (parent : TPage) (x12 : Int) (w3 : Nat → TCell) (b1_0 : Int) (b1_1 : Int) (b1_2 : Int) (b1_3 : ByteArray) (b1_4 : ByteArray) (b1_5 : Bool) (b1_6 : Int) (b1_7 : Int) (b1_8 : Sl Int) (b1_9 : Sl TCell) (b2_0 : Int) (b2_1 : Int) (b2_2 : Int) (b2_3 : ByteArray) (b2_4 : ByteArray) (b2_5 : Bool) (b2_6 : Int) (b2_7 : Int) (b2_8 : Sl Int) (b2_9n : Nat) (n3 : Nat) (κ : AV → Heap → Option ρ) : law15_SplitPosts_h1 k (j + 1) parent x12 (rowOf eCell w3) b1_0 b1_1 b1_2 b1_3 b1_4 b1_5 b1_6 b1_7 b1_8 b1_9 b2_0 b2_1 b2_2 b2_3 b2_4 b2_5 b2_6 b2_7 b2_8 b2_9n n3 κ =
  (bif decide (x12 < (b2_9n : Int)) then
   (bif idxOK x12 b2_9n then
    (bif decide ((0 + (x12).toNat) < n3) then
     law15_SplitPosts_h1 k j parent (wi64 (x12 + 1)) (updRow (0 + (x12).toNat) 1 [.str ⟨#[116, 117, 114, 110, 101, 100]⟩] (rowOf eCell w3)) b1_0 b1_1 b1_2 b1_3 b1_4 b1_5 b1_6 b1_7 ⟨b1_8.n, b1_8.w, false⟩ ⟨b1_9.n, b1_9.w, false⟩ b2_0 b2_1 b2_2 b2_3 b2_4 b2_5 b2_6 b2_7 b2_8 b2_9n n3 κ
    else none)
   else none)
  else callP ctx k n_r11_Same [.agg (ePage ⟨b1_0, b1_1, b1_2, b1_3, b1_4, b1_5, b1_6, ⟨b1_7, ⟨b1_8.n, b1_8.w, false⟩⟩, ⟨b1_9.n, b1_9.w, false⟩⟩), .agg (ePage parent)] (law15_SplitPosts_r2 k parent x12 w3 b1_0 b1_1 b1_2 b1_3 b1_4 b1_5 b1_6 b1_7 b1_8 b1_9 b2_0 b2_1 b2_2 b2_3 b2_4 b2_5 b2_6 b2_7 b2_8 b2_9n n3 κ)) := by kernel_rfl
theorem law15_SplitPosts_r0_s (k : Nat) (parent : TPage) (child : TPage) (dsn : Int) (r0 : Bool) (κ : AV → Heap → Option ρ) : law15_SplitPosts_r0 k parent child dsn κ (.bool r0) =
  (bif !r0 then
   callP ctx k n_law15_head [] (law15_SplitPosts_r3 k parent child dsn true κ)
  else callP ctx k n_r11_Small [.agg (ePage child)] (law15_SplitPosts_r4 k parent child dsn r0 κ)) := by kernel_rfl
theorem law15_SplitPosts_r1_s (k : Nat) (parent : TPage) (b1_0 : Int) (b1_1 : Int) (b1_2 : Int) (b1_3 : ByteArray) (b1_4 : ByteArray) (b1_5 : Bool) (b1_6 : Int) (b1_7 : Int) (b1_8 : Sl Int) (b1_9 : Sl TCell) (r1 : Bool) (κ : AV → Heap → Option ρ) : law15_SplitPosts_r1 k parent b1_0 b1_1 b1_2 b1_3 b1_4 b1_5 b1_6 b1_7 b1_8 b1_9 κ (.bool r1) =
  (bif r1 then
   callP ctx k n_law15_head [] (law15_SplitPosts_r5 k parent r1 b1_0 b1_1 b1_2 b1_3 b1_4 b1_5 b1_6 b1_7 b1_8 b1_9 κ)
  else κ (.bool false) []) := by kernel_rfl
theorem law15_SplitPosts_r2_s (k : Nat) (parent : TPage) (x12 : Int) (w3 : Nat → TCell) (b1_0 : Int) (b1_1 : Int) (b1_2 : Int) (b1_3 : ByteArray) (b1_4 : ByteArray) (b1_5 : Bool) (b1_6 : Int) (b1_7 : Int) (b1_8 : Sl Int) (b1_9 : Sl TCell) (b2_0 : Int) (b2_1 : Int) (b2_2 : Int) (b2_3 : ByteArray) (b2_4 : ByteArray) (b2_5 : Bool) (b2_6 : Int) (b2_7 : Int) (b2_8 : Sl Int) (b2_9n : Nat) (n3 : Nat) (r2 : Bool) (κ : AV → Heap → Option ρ) : law15_SplitPosts_r2 k parent x12 w3 b1_0 b1_1 b1_2 b1_3 b1_4 b1_5 b1_6 b1_7 b1_8 b1_9 b2_0 b2_1 b2_2 b2_3 b2_4 b2_5 b2_6 b2_7 b2_8 b2_9n n3 κ (.bool r2) =
  (bif r2 then
   callP ctx k n_law15_head [] (law15_SplitPosts_r6 k parent r2 x12 w3 b1_0 b1_1 b1_2 b1_3 b1_4 b1_5 b1_6 b1_7 b1_8 b1_9 b2_0 b2_1 b2_2 b2_3 b2_4 b2_5 b2_6 b2_7 b2_8 b2_9n n3 κ)
  else κ (.bool false) []) := by kernel_rfl
theorem law15_SplitPosts_r3_s (k : Nat) (parent : TPage) (child : TPage) (dsn : Int) (x20 : Bool) (r3 : Bool) (κ : AV → Heap → Option ρ) : law15_SplitPosts_r3 k parent child dsn x20 κ (.bool r3) =
  κ (.bool r3) [some (.box (ePage parent)), some (.box (ePage child))] := by kernel_rfl
theorem law15_SplitPosts_r4_s (k : Nat) (parent : TPage) (child : TPage) (dsn : Int) (r0 : Bool) (r4 : Bool) (κ : AV → Heap → Option ρ) : law15_SplitPosts_r4 k parent child dsn r0 κ (.bool r4) =
  (bif !r4 then
   callP ctx k n_law15_head [] (law15_SplitPosts_r3 k parent child dsn (!r4) κ)
  else callP ctx k n_r11_Copy [.agg (ePage parent)] (law15_SplitPosts_r7 k parent child dsn r4 κ)) := by kernel_rfl
theorem law15_SplitPosts_r5_s (k : Nat) (parent : TPage) (r1 : Bool) (b1_0 : Int) (b1_1 : Int) (b1_2 : Int) (b1_3 : ByteArray) (b1_4 : ByteArray) (b1_5 : Bool) (b1_6 : Int) (b1_7 : Int) (b1_8 : Sl Int) (b1_9 : Sl TCell) (r5 : Bool) (κ : AV → Heap → Option ρ) : law15_SplitPosts_r5 k parent r1 b1_0 b1_1 b1_2 b1_3 b1_4 b1_5 b1_6 b1_7 b1_8 b1_9 κ (.bool r5) =
  κ (.bool r5) [] := by kernel_rfl
theorem law15_SplitPosts_r6_s (k : Nat) (parent : TPage) (r2 : Bool) (x12 : Int) (w3 : Nat → TCell) (b1_0 : Int) (b1_1 : Int) (b1_2 : Int) (b1_3 : ByteArray) (b1_4 : ByteArray) (b1_5 : Bool) (b1_6 : Int) (b1_7 : Int) (b1_8 : Sl Int) (b1_9 : Sl TCell) (b2_0 : Int) (b2_1 : Int) (b2_2 : Int) (b2_3 : ByteArray) (b2_4 : ByteArray) (b2_5 : Bool) (b2_6 : Int) (b2_7 : Int) (b2_8 : Sl Int) (b2_9n : Nat) (n3 : Nat) (r6 : Bool) (κ : AV → Heap → Option ρ) : law15_SplitPosts_r6 k parent r2 x12 w3 b1_0 b1_1 b1_2 b1_3 b1_4 b1_5 b1_6 b1_7 b1_8 b1_9 b2_0 b2_1 b2_2 b2_3 b2_4 b2_5 b2_6 b2_7 b2_8 b2_9n n3 κ (.bool r6) =
  κ (.bool r6) [] := by kernel_rfl
theorem law15_SplitPosts_r7_s (k : Nat) (parent : TPage) (child : TPage) (dsn : Int) (r4 : Bool) (r7 : TPage) (κ : AV → Heap → Option ρ) : law15_SplitPosts_r7 k parent child dsn r4 κ (.agg (ePage ⟨r7.Id, r7.Right, r7.Level, r7.Low, r7.High, r7.End, r7.Dsn, ⟨r7.Set.Low, ⟨r7.Set.In.n, r7.Set.In.w, false⟩⟩, ⟨r7.Cells.n, r7.Cells.w, false⟩⟩)) =
  evalF ctx k n_split_Post [.agg (ePage ⟨r7.Id, r7.Right, r7.Level, r7.Low, r7.High, r7.End, r7.Dsn, ⟨r7.Set.Low, ⟨r7.Set.In.n, r7.Set.In.w, false⟩⟩, ⟨r7.Cells.n, r7.Cells.w, false⟩⟩), .agg (ePage child), .int .u64 dsn] [] (law15_SplitPosts_r8 k parent child dsn r7 κ) := by kernel_rfl
theorem law15_SplitPosts_r8_s (k : Nat) (parent : TPage) (child : TPage) (dsn : Int) (r7 : TPage) (r8e : Int) (κ : AV → Heap → Option ρ) : law15_SplitPosts_r8 k parent child dsn r7 κ (.tup [.agg (ePage zPage), .int .i64 r8e]) [some (.box (ePage zPage))] =
  callP ctx k n_r15_Post [.agg (ePage parent), .agg (ePage child), .int .u64 dsn] (law15_SplitPosts_r9 k parent child dsn r7 r8e κ) := by kernel_rfl
theorem law15_SplitPosts_r8_s1 (k : Nat) (parent : TPage) (child : TPage) (dsn : Int) (r7 : TPage) (r8 : TPage) (r8n : Nat) (r8w : Nat → TCell) (κ : AV → Heap → Option ρ) : law15_SplitPosts_r8 k parent child dsn r7 κ (.tup [.agg [.int .u64 r8.Id, .int .u64 r8.Right, .int .u8 r8.Level, .str r8.Low, .str r8.High, .bool r8.End, .int .u64 r8.Dsn, .int .u64 r8.Set.Low, .sl 1 r8.Set.In.n (rowOf (eI .u64) r8.Set.In.w) r8.Set.In.u, .osl 2 1 0 r8n false], .int .i64 0]) [some (.box [.int .u64 r8.Id, .int .u64 r8.Right, .int .u8 r8.Level, .str r8.Low, .str r8.High, .bool r8.End, .int .u64 r8.Dsn, .int .u64 r8.Set.Low, .sl 1 r8.Set.In.n (rowOf (eI .u64) r8.Set.In.w) r8.Set.In.u, .osl 2 1 0 r8n false]), some (.arr 2 r8n (rowOf eCell r8w))] =
  callP ctx k n_r15_Post [.agg (ePage parent), .agg (ePage child), .int .u64 dsn] (law15_SplitPosts_r10 k parent child dsn r7 r8 r8n r8w κ) := by kernel_rfl
theorem law15_SplitPosts_r9_s (k : Nat) (parent : TPage) (child : TPage) (dsn : Int) (r7 : TPage) (r8e : Int) (r9a : TPage) (r9b : Int) (κ : AV → Heap → Option ρ) : law15_SplitPosts_r9 k parent child dsn r7 r8e κ (.tup [.agg (ePage ⟨r9a.Id, r9a.Right, r9a.Level, r9a.Low, r9a.High, r9a.End, r9a.Dsn, ⟨r9a.Set.Low, ⟨r9a.Set.In.n, r9a.Set.In.w, false⟩⟩, ⟨r9a.Cells.n, r9a.Cells.w, false⟩⟩), .int .i64 r9b]) =
  callP ctx k n_r11_Same [.agg (ePage zPage), .agg (ePage ⟨r9a.Id, r9a.Right, r9a.Level, r9a.Low, r9a.High, r9a.End, r9a.Dsn, ⟨r9a.Set.Low, ⟨r9a.Set.In.n, r9a.Set.In.w, false⟩⟩, ⟨r9a.Cells.n, r9a.Cells.w, false⟩⟩)] (law15_SplitPosts_r11 k parent r7 r8e r9a r9b κ) := by kernel_rfl
theorem law15_SplitPosts_r10_s (k : Nat) (parent : TPage) (child : TPage) (dsn : Int) (r7 : TPage) (r8 : TPage) (r8n : Nat) (r8w : Nat → TCell) (r10a : TPage) (r10b : Int) (κ : AV → Heap → Option ρ) : law15_SplitPosts_r10 k parent child dsn r7 r8 r8n r8w κ (.tup [.agg (ePage ⟨r10a.Id, r10a.Right, r10a.Level, r10a.Low, r10a.High, r10a.End, r10a.Dsn, ⟨r10a.Set.Low, ⟨r10a.Set.In.n, r10a.Set.In.w, false⟩⟩, ⟨r10a.Cells.n, r10a.Cells.w, false⟩⟩), .int .i64 r10b]) =
  callP ctx k n_r11_Same [.agg (ePage ⟨r8.Id, r8.Right, r8.Level, r8.Low, r8.High, r8.End, r8.Dsn, r8.Set, ⟨r8n, fun i => r8w (0 + i), false⟩⟩), .agg (ePage ⟨r10a.Id, r10a.Right, r10a.Level, r10a.Low, r10a.High, r10a.End, r10a.Dsn, ⟨r10a.Set.Low, ⟨r10a.Set.In.n, r10a.Set.In.w, false⟩⟩, ⟨r10a.Cells.n, r10a.Cells.w, false⟩⟩)] (law15_SplitPosts_r12 k parent r7 r8 r8n r8w r10a r10b κ) := by kernel_rfl
theorem law15_SplitPosts_r11_s (k : Nat) (parent : TPage) (r7 : TPage) (r8e : Int) (r9a : TPage) (r9b : Int) (r11 : Bool) (κ : AV → Heap → Option ρ) : law15_SplitPosts_r11 k parent r7 r8e r9a r9b κ (.bool r11) =
  (bif !r11 then
   κ (.bool false) [some (.box (ePage parent)), some (.box (ePage ⟨r7.Id, r7.Right, r7.Level, r7.Low, r7.High, r7.End, r7.Dsn, ⟨r7.Set.Low, ⟨r7.Set.In.n, r7.Set.In.w, false⟩⟩, ⟨r7.Cells.n, r7.Cells.w, false⟩⟩)), some (.box (ePage zPage))]
  else (bif !decide (r8e = r9b) then
    κ (.bool false) [some (.box (ePage parent)), some (.box (ePage ⟨r7.Id, r7.Right, r7.Level, r7.Low, r7.High, r7.End, r7.Dsn, ⟨r7.Set.Low, ⟨r7.Set.In.n, r7.Set.In.w, false⟩⟩, ⟨r7.Cells.n, r7.Cells.w, false⟩⟩)), some (.box (ePage zPage))]
   else law15_SplitPosts_h0 k k parent r7.Id r7.Right r7.Level r7.Low r7.High r7.End r7.Dsn r7.Set.Low ⟨r7.Set.In.n, r7.Set.In.w, false⟩ ⟨r7.Cells.n, r7.Cells.w, false⟩ κ)) := by kernel_rfl
theorem law15_SplitPosts_r12_s (k : Nat) (parent : TPage) (r7 : TPage) (r8 : TPage) (r8n : Nat) (r8w : Nat → TCell) (r10a : TPage) (r10b : Int) (r12 : Bool) (κ : AV → Heap → Option ρ) : law15_SplitPosts_r12 k parent r7 r8 r8n r8w r10a r10b κ (.bool r12) =
  (bif !r12 then
   κ (.bool false) [some (.box (ePage parent)), some (.box (ePage ⟨r7.Id, r7.Right, r7.Level, r7.Low, r7.High, r7.End, r7.Dsn, ⟨r7.Set.Low, ⟨r7.Set.In.n, r7.Set.In.w, false⟩⟩, ⟨r7.Cells.n, r7.Cells.w, false⟩⟩)), some (.box [.int .u64 r8.Id, .int .u64 r8.Right, .int .u8 r8.Level, .str r8.Low, .str r8.High, .bool r8.End, .int .u64 r8.Dsn, .int .u64 r8.Set.Low, .sl 1 r8.Set.In.n (rowOf (eI .u64) r8.Set.In.w) r8.Set.In.u, .osl 2 3 0 r8n false]), some (.arr 2 r8n (rowOf eCell r8w))]
  else (bif !decide (0 = r10b) then
    κ (.bool false) [some (.box (ePage parent)), some (.box (ePage ⟨r7.Id, r7.Right, r7.Level, r7.Low, r7.High, r7.End, r7.Dsn, ⟨r7.Set.Low, ⟨r7.Set.In.n, r7.Set.In.w, false⟩⟩, ⟨r7.Cells.n, r7.Cells.w, false⟩⟩)), some (.box [.int .u64 r8.Id, .int .u64 r8.Right, .int .u8 r8.Level, .str r8.Low, .str r8.High, .bool r8.End, .int .u64 r8.Dsn, .int .u64 r8.Set.Low, .sl 1 r8.Set.In.n (rowOf (eI .u64) r8.Set.In.w) r8.Set.In.u, .osl 2 3 0 r8n false]), some (.arr 2 r8n (rowOf eCell r8w))]
   else law15_SplitPosts_h1 k k parent 0 (rowOf eCell r8w) r7.Id r7.Right r7.Level r7.Low r7.High r7.End r7.Dsn r7.Set.Low ⟨r7.Set.In.n, r7.Set.In.w, false⟩ ⟨r7.Cells.n, r7.Cells.w, false⟩ r8.Id r8.Right r8.Level r8.Low r8.High r8.End r8.Dsn r8.Set.Low r8.Set.In r8n r8n κ)) := by kernel_rfl
theorem law15_SplitPosts_e (k : Nat) (parent : TPage) (child : TPage) (dsn : Int) (κ : AV → Heap → Option ρ) : evalF ctx (k + 1) n_law15_SplitPosts [.agg (ePage parent), .agg (ePage child), .int .u64 dsn] [] κ =
  callP ctx k n_r11_Small [.agg (ePage parent)] (law15_SplitPosts_r0 k parent child dsn κ) := by kernel_rfl
end Go.Proofs.YtikfnhhebnhlmaaC

set_option linter.unusedVariables false
set_option linter.unusedSimpArgs false
set_option maxRecDepth 20000
namespace Go.Proofs.YtikfnhhebnhlmaaC
open Go Go.Ev Go.Proofs
variable {ρ : Type}
theorem kid_size (id : Int) : (kidT id).size ≤ 8 := by
  unfold kidT
  split
  · rw [numB_size]; omega
  · decide
def postE (p c : TPage) (dsn : Int) : Int :=
  if pageB p = false then 110 else if pageB c = false then 110 else if 281474976710656 < dsn then 110 else if p.Id = c.Id then 110
  else if ¬ p.Level = c.Level + 1 then 140 else if rHas (rangeOf p) c.Low = false then 140 else if (findV p.Cells.n p.Cells.w c.Low).2 = true then 8 else 0
theorem lev_of {p : TPage} (hb : pageB p = true) : p.Level ≤ 10 := by
  simp only [pageB, pk2, Bool.and_eq_true, decide_eq_true_eq] at hb
  exact hb.2.1.1
theorem low_of {p : TPage} (hb : pageB p = true) : p.Low.size ≤ 513 := by
  simp only [pageB, pk3, rRight, Bool.and_eq_true, Bool.not_eq_true', decide_eq_false_iff_not] at hb
  have := hb.2.2.1.1.1
  omega
theorem post_fit {c : TPage} (hb : pageB c = true) : fitB ⟨c.Low, kidT c.Id⟩ = true := by
  simp only [fitB, Bool.and_eq_true, decide_eq_true_eq]
  have := kid_size c.Id
  have := low_of hb
  omega
theorem wu8_in {n : Int} (h0 : 0 ≤ n) (h1 : n ≤ 255) : wu8 n = n := by
  show IntKind.u8.wrap n = n
  simp only [IntKind.wrap, IntKind.signed, IntKind.bits, Bool.false_and, Bool.false_eq_true, if_false]
  omega
theorem tf : ¬ (true = false) := by decide
theorem ft : ¬ (false = true) := by decide
theorem split_Post_ok (k : Nat) (p c : TPage) (dsn : Int) (hp : Look p) (hc : Look c) (hk : p.Cells.n + p.Set.In.n + c.Cells.n + c.Set.In.n + 200 ≤ k) :
    (postE p c dsn ≠ 0 → ∀ κ : AV → Heap → Option ρ, evalF ctx k n_split_Post [.agg (ePage p), .agg (ePage c), .int .u64 dsn] [] κ = κ (.tup [.agg (ePage zPage), .int .i64 (postE p c dsn)]) [some (.box (ePage zPage))]) ∧
    (postE p c dsn = 0 → ∃ (m : Nat) (w : Nat → TCell), lst m w = putL (lst p.Cells.n p.Cells.w) ⟨c.Low, kidT c.Id⟩ ∧ ∀ κ : AV → Heap → Option ρ, evalF ctx k n_split_Post [.agg (ePage p), .agg (ePage c), .int .u64 dsn] [] κ =
      κ (.tup [.agg [.int .u64 p.Id, .int .u64 p.Right, .int .u8 p.Level, .str p.Low, .str p.High, .bool p.End, .int .u64 dsn, .int .u64 p.Set.Low, .sl 1 p.Set.In.n (rowOf (eI .u64) p.Set.In.w) p.Set.In.u, .osl 2 1 0 m false], .int .i64 0]) [some (.box [.int .u64 p.Id, .int .u64 p.Right, .int .u8 p.Level, .str p.Low, .str p.High, .bool p.End, .int .u64 dsn, .int .u64 p.Set.Low, .sl 1 p.Set.In.n (rowOf (eI .u64) p.Set.In.w) p.Set.In.u, .osl 2 1 0 m false]), some (.arr 2 m (rowOf eCell w))]) := by
  obtain ⟨k, rfl⟩ : ∃ k', k = k' + 2 := ⟨k - 2, by omega⟩
  have hn := hp.n
  have hcl := hc.l
  have start : ∀ κ : AV → Heap → Option ρ, evalF ctx (k + 2) n_split_Post [.agg (ePage p), .agg (ePage c), .int .u64 dsn] [] κ =
      if postE p c dsn ≠ 0 then κ (.tup [.agg (ePage zPage), .int .i64 (postE p c dsn)]) [some (.box (ePage zPage))]
      else evalF ctx (k + 1) n_cells_Put [.sl 2 p.Cells.n (rowOf eCell p.Cells.w) p.Cells.u, .agg (eCell ⟨c.Low, kidT c.Id⟩)] [] (split_Post_r5 (k + 1) p c dsn (kidT c.Id) κ) := by
    intro κ
    refine (split_Post_e (k + 1) p c dsn κ).trans ?_
    rw [page_Check_ok (k + 1) p hp (by omega), split_Post_r0_s]
    unfold checkE postE
    cases hb : pageB p with
    | false => rfl
    | true =>
      rw [if_pos rfl, dec_int, Bool.not_true, cond_false, page_Check_ok (k + 1) c hc (by omega), split_Post_r1_s]
      unfold checkE
      cases hb' : pageB c with
      | false => rfl
      | true =>
        have l1 := lev_of hb'
        rw [if_pos rfl, dec_int, Bool.not_true, cond_false, if_neg tf, if_neg tf]
        by_cases h3 : 281474976710656 < dsn
        · rw [dec_t h3, cond_true, if_pos h3, if_pos (by decide)]
        rw [dec_f h3, cond_false, if_neg h3]
        by_cases h4 : p.Id = c.Id
        · rw [dec_t h4, cond_true, if_pos h4, if_pos (by decide)]
        rw [dec_f h4, cond_false, if_neg h4, wu8_in (by omega) (by omega)]
        by_cases h5 : p.Level = c.Level + 1
        · rw [dec_t h5, Bool.not_true, cond_false, if_neg (show ¬ ¬ p.Level = c.Level + 1 by simpa using h5), span_Has_ok (k + 1) _ _ (by omega), split_Post_r2_s]
          cases h6 : rHas ⟨p.Low, p.High, p.End⟩ c.Low with
          | false => rw [Bool.not_false, cond_true, if_pos rfl, if_pos (by decide)]
          | true =>
            rw [Bool.not_true, cond_false, if_neg tf, cells_Find_ok (k + 1) _ _ _ _ (by omega) (by omega), split_Post_r3_s]
            cases h7 : (findV p.Cells.n p.Cells.w c.Low).2 with
            | true => rw [cond_true, if_pos rfl, if_pos (by decide)]
            | false => rw [cond_false, if_neg ft, if_neg (show ¬ ((0 : Int) ≠ 0) by decide), page_Kid_ok (k + 1) _ (by omega), split_Post_r4_s]
        · rw [dec_f h5, Bool.not_false, cond_true, if_pos h5, if_pos (by decide)]
  refine ⟨fun he κ => ?_, fun he => ?_⟩
  · rw [start, if_pos he]
  · have hb : pageB p = true ∧ pageB c = true := by
      unfold postE at he
      cases h1 : pageB p with
      | false => rw [h1, if_pos rfl] at he; cases he
      | true => cases h2 : pageB c with
        | false => rw [h1, h2, if_neg tf, if_pos rfl] at he; cases he
        | true => exact ⟨rfl, rfl⟩
    obtain ⟨m, w, h1, h2⟩ := cells_Put_ev (ρ := ρ) (k + 1) p.Cells.n p.Cells.w p.Cells.u ⟨c.Low, kidT c.Id⟩ hn (by omega) (page_right hb.1) (post_fit hb.2)
    refine ⟨m, w, h1, fun κ => ?_⟩
    rw [start, if_neg (by simpa using he), h2]
    exact split_Post_r5_s (k + 1) p c dsn (kidT c.Id) m w κ
theorem r15_Post_ok (k : Nat) (p c : TPage) (dsn : Int) (hp : Look p) (hc : Look c) (hk : p.Cells.n + p.Set.In.n + c.Cells.n + c.Set.In.n + 200 ≤ k) (κ : AV → Option ρ) : callP ctx k n_r15_Post [.agg (ePage p), .agg (ePage c), .int .u64 dsn] κ =
    if postE p c dsn ≠ 0 then κ (.tup [.agg (ePage (frz zPage)), .int .i64 (postE p c dsn)])
    else κ (.tup [.agg (ePage ⟨p.Id, p.Right, p.Level, p.Low, p.High, p.End, dsn, ⟨p.Set.Low, ⟨p.Set.In.n, clW p.Set.In.n p.Set.In.w, false⟩⟩, ⟨(putL (lst p.Cells.n p.Cells.w) ⟨c.Low, kidT c.Id⟩).length, gd zCell (putL (lst p.Cells.n p.Cells.w) ⟨c.Low, kidT c.Id⟩), false⟩⟩), .int .i64 0]) := by
  obtain ⟨k, rfl⟩ : ∃ k', k = k' + 2 := ⟨k - 2, by omega⟩
  have hn := hp.n
  have hs := hp.s
  have hcl := hc.l
  have hpl := hp.l
  rw [callP_eq]
  refine (r15_Post_e (k + 1) p c dsn (pk κ)).trans ?_
  rw [r11_Check_ok (k + 1) p hp (by omega), r15_Post_r0_s]
  unfold checkE postE
  cases hb : pageB p with
  | false => rfl
  | true =>
    rw [if_pos rfl, dec_int, Bool.not_true, cond_false, r11_Check_ok (k + 1) c hc (by omega), r15_Post_r1_s]
    unfold checkE
    cases hb' : pageB c with
    | false => rfl
    | true =>
      have l1 := lev_of hb'
      have l2 := lev_of hb
      rw [if_pos rfl, dec_int, Bool.not_true, cond_false, if_neg tf, if_neg tf]
      by_cases h3 : 281474976710656 < dsn
      · rw [dec_t h3, cond_true, if_pos h3, if_pos (by decide)]; rfl
      rw [dec_f h3, cond_false, if_neg h3]
      by_cases h4 : p.Id = c.Id
      · rw [dec_t h4, cond_true, if_pos h4, if_pos (by decide)]; rfl
      rw [dec_f h4, cond_false, if_neg h4]
      by_cases h5 : p.Level = c.Level + 1
      · rw [if_neg (show ¬ ¬ p.Level = c.Level + 1 by simpa using h5), dec_f (show ¬ p.Level = 0 by omega), cond_false, wu8_in (by omega) (by omega), dec_t (show p.Level - 1 = c.Level by omega), Bool.not_true, cond_false, r03_Has_ok (k + 1) _ _ (by omega), r15_Post_r2_s]
        cases h6 : rHas ⟨p.Low, p.High, p.End⟩ c.Low with
        | false => rw [Bool.not_false, cond_true, if_pos rfl, if_pos (by decide)]; rfl
        | true =>
          rw [Bool.not_true, cond_false, if_neg tf, r10_Find_ok (k + 1) _ _ _ _ (by omega) (by omega), r15_Post_r3_s]
          cases h7 : (findV p.Cells.n p.Cells.w c.Low).2 with
          | true => rw [cond_true, if_pos rfl, if_pos (by decide)]; rfl
          | false =>
            rw [cond_false, if_neg ft, if_neg (show ¬ ((0 : Int) ≠ 0) by decide), r11_Kid_ok (k + 1) _ (by omega), r15_Post_r4_s]
            obtain ⟨w, hw, hcp⟩ := r11_Copy_ok (ρ := ρ) (k + 1) p hn hs (by omega)
            rw [hcp]
            refine (r15_Post_r5_s (k + 1) p c dsn (kidT c.Id) (cpP p w) (pk κ)).trans ?_
            rw [r10_Put_ok (k + 1) _ _ _ _ hn (by omega) (page_right hb) (post_fit hb')]
            exact r15_Post_r6_s (k + 1) p c dsn (kidT c.Id) (cpP p w) ⟨_, _, false⟩ 0 (pk κ)
      · rw [if_pos h5, if_pos (by decide)]
        by_cases h0 : p.Level = 0
        · rw [dec_t h0, cond_true]; rfl
        · rw [dec_f h0, cond_false, wu8_in (by omega) (by omega), dec_f (show ¬ p.Level - 1 = c.Level by omega), Bool.not_false, cond_true]; rfl
theorem post_same {p q c : TPage} {dsn : Int} (h : EqP p q) : postE q c dsn = postE p c dsn := by
  unfold postE rangeOf
  have hf : pageB p = true → findV q.Cells.n q.Cells.w c.Low = findV p.Cells.n p.Cells.w c.Low := fun hb => find_same (page_right (h.page hb)) (page_right hb) fun x _ => by rw [h.lst]
  rw [h.pageB, h.id, h.level, h.low, h.high, h.end_]
  cases hb : pageB p with
  | false => rfl
  | true => rw [hf hb]
theorem splitPosts_pure (parent child : TPage) (dsn : Int) (h0 : SPage parent) (h1 : SPage child) (h2 : (SInt .u64) dsn) : ∃ k, evalF ctx k n_law15_SplitPosts [.agg (ePage parent), .agg (ePage child), .int .u64 dsn] [] (fun v _ => some v) = some (.bool true) := by
  suffices h : ∀ K, 22000 ≤ K → ∀ (κ : AV → Heap → Option Bool), (∀ b H, κ (.bool b) H = some b) → evalF ctx (K + 1) n_law15_SplitPosts [.agg (ePage parent), .agg (ePage child), .int .u64 dsn] [] κ = some true by
    exact ⟨22000 + 1, told_true (h 22000 (Nat.le_refl _))⟩
  intro K hK κ hκ
  have hh : ∀ κ : AV → Option Bool, callP ctx K n_law15_head [] κ = κ (.bool true) := by
    intro κ
    obtain ⟨K0, rfl⟩ : ∃ K0, K = K0 + 120 := ⟨K - 120, by omega⟩
    exact head_ok K0 κ
  refine (law15_SplitPosts_e K parent child dsn κ).trans ?_
  rw [small_of h0 (by omega), law15_SplitPosts_r0_s]
  cases hs : smallB parent with
  | false => rw [Bool.not_false, cond_true, hh, law15_SplitPosts_r3_s, hκ]
  | true =>
    have hp := small_look hs h0
    have np : parent.Cells.n ≤ 60 := by simp only [smallB, Bool.and_eq_true, decide_eq_true_eq] at hs; omega
    have nsp := hp.s
    rw [Bool.not_true, cond_false, small_of h1 (by omega), law15_SplitPosts_r4_s]
    cases hs' : smallB child with
    | false => rw [Bool.not_false, cond_true, hh, law15_SplitPosts_r3_s, hκ]
    | true =>
      have hc := small_look hs' h1
      have nc : child.Cells.n ≤ 60 := by simp only [smallB, Bool.and_eq_true, decide_eq_true_eq] at hs'; omega
      have nsc := hc.s
      rw [Bool.not_true, cond_false]
      obtain ⟨w, hw, hcp⟩ := r11_Copy_ok (ρ := Bool) K parent (by omega) nsp (by omega)
      have hE := cp_eq hw
      have hq := hE.look hp
      rw [hcp]
      refine (law15_SplitPosts_r7_s K parent child dsn true (cpP parent w) κ).trans ?_
      show evalF ctx K n_split_Post [.agg (ePage (cpP parent w)), .agg (ePage child), .int .u64 dsn] [] _ = _
      obtain ⟨e1, e2⟩ := split_Post_ok (ρ := Bool) K (cpP parent w) child dsn hq hc (by show parent.Cells.n + parent.Set.In.n + child.Cells.n + child.Set.In.n + 200 ≤ K; omega)
      rw [post_same hE] at e1 e2
      have hpost := r15_Post_ok (ρ := Bool) K parent child dsn hp hc (by omega)
      have same : ∀ κ : AV → Option Bool, callP ctx K n_r11_Same [.agg (ePage (cpP parent w)), .agg (ePage parent)] κ = κ (.bool true) := fun κ =>
        r11_Same_ok K parent (cpP parent w) rfl rfl rfl rfl rfl rfl rfl rfl rfl (fun i hi => hE.sw i hi) hE.lst (by show parent.Cells.n ≤ _; omega) nsp (by show parent.Cells.n + parent.Set.In.n + 10 ≤ K; omega) κ
      by_cases he : postE parent child dsn ≠ 0
      · rw [e1 he]
        refine (law15_SplitPosts_r8_s K parent child dsn (cpP parent w) _ κ).trans ?_
        rw [hpost, if_pos he]
        refine (law15_SplitPosts_r9_s K parent child dsn (cpP parent w) _ zPage _ κ).trans ?_
        refine (r11_Same_ok K (frz zPage) zPage rfl rfl rfl rfl rfl rfl rfl rfl rfl (fun i hi => rfl) rfl (by decide) (by decide) (by show 10 ≤ K; omega) _).trans ?_
        refine (law15_SplitPosts_r11_s K parent (cpP parent w) _ zPage _ true κ).trans ?_
        rw [Bool.not_true, cond_false, dec_int, Bool.not_true, cond_false]
        obtain ⟨K', rfl⟩ : ∃ K', K = K' + 1 := ⟨K - 1, by omega⟩
        rw [law15_SplitPosts_h0_s]
        refine (same _).trans ?_
        rw [law15_SplitPosts_r1_s, cond_true, hh, law15_SplitPosts_r5_s, hκ]
      · have he : postE parent child dsn = 0 := Decidable.of_not_not he
        obtain ⟨m, v, hv, hput⟩ := e2 he
        rw [hput]
        refine (law15_SplitPosts_r8_s1 K parent child dsn (cpP parent w) ⟨parent.Id, parent.Right, parent.Level, parent.Low, parent.High, parent.End, dsn, (cpP parent w).Set, ⟨0, fun _ => zCell, false⟩⟩ m v κ).trans ?_
        rw [hpost, if_neg (by simpa using he)]
        generalize hL : putL (lst parent.Cells.n parent.Cells.w) ⟨child.Low, kidT child.Id⟩ = L at hv ⊢
        have hv' : lst m v = L := by
          rw [hv, ← hL]
          show putL (lst (cpP parent w).Cells.n (cpP parent w).Cells.w) _ = _
          rw [hE.lst]
        have hm : m = L.length := by rw [← hv', lst_len]
        have hLn : L.length ≤ parent.Cells.n + 1 := by
          rw [← hL]
          have := put_len (lst parent.Cells.n parent.Cells.w) ⟨child.Low, kidT child.Id⟩
          rw [lst_len] at this
          exact this
        refine (law15_SplitPosts_r10_s K parent child dsn (cpP parent w) _ m v ⟨parent.Id, parent.Right, parent.Level, parent.Low, parent.High, parent.End, dsn, ⟨parent.Set.Low, ⟨parent.Set.In.n, clW parent.Set.In.n parent.Set.In.w, false⟩⟩, ⟨L.length, gd zCell L, false⟩⟩ 0 κ).trans ?_
        refine (r11_Same_ok K ⟨parent.Id, parent.Right, parent.Level, parent.Low, parent.High, parent.End, dsn, ⟨parent.Set.Low, ⟨parent.Set.In.n, clW parent.Set.In.n parent.Set.In.w, false⟩⟩, ⟨L.length, gd zCell L, false⟩⟩ ⟨parent.Id, parent.Right, parent.Level, parent.Low, parent.High, parent.End, dsn, (cpP parent w).Set, ⟨m, fun i => v (0 + i), false⟩⟩ rfl rfl rfl rfl rfl rfl rfl rfl rfl (fun i hi => rfl) ?_ ?_ ?_ ?_ _).trans ?_
        · show lst m (fun i => v (0 + i)) = lst L.length (gd zCell L)
          rw [zrow, hv', gd_lst]
        · show m ≤ 10001; omega
        · exact nsp
        · show m + parent.Set.In.n + 10 ≤ K; omega
        refine (law15_SplitPosts_r12_s K parent (cpP parent w) _ m v _ 0 true κ).trans ?_
        rw [Bool.not_true, cond_false, dec_int, Bool.not_true, cond_false]
        have loop : ∀ (d j i : Nat) (u : Nat → TCell), d = m - i → i ≤ m → m < i + j → law15_SplitPosts_h1 K j parent (i : Int) (rowOf eCell u) (cpP parent w).Id (cpP parent w).Right (cpP parent w).Level (cpP parent w).Low (cpP parent w).High (cpP parent w).End (cpP parent w).Dsn (cpP parent w).Set.Low ⟨(cpP parent w).Set.In.n, (cpP parent w).Set.In.w, false⟩ ⟨(cpP parent w).Cells.n, (cpP parent w).Cells.w, false⟩ parent.Id parent.Right parent.Level parent.Low parent.High parent.End dsn (cpP parent w).Set.Low (cpP parent w).Set.In m m κ = some true := by
          intro d
          induction d with
          | zero =>
            intro j i u hd h1 h2
            obtain ⟨j, rfl⟩ : ∃ j', j = j' + 1 := ⟨j - 1, by omega⟩
            rw [law15_SplitPosts_h1_s, dec_f (by omega), cond_false]
            refine (same _).trans ?_
            rw [law15_SplitPosts_r2_s, cond_true, hh, law15_SplitPosts_r6_s, hκ]
          | succ d ih =>
            intro j i u hd h1 h2
            obtain ⟨j, rfl⟩ : ∃ j', j = j' + 1 := ⟨j - 1, by omega⟩
            rw [law15_SplitPosts_h1_s, dec_t (show (i : Int) < (m : Int) by omega), cond_true, idx_ok (by omega) (by omega), cond_true, Int.toNat_natCast, decide_eq_true (show 0 + i < m by omega), cond_true, wi64_succ (by omega),
              upd_row eCell (0 + i) 1 [.str ⟨#[116, 117, 114, 110, 101, 100]⟩] u ⟨(u (0 + i)).Key, ⟨#[116, 117, 114, 110, 101, 100]⟩⟩ rfl]
            exact ih j (i + 1) _ (by omega) (by omega) (by omega)
        exact loop m K 0 v (by omega) (by omega) (by omega)
end Go.Proofs.YtikfnhhebnhlmaaC

namespace Go.Proofs.Ytikfnhhebnhlmaa.splitPosts
open Go Go.ChangeShapes Go.WideShapes Go.ChangeAt Go.RowKit Go.Ev Go.Proofs.YtikfnhhebnhlmaaC
open Go.ChangeMaps (open_string shut_string)
set_option linter.unusedVariables false
theorem own : ownKnob Try.prog.godebug = none := by kernel_rfl
theorem laidOut : laidOutB Try.prog = true := by kernel_rfl
set_option maxRecDepth 100000 in
theorem lifted (os : Os) (started : os.Started) (H : Type) (enc : TypeId × Value → H) :
    ReturnsInHanded {} Try.checked os 4 .any (Rows.splitPostsSpec.pre6 enc Try.prog Try.f4 Rows.splitPostsRow.domain false) (Rows.splitPostsSpec.post enc Try.prog Try.f4 false true false false) := by
  refine returnsInHanded_of_change_sized (C := Try.checked) own started (by kernel_rfl) Try.func4
    (ChangeSpec.witness6 (enc := enc) (C := Try.checked) false ⟨#[], #[.agg #[.int .u64 0, .int .u64 0, .int .u8 0, .string ByteArray.empty, .string ByteArray.empty, .bool false, .int .u64 0, .int .u64 0, .slice none 0 0, .slice none 0 0], .agg #[.int .u64 0, .int .u64 0, .int .u8 0, .string ByteArray.empty, .string ByteArray.empty, .bool false, .int .u64 0, .int .u64 0, .slice none 0 0, .slice none 0 0], .int .u64 0], []⟩ 8 (by kernel_rfl) (by kernel_rfl) (by kernel_rfl) (by kernel_rfl)) ?_
  intro W base args ds gs before hval0 hW hcnd hsz0 _
  have hsz : (DataW.weightsEach Try.prog (Try.f4.params.toList ++ Rows.splitPostsSpec.plain.varTypes Try.prog) (ds ++ gs)).all (· ≤ reachBytes) = true := hsz0
  have hval : ∀ (j : Nat) t v, Try.f4.params[j]? = some t → args[j]? = some v → Value.okWide Try.prog W .any base t v := hval0
  have hW' := hW
  obtain ⟨p, q, hA0, hV, rfl, hfz, hnd⟩ := hW
  have hA : DataW.TrodAll enc Try.prog W 0 (fun _ => true) true Try.f4.params.toList args.toList ds p := hA0
  rw [Try.params4] at hA hval hsz
  obtain ⟨v0, vs0, d0, ds0, p0, q0, hargs, rfl, rfl, h0, r0⟩ := trodAll_cons hA
  obtain ⟨v1, vs1, d1, ds1, p1, q1, rfl, rfl, rfl, h1, r1⟩ := trodAll_cons r0
  obtain ⟨v2, vs2, d2, ds2, p2, q2, rfl, rfl, rfl, h2, r2⟩ := trodAll_cons r1
  obtain ⟨rfl, rfl, rfl⟩ := trodAll_nil r2
  obtain rfl : args = #[v0, v1, v2] := by cases args; simp_all
  obtain ⟨rfl, rfl⟩ := trodVars_none hV
  have k0 := h0
  have lt0 : ∀ x ∈ p0, x.block < W.heap.size := by obtain ⟨m, hm⟩ := k0; exact DataW.trod_lt m _ _ _ hm
  obtain ⟨a0, hK0, hS0⟩ := opened (j := 0) (t := 28) opens28 hsz rfl rfl h0
  have k1 := h1
  have lt1 : ∀ x ∈ p1, x.block < W.heap.size := by obtain ⟨m, hm⟩ := k1; exact DataW.trod_lt m _ _ _ hm
  obtain ⟨a1, hK1, hS1⟩ := opened (j := 1) (t := 28) opens28 hsz rfl rfl h1
  obtain ⟨a2, rfl, rfl, rfl, y2⟩ := open_int Try.underlying22 (hval 2 22 v2 rfl rfl) h2
  have hS2 : SInt .u64 a2 := by have z := y2; simp only [Lit.wf, Bool.and_eq_true, decide_eq_true_eq] at z; exact z
  clear hA0 hval0 hsz0
  obtain ⟨k, h⟩ := splitPosts_pure a0 a1 a2 hS0 hS1 hS2
  refine (top ((arg_agg Try.underlying28 (hval 0 28 v0 rfl rfl) opens28.2.1 hK0).append ((arg_agg Try.underlying28 (hval 1 28 v1 rfl rfl) opens28.2.1 hK1).append ((Cells.one (@R.int free _ _ _ .u64 a2))))) h).mono fun e W' ⟨he, bel⟩ => ?_
  subst he
  exact ⟨_, rfl, _, _, _, [], _, [], hW', trodAll_mk1 (shut_bool Try.underlying4 _), (trodAll_cons_mk (Below.trod laidOut (by kernel_rfl) (of_decide_eq_true (by kernel_rfl)) k0 bel lt0) (trodAll_cons_mk (Below.trod laidOut (by kernel_rfl) (of_decide_eq_true (by kernel_rfl)) k1 bel lt1) (trodAll_cons_mk (shut_int Try.underlying22 y2) trodAll_mk0))), rfl, bel.frame _, fun h => by cases h⟩
theorem over : Rows.splitPostsRow.holds Try.pinned (OpenSpec.ofChange Rows.splitPostsSpec) :=
  OpenClaim.holds_of_wide 4 Try.f4 rfl rfl rfl rfl rfl rfl rfl ⟨rfl, rfl, rfl, rfl, rfl⟩ rfl rfl rfl rfl rfl (by kernel_rfl) Try.func4 (by kernel_rfl)
    (of_decide_eq_true (by kernel_rfl)) (by unfold Func.isWrapper; first | (rw [if_pos (by decide +kernel)]; kernel_rfl) | (rw [if_neg (by decide +kernel)]; exact ⟨rfl, rfl⟩))
    (fun os started H enc _ => lifted os started H enc)
theorem proved : Rows.SplitPostsSaid := over
end Go.Proofs.Ytikfnhhebnhlmaa.splitPosts
namespace Go.Proofs.Ytikfnhhebnhlmaa
/-- The row, under a short name, for the claim. -/
theorem splitPosts_holds : Rows.SplitPostsSaid := splitPosts.proved
#print axioms splitPosts_holds
end Go.Proofs.Ytikfnhhebnhlmaa
