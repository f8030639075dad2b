/- What functions come to from one cut to the next. No conditions. -/
import Derived.Test.YtpbiclnkbkghaaaGS
import Derived.KernelRfl
set_option linter.unusedVariables false
set_option maxRecDepth 20000
namespace Go.Proofs.YtpbiclnkbkghaaaC
open Go Go.Ev Go.Proofs
variable {ρ : Type}
noncomputable def kept_Delete_h0 (k j : Nat) (l : Sl TCell) (key : ByteArray) (x10 : Int) (κ : AV → Heap → Option ρ) : Option ρ := headAt ctx k n_cells_kept_Cell 1 [.r, .r, .l, .r] j ⟨(envOf 23 [(1, .fn n_cells_Delete_1 [] [.ref 0 0]), (5, .sl 2 0 (rowOf eCell (fun _ => zCell)) true), (8, .sl 2 l.n (rowOf eCell l.w) l.u), (9, .int .i64 (l.n : Int)), (10, .int .i64 x10)]), [some (.box [.str key])]⟩ κ
noncomputable def kept_Delete_h1 (k j : Nat) (l : Sl TCell) (key : ByteArray) (x5n : Nat) (x10 : Int) (n1 : Nat) (w1 : Nat → List AV) (κ : AV → Heap → Option ρ) : Option ρ := headAt ctx k n_cells_kept_Cell 1 [.r, .r, .l, .r] j ⟨(envOf 23 [(1, .fn n_cells_Delete_1 [] [.ref 0 0]), (5, .osl 2 1 0 x5n false), (8, .sl 2 l.n (rowOf eCell l.w) l.u), (9, .int .i64 (l.n : Int)), (10, .int .i64 x10)]), [some (.box [.str key]), some (.arr 2 n1 w1)]⟩ κ
theorem kept_Delete_h0_s (k j : Nat) (l : Sl TCell) (key : ByteArray) (x10 : Int) (κ : AV → Heap → Option ρ) : kept_Delete_h0 (k + 1) (j + 1) l key x10 κ =
  (bif decide (x10 < (l.n : Int)) then
   (bif idxOK x10 l.n then
    (bif !decide (((l.w ((x10).toNat)).Key) = key) then
     kept_Delete_h1 (k + 1) j l key 1 (wi64 (x10 + 1)) 1 (catRow 0 (rowOf eCell (fun _ => zCell)) (litRow eCell [⟨((l.w ((x10).toNat)).Key), ((l.w ((x10).toNat)).Value)⟩] zCell)) κ
    else kept_Delete_h0 (k + 1) j l key (wi64 (x10 + 1)) κ)
   else none)
  else κ (.sl 2 0 (rowOf eCell (fun _ => zCell)) true) [some (.box [.str key])]) := by kernel_rfl
theorem kept_Delete_h1_s (k j : Nat) (l : Sl TCell) (key : ByteArray) (x5n : Nat) (x10 : Int) (n1 : Nat) (w1 : Nat → TCell) (κ : AV → Heap → Option ρ) : kept_Delete_h1 (k + 1) (j + 1) l key x5n x10 n1 (rowOf eCell w1) κ =
  (bif decide (x10 < (l.n : Int)) then
   (bif idxOK x10 l.n then
    (bif !decide (((l.w ((x10).toNat)).Key) = key) then
     (bif decide (((0 + x5n) + 1) ≤ n1) then
      kept_Delete_h1 (k + 1) j l key (x5n + 1) (wi64 (x10 + 1)) n1 (putRow (0 + x5n) ((0 + x5n) + 1) (litRow eCell [⟨((l.w ((x10).toNat)).Key), ((l.w ((x10).toNat)).Value)⟩] zCell) (rowOf eCell w1)) κ
     else (bif ((decide (x5n = n1)) && (roomOf (x5n + 1) 32)) then
       kept_Delete_h1 (k + 1) j l key (x5n + 1) (wi64 (x10 + 1)) (x5n + 1) (catRow x5n (rowOf eCell w1) (litRow eCell [⟨((l.w ((x10).toNat)).Key), ((l.w ((x10).toNat)).Value)⟩] zCell)) κ
      else none))
    else kept_Delete_h1 (k + 1) j l key x5n (wi64 (x10 + 1)) n1 (rowOf eCell w1) κ)
   else none)
  else κ (.osl 2 1 0 x5n false) [some (.box [.str key]), some (.arr 2 n1 (rowOf eCell w1))]) := by kernel_rfl
theorem kept_Delete_e (k : Nat) (l : Sl TCell) (key : ByteArray) (κ : AV → Heap → Option ρ) : evalF ctx (k + 1) n_cells_kept_Cell [.sl 2 l.n (rowOf eCell l.w) l.u, .fn n_cells_Delete_1 [] [.ref 0 0]] [some (.box [.str key])] κ =
  kept_Delete_h0 k k l key 0 κ := by kernel_rfl
noncomputable def kept_Part_h0 (k j : Nat) (l : Sl TCell) (r : TRange) (x10 : Int) (κ : AV → Heap → Option ρ) : Option ρ := headAt ctx k n_cells_kept_Cell 1 [.r, .r, .l, .r] j ⟨(envOf 23 [(1, .fn n_cells_Part_1 [] [.ref 0 0]), (5, .sl 2 0 (rowOf eCell (fun _ => zCell)) true), (8, .sl 2 l.n (rowOf eCell l.w) l.u), (9, .int .i64 (l.n : Int)), (10, .int .i64 x10)]), [some (.box [.str r.From, .str r.To, .bool r.End])]⟩ κ
noncomputable def kept_Part_h1 (k j : Nat) (l : Sl TCell) (r : TRange) (x5n : Nat) (x10 : Int) (n1 : Nat) (w1 : Nat → List AV) (κ : AV → Heap → Option ρ) : Option ρ := headAt ctx k n_cells_kept_Cell 1 [.r, .r, .l, .r] j ⟨(envOf 23 [(1, .fn n_cells_Part_1 [] [.ref 0 0]), (5, .osl 2 1 0 x5n false), (8, .sl 2 l.n (rowOf eCell l.w) l.u), (9, .int .i64 (l.n : Int)), (10, .int .i64 x10)]), [some (.box [.str r.From, .str r.To, .bool r.End]), some (.arr 2 n1 w1)]⟩ κ
noncomputable def kept_Part_r0 (k j1 : Nat) (l : Sl TCell) (r : TRange) (x10 : Int) (κ : AV → Heap → Option ρ) (v : AV) (W : Heap) : Option ρ := backH [0] [some (.box [.str r.From, .str r.To, .bool r.End]), some (.box [.str ((l.w ((x10).toNat)).Key), .str ((l.w ((x10).toNat)).Value)])] (fun v H => resAt ctx k n_cells_kept_Cell 1 [.r, .r, .l, .r, .into j1, .r, .r, .l, .r, .l] 2 [] ⟨(envOf 23 [(1, .fn n_cells_Part_1 [] [.ref 0 0]), (5, .sl 2 0 (rowOf eCell (fun _ => zCell)) true), (7, .ref 1 0), (8, .sl 2 l.n (rowOf eCell l.w) l.u), (9, .int .i64 (l.n : Int)), (10, .int .i64 x10), (14, .fn n_cells_Part_1 [] [.ref 0 0]), (15, .agg (eCell ⟨((l.w ((x10).toNat)).Key), ((l.w ((x10).toNat)).Value)⟩)), (16, v)]), H⟩ κ) v W
noncomputable def kept_Part_r1 (k j1 : Nat) (l : Sl TCell) (r : TRange) (x10 : Int) (x5n : Nat) (n1 : Nat) (w1 : Nat → TCell) (κ : AV → Heap → Option ρ) (v : AV) (W : Heap) : Option ρ := backH [0] [some (.box [.str r.From, .str r.To, .bool r.End]), some (.arr 2 n1 (rowOf eCell w1)), some (.box [.str ((l.w ((x10).toNat)).Key), .str ((l.w ((x10).toNat)).Value)])] (fun v H => resAt ctx k n_cells_kept_Cell 1 [.r, .r, .l, .r, .into j1, .r, .r, .l, .r, .l] 2 [] ⟨(envOf 23 [(1, .fn n_cells_Part_1 [] [.ref 0 0]), (5, .osl 2 1 0 x5n false), (7, .ref 2 0), (8, .sl 2 l.n (rowOf eCell l.w) l.u), (9, .int .i64 (l.n : Int)), (10, .int .i64 x10), (14, .fn n_cells_Part_1 [] [.ref 0 0]), (15, .agg (eCell ⟨((l.w ((x10).toNat)).Key), ((l.w ((x10).toNat)).Value)⟩)), (16, v)]), H⟩ κ) v W
theorem kept_Part_h0_s (k j : Nat) (l : Sl TCell) (r : TRange) (x10 : Int) (κ : AV → Heap → Option ρ) : kept_Part_h0 k (j + 1) l r x10 κ =
  (bif decide (x10 < (l.n : Int)) then
   (bif idxOK x10 l.n then
    evalF ctx k n_cells_Part_1 [.agg (eCell ⟨((l.w ((x10).toNat)).Key), ((l.w ((x10).toNat)).Value)⟩), .ref 0 0] [some (.box [.str r.From, .str r.To, .bool r.End])] (kept_Part_r0 k j l r x10 κ)
   else none)
  else κ (.sl 2 0 (rowOf eCell (fun _ => zCell)) true) [some (.box [.str r.From, .str r.To, .bool r.End])]) := by kernel_rfl
theorem kept_Part_h1_s (k j : Nat) (l : Sl TCell) (r : TRange) (x5n : Nat) (x10 : Int) (n1 : Nat) (w1 : Nat → TCell) (κ : AV → Heap → Option ρ) : kept_Part_h1 k (j + 1) l r x5n x10 n1 (rowOf eCell w1) κ =
  (bif decide (x10 < (l.n : Int)) then
   (bif idxOK x10 l.n then
    evalF ctx k n_cells_Part_1 [.agg (eCell ⟨((l.w ((x10).toNat)).Key), ((l.w ((x10).toNat)).Value)⟩), .ref 0 0] [some (.box [.str r.From, .str r.To, .bool r.End])] (kept_Part_r1 k j l r x10 x5n n1 w1 κ)
   else none)
  else κ (.osl 2 1 0 x5n false) [some (.box [.str r.From, .str r.To, .bool r.End]), some (.arr 2 n1 (rowOf eCell w1))]) := by kernel_rfl
theorem kept_Part_r0_s (k j1 : Nat) (l : Sl TCell) (r : TRange) (x10 : Int) (r0 : Bool) (κ : AV → Heap → Option ρ) : kept_Part_r0 k j1 l r x10 κ (.bool r0) [some (.box [.str r.From, .str r.To, .bool r.End])] =
  (bif r0 then
   kept_Part_h1 k j1 l r 1 (wi64 (x10 + 1)) 1 (catRow 0 (rowOf eCell (fun _ => zCell)) (litRow eCell [⟨((l.w ((x10).toNat)).Key), ((l.w ((x10).toNat)).Value)⟩] zCell)) κ
  else kept_Part_h0 k j1 l r (wi64 (x10 + 1)) κ) := by kernel_rfl
theorem kept_Part_r1_s (k j1 : Nat) (l : Sl TCell) (r : TRange) (x10 : Int) (x5n : Nat) (n1 : Nat) (w1 : Nat → TCell) (r1 : Bool) (κ : AV → Heap → Option ρ) : kept_Part_r1 k j1 l r x10 x5n n1 w1 κ (.bool r1) [some (.box [.str r.From, .str r.To, .bool r.End])] =
  (bif r1 then
   (bif decide (((0 + x5n) + 1) ≤ n1) then
    kept_Part_h1 k j1 l r (x5n + 1) (wi64 (x10 + 1)) n1 (putRow (0 + x5n) ((0 + x5n) + 1) (litRow eCell [⟨((l.w ((x10).toNat)).Key), ((l.w ((x10).toNat)).Value)⟩] zCell) (rowOf eCell w1)) κ
   else (bif ((decide (x5n = n1)) && (roomOf (x5n + 1) 32)) then
     kept_Part_h1 k j1 l r (x5n + 1) (wi64 (x10 + 1)) (x5n + 1) (catRow x5n (rowOf eCell w1) (litRow eCell [⟨((l.w ((x10).toNat)).Key), ((l.w ((x10).toNat)).Value)⟩] zCell)) κ
    else none))
  else kept_Part_h1 k j1 l r x5n (wi64 (x10 + 1)) n1 (rowOf eCell w1) κ) := by kernel_rfl
theorem kept_Part_e (k : Nat) (l : Sl TCell) (r : TRange) (κ : AV → Heap → Option ρ) : evalF ctx (k + 1) n_cells_kept_Cell [.sl 2 l.n (rowOf eCell l.w) l.u, .fn n_cells_Part_1 [] [.ref 0 0]] [some (.box [.str r.From, .str r.To, .bool r.End])] κ =
  kept_Part_h0 k k l r 0 κ := by kernel_rfl
noncomputable def cells_Part_1_r0 (k : Nat) (c : TCell) (r : TRange) (κ : AV → Heap → Option ρ) (v : AV) : Option ρ := resAt ctx k n_cells_Part_1 1 [.r, .l] 3 [] ⟨(envOf 8 [(0, .agg (eCell c)), (1, .ref 0 0), (2, .ref 1 0), (3, .bool false), (4, .agg (eRange r)), (5, .ref 1 0), (6, .str c.Key), (7, v)]), [some (.box [.str r.From, .str r.To, .bool r.End]), some (.box [.str c.Key, .str c.Value])]⟩ κ
theorem cells_Part_1_r0_s (k : Nat) (c : TCell) (r : TRange) (r0 : Bool) (κ : AV → Heap → Option ρ) : cells_Part_1_r0 k c r κ (.bool r0) =
  κ (.bool r0) [some (.box [.str r.From, .str r.To, .bool r.End])] := by kernel_rfl
theorem cells_Part_1_e (k : Nat) (c : TCell) (r : TRange) (κ : AV → Heap → Option ρ) : evalF ctx (k + 1) n_cells_Part_1 [.agg (eCell c), .ref 0 0] [some (.box [.str r.From, .str r.To, .bool r.End])] κ =
  callP ctx k n_span_Has [.agg (eRange r), .str c.Key] (cells_Part_1_r0 k c r κ) := by kernel_rfl
theorem span_Has_e (k : Nat) (r : TRange) (key : ByteArray) (κ : AV → Heap → Option ρ) : evalF ctx (k + 3) n_span_Has [.agg (eRange r), .str key] [] κ =
  (bif decide (513 < (r.From.size : Int)) then
   κ (.bool false) []
  else (bif decide (513 < (r.To.size : Int)) then
    κ (.bool false) []
   else (bif r.End then
     (bif !bl r.From r.To then
      κ (.bool false) []
     else (bif !r.End then
       (bif !decide (r.To = (⟨#[]⟩ : ByteArray)) then
        κ (.bool false) []
       else (bif !bl key r.From then
         (bif r.End then
          κ (.bool (!(!bl key r.To))) []
         else κ (.bool true) [])
        else κ (.bool false) []))
      else (bif !bl key r.From then
        (bif r.End then
         κ (.bool (!(!bl key r.To))) []
        else κ (.bool true) [])
       else κ (.bool false) [])))
    else (bif !r.End then
      (bif !decide (r.To = (⟨#[]⟩ : ByteArray)) then
       κ (.bool false) []
      else (bif !bl key r.From then
        (bif r.End then
         κ (.bool (!(!bl key r.To))) []
        else κ (.bool true) [])
       else κ (.bool false) []))
     else (bif !bl key r.From then
       (bif r.End then
        κ (.bool (!(!bl key r.To))) []
       else κ (.bool true) [])
      else κ (.bool false) []))))) := by kernel_rfl
theorem r03_Has_e (k : Nat) (r : TRange) (key : ByteArray) (κ : AV → Heap → Option ρ) : evalF ctx (k + 2) n_r03_Has [.agg (eRange r), .str key] [] κ =
  (bif decide (513 < (r.From.size : Int)) then
   κ (.bool false) []
  else (bif decide (513 < (r.To.size : Int)) then
    κ (.bool false) []
   else (bif r.End then
     (bif bl r.From r.To then
      (bif !bl key r.From then
       (bif !r.End then
        κ (.bool true) []
       else κ (.bool (bl key r.To)) [])
      else κ (.bool false) [])
     else κ (.bool false) [])
    else (bif decide (r.To = (⟨#[]⟩ : ByteArray)) then
      (bif !bl key r.From then
       (bif !r.End then
        κ (.bool true) []
       else κ (.bool (bl key r.To)) [])
      else κ (.bool false) [])
     else κ (.bool false) [])))) := by kernel_rfl
noncomputable def cells_Delete_r0 (k : Nat) (l : (Sl TCell)) (key : ByteArray) (κ : AV → Heap → Option ρ) (v : AV) : Option ρ := resAt ctx k n_cells_Delete 0 [.r, .l, .l] 1 [] ⟨(envOf 12 [(0, .sl 2 l.n (rowOf eCell l.w) l.u), (3, .ref 0 0), (6, .sl 2 l.n (rowOf eCell l.w) l.u), (7, v)]), [some (.box [.str key])]⟩ κ
noncomputable def cells_Delete_r1 (k : Nat) (l : (Sl TCell)) (key : ByteArray) (r0 : Bool) (κ : AV → Heap → Option ρ) (v : AV) (W : Heap) : Option ρ := backH [0] [some (.box [.str key])] (fun v H => resAt ctx k n_cells_Delete 0 [.r, .r, .l] 2 [] ⟨(envOf 12 [(0, .sl 2 l.n (rowOf eCell l.w) l.u), (3, .ref 0 0), (8, .bool (!r0)), (9, .sl 2 l.n (rowOf eCell l.w) l.u), (10, .fn n_cells_Delete_1 [] [.ref 0 0]), (11, v)]), H⟩ κ) v W
theorem cells_Delete_r0_s (k : Nat) (l : (Sl TCell)) (key : ByteArray) (r0 : Bool) (κ : AV → Heap → Option ρ) : cells_Delete_r0 k l key κ (.bool r0) =
  (bif !r0 then
   κ (.tup [.sl 2 0 (rowOf eCell (fun _ => zCell)) true, .int .i64 100]) [some (.box [.str key])]
  else evalF ctx k n_cells_kept_Cell [.sl 2 l.n (rowOf eCell l.w) l.u, .fn n_cells_Delete_1 [] [.ref 0 0]] [some (.box [.str key])] (cells_Delete_r1 k l key r0 κ)) := by kernel_rfl
theorem cells_Delete_r1_s (k : Nat) (l : (Sl TCell)) (key : ByteArray) (r0 : Bool) (κ : AV → Heap → Option ρ) : cells_Delete_r1 k l key r0 κ (.sl 2 0 (rowOf eCell (fun _ => zCell)) true) [some (.box [.str key])] =
  κ (.tup [.sl 2 0 (rowOf eCell (fun _ => zCell)) true, .int .i64 0]) [] := by kernel_rfl
theorem cells_Delete_r1_s1 (k : Nat) (l : (Sl TCell)) (key : ByteArray) (r0 : Bool) (r1n : Nat) (r1w : Nat → TCell) (κ : AV → Heap → Option ρ) : cells_Delete_r1 k l key r0 κ (.osl 2 1 0 r1n false) [some (.box [.str key]), some (.arr 2 r1n (rowOf eCell r1w))] =
  κ (.tup [.osl 2 0 0 r1n false, .int .i64 0]) [some (.arr 2 r1n (rowOf eCell r1w))] := by kernel_rfl
theorem cells_Delete_e (k : Nat) (l : (Sl TCell)) (key : ByteArray) (κ : AV → Heap → Option ρ) : evalF ctx (k + 1) n_cells_Delete [.sl 2 l.n (rowOf eCell l.w) l.u, .str key] [] κ =
  callP ctx k n_cells_Right [.sl 2 l.n (rowOf eCell l.w) l.u] (cells_Delete_r0 k l key κ) := by kernel_rfl
noncomputable def r10_Delete_h0 (k j : Nat) (l : (Sl TCell)) (key : ByteArray) (x7 : Int) (κ : AV → Heap → Option ρ) : Option ρ := headAt ctx k n_r10_Delete 0 [.r, .r, .r, .l, .r] j ⟨(envOf 32 [(0, .sl 2 l.n (rowOf eCell l.w) l.u), (1, .str key), (6, .sl 2 0 (rowOf eCell (fun _ => zCell)) true), (7, .int .i64 x7)]), []⟩ κ
noncomputable def r10_Delete_h1 (k j : Nat) (l : (Sl TCell)) (key : ByteArray) (x6n : Nat) (x7 : Int) (n0 : Nat) (w0 : Nat → List AV) (κ : AV → Heap → Option ρ) : Option ρ := headAt ctx k n_r10_Delete 0 [.r, .r, .r, .l, .r] j ⟨(envOf 32 [(0, .sl 2 l.n (rowOf eCell l.w) l.u), (1, .str key), (6, .osl 2 0 0 x6n false), (7, .int .i64 x7)]), [some (.arr 2 n0 w0)]⟩ κ
noncomputable def r10_Delete_r0 (k : Nat) (l : (Sl TCell)) (key : ByteArray) (κ : AV → Heap → Option ρ) (v : AV) : Option ρ := resAt ctx k n_r10_Delete 0 [.r, .l, .l] 1 [] ⟨(envOf 32 [(0, .sl 2 l.n (rowOf eCell l.w) l.u), (1, .str key), (4, .sl 2 0 (rowOf eCell (fun _ => zCell)) true), (5, .int .i64 0), (8, .sl 2 l.n (rowOf eCell l.w) l.u), (9, v)]), []⟩ κ
theorem r10_Delete_h0_s (k j : Nat) (l : (Sl TCell)) (key : ByteArray) (x7 : Int) (κ : AV → Heap → Option ρ) : r10_Delete_h0 k (j + 1) l key x7 κ =
  (bif decide (x7 < (l.n : Int)) then
   (bif idxOK x7 l.n then
    (bif !decide (((l.w ((x7).toNat)).Key) = key) then
     (bif idxOK x7 l.n then
      r10_Delete_h1 k j l key 1 (wi64 (x7 + 1)) 1 (catRow 0 (rowOf eCell (fun _ => zCell)) (litRow eCell [⟨((l.w ((x7).toNat)).Key), ((l.w ((x7).toNat)).Value)⟩] zCell)) κ
     else none)
    else r10_Delete_h0 k j l key (wi64 (x7 + 1)) κ)
   else none)
  else κ (.tup [.sl 2 0 (rowOf eCell (fun _ => zCell)) true, .int .i64 0]) []) := by kernel_rfl
theorem r10_Delete_h1_s (k j : Nat) (l : (Sl TCell)) (key : ByteArray) (x6n : Nat) (x7 : Int) (n0 : Nat) (w0 : Nat → TCell) (κ : AV → Heap → Option ρ) : r10_Delete_h1 k (j + 1) l key x6n x7 n0 (rowOf eCell w0) κ =
  (bif decide (x7 < (l.n : Int)) then
   (bif idxOK x7 l.n then
    (bif !decide (((l.w ((x7).toNat)).Key) = key) then
     (bif idxOK x7 l.n then
      (bif decide (((0 + x6n) + 1) ≤ n0) then
       r10_Delete_h1 k j l key (x6n + 1) (wi64 (x7 + 1)) n0 (putRow (0 + x6n) ((0 + x6n) + 1) (litRow eCell [⟨((l.w ((x7).toNat)).Key), ((l.w ((x7).toNat)).Value)⟩] zCell) (rowOf eCell w0)) κ
      else (bif ((decide (x6n = n0)) && (roomOf (x6n + 1) 32)) then
        r10_Delete_h1 k j l key (x6n + 1) (wi64 (x7 + 1)) (x6n + 1) (catRow x6n (rowOf eCell w0) (litRow eCell [⟨((l.w ((x7).toNat)).Key), ((l.w ((x7).toNat)).Value)⟩] zCell)) κ
       else none))
     else none)
    else r10_Delete_h1 k j l key x6n (wi64 (x7 + 1)) n0 (rowOf eCell w0) κ)
   else none)
  else κ (.tup [.osl 2 0 0 x6n false, .int .i64 0]) [some (.arr 2 n0 (rowOf eCell w0))]) := by kernel_rfl
theorem r10_Delete_r0_s (k : Nat) (l : (Sl TCell)) (key : ByteArray) (r0 : Bool) (κ : AV → Heap → Option ρ) : r10_Delete_r0 k l key κ (.bool r0) =
  (bif !r0 then
   κ (.tup [.sl 2 0 (rowOf eCell (fun _ => zCell)) true, .int .i64 100]) []
  else r10_Delete_h0 k k l key 0 κ) := by kernel_rfl
theorem r10_Delete_e (k : Nat) (l : (Sl TCell)) (key : ByteArray) (κ : AV → Heap → Option ρ) : evalF ctx (k + 1) n_r10_Delete [.sl 2 l.n (rowOf eCell l.w) l.u, .str key] [] κ =
  callP ctx k n_r10_Right [.sl 2 l.n (rowOf eCell l.w) l.u] (r10_Delete_r0 k l key κ) := by kernel_rfl
noncomputable def cells_Part_r0 (k : Nat) (l : (Sl TCell)) (r : TRange) (κ : AV → Heap → Option ρ) (v : AV) : Option ρ := resAt ctx k n_cells_Part 0 [.r, .l, .l] 1 [] ⟨(envOf 11 [(0, .sl 2 l.n (rowOf eCell l.w) l.u), (1, .agg (eRange r)), (3, .ref 0 0), (4, .sl 2 0 (rowOf eCell (fun _ => zCell)) true), (5, .sl 2 l.n (rowOf eCell l.w) l.u), (6, v)]), [some (.box [.str r.From, .str r.To, .bool r.End])]⟩ κ
noncomputable def cells_Part_r1 (k : Nat) (l : (Sl TCell)) (r : TRange) (r0 : Bool) (κ : AV → Heap → Option ρ) (v : AV) (W : Heap) : Option ρ := backH [0] [some (.box [.str r.From, .str r.To, .bool r.End])] (fun v H => resAt ctx k n_cells_Part 0 [.r, .r, .l] 2 [] ⟨(envOf 11 [(0, .sl 2 l.n (rowOf eCell l.w) l.u), (3, .ref 0 0), (7, .bool (!r0)), (8, .sl 2 l.n (rowOf eCell l.w) l.u), (9, .fn n_cells_Part_1 [] [.ref 0 0]), (10, v)]), H⟩ κ) v W
theorem cells_Part_r0_s (k : Nat) (l : (Sl TCell)) (r : TRange) (r0 : Bool) (κ : AV → Heap → Option ρ) : cells_Part_r0 k l r κ (.bool r0) =
  (bif !r0 then
   κ (.sl 2 0 (rowOf eCell (fun _ => zCell)) true) [some (.box [.str r.From, .str r.To, .bool r.End])]
  else evalF ctx k n_cells_kept_Cell [.sl 2 l.n (rowOf eCell l.w) l.u, .fn n_cells_Part_1 [] [.ref 0 0]] [some (.box [.str r.From, .str r.To, .bool r.End])] (cells_Part_r1 k l r r0 κ)) := by kernel_rfl
theorem cells_Part_r1_s (k : Nat) (l : (Sl TCell)) (r : TRange) (r0 : Bool) (κ : AV → Heap → Option ρ) : cells_Part_r1 k l r r0 κ (.sl 2 0 (rowOf eCell (fun _ => zCell)) true) [some (.box [.str r.From, .str r.To, .bool r.End])] =
  κ (.sl 2 0 (rowOf eCell (fun _ => zCell)) true) [] := by kernel_rfl
theorem cells_Part_r1_s1 (k : Nat) (l : (Sl TCell)) (r : TRange) (r0 : Bool) (r1n : Nat) (r1w : Nat → TCell) (κ : AV → Heap → Option ρ) : cells_Part_r1 k l r r0 κ (.osl 2 1 0 r1n false) [some (.box [.str r.From, .str r.To, .bool r.End]), some (.arr 2 r1n (rowOf eCell r1w))] =
  κ (.osl 2 0 0 r1n false) [some (.arr 2 r1n (rowOf eCell r1w))] := by kernel_rfl
theorem cells_Part_e (k : Nat) (l : (Sl TCell)) (r : TRange) (κ : AV → Heap → Option ρ) : evalF ctx (k + 1) n_cells_Part [.sl 2 l.n (rowOf eCell l.w) l.u, .agg (eRange r)] [] κ =
  callP ctx k n_cells_Right [.sl 2 l.n (rowOf eCell l.w) l.u] (cells_Part_r0 k l r κ) := by kernel_rfl
noncomputable def r10_Part_h0 (k j : Nat) (l : (Sl TCell)) (r : TRange) (x6 : Int) (κ : AV → Heap → Option ρ) : Option ρ := headAt ctx k n_r10_Part 0 [.r, .r, .l, .r] j ⟨(envOf 32 [(0, .sl 2 l.n (rowOf eCell l.w) l.u), (3, .ref 0 0), (5, .sl 2 0 (rowOf eCell (fun _ => zCell)) true), (6, .int .i64 x6)]), [some (.box [.str r.From, .str r.To, .bool r.End])]⟩ κ
noncomputable def r10_Part_h1 (k j : Nat) (l : (Sl TCell)) (r : TRange) (x5n : Nat) (x6 : Int) (n1 : Nat) (w1 : Nat → List AV) (κ : AV → Heap → Option ρ) : Option ρ := headAt ctx k n_r10_Part 0 [.r, .r, .l, .r] j ⟨(envOf 32 [(0, .sl 2 l.n (rowOf eCell l.w) l.u), (3, .ref 0 0), (5, .osl 2 1 0 x5n false), (6, .int .i64 x6)]), [some (.box [.str r.From, .str r.To, .bool r.End]), some (.arr 2 n1 w1)]⟩ κ
noncomputable def r10_Part_r0 (k j1 : Nat) (l : (Sl TCell)) (r : TRange) (x6 : Int) (κ : AV → Heap → Option ρ) (v : AV) : Option ρ := resAt ctx k n_r10_Part 0 [.r, .r, .l, .r, .into j1, .l, .l] 6 [(11, true)] ⟨(envOf 32 [(0, .sl 2 l.n (rowOf eCell l.w) l.u), (3, .ref 0 0), (5, .sl 2 0 (rowOf eCell (fun _ => zCell)) true), (6, .int .i64 x6), (7, .int .i64 x6), (8, .sl 2 l.n (rowOf eCell l.w) l.u), (9, .int .i64 (l.n : Int)), (10, .bool (decide (x6 < (l.n : Int)))), (11, .bool (decide (x6 < (l.n : Int)))), (12, .sl 2 l.n (rowOf eCell l.w) l.u), (13, v)]), [some (.box [.str r.From, .str r.To, .bool r.End])]⟩ κ
noncomputable def r10_Part_r1 (k j1 : Nat) (l : (Sl TCell)) (r : TRange) (x6 : Int) (x5n : Nat) (n1 : Nat) (w1 : Nat → TCell) (κ : AV → Heap → Option ρ) (v : AV) : Option ρ := resAt ctx k n_r10_Part 0 [.r, .r, .l, .r, .into j1, .l, .l] 6 [(11, true)] ⟨(envOf 32 [(0, .sl 2 l.n (rowOf eCell l.w) l.u), (3, .ref 0 0), (5, .osl 2 1 0 x5n false), (6, .int .i64 x6), (7, .int .i64 x6), (8, .sl 2 l.n (rowOf eCell l.w) l.u), (9, .int .i64 (l.n : Int)), (10, .bool (decide (x6 < (l.n : Int)))), (11, .bool (decide (x6 < (l.n : Int)))), (12, .sl 2 l.n (rowOf eCell l.w) l.u), (13, v)]), [some (.box [.str r.From, .str r.To, .bool r.End]), some (.arr 2 n1 (rowOf eCell w1))]⟩ κ
noncomputable def r10_Part_r2 (k j1 : Nat) (l : (Sl TCell)) (r : TRange) (r0 : Bool) (x6 : Int) (κ : AV → Heap → Option ρ) (v : AV) : Option ρ := resAt ctx k n_r10_Part 0 [.r, .r, .l, .r, .into j1, .r, .l, .l] 6 [] ⟨(envOf 32 [(0, .sl 2 l.n (rowOf eCell l.w) l.u), (3, .ref 0 0), (5, .sl 2 0 (rowOf eCell (fun _ => zCell)) true), (6, .int .i64 x6), (14, .bool r0), (17, .agg (eRange r)), (18, .sl 2 l.n (rowOf eCell l.w) l.u), (19, .int .i64 x6), (20, .rref [.str ((l.w ((x6).toNat)).Key), .str ((l.w ((x6).toNat)).Value)] 0), (21, .rref [.str ((l.w ((x6).toNat)).Key), .str ((l.w ((x6).toNat)).Value)] 0), (22, .str ((l.w ((x6).toNat)).Key)), (23, v)]), [some (.box [.str r.From, .str r.To, .bool r.End])]⟩ κ
noncomputable def r10_Part_r3 (k j1 : Nat) (l : (Sl TCell)) (r : TRange) (r1 : Bool) (x6 : Int) (x5n : Nat) (n1 : Nat) (w1 : Nat → TCell) (κ : AV → Heap → Option ρ) (v : AV) : Option ρ := resAt ctx k n_r10_Part 0 [.r, .r, .l, .r, .into j1, .r, .l, .l] 6 [] ⟨(envOf 32 [(0, .sl 2 l.n (rowOf eCell l.w) l.u), (3, .ref 0 0), (5, .osl 2 1 0 x5n false), (6, .int .i64 x6), (14, .bool r1), (17, .agg (eRange r)), (18, .sl 2 l.n (rowOf eCell l.w) l.u), (19, .int .i64 x6), (20, .rref [.str ((l.w ((x6).toNat)).Key), .str ((l.w ((x6).toNat)).Value)] 0), (21, .rref [.str ((l.w ((x6).toNat)).Key), .str ((l.w ((x6).toNat)).Value)] 0), (22, .str ((l.w ((x6).toNat)).Key)), (23, v)]), [some (.box [.str r.From, .str r.To, .bool r.End]), some (.arr 2 n1 (rowOf eCell w1))]⟩ κ
theorem r10_Part_h0_s (k j : Nat) (l : (Sl TCell)) (r : TRange) (x6 : Int) (κ : AV → Heap → Option ρ) : r10_Part_h0 k (j + 1) l r x6 κ =
  (bif decide (x6 < (l.n : Int)) then
   callP ctx k n_r10_Right [.sl 2 l.n (rowOf eCell l.w) l.u] (r10_Part_r0 k j l r x6 κ)
  else κ (.sl 2 0 (rowOf eCell (fun _ => zCell)) true) [some (.box [.str r.From, .str r.To, .bool r.End])]) := by kernel_rfl
theorem r10_Part_h1_s (k j : Nat) (l : (Sl TCell)) (r : TRange) (x5n : Nat) (x6 : Int) (n1 : Nat) (w1 : Nat → TCell) (κ : AV → Heap → Option ρ) : r10_Part_h1 k (j + 1) l r x5n x6 n1 (rowOf eCell w1) κ =
  (bif decide (x6 < (l.n : Int)) then
   callP ctx k n_r10_Right [.sl 2 l.n (rowOf eCell l.w) l.u] (r10_Part_r1 k j l r x6 x5n n1 w1 κ)
  else κ (.osl 2 1 0 x5n false) [some (.box [.str r.From, .str r.To, .bool r.End]), some (.arr 2 n1 (rowOf eCell w1))]) := by kernel_rfl
theorem r10_Part_r0_s (k j1 : Nat) (l : (Sl TCell)) (r : TRange) (x6 : Int) (r0 : Bool) (κ : AV → Heap → Option ρ) : r10_Part_r0 k j1 l r x6 κ (.bool r0) =
  (bif r0 then
   (bif idxOK x6 l.n then
    callP ctx k n_r03_Has [.agg (eRange r), .str ((l.w ((x6).toNat)).Key)] (r10_Part_r2 k j1 l r r0 x6 κ)
   else none)
  else κ (.sl 2 0 (rowOf eCell (fun _ => zCell)) true) [some (.box [.str r.From, .str r.To, .bool r.End])]) := by kernel_rfl
theorem r10_Part_r1_s (k j1 : Nat) (l : (Sl TCell)) (r : TRange) (x6 : Int) (x5n : Nat) (n1 : Nat) (w1 : Nat → TCell) (r1 : Bool) (κ : AV → Heap → Option ρ) : r10_Part_r1 k j1 l r x6 x5n n1 w1 κ (.bool r1) =
  (bif r1 then
   (bif idxOK x6 l.n then
    callP ctx k n_r03_Has [.agg (eRange r), .str ((l.w ((x6).toNat)).Key)] (r10_Part_r3 k j1 l r r1 x6 x5n n1 w1 κ)
   else none)
  else κ (.osl 2 1 0 x5n false) [some (.box [.str r.From, .str r.To, .bool r.End]), some (.arr 2 n1 (rowOf eCell w1))]) := by kernel_rfl
theorem r10_Part_r2_s (k j1 : Nat) (l : (Sl TCell)) (r : TRange) (r0 : Bool) (x6 : Int) (r2 : Bool) (κ : AV → Heap → Option ρ) : r10_Part_r2 k j1 l r r0 x6 κ (.bool r2) =
  (bif r2 then
   (bif idxOK x6 l.n then
    r10_Part_h1 k j1 l r 1 (wi64 (x6 + 1)) 1 (catRow 0 (rowOf eCell (fun _ => zCell)) (litRow eCell [⟨((l.w ((x6).toNat)).Key), ((l.w ((x6).toNat)).Value)⟩] zCell)) κ
   else none)
  else r10_Part_h0 k j1 l r (wi64 (x6 + 1)) κ) := by kernel_rfl
theorem r10_Part_r3_s (k j1 : Nat) (l : (Sl TCell)) (r : TRange) (r1 : Bool) (x6 : Int) (x5n : Nat) (n1 : Nat) (w1 : Nat → TCell) (r3 : Bool) (κ : AV → Heap → Option ρ) : r10_Part_r3 k j1 l r r1 x6 x5n n1 w1 κ (.bool r3) =
  (bif r3 then
   (bif idxOK x6 l.n then
    (bif decide (((0 + x5n) + 1) ≤ n1) then
     r10_Part_h1 k j1 l r (x5n + 1) (wi64 (x6 + 1)) n1 (putRow (0 + x5n) ((0 + x5n) + 1) (litRow eCell [⟨((l.w ((x6).toNat)).Key), ((l.w ((x6).toNat)).Value)⟩] zCell) (rowOf eCell w1)) κ
    else (bif ((decide (x5n = n1)) && (roomOf (x5n + 1) 32)) then
      r10_Part_h1 k j1 l r (x5n + 1) (wi64 (x6 + 1)) (x5n + 1) (catRow x5n (rowOf eCell w1) (litRow eCell [⟨((l.w ((x6).toNat)).Key), ((l.w ((x6).toNat)).Value)⟩] zCell)) κ
     else none))
   else none)
  else r10_Part_h1 k j1 l r x5n (wi64 (x6 + 1)) n1 (rowOf eCell w1) κ) := by kernel_rfl
theorem r10_Part_e (k : Nat) (l : (Sl TCell)) (r : TRange) (κ : AV → Heap → Option ρ) : evalF ctx (k + 1) n_r10_Part [.sl 2 l.n (rowOf eCell l.w) l.u, .agg (eRange r)] [] κ =
  r10_Part_h0 k k l r 0 κ := by kernel_rfl
end Go.Proofs.YtpbiclnkbkghaaaC
