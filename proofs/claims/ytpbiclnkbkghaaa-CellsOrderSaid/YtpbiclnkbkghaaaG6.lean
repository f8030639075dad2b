/- What functions come to from one cut to the next. No conditions. -/
import Derived.Test.YtpbiclnkbkghaaaGS
import Derived.KernelRfl
set_option linter.unusedVariables false
set_option maxRecDepth 20000
namespace Go.Proofs.YtpbiclnkbkghaaaC
open Go Go.Ev Go.Proofs
variable {ρ : Type}
noncomputable def cells_Put_r0 (k : Nat) (l : (Sl TCell)) (c : TCell) (κ : AV → Heap → Option ρ) (v : AV) : Option ρ := resAt ctx k n_cells_Put 0 [.r, .l, .l] 1 [] ⟨(envOf 53 [(0, .sl 2 l.n (rowOf eCell l.w) l.u), (3, .ref 0 0), (8, .sl 2 l.n (rowOf eCell l.w) l.u), (9, v)]), [some (.box [.str c.Key, .str c.Value])]⟩ κ
noncomputable def cells_Put_r1 (k : Nat) (l : (Sl TCell)) (c : TCell) (κ : AV → Heap → Option ρ) (v : AV) : Option ρ := resAt ctx k n_cells_Put 0 [.r, .r, .l] 3 [] ⟨(envOf 53 [(0, .sl 2 l.n (rowOf eCell l.w) l.u), (3, .ref 0 0), (15, .bool (!(decide ((c.Value.size : Int) ≤ 2048)))), (16, .sl 2 l.n (rowOf eCell l.w) l.u), (17, .ref 0 0), (18, .str c.Key), (19, v)]), [some (.box [.str c.Key, .str c.Value])]⟩ κ
noncomputable def cells_Put_r2 (k : Nat) (l : (Sl TCell)) (c : TCell) (r1 : Int) (κ : AV → Heap → Option ρ) (v : AV) (W : Heap) : Option ρ := backF [.sl 2 l.n (rowOf eCell l.w) l.u] [some (.box [.str c.Key, .str c.Value])] (fun v H => resAt ctx k n_cells_Put 0 [.r, .r, .r, .l, .r, .l, .l] 1 [] ⟨(envOf 53 [(0, .sl 2 l.n (rowOf eCell l.w) l.u), (3, .ref 0 0), (6, .int .i64 r1), (31, .bool (decide (((l.w ((r1).toNat)).Key) = c.Key))), (32, .sl 2 l.n (rowOf eCell l.w) l.u), (33, v)]), H⟩ κ) v W
theorem cells_Put_r0_s (k : Nat) (l : (Sl TCell)) (c : TCell) (r0 : Bool) (κ : AV → Heap → Option ρ) : cells_Put_r0 (k + 1) l c κ (.bool r0) =
  (bif !r0 then
   κ (.tup [.sl 2 0 (rowOf eCell (fun _ => zCell)) true, .int .i64 100]) [some (.box [.str c.Key, .str c.Value])]
  else (bif decide ((c.Key.size : Int) ≤ 513) then
    (bif !(decide ((c.Value.size : Int) ≤ 2048)) then
     κ (.tup [.sl 2 0 (rowOf eCell (fun _ => zCell)) true, .int .i64 100]) [some (.box [.str c.Key, .str c.Value])]
    else callP ctx (k + 1) n_cells_At [.sl 2 l.n (rowOf eCell l.w) l.u, .str c.Key] (cells_Put_r1 (k + 1) l c κ))
   else κ (.tup [.sl 2 0 (rowOf eCell (fun _ => zCell)) true, .int .i64 100]) [some (.box [.str c.Key, .str c.Value])])) := by kernel_rfl
theorem cells_Put_r1_s (k : Nat) (l : (Sl TCell)) (c : TCell) (r1 : Int) (κ : AV → Heap → Option ρ) : cells_Put_r1 k l c κ (.int .i64 r1) =
  (bif decide (0 ≤ r1) then
   (bif idxOK r1 l.n then
    (bif decide (((l.w ((r1).toNat)).Key) = c.Key) then
     evalF ctx k n_slices_Clone_Cell [.sl 2 l.n (rowOf eCell l.w) l.u] [] (cells_Put_r2 k l c r1 κ)
    else (bif cutOK l.n 0 (wi64 (r1 + 1)) (wi64 (r1 + 1)) then
      (bif ((decide (wi64 (r1 + 1) = wi64 (r1 + 1))) && (roomOf ((wi64 (r1 + 1)).toNat + 1) 32)) then
       (bif cutOK l.n (wi64 (r1 + 1)) (l.n : Int) (l.n : Int) then
        (bif decide ((l.n - (wi64 (r1 + 1)).toNat) = 0) then
         κ (.tup [.osl 2 0 0 ((wi64 (r1 + 1)).toNat + 1) false, .int .i64 0]) [some (.arr 2 ((wi64 (r1 + 1)).toNat + 1) (catRow ((wi64 (r1 + 1)).toNat) (rowOf eCell (fun i => l.w (0 + i))) (litRow eCell [c] zCell)))]
        else (bif decide (((0 + ((wi64 (r1 + 1)).toNat + 1)) + (l.n - (wi64 (r1 + 1)).toNat)) ≤ ((wi64 (r1 + 1)).toNat + 1)) then
          κ (.tup [.osl 2 0 0 (((wi64 (r1 + 1)).toNat + 1) + (l.n - (wi64 (r1 + 1)).toNat)) false, .int .i64 0]) [some (.arr 2 ((wi64 (r1 + 1)).toNat + 1) (putRow (0 + ((wi64 (r1 + 1)).toNat + 1)) ((0 + ((wi64 (r1 + 1)).toNat + 1)) + (l.n - (wi64 (r1 + 1)).toNat)) (rowOf eCell (fun i => l.w ((wi64 (r1 + 1)).toNat + i))) (catRow ((wi64 (r1 + 1)).toNat) (rowOf eCell (fun i => l.w (0 + i))) (litRow eCell [c] zCell))))]
         else (bif ((decide (((wi64 (r1 + 1)).toNat + 1) = ((wi64 (r1 + 1)).toNat + 1))) && (roomOf (((wi64 (r1 + 1)).toNat + 1) + (l.n - (wi64 (r1 + 1)).toNat)) 32)) then
           κ (.tup [.osl 2 0 0 (((wi64 (r1 + 1)).toNat + 1) + (l.n - (wi64 (r1 + 1)).toNat)) false, .int .i64 0]) [some (.arr 2 (((wi64 (r1 + 1)).toNat + 1) + (l.n - (wi64 (r1 + 1)).toNat)) (catRow ((wi64 (r1 + 1)).toNat + 1) (catRow ((wi64 (r1 + 1)).toNat) (rowOf eCell (fun i => l.w (0 + i))) (litRow eCell [c] zCell)) (rowOf eCell (fun i => l.w ((wi64 (r1 + 1)).toNat + i)))))]
          else none)))
       else none)
      else none)
     else none))
   else none)
  else (bif cutOK l.n 0 (wi64 (r1 + 1)) (wi64 (r1 + 1)) then
    (bif ((decide (wi64 (r1 + 1) = wi64 (r1 + 1))) && (roomOf ((wi64 (r1 + 1)).toNat + 1) 32)) then
     (bif cutOK l.n (wi64 (r1 + 1)) (l.n : Int) (l.n : Int) then
      (bif decide ((l.n - (wi64 (r1 + 1)).toNat) = 0) then
       κ (.tup [.osl 2 0 0 ((wi64 (r1 + 1)).toNat + 1) false, .int .i64 0]) [some (.arr 2 ((wi64 (r1 + 1)).toNat + 1) (catRow ((wi64 (r1 + 1)).toNat) (rowOf eCell (fun i => l.w (0 + i))) (litRow eCell [c] zCell)))]
      else (bif decide (((0 + ((wi64 (r1 + 1)).toNat + 1)) + (l.n - (wi64 (r1 + 1)).toNat)) ≤ ((wi64 (r1 + 1)).toNat + 1)) then
        κ (.tup [.osl 2 0 0 (((wi64 (r1 + 1)).toNat + 1) + (l.n - (wi64 (r1 + 1)).toNat)) false, .int .i64 0]) [some (.arr 2 ((wi64 (r1 + 1)).toNat + 1) (putRow (0 + ((wi64 (r1 + 1)).toNat + 1)) ((0 + ((wi64 (r1 + 1)).toNat + 1)) + (l.n - (wi64 (r1 + 1)).toNat)) (rowOf eCell (fun i => l.w ((wi64 (r1 + 1)).toNat + i))) (catRow ((wi64 (r1 + 1)).toNat) (rowOf eCell (fun i => l.w (0 + i))) (litRow eCell [c] zCell))))]
       else (bif ((decide (((wi64 (r1 + 1)).toNat + 1) = ((wi64 (r1 + 1)).toNat + 1))) && (roomOf (((wi64 (r1 + 1)).toNat + 1) + (l.n - (wi64 (r1 + 1)).toNat)) 32)) then
         κ (.tup [.osl 2 0 0 (((wi64 (r1 + 1)).toNat + 1) + (l.n - (wi64 (r1 + 1)).toNat)) false, .int .i64 0]) [some (.arr 2 (((wi64 (r1 + 1)).toNat + 1) + (l.n - (wi64 (r1 + 1)).toNat)) (catRow ((wi64 (r1 + 1)).toNat + 1) (catRow ((wi64 (r1 + 1)).toNat) (rowOf eCell (fun i => l.w (0 + i))) (litRow eCell [c] zCell)) (rowOf eCell (fun i => l.w ((wi64 (r1 + 1)).toNat + i)))))]
        else none)))
     else none)
    else none)
   else none)) := by kernel_rfl
theorem cells_Put_r2_s (k : Nat) (l : (Sl TCell)) (c : TCell) (r1 : Int) (κ : AV → Heap → Option ρ) : cells_Put_r2 k l c r1 κ (.sl 2 0 (rowOf eCell (fun _ => zCell)) true) [] =
  (bif idxOK r1 0 then
   none
  else none) := by kernel_rfl
theorem cells_Put_r2_s1 (k : Nat) (l : (Sl TCell)) (c : TCell) (r1 : Int) (κ : AV → Heap → Option ρ) : cells_Put_r2 k l c r1 κ (.osl 2 0 0 l.n false) [some (.arr 2 l.n (rowOf eCell l.w))] =
  (bif idxOK r1 l.n then
   (bif decide ((0 + (r1).toNat) < l.n) then
    κ (.tup [.osl 2 0 0 l.n false, .int .i64 0]) [some (.arr 2 l.n (updRow (0 + (r1).toNat) 0 (eCell c) (rowOf eCell l.w)))]
   else none)
  else none) := by kernel_rfl
theorem cells_Put_e (k : Nat) (l : (Sl TCell)) (c : TCell) (κ : AV → Heap → Option ρ) : evalF ctx (k + 1) n_cells_Put [.sl 2 l.n (rowOf eCell l.w) l.u, .agg (eCell c)] [] κ =
  callP ctx k n_cells_Right [.sl 2 l.n (rowOf eCell l.w) l.u] (cells_Put_r0 k l c κ) := by kernel_rfl
end Go.Proofs.YtpbiclnkbkghaaaC
