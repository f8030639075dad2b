/- What functions come to from one cut to the next. No conditions. -/
import Derived.Test.YtpbiclnkbkghaaaGS
import Derived.KernelRfl
set_option linter.unusedVariables false
set_option maxRecDepth 20000
namespace Go.Proofs.YtpbiclnkbkghaaaC
open Go Go.Ev Go.Proofs
variable {ρ : Type}
noncomputable def law10_great_h0 (k j : Nat) (l : (Sl TCell)) (x3 : Int) (x4 : Int) (κ : AV → Heap → Option ρ) : Option ρ := headAt ctx k n_law10_great 0 [.r, .r, .l, .r] j ⟨(envOf 37 [(0, .sl 2 l.n (rowOf eCell l.w) l.u), (3, .int .i64 x3), (4, .int .i64 x4)]), []⟩ κ
theorem law10_great_h0_s (k j : Nat) (l : (Sl TCell)) (x3 : Int) (x4 : Int) (κ : AV → Heap → Option ρ) : law10_great_h0 k (j + 1) l x3 x4 κ =
  (bif decide (x4 < (l.n : Int)) then
   (bif decide (x4 < 50) then
    (bif idxOK x4 l.n then
     (bif idxOK x4 l.n then
      law10_great_h0 k j l (wi64 (wi64 (x3 + ((((l.w ((x4).toNat)).Key).size : Nat) : Int)) + ((((l.w ((x4).toNat)).Value).size : Nat) : Int))) (wi64 (x4 + 1)) κ
     else none)
    else none)
   else (bif decide (50 < (l.n : Int)) then
     κ (.bool true) []
    else κ (.bool (decide (20000 < x3))) []))
  else (bif decide (50 < (l.n : Int)) then
    κ (.bool true) []
   else κ (.bool (decide (20000 < x3))) [])) := by kernel_rfl
theorem law10_great_e (k : Nat) (l : (Sl TCell)) (κ : AV → Heap → Option ρ) : evalF ctx (k + 1) n_law10_great [.sl 2 l.n (rowOf eCell l.w) l.u] [] κ =
  law10_great_h0 k k l 0 0 κ := by kernel_rfl
noncomputable def r10_Right_h0 (k j : Nat) (l : (Sl TCell)) (x3 : Int) (κ : AV → Heap → Option ρ) : Option ρ := headAt ctx k n_r10_Right 0 [.r, .l, .r] j ⟨(envOf 34 [(0, .sl 2 l.n (rowOf eCell l.w) l.u), (3, .int .i64 x3)]), []⟩ κ
theorem r10_Right_h0_s (k j : Nat) (l : (Sl TCell)) (x3 : Int) (κ : AV → Heap → Option ρ) : r10_Right_h0 (k + 1) (j + 1) l x3 κ =
  (bif decide (x3 < (l.n : Int)) then
   (bif idxOK x3 l.n then
    (bif decide (((((l.w ((x3).toNat)).Key).size : Nat) : Int) ≤ 513) then
     (bif !(decide (((((l.w ((x3).toNat)).Value).size : Nat) : Int) ≤ 2048)) then
      κ (.bool false) []
     else (bif decide (0 < x3) then
       (bif idxOK x3 l.n then
        (bif idxOK (wi64 (x3 - 1)) l.n then
         (bif !bl ((l.w ((wi64 (x3 - 1)).toNat)).Key) ((l.w ((x3).toNat)).Key) then
          κ (.bool false) []
         else r10_Right_h0 (k + 1) j l (wi64 (x3 + 1)) κ)
        else none)
       else none)
      else r10_Right_h0 (k + 1) j l (wi64 (x3 + 1)) κ))
    else κ (.bool false) [])
   else none)
  else κ (.bool true) []) := by kernel_rfl
theorem r10_Right_e (k : Nat) (l : (Sl TCell)) (κ : AV → Heap → Option ρ) : evalF ctx (k + 1) n_r10_Right [.sl 2 l.n (rowOf eCell l.w) l.u] [] κ =
  r10_Right_h0 k k l 0 κ := by kernel_rfl
noncomputable def r10_Size_h0 (k j : Nat) (l : (Sl TCell)) (x3 : Int) (x4 : Int) (κ : AV → Heap → Option ρ) : Option ρ := headAt ctx k n_r10_Size 0 [.r, .r, .l, .r] j ⟨(envOf 28 [(0, .sl 2 l.n (rowOf eCell l.w) l.u), (3, .int .i64 x3), (4, .int .i64 x4)]), []⟩ κ
theorem r10_Size_h0_s (k j : Nat) (l : (Sl TCell)) (x3 : Int) (x4 : Int) (κ : AV → Heap → Option ρ) : r10_Size_h0 k (j + 1) l x3 x4 κ =
  (bif decide (x4 < (l.n : Int)) then
   (bif idxOK x4 l.n then
    (bif idxOK x4 l.n then
     r10_Size_h0 k j l (wi64 (wi64 (wi64 (x3 + 4) + ((((l.w ((x4).toNat)).Key).size : Nat) : Int)) + ((((l.w ((x4).toNat)).Value).size : Nat) : Int))) (wi64 (x4 + 1)) κ
    else none)
   else none)
  else κ (.int .i64 x3) []) := by kernel_rfl
theorem r10_Size_e (k : Nat) (l : (Sl TCell)) (κ : AV → Heap → Option ρ) : evalF ctx (k + 1) n_r10_Size [.sl 2 l.n (rowOf eCell l.w) l.u] [] κ =
  r10_Size_h0 k k l 0 0 κ := by kernel_rfl
noncomputable def cells_Right_h0 (k j : Nat) (l : (Sl TCell)) (x7 : Int) (κ : AV → Heap → Option ρ) : Option ρ := headAt ctx k n_cells_Right 0 [.r, .l, .r] j ⟨(envOf 31 [(0, .sl 2 l.n (rowOf eCell l.w) l.u), (5, .sl 2 l.n (rowOf eCell l.w) l.u), (6, .int .i64 (l.n : Int)), (7, .int .i64 x7)]), []⟩ κ
theorem cells_Right_h0_s (k j : Nat) (l : (Sl TCell)) (x7 : Int) (κ : AV → Heap → Option ρ) : cells_Right_h0 (k + 1) (j + 1) l x7 κ =
  (bif decide (x7 < (l.n : Int)) then
   (bif idxOK x7 l.n then
    (bif decide (((((l.w ((x7).toNat)).Key).size : Nat) : Int) ≤ 513) then
     (bif !(decide (((((l.w ((x7).toNat)).Value).size : Nat) : Int) ≤ 2048)) then
      κ (.bool false) []
     else (bif decide (0 < x7) then
       (bif idxOK (wi64 (x7 - 1)) l.n then
        (bif !bl ((l.w ((wi64 (x7 - 1)).toNat)).Key) ((l.w ((x7).toNat)).Key) then
         κ (.bool false) []
        else cells_Right_h0 (k + 1) j l (wi64 (x7 + 1)) κ)
       else none)
      else cells_Right_h0 (k + 1) j l (wi64 (x7 + 1)) κ))
    else κ (.bool false) [])
   else none)
  else κ (.bool true) []) := by kernel_rfl
theorem cells_Right_e (k : Nat) (l : (Sl TCell)) (κ : AV → Heap → Option ρ) : evalF ctx (k + 1) n_cells_Right [.sl 2 l.n (rowOf eCell l.w) l.u] [] κ =
  cells_Right_h0 k k l 0 κ := by kernel_rfl
noncomputable def cells_Size_h0 (k j : Nat) (l : (Sl TCell)) (x3 : Int) (x8 : Int) (κ : AV → Heap → Option ρ) : Option ρ := headAt ctx k n_cells_Size 0 [.r, .r, .l, .r] j ⟨(envOf 18 [(3, .int .i64 x3), (6, .sl 2 l.n (rowOf eCell l.w) l.u), (7, .int .i64 (l.n : Int)), (8, .int .i64 x8)]), []⟩ κ
theorem cells_Size_h0_s (k j : Nat) (l : (Sl TCell)) (x3 : Int) (x8 : Int) (κ : AV → Heap → Option ρ) : cells_Size_h0 (k + 1) (j + 1) l x3 x8 κ =
  (bif decide (x8 < (l.n : Int)) then
   (bif idxOK x8 l.n then
    cells_Size_h0 (k + 1) j l (wi64 (x3 + wi64 (wi64 (4 + ((((l.w ((x8).toNat)).Key).size : Nat) : Int)) + ((((l.w ((x8).toNat)).Value).size : Nat) : Int)))) (wi64 (x8 + 1)) κ
   else none)
  else κ (.int .i64 x3) []) := by kernel_rfl
theorem cells_Size_e (k : Nat) (l : (Sl TCell)) (κ : AV → Heap → Option ρ) : evalF ctx (k + 1) n_cells_Size [.sl 2 l.n (rowOf eCell l.w) l.u] [] κ =
  cells_Size_h0 k k l 0 0 κ := by kernel_rfl
noncomputable def r10_Half_h0 (k j : Nat) (l : (Sl TCell)) (x4 : Int) (κ : AV → Heap → Option ρ) : Option ρ := headAt ctx k n_r10_Half 0 [.r, .r, .r, .r, .l] j ⟨(envOf 29 [(0, .sl 2 l.n (rowOf eCell l.w) l.u), (4, .int .i64 x4)]), []⟩ κ
noncomputable def r10_Half_r0 (k : Nat) (l : (Sl TCell)) (κ : AV → Heap → Option ρ) (v : AV) : Option ρ := resAt ctx k n_r10_Half 0 [.r, .l, .l] 1 [] ⟨(envOf 29 [(0, .sl 2 l.n (rowOf eCell l.w) l.u), (2, .int .i64 0), (3, .int .i64 0), (5, .sl 2 l.n (rowOf eCell l.w) l.u), (6, v)]), []⟩ κ
noncomputable def r10_Half_r1 (k j1 : Nat) (l : (Sl TCell)) (x4 : Int) (κ : AV → Heap → Option ρ) (v : AV) : Option ρ := resAt ctx k n_r10_Half 0 [.r, .r, .r, .r, .l, .into j1, .l, .l] 9 [(16, true)] ⟨(envOf 29 [(0, .sl 2 l.n (rowOf eCell l.w) l.u), (4, .int .i64 x4), (11, .int .i64 x4), (12, .sl 2 l.n (rowOf eCell l.w) l.u), (13, .int .i64 (l.n : Int)), (14, .int .i64 (wi64 ((l.n : Int) - 1))), (15, .bool (decide (x4 < wi64 ((l.n : Int) - 1)))), (16, .bool (decide (x4 < wi64 ((l.n : Int) - 1)))), (17, .sl 2 l.n (rowOf eCell l.w) l.u), (18, .int .i64 x4), (19, .sl 2 ((x4).toNat) (rowOf eCell (fun i => l.w (0 + i))) (l.u && (decide (x4 = (l.n : Int))))), (20, v)]), []⟩ κ
noncomputable def r10_Half_r2 (k j1 : Nat) (l : (Sl TCell)) (r1 : Int) (x4 : Int) (κ : AV → Heap → Option ρ) (v : AV) : Option ρ := resAt ctx k n_r10_Half 0 [.r, .r, .r, .r, .l, .into j1, .l, .l] 12 [(16, true)] ⟨(envOf 29 [(0, .sl 2 l.n (rowOf eCell l.w) l.u), (4, .int .i64 x4), (11, .int .i64 x4), (12, .sl 2 l.n (rowOf eCell l.w) l.u), (13, .int .i64 (l.n : Int)), (14, .int .i64 (wi64 ((l.n : Int) - 1))), (15, .bool (decide (x4 < wi64 ((l.n : Int) - 1)))), (16, .bool (decide (x4 < wi64 ((l.n : Int) - 1)))), (17, .sl 2 l.n (rowOf eCell l.w) l.u), (18, .int .i64 x4), (19, .sl 2 ((x4).toNat) (rowOf eCell (fun i => l.w (0 + i))) (l.u && (decide (x4 = (l.n : Int))))), (20, .int .i64 r1), (21, .int .i64 (wi64 (2 * r1))), (22, .sl 2 l.n (rowOf eCell l.w) l.u), (23, v)]), []⟩ κ
theorem r10_Half_h0_s (k j : Nat) (l : (Sl TCell)) (x4 : Int) (κ : AV → Heap → Option ρ) : r10_Half_h0 k (j + 1) l x4 κ =
  (bif decide (x4 < wi64 ((l.n : Int) - 1)) then
   (bif cutOK l.n 0 x4 (l.n : Int) then
    callP ctx k n_r10_Size [.sl 2 ((x4).toNat) (rowOf eCell (fun i => l.w (0 + i))) (l.u && (decide (x4 = (l.n : Int))))] (r10_Half_r1 k j l x4 κ)
   else none)
  else κ (.tup [.int .i64 x4, .int .i64 0]) []) := by kernel_rfl
theorem r10_Half_r0_s (k : Nat) (l : (Sl TCell)) (r0 : Bool) (κ : AV → Heap → Option ρ) : r10_Half_r0 k l κ (.bool r0) =
  (bif !r0 then
   κ (.tup [.int .i64 0, .int .i64 100]) []
  else (bif decide ((l.n : Int) < 2) then
    κ (.tup [.int .i64 0, .int .i64 9]) []
   else r10_Half_h0 k k l 1 κ)) := by kernel_rfl
theorem r10_Half_r1_s (k j1 : Nat) (l : (Sl TCell)) (x4 : Int) (r1 : Int) (κ : AV → Heap → Option ρ) : r10_Half_r1 k j1 l x4 κ (.int .i64 r1) =
  callP ctx k n_r10_Size [.sl 2 l.n (rowOf eCell l.w) l.u] (r10_Half_r2 k j1 l r1 x4 κ) := by kernel_rfl
theorem r10_Half_r2_s (k j1 : Nat) (l : (Sl TCell)) (r1 : Int) (x4 : Int) (r2 : Int) (κ : AV → Heap → Option ρ) : r10_Half_r2 k j1 l r1 x4 κ (.int .i64 r2) =
  (bif decide (wi64 (2 * r1) < r2) then
   r10_Half_h0 k j1 l (wi64 (x4 + 1)) κ
  else κ (.tup [.int .i64 x4, .int .i64 0]) []) := by kernel_rfl
theorem r10_Half_e (k : Nat) (l : (Sl TCell)) (κ : AV → Heap → Option ρ) : evalF ctx (k + 1) n_r10_Half [.sl 2 l.n (rowOf eCell l.w) l.u] [] κ =
  callP ctx k n_r10_Right [.sl 2 l.n (rowOf eCell l.w) l.u] (r10_Half_r0 k l κ) := by kernel_rfl
theorem r10_Copy_e (k : Nat) (l : (Sl TCell)) (κ : AV → Heap → Option ρ) : evalF ctx (k + 1) n_r10_Copy [.sl 2 l.n (rowOf eCell l.w) l.u] [] κ =
  (bif decide (l.n = 0) then
   κ (.sl 2 0 (rowOf eCell (fun _ => zCell)) true) []
  else (bif roomOf (0 + l.n) 32 then
    κ (.osl 2 0 0 (0 + l.n) false) [some (.arr 2 (0 + l.n) (catRow 0 (rowOf eCell (fun _ => zCell)) (rowOf eCell l.w)))]
   else none)) := by kernel_rfl
noncomputable def cells_Half_h0 (k j : Nat) (l : (Sl TCell)) (r1 : Int) (x5 : Int) (x20 : Int) (κ : AV → Heap → Option ρ) : Option ρ := headAt ctx k n_cells_Half 0 [.r, .r, .r, .l, .r] j ⟨(envOf 43 [(0, .sl 2 l.n (rowOf eCell l.w) l.u), (4, .int .i64 r1), (5, .int .i64 x5), (18, .sl 2 l.n (rowOf eCell l.w) l.u), (19, .int .i64 (l.n : Int)), (20, .int .i64 x20)]), []⟩ κ
noncomputable def cells_Half_r0 (k : Nat) (l : (Sl TCell)) (κ : AV → Heap → Option ρ) (v : AV) : Option ρ := resAt ctx k n_cells_Half 0 [.r, .l, .l] 1 [] ⟨(envOf 43 [(0, .sl 2 l.n (rowOf eCell l.w) l.u), (2, .int .i64 0), (3, .int .i64 0), (9, .sl 2 l.n (rowOf eCell l.w) l.u), (10, v)]), []⟩ κ
noncomputable def cells_Half_r1 (k : Nat) (l : (Sl TCell)) (κ : AV → Heap → Option ρ) (v : AV) : Option ρ := resAt ctx k n_cells_Half 0 [.r, .r, .l] 1 [] ⟨(envOf 43 [(0, .sl 2 l.n (rowOf eCell l.w) l.u), (12, .bool (decide ((l.n : Int) < 2))), (16, .sl 2 l.n (rowOf eCell l.w) l.u), (17, v)]), []⟩ κ
theorem cells_Half_h0_s (k j : Nat) (l : (Sl TCell)) (r1 : Int) (x5 : Int) (x20 : Int) (κ : AV → Heap → Option ρ) : cells_Half_h0 (k + 1) (j + 1) l r1 x5 x20 κ =
  (bif decide (x20 < (l.n : Int)) then
   (bif idxOK x20 l.n then
    (bif decide (r1 ≤ wi64 (2 * wi64 (x5 + wi64 (wi64 (4 + ((((l.w ((x20).toNat)).Key).size : Nat) : Int)) + ((((l.w ((x20).toNat)).Value).size : Nat) : Int))))) then
     κ (.tup [.int .i64 (if wi64 ((l.n : Int) - 1) < wi64 (x20 + 1) then wi64 ((l.n : Int) - 1) else wi64 (x20 + 1)), .int .i64 0]) []
    else cells_Half_h0 (k + 1) j l r1 (wi64 (x5 + wi64 (wi64 (4 + ((((l.w ((x20).toNat)).Key).size : Nat) : Int)) + ((((l.w ((x20).toNat)).Value).size : Nat) : Int)))) (wi64 (x20 + 1)) κ)
   else none)
  else κ (.tup [.int .i64 (wi64 ((l.n : Int) - 1)), .int .i64 0]) []) := by kernel_rfl
theorem cells_Half_r0_s (k : Nat) (l : (Sl TCell)) (r0 : Bool) (κ : AV → Heap → Option ρ) : cells_Half_r0 k l κ (.bool r0) =
  (bif !r0 then
   κ (.tup [.int .i64 0, .int .i64 100]) []
  else (bif decide ((l.n : Int) < 2) then
    κ (.tup [.int .i64 0, .int .i64 9]) []
   else callP ctx k n_cells_Size [.sl 2 l.n (rowOf eCell l.w) l.u] (cells_Half_r1 k l κ))) := by kernel_rfl
theorem cells_Half_r1_s (k : Nat) (l : (Sl TCell)) (r1 : Int) (κ : AV → Heap → Option ρ) : cells_Half_r1 k l κ (.int .i64 r1) =
  cells_Half_h0 k k l r1 0 0 κ := by kernel_rfl
theorem cells_Half_e (k : Nat) (l : (Sl TCell)) (κ : AV → Heap → Option ρ) : evalF ctx (k + 1) n_cells_Half [.sl 2 l.n (rowOf eCell l.w) l.u] [] κ =
  callP ctx k n_cells_Right [.sl 2 l.n (rowOf eCell l.w) l.u] (cells_Half_r0 k l κ) := by kernel_rfl
noncomputable def r10_Find_h0 (k j : Nat) (l : (Sl TCell)) (key : ByteArray) (x6 : Int) (κ : AV → Heap → Option ρ) : Option ρ := headAt ctx k n_r10_Find 0 [.r, .l, .r] j ⟨(envOf 29 [(0, .sl 2 l.n (rowOf eCell l.w) l.u), (1, .str key), (6, .int .i64 x6)]), []⟩ κ
noncomputable def r10_Find_r0 (k j1 : Nat) (l : (Sl TCell)) (key : ByteArray) (x6 : Int) (κ : AV → Heap → Option ρ) (v : AV) : Option ρ := resAt ctx k n_r10_Find 0 [.r, .l, .r, .into j1, .l, .l] 6 [(11, true)] ⟨(envOf 29 [(0, .sl 2 l.n (rowOf eCell l.w) l.u), (1, .str key), (6, .int .i64 x6), (7, .int .i64 x6), (8, .sl 2 l.n (rowOf eCell l.w) l.u), (9, .int .i64 (l.n : Int)), (10, .bool (decide (x6 < (l.n : Int)))), (11, .bool (decide (x6 < (l.n : Int)))), (12, .sl 2 l.n (rowOf eCell l.w) l.u), (13, v)]), []⟩ κ
theorem r10_Find_h0_s (k j : Nat) (l : (Sl TCell)) (key : ByteArray) (x6 : Int) (κ : AV → Heap → Option ρ) : r10_Find_h0 k (j + 1) l key x6 κ =
  (bif decide (x6 < (l.n : Int)) then
   callP ctx k n_r10_Right [.sl 2 l.n (rowOf eCell l.w) l.u] (r10_Find_r0 k j l key x6 κ)
  else κ (.tup [.str ⟨#[]⟩, .bool false]) []) := by kernel_rfl
theorem r10_Find_r0_s (k j1 : Nat) (l : (Sl TCell)) (key : ByteArray) (x6 : Int) (r0 : Bool) (κ : AV → Heap → Option ρ) : r10_Find_r0 k j1 l key x6 κ (.bool r0) =
  (bif r0 then
   (bif idxOK x6 l.n then
    (bif decide (((l.w ((x6).toNat)).Key) = key) then
     (bif idxOK x6 l.n then
      κ (.tup [.str ((l.w ((x6).toNat)).Value), .bool true]) []
     else none)
    else r10_Find_h0 k j1 l key (wi64 (x6 + 1)) κ)
   else none)
  else κ (.tup [.str ⟨#[]⟩, .bool false]) []) := by kernel_rfl
theorem r10_Find_e (k : Nat) (l : (Sl TCell)) (key : ByteArray) (κ : AV → Heap → Option ρ) : evalF ctx (k + 1) n_r10_Find [.sl 2 l.n (rowOf eCell l.w) l.u, .str key] [] κ =
  r10_Find_h0 k k l key 0 κ := by kernel_rfl
noncomputable def r10_At_h0 (k j : Nat) (l : (Sl TCell)) (key : ByteArray) (x5 : Int) (x6 : Int) (κ : AV → Heap → Option ρ) : Option ρ := headAt ctx k n_r10_At 0 [.r, .r, .l, .r] j ⟨(envOf 26 [(0, .sl 2 l.n (rowOf eCell l.w) l.u), (1, .str key), (5, .int .i64 x5), (6, .int .i64 x6)]), []⟩ κ
noncomputable def r10_At_r0 (k j1 : Nat) (l : (Sl TCell)) (key : ByteArray) (x5 : Int) (x6 : Int) (κ : AV → Heap → Option ρ) (v : AV) : Option ρ := resAt ctx k n_r10_At 0 [.r, .r, .l, .r, .into j1, .l, .l] 6 [(11, true)] ⟨(envOf 26 [(0, .sl 2 l.n (rowOf eCell l.w) l.u), (1, .str key), (5, .int .i64 x5), (6, .int .i64 x6), (7, .int .i64 x6), (8, .sl 2 l.n (rowOf eCell l.w) l.u), (9, .int .i64 (l.n : Int)), (10, .bool (decide (x6 < (l.n : Int)))), (11, .bool (decide (x6 < (l.n : Int)))), (12, .sl 2 l.n (rowOf eCell l.w) l.u), (13, v)]), []⟩ κ
theorem r10_At_h0_s (k j : Nat) (l : (Sl TCell)) (key : ByteArray) (x5 : Int) (x6 : Int) (κ : AV → Heap → Option ρ) : r10_At_h0 k (j + 1) l key x5 x6 κ =
  (bif decide (x6 < (l.n : Int)) then
   callP ctx k n_r10_Right [.sl 2 l.n (rowOf eCell l.w) l.u] (r10_At_r0 k j l key x5 x6 κ)
  else κ (.int .i64 x5) []) := by kernel_rfl
theorem r10_At_r0_s (k j1 : Nat) (l : (Sl TCell)) (key : ByteArray) (x5 : Int) (x6 : Int) (r0 : Bool) (κ : AV → Heap → Option ρ) : r10_At_r0 k j1 l key x5 x6 κ (.bool r0) =
  (bif r0 then
   (bif idxOK x6 l.n then
    (bif !bl key ((l.w ((x6).toNat)).Key) then
     r10_At_h0 k j1 l key x6 (wi64 (x6 + 1)) κ
    else r10_At_h0 k j1 l key x5 (wi64 (x6 + 1)) κ)
   else none)
  else κ (.int .i64 x5) []) := by kernel_rfl
theorem r10_At_e (k : Nat) (l : (Sl TCell)) (key : ByteArray) (κ : AV → Heap → Option ρ) : evalF ctx (k + 1) n_r10_At [.sl 2 l.n (rowOf eCell l.w) l.u, .str key] [] κ =
  r10_At_h0 k k l key (-1) 0 κ := by kernel_rfl
noncomputable def cells_Find_r0 (k : Nat) (l : (Sl TCell)) (key : ByteArray) (κ : AV → Heap → Option ρ) (v : AV) : Option ρ := resAt ctx k n_cells_Find 0 [.r, .l, .l] 2 [] ⟨(envOf 26 [(0, .sl 2 l.n (rowOf eCell l.w) l.u), (1, .str key), (4, .str ⟨#[]⟩), (5, .bool false), (7, .sl 2 l.n (rowOf eCell l.w) l.u), (8, .str key), (9, v)]), []⟩ κ
theorem cells_Find_r0_s (k : Nat) (l : (Sl TCell)) (key : ByteArray) (r0 : Int) (κ : AV → Heap → Option ρ) : cells_Find_r0 k l key κ (.int .i64 r0) =
  (bif decide (0 ≤ r0) then
   (bif idxOK r0 l.n then
    (bif decide (((l.w ((r0).toNat)).Key) = key) then
     (bif idxOK r0 l.n then
      κ (.tup [.str ((l.w ((r0).toNat)).Value), .bool true]) []
     else none)
    else κ (.tup [.str ⟨#[]⟩, .bool false]) [])
   else none)
  else κ (.tup [.str ⟨#[]⟩, .bool false]) []) := by kernel_rfl
theorem cells_Find_e (k : Nat) (l : (Sl TCell)) (key : ByteArray) (κ : AV → Heap → Option ρ) : evalF ctx (k + 1) n_cells_Find [.sl 2 l.n (rowOf eCell l.w) l.u, .str key] [] κ =
  callP ctx k n_cells_At [.sl 2 l.n (rowOf eCell l.w) l.u, .str key] (cells_Find_r0 k l key κ) := by kernel_rfl
noncomputable def cells_At_r0 (k : Nat) (l : (Sl TCell)) (key : ByteArray) (κ : AV → Heap → Option ρ) (v : AV) : Option ρ := resAt ctx k n_cells_At 0 [.r, .l, .l] 1 [] ⟨(envOf 18 [(0, .sl 2 l.n (rowOf eCell l.w) l.u), (1, .str key), (4, .int .i64 0), (6, .sl 2 l.n (rowOf eCell l.w) l.u), (7, v)]), []⟩ κ
noncomputable def cells_At_r1 (k : Nat) (l : (Sl TCell)) (key : ByteArray) (κ : AV → Heap → Option ρ) (v : AV) (W : Heap) : Option ρ := backH [0, 1] [some (.box [.sl 2 l.n (rowOf eCell l.w) l.u]), some (.box [.str key])] (fun v H => resAt ctx k n_cells_At 0 [.r, .r, .r, .l] 5 [] ⟨(envOf 18 [(0, .sl 2 l.n (rowOf eCell l.w) l.u), (1, .str key), (5, .fn n_cells_row_above [.sl 2 l.n (rowOf eCell l.w) l.u] []), (11, .sl 2 l.n (rowOf eCell l.w) l.u), (12, .int .i64 (l.n : Int)), (13, .fn n_cells_row_above [.sl 2 l.n (rowOf eCell l.w) l.u] []), (14, .str key), (15, .fn n_cells_row_above_1 [] [.ref 0 0, .ref 1 0]), (16, v)]), H⟩ κ) v W
theorem cells_At_r0_s (k : Nat) (l : (Sl TCell)) (key : ByteArray) (r0 : Bool) (κ : AV → Heap → Option ρ) : cells_At_r0 (k + 1) l key κ (.bool r0) =
  (bif !r0 then
   κ (.int .i64 (-1)) []
  else evalF ctx (k + 1) n_sort_Search [.int .i64 (l.n : Int), .fn n_cells_row_above_1 [] [.ref 0 0, .ref 1 0]] [some (.box [.sl 2 l.n (rowOf eCell l.w) l.u]), some (.box [.str key])] (cells_At_r1 (k + 1) l key κ)) := by kernel_rfl
theorem cells_At_r1_s (k : Nat) (l : (Sl TCell)) (key : ByteArray) (r1 : Int) (κ : AV → Heap → Option ρ) : cells_At_r1 k l key κ (.int .i64 r1) [some (.box [.sl 2 l.n (rowOf eCell l.w) l.u]), some (.box [.str key])] =
  κ (.int .i64 (wi64 (r1 - 1))) [] := by kernel_rfl
theorem cells_At_e (k : Nat) (l : (Sl TCell)) (key : ByteArray) (κ : AV → Heap → Option ρ) : evalF ctx (k + 1) n_cells_At [.sl 2 l.n (rowOf eCell l.w) l.u, .str key] [] κ =
  callP ctx k n_cells_Right [.sl 2 l.n (rowOf eCell l.w) l.u] (cells_At_r0 k l key κ) := by kernel_rfl
noncomputable def r10_Same_h0 (k j : Nat) (a : (Sl TCell)) (b : (Sl TCell)) (x5 : Int) (κ : AV → Heap → Option ρ) : Option ρ := headAt ctx k n_r10_Same 0 [.r, .r, .l, .r] j ⟨(envOf 26 [(0, .sl 2 a.n (rowOf eCell a.w) a.u), (1, .sl 2 b.n (rowOf eCell b.w) b.u), (5, .int .i64 x5)]), []⟩ κ
theorem r10_Same_h0_s (k j : Nat) (a : (Sl TCell)) (b : (Sl TCell)) (x5 : Int) (κ : AV → Heap → Option ρ) : r10_Same_h0 k (j + 1) a b x5 κ =
  (bif decide (x5 < (a.n : Int)) then
   (bif idxOK x5 a.n then
    (bif idxOK x5 b.n then
     (bif !((decide (((a.w ((x5).toNat)).Key) = ((b.w ((x5).toNat)).Key))) && ((decide (((a.w ((x5).toNat)).Value) = ((b.w ((x5).toNat)).Value))) && true)) then
      κ (.bool false) []
     else r10_Same_h0 k j a b (wi64 (x5 + 1)) κ)
    else none)
   else none)
  else κ (.bool true) []) := by kernel_rfl
theorem r10_Same_e (k : Nat) (a : (Sl TCell)) (b : (Sl TCell)) (κ : AV → Heap → Option ρ) : evalF ctx (k + 1) n_r10_Same [.sl 2 a.n (rowOf eCell a.w) a.u, .sl 2 b.n (rowOf eCell b.w) b.u] [] κ =
  (bif !decide ((a.n : Int) = (b.n : Int)) then
   κ (.bool false) []
  else r10_Same_h0 k k a b 0 κ) := by kernel_rfl
noncomputable def cells_Same_r0 (k : Nat) (a : (Sl TCell)) (b : (Sl TCell)) (κ : AV → Heap → Option ρ) (v : AV) : Option ρ := resAt ctx k n_cells_Same 0 [.r, .l] 2 [] ⟨(envOf 8 [(0, .sl 2 a.n (rowOf eCell a.w) a.u), (1, .sl 2 b.n (rowOf eCell b.w) b.u), (4, .bool false), (5, .sl 2 a.n (rowOf eCell a.w) a.u), (6, .sl 2 b.n (rowOf eCell b.w) b.u), (7, v)]), []⟩ κ
theorem cells_Same_r0_s (k : Nat) (a : (Sl TCell)) (b : (Sl TCell)) (r0 : Bool) (κ : AV → Heap → Option ρ) : cells_Same_r0 k a b κ (.bool r0) =
  κ (.bool r0) [] := by kernel_rfl
theorem cells_Same_e (k : Nat) (a : (Sl TCell)) (b : (Sl TCell)) (κ : AV → Heap → Option ρ) : evalF ctx (k + 1) n_cells_Same [.sl 2 a.n (rowOf eCell a.w) a.u, .sl 2 b.n (rowOf eCell b.w) b.u] [] κ =
  callP ctx k n_slices_Equal_Cell [.sl 2 a.n (rowOf eCell a.w) a.u, .sl 2 b.n (rowOf eCell b.w) b.u] (cells_Same_r0 k a b κ) := by kernel_rfl
noncomputable def slices_Equal_Cell_h0 (k j : Nat) (a : (Sl TCell)) (b : (Sl TCell)) (x13 : Int) (κ : AV → Heap → Option ρ) : Option ρ := headAt ctx k n_slices_Equal_Cell 0 [.r, .r, .l, .r] j ⟨(envOf 26 [(0, .sl 2 a.n (rowOf eCell a.w) a.u), (1, .sl 2 b.n (rowOf eCell b.w) b.u), (12, .int .i64 (a.n : Int)), (13, .int .i64 x13)]), []⟩ κ
theorem slices_Equal_Cell_h0_s (k j : Nat) (a : (Sl TCell)) (b : (Sl TCell)) (x13 : Int) (κ : AV → Heap → Option ρ) : slices_Equal_Cell_h0 k (j + 1) a b x13 κ =
  (bif decide (x13 < (a.n : Int)) then
   (bif idxOK x13 a.n then
    (bif idxOK x13 b.n then
     (bif !((decide (((a.w ((x13).toNat)).Key) = ((b.w ((x13).toNat)).Key))) && ((decide (((a.w ((x13).toNat)).Value) = ((b.w ((x13).toNat)).Value))) && true)) then
      κ (.bool false) []
     else slices_Equal_Cell_h0 k j a b (wi64 (x13 + 1)) κ)
    else none)
   else none)
  else κ (.bool true) []) := by kernel_rfl
theorem slices_Equal_Cell_e (k : Nat) (a : (Sl TCell)) (b : (Sl TCell)) (κ : AV → Heap → Option ρ) : evalF ctx (k + 1) n_slices_Equal_Cell [.sl 2 a.n (rowOf eCell a.w) a.u, .sl 2 b.n (rowOf eCell b.w) b.u] [] κ =
  (bif !decide ((a.n : Int) = (b.n : Int)) then
   κ (.bool false) []
  else slices_Equal_Cell_h0 k k a b 0 κ) := by kernel_rfl
noncomputable def sort_Search_h0 (k j : Nat) (l : Sl TCell) (key : ByteArray) (x5 : Int) (x6 : Int) (κ : AV → Heap → Option ρ) : Option ρ := headAt ctx k n_sort_Search 2 [.r, .r, .l] j ⟨(envOf 26 [(1, .fn n_cells_row_above_1 [] [.ref 0 0, .ref 1 0]), (5, .int .i64 x5), (6, .int .i64 x6)]), [some (.box [.sl 2 l.n (rowOf eCell l.w) l.u]), some (.box [.str key])]⟩ κ
theorem sort_Search_h0_s (k j : Nat) (l : Sl TCell) (key : ByteArray) (x5 : Int) (x6 : Int) (κ : AV → Heap → Option ρ) : sort_Search_h0 (k + 1) (j + 1) l key x5 x6 κ =
  (bif decide (x5 < x6) then
   (bif idxOK (wi64 ((wu64 (wi64 (x5 + x6))).fdiv (2 ^ 1))) l.n then
    (bif !(bl key ((l.w ((wi64 ((wu64 (wi64 (x5 + x6))).fdiv (2 ^ 1))).toNat)).Key)) then
     sort_Search_h0 (k + 1) j l key (wi64 (wi64 ((wu64 (wi64 (x5 + x6))).fdiv (2 ^ 1)) + 1)) x6 κ
    else sort_Search_h0 (k + 1) j l key x5 (wi64 ((wu64 (wi64 (x5 + x6))).fdiv (2 ^ 1))) κ)
   else none)
  else κ (.int .i64 x5) [some (.box [.sl 2 l.n (rowOf eCell l.w) l.u]), some (.box [.str key])]) := by kernel_rfl
theorem sort_Search_e (k : Nat) (n : Int) (l : Sl TCell) (key : ByteArray) (κ : AV → Heap → Option ρ) : evalF ctx (k + 1) n_sort_Search [.int .i64 n, .fn n_cells_row_above_1 [] [.ref 0 0, .ref 1 0]] [some (.box [.sl 2 l.n (rowOf eCell l.w) l.u]), some (.box [.str key])] κ =
  sort_Search_h0 k k l key 0 n κ := by kernel_rfl
end Go.Proofs.YtpbiclnkbkghaaaC
