/- What functions come to from one cut to the next. No conditions. -/
import Derived.Test.YtadbbgechcjciaaGS
import Derived.KernelRfl
set_option linter.unusedVariables false
set_option maxRecDepth 20000
namespace Go.Proofs.YtadbbgechcjciaaC
open Go Go.Ev Go.Proofs
variable {ρ : Type}
noncomputable def law11_PageKids_r0 (k : Nat) (id : Int) (s : ByteArray) (κ : AV → Heap → Option ρ) (v : AV) : Option ρ := resAt ctx k n_law11_PageKids 0 [.r, .l] 1 [] ⟨(envOf 73 [(0, .int .u64 id), (1, .str s), (4, .bool false), (14, .int .u64 id), (15, v)]), []⟩ κ
noncomputable def law11_PageKids_e0 (k : Nat) (id : Int) (s : ByteArray) (r0a : ByteArray) (r0b : Int) (x26 : Bool) (κ : AV → Heap → Option ρ) : Option ρ := endAt ctx k n_law11_PageKids 0 [.r, .r, .l, .l] ⟨(envOf 73 [(0, .int .u64 id), (1, .str s), (5, .str r0a), (6, .int .i64 r0b), (26, .bool x26)]), []⟩ κ
noncomputable def law11_PageKids_r1 (k : Nat) (id : Int) (s : ByteArray) (r0a : ByteArray) (r0b : Int) (x26 : Bool) (κ : AV → Heap → Option ρ) (v : AV) : Option ρ := resAt ctx k n_law11_PageKids 0 [.r, .r, .r, .l, .r, .l, .l] 1 [] ⟨(envOf 73 [(0, .int .u64 id), (1, .str s), (5, .str r0a), (6, .int .i64 r0b), (26, .bool x26), (27, .int .i64 r0b), (28, .bool (decide (r0b = 0))), (30, .str r0a), (31, v)]), []⟩ κ
noncomputable def law11_PageKids_r2 (k : Nat) (id : Int) (s : ByteArray) (r0a : ByteArray) (r0b : Int) (x26 : Bool) (κ : AV → Heap → Option ρ) (v : AV) : Option ρ := resAt ctx k n_law11_PageKids 0 [.r, .r, .r, .r, .l] 1 [] ⟨(envOf 73 [(0, .int .u64 id), (1, .str s), (5, .str r0a), (6, .int .i64 r0b), (26, .bool x26), (27, .int .i64 r0b), (28, .bool (decide (r0b = 0))), (47, .str s), (48, v)]), []⟩ κ
noncomputable def law11_PageKids_e1 (k : Nat) (s : ByteArray) (x45 : Bool) (κ : AV → Heap → Option ρ) : Option ρ := endAt ctx k n_law11_PageKids 0 [.r, .r, .r, .l, .r, .l, .r, .l] ⟨(envOf 73 [(1, .str s), (45, .bool x45)]), []⟩ κ
noncomputable def law11_PageKids_r3 (k : Nat) (s : ByteArray) (x9 : Int) (x10 : Int) (x51 : Int) (x52 : Bool) (x53 : Int) (x54 : Bool) (x55 : Bool) (κ : AV → Heap → Option ρ) (v : AV) : Option ρ := resAt ctx k n_law11_PageKids 0 [.r, .r, .r, .r, .r, .l, .r, .l, .l] 3 [(55, true)] ⟨(envOf 73 [(1, .str s), (9, .int .u64 x9), (10, .int .i64 x10), (51, .int .i64 x51), (52, .bool x52), (53, .int .u64 x53), (54, .bool x54), (55, .bool x55), (56, v)]), []⟩ κ
noncomputable def law11_PageKids_e2 (k : Nat) (x4 : Bool) (κ : AV → Heap → Option ρ) : Option ρ := endAt ctx k n_law11_PageKids 0 [.r, .r, .r, .r, .r, .l, .r, .l, .l] ⟨(envOf 73 [(4, .bool x4)]), []⟩ κ
noncomputable def law11_PageKids_r4 (k : Nat) (s : ByteArray) (x9 : Int) (x10 : Int) (x51 : Int) (x52 : Bool) (x59 : Int) (xa0 : Int) (κ : AV → Heap → Option ρ) (v : AV) : Option ρ := resAt ctx k n_law11_PageKids 0 [.r, .r, .r, .r, .r, .r, .l] 1 [] ⟨(envOf 73 [(1, .str s), (9, .int .u64 x9), (10, .int .i64 x10), (51, .int .i64 x51), (52, .bool x52), (59, .int .u64 x59), (60, v)]), []⟩ κ
noncomputable def law11_PageKids_r5 (k : Nat) (s : ByteArray) (x45 : Bool) (κ : AV → Heap → Option ρ) (v : AV) : Option ρ := resAt ctx k n_law11_PageKids 0 [.r, .r, .r, .r, .l] 1 [] ⟨(envOf 73 [(1, .str s), (45, .bool x45), (47, .str s), (48, v)]), []⟩ κ
noncomputable def law11_PageKids_r6 (k : Nat) (s : ByteArray) (r4a : ByteArray) (r4b : Int) (κ : AV → Heap → Option ρ) (v : AV) : Option ρ := resAt ctx k n_law11_PageKids 0 [.r, .r, .r, .r, .r, .r, .r, .l] 8 [(70, true), (65, true)] ⟨(envOf 73 [(1, .str s), (11, .str r4a), (12, .int .i64 r4b), (63, .int .i64 r4b), (64, .bool (decide (r4b = 0))), (65, .bool (decide (r4b = 0))), (66, .str r4a), (67, .str s), (68, .bool (decide (r4a = s))), (69, .bool (decide (r4a = s))), (70, .bool (decide (r4a = s))), (71, v)]), []⟩ κ
noncomputable def law11_PageKids_e3 (k : Nat) (x4 : Bool) (κ : AV → Heap → Option ρ) : Option ρ := endAt ctx k n_law11_PageKids 0 [.r, .r, .r, .r, .r, .r, .r, .l] ⟨(envOf 73 [(4, .bool x4)]), []⟩ κ
theorem law11_PageKids_r0_s (k : Nat) (id : Int) (s : ByteArray) (r0a : ByteArray) (r0b : Int) (κ : AV → Heap → Option ρ) : law11_PageKids_r0 k id s κ (.tup [.str r0a, .int .i64 r0b]) =
  (bif decide (1 ≤ id) then
   law11_PageKids_e0 k id s r0a r0b (!((decide (r0b = 0)) == (decide (id ≤ 400)))) κ
  else law11_PageKids_e0 k id s r0a r0b (!((decide (r0b = 0)) == false)) κ) := by kernel_rfl
theorem law11_PageKids_e0_s (k : Nat) (id : Int) (s : ByteArray) (r0a : ByteArray) (r0b : Int) (x26 : Bool) (κ : AV → Heap → Option ρ) : law11_PageKids_e0 k id s r0a r0b x26 κ =
  (bif x26 then
   κ (.bool false) []
  else (bif decide (r0b = 0) then
    callP ctx k n_page_Id [.str r0a] (law11_PageKids_r1 k id s r0a r0b x26 κ)
   else callP ctx k n_page_Id [.str s] (law11_PageKids_r2 k id s r0a r0b x26 κ))) := by kernel_rfl
theorem law11_PageKids_r1_s (k : Nat) (id : Int) (s : ByteArray) (r0a : ByteArray) (r0b : Int) (x26 : Bool) (r1a : Int) (r1b : Int) (κ : AV → Heap → Option ρ) : law11_PageKids_r1 k id s r0a r0b x26 κ (.tup [.int .u64 r1a, .int .i64 r1b]) =
  (bif !decide (r1b = 0) then
   law11_PageKids_e1 k s true κ
  else (bif !decide (r1a = id) then
    law11_PageKids_e1 k s true κ
   else law11_PageKids_e1 k s (!decide ((r0a.size : Int) = 8)) κ)) := by kernel_rfl
theorem law11_PageKids_r2_s (k : Nat) (id : Int) (s : ByteArray) (r0a : ByteArray) (r0b : Int) (x26 : Bool) (r2a : Int) (r2b : Int) (κ : AV → Heap → Option ρ) : law11_PageKids_r2 k id s r0a r0b x26 κ (.tup [.int .u64 r2a, .int .i64 r2b]) =
  (bif !decide (r2b = 0) then
   (bif decide (r2a = 0) then
    callP ctx k n_law11_head [] (law11_PageKids_r3 k s r2a r2b r2b (!decide (r2b = 0)) r2a (decide (r2a = 0)) (decide (r2a = 0)) κ)
   else law11_PageKids_e2 k false κ)
  else callP ctx k n_page_Kid [.int .u64 r2a] (law11_PageKids_r4 k s r2a r2b r2b (!decide (r2b = 0)) r2a r2a κ)) := by kernel_rfl
theorem law11_PageKids_e1_s (k : Nat) (s : ByteArray) (x45 : Bool) (κ : AV → Heap → Option ρ) : law11_PageKids_e1 k s x45 κ =
  (bif x45 then
   κ (.bool false) []
  else callP ctx k n_page_Id [.str s] (law11_PageKids_r5 k s x45 κ)) := by kernel_rfl
theorem law11_PageKids_r3_s (k : Nat) (s : ByteArray) (x9 : Int) (x10 : Int) (x51 : Int) (x52 : Bool) (x53 : Int) (x54 : Bool) (x55 : Bool) (r3 : Bool) (κ : AV → Heap → Option ρ) : law11_PageKids_r3 k s x9 x10 x51 x52 x53 x54 x55 κ (.bool r3) =
  law11_PageKids_e2 k r3 κ := by kernel_rfl
theorem law11_PageKids_e2_s (k : Nat) (x4 : Bool) (κ : AV → Heap → Option ρ) : law11_PageKids_e2 k x4 κ =
  κ (.bool x4) [] := by kernel_rfl
theorem law11_PageKids_r4_s (k : Nat) (s : ByteArray) (x9 : Int) (x10 : Int) (x51 : Int) (x52 : Bool) (x59 : Int) (xa0 : Int) (r4a : ByteArray) (r4b : Int) (κ : AV → Heap → Option ρ) : law11_PageKids_r4 k s x9 x10 x51 x52 x59 xa0 κ (.tup [.str r4a, .int .i64 r4b]) =
  (bif decide (r4b = 0) then
   (bif decide (r4a = s) then
    callP ctx k n_law11_head [] (law11_PageKids_r6 k s r4a r4b κ)
   else law11_PageKids_e3 k false κ)
  else law11_PageKids_e3 k false κ) := by kernel_rfl
theorem law11_PageKids_r5_s (k : Nat) (s : ByteArray) (x45 : Bool) (r5a : Int) (r5b : Int) (κ : AV → Heap → Option ρ) : law11_PageKids_r5 k s x45 κ (.tup [.int .u64 r5a, .int .i64 r5b]) =
  (bif !decide (r5b = 0) then
   (bif decide (r5a = 0) then
    callP ctx k n_law11_head [] (law11_PageKids_r3 k s r5a r5b r5b (!decide (r5b = 0)) r5a (decide (r5a = 0)) (decide (r5a = 0)) κ)
   else law11_PageKids_e2 k false κ)
  else callP ctx k n_page_Kid [.int .u64 r5a] (law11_PageKids_r4 k s r5a r5b r5b (!decide (r5b = 0)) r5a r5a κ)) := by kernel_rfl
theorem law11_PageKids_r6_s (k : Nat) (s : ByteArray) (r4a : ByteArray) (r4b : Int) (r6 : Bool) (κ : AV → Heap → Option ρ) : law11_PageKids_r6 k s r4a r4b κ (.bool r6) =
  law11_PageKids_e3 k r6 κ := by kernel_rfl
theorem law11_PageKids_e3_s (k : Nat) (x4 : Bool) (κ : AV → Heap → Option ρ) : law11_PageKids_e3 k x4 κ =
  κ (.bool x4) [] := by kernel_rfl
theorem law11_PageKids_e (k : Nat) (id : Int) (s : ByteArray) (κ : AV → Heap → Option ρ) : evalF ctx (k + 1) n_law11_PageKids [.int .u64 id, .str s] [] κ =
  callP ctx k n_page_Kid [.int .u64 id] (law11_PageKids_r0 k id s κ) := by kernel_rfl
end Go.Proofs.YtadbbgechcjciaaC
