/- What functions come to from one cut to the next. No conditions. -/
import Derived.Test.YtadbbgechcjciaaGS
import Derived.KernelRfl
set_option linter.unusedVariables false
set_option maxRecDepth 20000
namespace Go.Proofs.YtadbbgechcjciaaC
open Go Go.Ev Go.Proofs
variable {ρ : Type}
noncomputable def page_Kid_r0 (k : Nat) (id : Int) (κ : AV → Heap → Option ρ) (v : AV) (W : Heap) : Option ρ := backF [.sl 1 0 (rowOf (eI .u8) (fun _ => 0)) true, .int .u64 id, .int .i64 8] [] (fun v H => resAt ctx k n_page_Kid 0 [.r, .r, .l] 1 [] ⟨(envOf 13 [(0, .int .u64 id), (9, .bool (decide (400 < id))), (10, .int .u64 id), (11, v)]), H⟩ κ) v W
theorem page_Kid_r0_s (k : Nat) (id : Int) (r0n : Nat) (r0w : Nat → Int) (κ : AV → Heap → Option ρ) : page_Kid_r0 k id κ (.osl 1 0 0 r0n true) [some (.arr 1 r0n (rowOf (eI .u8) r0w))] =
  (bif allU8 (rowOf (eI .u8) (fun i => r0w (0 + i))) r0n then
   κ (.tup [.str (bytesOf r0n (rowOf (eI .u8) (fun i => r0w (0 + i)))), .int .i64 0]) []
  else none) := by kernel_rfl
theorem page_Kid_e (k : Nat) (id : Int) (κ : AV → Heap → Option ρ) : evalF ctx (k + 1) n_page_Kid [.int .u64 id] [] κ =
  (bif decide (id < 1) then
   κ (.tup [.str ⟨#[]⟩, .int .i64 110]) []
  else (bif decide (400 < id) then
    κ (.tup [.str ⟨#[]⟩, .int .i64 110]) []
   else evalF ctx k n_octet_Put [.sl 1 0 (rowOf (eI .u8) (fun _ => 0)) true, .int .u64 id, .int .i64 8] [] (page_Kid_r0 k id κ))) := by kernel_rfl
noncomputable def page_Id_r0 (k : Nat) (s : ByteArray) (κ : AV → Heap → Option ρ) (v : AV) (W : Heap) : Option ρ := backH [0] [some (.box [.str (bytesOf s.size (rowOf (eI .u8) (bytesW s))), .int .i64 0, .bool false, .bool true])] (fun v H => resAt ctx k n_page_Id 0 [.r, .l] 3 [] ⟨(envOf 24 [(0, .str s), (2, .int .u64 0), (3, .int .i64 0), (7, .str s), (8, .sl 1 s.size (rowOf (eI .u8) (bytesW s)) false), (9, .ref 0 0), (10, v)]), H⟩ κ) v W
noncomputable def page_Id_r1 (k : Nat) (s : ByteArray) (r0n : Int) (κ : AV → Heap → Option ρ) (v : AV) : Option ρ := resAt ctx k n_page_Id 0 [.r, .r, .l, .l] 1 [] ⟨(envOf 24 [(0, .str s), (4, .int .u64 r0n), (12, .int .u64 r0n), (13, v)]), []⟩ κ
theorem page_Id_r0_s (k : Nat) (s : ByteArray) (r0b : ByteArray) (r0p : Int) (r0l : Bool) (r0m : Bool) (r0n : Int) (r0q : Int) (κ : AV → Heap → Option ρ) : page_Id_r0 k s κ (.int .u64 r0n) [some (.box [.str r0b, .int .i64 r0p, .bool r0l, .bool r0m]), some (.box [.int .u64 r0q])] =
  callP ctx k n_page_Kid [.int .u64 r0n] (page_Id_r1 k s r0n κ) := by kernel_rfl
theorem page_Id_r1_s (k : Nat) (s : ByteArray) (r0n : Int) (r1a : ByteArray) (r1b : Int) (κ : AV → Heap → Option ρ) : page_Id_r1 k s r0n κ (.tup [.str r1a, .int .i64 r1b]) =
  (bif !decide (r1b = 0) then
   κ (.tup [.int .u64 0, .int .i64 110]) []
  else (bif !decide (r1a = s) then
    κ (.tup [.int .u64 0, .int .i64 110]) []
   else κ (.tup [.int .u64 r0n, .int .i64 0]) [])) := by kernel_rfl
theorem page_Id_e (k : Nat) (s : ByteArray) (κ : AV → Heap → Option ρ) : evalF ctx (k + 2) n_page_Id [.str s] [] κ =
  (bif allU8 (rowOf (eI .u8) (bytesW s)) s.size then
   evalF ctx (k + 1) n_octet_Reader_Num [.ref 0 0, .int .i64 8] [some (.box [.str (bytesOf s.size (rowOf (eI .u8) (bytesW s))), .int .i64 0, .bool false, .bool true])] (page_Id_r0 (k + 1) s κ)
  else none) := by kernel_rfl
noncomputable def r11_Kid_r0 (k : Nat) (id : Int) (κ : AV → Heap → Option ρ) (v : AV) : Option ρ := resAt ctx k n_r11_Kid 0 [.r, .r, .l] 1 [] ⟨(envOf 12 [(0, .int .u64 id), (9, .bool (decide (400 < id))), (10, .int .u64 id), (11, v)]), []⟩ κ
theorem r11_Kid_r0_s (k : Nat) (id : Int) (r0 : ByteArray) (κ : AV → Heap → Option ρ) : r11_Kid_r0 k id κ (.str r0) =
  κ (.tup [.str r0, .int .i64 0]) [] := by kernel_rfl
theorem r11_Kid_e (k : Nat) (id : Int) (κ : AV → Heap → Option ρ) : evalF ctx (k + 1) n_r11_Kid [.int .u64 id] [] κ =
  (bif decide (id < 1) then
   κ (.tup [.str ⟨#[]⟩, .int .i64 110]) []
  else (bif decide (400 < id) then
    κ (.tup [.str ⟨#[]⟩, .int .i64 110]) []
   else callP ctx k n_r11_number [.int .u64 id, .int .i64 8] (r11_Kid_r0 k id κ))) := by kernel_rfl
noncomputable def r11_worth_h0 (k j : Nat) (s : ByteArray) (x3 : Int) (x4 : Int) (κ : AV → Heap → Option ρ) : Option ρ := headAt ctx k n_r11_worth 0 [.r, .r, .l, .r] j ⟨(envOf 19 [(0, .str s), (3, .int .u64 x3), (4, .int .i64 x4)]), []⟩ κ
theorem r11_worth_h0_s (k j : Nat) (s : ByteArray) (x3 : Int) (x4 : Int) (κ : AV → Heap → Option ρ) : r11_worth_h0 k (j + 1) s x3 x4 κ =
  (bif decide (x4 < (s.size : Int)) then
   (bif idxOK x4 s.size then
    r11_worth_h0 k j s (wu64 (wu64 (256 * x3) + wu64 ((((s.data.getD ((x4).toNat) 0).toNat : Nat) : Int)))) (wi64 (x4 + 1)) κ
   else none)
  else κ (.int .u64 x3) []) := by kernel_rfl
theorem r11_worth_e (k : Nat) (s : ByteArray) (κ : AV → Heap → Option ρ) : evalF ctx (k + 1) n_r11_worth [.str s] [] κ =
  r11_worth_h0 k k s 0 0 κ := by kernel_rfl
noncomputable def r11_Id_r0 (k : Nat) (s : ByteArray) (κ : AV → Heap → Option ρ) (v : AV) : Option ρ := resAt ctx k n_r11_Id 0 [.r, .l, .l] 5 [(7, false)] ⟨(envOf 19 [(0, .str s), (2, .int .u64 0), (3, .int .i64 0), (4, .str s), (5, .int .i64 (s.size : Int)), (6, .bool (!decide ((s.size : Int) = 8))), (7, .bool (!decide ((s.size : Int) = 8))), (8, .str s), (9, v)]), []⟩ κ
noncomputable def r11_Id_r1 (k : Nat) (s : ByteArray) (r0 : Int) (κ : AV → Heap → Option ρ) (v : AV) : Option ρ := resAt ctx k n_r11_Id 0 [.r, .l, .l] 10 [(12, false), (7, false)] ⟨(envOf 19 [(0, .str s), (2, .int .u64 0), (3, .int .i64 0), (4, .str s), (5, .int .i64 (s.size : Int)), (6, .bool (!decide ((s.size : Int) = 8))), (7, .bool (!decide ((s.size : Int) = 8))), (8, .str s), (9, .int .u64 r0), (10, .bool (decide (r0 < 1))), (11, .bool (decide (r0 < 1))), (12, .bool (decide (r0 < 1))), (13, .str s), (14, v)]), []⟩ κ
noncomputable def r11_Id_r2 (k : Nat) (s : ByteArray) (r1 : Int) (κ : AV → Heap → Option ρ) (v : AV) : Option ρ := resAt ctx k n_r11_Id 0 [.r, .r, .l] 1 [] ⟨(envOf 19 [(0, .str s), (16, .bool (decide (400 < r1))), (17, .str s), (18, v)]), []⟩ κ
theorem r11_Id_r0_s (k : Nat) (s : ByteArray) (r0 : Int) (κ : AV → Heap → Option ρ) : r11_Id_r0 k s κ (.int .u64 r0) =
  (bif decide (r0 < 1) then
   κ (.tup [.int .u64 0, .int .i64 110]) []
  else callP ctx k n_r11_worth [.str s] (r11_Id_r1 k s r0 κ)) := by kernel_rfl
theorem r11_Id_r1_s (k : Nat) (s : ByteArray) (r0 : Int) (r1 : Int) (κ : AV → Heap → Option ρ) : r11_Id_r1 k s r0 κ (.int .u64 r1) =
  (bif decide (400 < r1) then
   κ (.tup [.int .u64 0, .int .i64 110]) []
  else callP ctx k n_r11_worth [.str s] (r11_Id_r2 k s r1 κ)) := by kernel_rfl
theorem r11_Id_r2_s (k : Nat) (s : ByteArray) (r1 : Int) (r2 : Int) (κ : AV → Heap → Option ρ) : r11_Id_r2 k s r1 κ (.int .u64 r2) =
  κ (.tup [.int .u64 r2, .int .i64 0]) [] := by kernel_rfl
theorem r11_Id_e (k : Nat) (s : ByteArray) (κ : AV → Heap → Option ρ) : evalF ctx (k + 1) n_r11_Id [.str s] [] κ =
  (bif !decide ((s.size : Int) = 8) then
   κ (.tup [.int .u64 0, .int .i64 110]) []
  else callP ctx k n_r11_worth [.str s] (r11_Id_r0 k s κ)) := by kernel_rfl
theorem r11_number4_e (k : Nat) (n : Int) (κ : AV → Heap → Option ρ) : evalF ctx (k + 6) n_r11_number [.int .u64 n, .int .i64 4] [] κ =
  κ (.str (bytesOf 4 (shRow 0 (updRow 0 0 ((eI .u8) (wu8 ((wu64 ((wu64 ((wu64 (n.tdiv 256)).tdiv 256)).tdiv 256)).tmod 256))) (updRow 1 0 ((eI .u8) (wu8 ((wu64 ((wu64 (n.tdiv 256)).tdiv 256)).tmod 256))) (updRow 2 0 ((eI .u8) (wu8 ((wu64 (n.tdiv 256)).tmod 256))) (updRow 3 0 ((eI .u8) (wu8 (n.tmod 256))) (rowOf (eI .u8) (fun _ => 0))))))))) [] := by kernel_rfl
theorem r11_number8_e (k : Nat) (n : Int) (κ : AV → Heap → Option ρ) : evalF ctx (k + 10) n_r11_number [.int .u64 n, .int .i64 8] [] κ =
  κ (.str (bytesOf 8 (shRow 0 (updRow 0 0 ((eI .u8) (wu8 ((wu64 ((wu64 ((wu64 ((wu64 ((wu64 ((wu64 ((wu64 (n.tdiv 256)).tdiv 256)).tdiv 256)).tdiv 256)).tdiv 256)).tdiv 256)).tdiv 256)).tmod 256))) (updRow 1 0 ((eI .u8) (wu8 ((wu64 ((wu64 ((wu64 ((wu64 ((wu64 ((wu64 (n.tdiv 256)).tdiv 256)).tdiv 256)).tdiv 256)).tdiv 256)).tdiv 256)).tmod 256))) (updRow 2 0 ((eI .u8) (wu8 ((wu64 ((wu64 ((wu64 ((wu64 ((wu64 (n.tdiv 256)).tdiv 256)).tdiv 256)).tdiv 256)).tdiv 256)).tmod 256))) (updRow 3 0 ((eI .u8) (wu8 ((wu64 ((wu64 ((wu64 ((wu64 (n.tdiv 256)).tdiv 256)).tdiv 256)).tdiv 256)).tmod 256))) (updRow 4 0 ((eI .u8) (wu8 ((wu64 ((wu64 ((wu64 (n.tdiv 256)).tdiv 256)).tdiv 256)).tmod 256))) (updRow 5 0 ((eI .u8) (wu8 ((wu64 ((wu64 (n.tdiv 256)).tdiv 256)).tmod 256))) (updRow 6 0 ((eI .u8) (wu8 ((wu64 (n.tdiv 256)).tmod 256))) (updRow 7 0 ((eI .u8) (wu8 (n.tmod 256))) (rowOf (eI .u8) (fun _ => 0))))))))))))) [] := by kernel_rfl
end Go.Proofs.YtadbbgechcjciaaC
