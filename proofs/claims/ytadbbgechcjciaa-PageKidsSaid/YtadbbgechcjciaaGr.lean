/- What functions come to from one cut to the next. No conditions. -/
import Derived.Test.YtadbbgechcjciaaGS
import Derived.KernelRfl
set_option linter.unusedVariables false
set_option maxRecDepth 20000
namespace Go.Proofs.YtadbbgechcjciaaC
open Go Go.Ev Go.Proofs
variable {ρ : Type}
noncomputable def octet_Reader_Num_1_h0 (k j : Nat) (s : ByteArray) (x6 : Int) (b0_0 : Int) (κ : AV → Heap → Option ρ) : Option ρ := headAt ctx k n_octet_Reader_Num_1 1 [.r] j ⟨(envOf 17 [(0, .str s), (1, .ref 0 0), (5, .int .i64 (s.size : Int)), (6, .int .i64 x6)]), [some (.box [.int .u64 b0_0])]⟩ κ
theorem octet_Reader_Num_1_h0_s (k j : Nat) (s : ByteArray) (x6 : Int) (b0_0 : Int) (κ : AV → Heap → Option ρ) : octet_Reader_Num_1_h0 k (j + 1) s x6 b0_0 κ =
  (bif decide (x6 < (s.size : Int)) then
   (bif idxOK x6 s.size then
    octet_Reader_Num_1_h0 k j s (wi64 (x6 + 1)) (wu64 ((BitVec.ofInt 64 (wu64 (b0_0 * 2 ^ 8)) ||| BitVec.ofInt 64 (wu64 ((((s.data.getD ((x6).toNat) 0).toNat : Nat) : Int)))).toNat : Int)) κ
   else none)
  else κ (.tup []) [some (.box [.int .u64 b0_0])]) := by kernel_rfl
theorem octet_Reader_Num_1_e (k : Nat) (s : ByteArray) (n : Int) (κ : AV → Heap → Option ρ) : evalF ctx (k + 1) n_octet_Reader_Num_1 [.str s, .ref 0 0] [some (.box [.int .u64 n])] κ =
  octet_Reader_Num_1_h0 k k s 0 n κ := by kernel_rfl
noncomputable def want_Num_r0 (k : Nat) (rb : ByteArray) (rp : Int) (rl : Bool) (rm : Bool) (k0 : Int) (n : Int) (κ : AV → Heap → Option ρ) (v : AV) (W : Heap) : Option ρ := backH [1] [some (.box [.str rb, .int .i64 (wi64 (rp + k0)), .bool rl, .bool rm]), some (.box [.int .u64 n])] (fun v H => resAt ctx k n_octet_Reader_want 2 [.r, .r, .r, .r, .r, .r] 2 [] ⟨(envOf 44 [(2, .fn n_octet_Reader_Num_1 [] [.ref 1 0]), (6, .str ((rb.extract ((rp).toNat) rb.size).extract 0 ((k0).toNat))), (26, .fn n_octet_Reader_Num_1 [] [.ref 1 0]), (27, .str ((rb.extract ((rp).toNat) rb.size).extract 0 ((k0).toNat))), (28, v)]), H⟩ κ) v W
theorem want_Num_r0_s (k : Nat) (rb : ByteArray) (rp : Int) (rl : Bool) (rm : Bool) (k0 : Int) (n : Int) (r0n : Int) (κ : AV → Heap → Option ρ) : want_Num_r0 k rb rp rl rm k0 n κ (.tup []) [some (.box [.int .u64 r0n])] =
  κ (.tup []) [some (.box [.str rb, .int .i64 (wi64 (rp + k0)), .bool rl, .bool rm]), some (.box [.int .u64 r0n])] := by kernel_rfl
theorem want_Num_e (k : Nat) (rb : ByteArray) (rp : Int) (rl : Bool) (rm : Bool) (k0 : Int) (n : Int) (κ : AV → Heap → Option ρ) : evalF ctx (k + 3) n_octet_Reader_want [.ref 0 0, .int .i64 k0, .fn n_octet_Reader_Num_1 [] [.ref 1 0]] [some (.box [.str rb, .int .i64 rp, .bool rl, .bool rm]), some (.box [.int .u64 n])] κ =
  (bif !rm then
   κ (.tup []) [some (.box [.str rb, .int .i64 rp, .bool rl, .bool rm]), some (.box [.int .u64 n])]
  else (bif rl then
    κ (.tup []) [some (.box [.str rb, .int .i64 rp, .bool rl, .bool rm]), some (.box [.int .u64 n])]
   else (bif decide (k0 < 0) then
     κ (.tup []) [some (.box [.str rb, .int .i64 rp, .bool true, .bool rm]), some (.box [.int .u64 n])]
    else (bif !rm then
      (bif decide (0 < k0) then
       κ (.tup []) [some (.box [.str rb, .int .i64 rp, .bool true, .bool rm]), some (.box [.int .u64 n])]
      else (bif cutOK rb.size rp (rb.size : Int) (rb.size : Int) then
        (bif cutOK ((rb.extract ((rp).toNat) rb.size).size) 0 k0 (((rb.extract ((rp).toNat) rb.size).size : Nat) : Int) then
         evalF ctx (k + 2) n_octet_Reader_Num_1 [.str ((rb.extract ((rp).toNat) rb.size).extract 0 ((k0).toNat)), .ref 0 0] [some (.box [.int .u64 n])] (want_Num_r0 (k + 2) rb rp rl rm k0 n κ)
        else none)
       else none))
     else (bif rl then
       (bif decide (0 < k0) then
        κ (.tup []) [some (.box [.str rb, .int .i64 rp, .bool true, .bool rm]), some (.box [.int .u64 n])]
       else (bif cutOK rb.size rp (rb.size : Int) (rb.size : Int) then
         (bif cutOK ((rb.extract ((rp).toNat) rb.size).size) 0 k0 (((rb.extract ((rp).toNat) rb.size).size : Nat) : Int) then
          evalF ctx (k + 2) n_octet_Reader_Num_1 [.str ((rb.extract ((rp).toNat) rb.size).extract 0 ((k0).toNat)), .ref 0 0] [some (.box [.int .u64 n])] (want_Num_r0 (k + 2) rb rp rl rm k0 n κ)
         else none)
        else none))
      else (bif decide (wi64 ((rb.size : Int) - rp) < k0) then
        κ (.tup []) [some (.box [.str rb, .int .i64 rp, .bool true, .bool rm]), some (.box [.int .u64 n])]
       else (bif cutOK rb.size rp (rb.size : Int) (rb.size : Int) then
         (bif cutOK ((rb.extract ((rp).toNat) rb.size).size) 0 k0 (((rb.extract ((rp).toNat) rb.size).size : Nat) : Int) then
          evalF ctx (k + 2) n_octet_Reader_Num_1 [.str ((rb.extract ((rp).toNat) rb.size).extract 0 ((k0).toNat)), .ref 0 0] [some (.box [.int .u64 n])] (want_Num_r0 (k + 2) rb rp rl rm k0 n κ)
         else none)
        else none))))))) := by kernel_rfl
noncomputable def octet_Num8_r0 (k : Nat) (rb : ByteArray) (rp : Int) (rl : Bool) (rm : Bool) (κ : AV → Heap → Option ρ) (v : AV) (W : Heap) : Option ρ := backH [0, 1] [some (.box [.str rb, .int .i64 rp, .bool rl, .bool rm]), some (.box [.int .u64 0])] (fun v H => resAt ctx k n_octet_Reader_Num 1 [.r, .r, .l] 3 [] ⟨(envOf 13 [(0, .ref 0 0), (1, .int .i64 8), (4, .ref 1 0), (7, .bool false), (8, .ref 0 0), (9, .int .i64 8), (10, .fn n_octet_Reader_Num_1 [] [.ref 1 0]), (11, v)]), H⟩ κ) v W
theorem octet_Num8_r0_s (k : Nat) (rb : ByteArray) (rp : Int) (rl : Bool) (rm : Bool) (r0b : ByteArray) (r0p : Int) (r0l : Bool) (r0m : Bool) (r0n : Int) (κ : AV → Heap → Option ρ) : octet_Num8_r0 k rb rp rl rm κ (.tup []) [some (.box [.str r0b, .int .i64 r0p, .bool r0l, .bool r0m]), some (.box [.int .u64 r0n])] =
  κ (.int .u64 r0n) [some (.box [.str r0b, .int .i64 r0p, .bool r0l, .bool r0m]), some (.box [.int .u64 r0n])] := by kernel_rfl
theorem octet_Num8_e (k : Nat) (rb : ByteArray) (rp : Int) (rl : Bool) (rm : Bool) (κ : AV → Heap → Option ρ) : evalF ctx (k + 6) n_octet_Reader_Num [.ref 0 0, .int .i64 8] [some (.box [.str rb, .int .i64 rp, .bool rl, .bool rm])] κ =
  evalF ctx (k + 5) n_octet_Reader_want [.ref 0 0, .int .i64 8, .fn n_octet_Reader_Num_1 [] [.ref 1 0]] [some (.box [.str rb, .int .i64 rp, .bool rl, .bool rm]), some (.box [.int .u64 0])] (octet_Num8_r0 (k + 5) rb rp rl rm κ) := by kernel_rfl
end Go.Proofs.YtadbbgechcjciaaC
