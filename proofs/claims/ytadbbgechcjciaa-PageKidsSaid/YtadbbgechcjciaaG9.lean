/- What functions come to from one cut to the next. No conditions. -/
import Derived.Test.YtadbbgechcjciaaGS
import Derived.KernelRfl
set_option linter.unusedVariables false
set_option maxRecDepth 20000
namespace Go.Proofs.YtadbbgechcjciaaC
open Go Go.Ev Go.Proofs
variable {ρ : Type}
theorem octet_Put1_e (k : Nat) (b : Sl Int) (n : Int) (κ : AV → Heap → Option ρ) : evalF ctx (k + 4) n_octet_Put [.sl 1 b.n (rowOf (eI .u8) b.w) b.u, .int .u64 n, .int .i64 1] [] κ =
  (bif ((decide (0 ≤ wi64 ((b.n : Int) + 1))) && ((decide (wi64 ((b.n : Int) + 1) = wi64 ((b.n : Int) + 1))) && (roomOf ((wi64 ((b.n : Int) + 1)).toNat) 1))) then
   (bif idxOK (wi64 (wi64 ((((wi64 ((b.n : Int) + 1)).toNat : Nat) : Int) - 1) - 0)) ((wi64 ((b.n : Int) + 1)).toNat) then
    (bif decide ((0 + (wi64 (wi64 ((((wi64 ((b.n : Int) + 1)).toNat : Nat) : Int) - 1) - 0)).toNat) < (wi64 ((b.n : Int) + 1)).toNat) then
     κ (.osl 1 0 0 ((wi64 ((b.n : Int) + 1)).toNat) true) [some (.arr 1 ((wi64 ((b.n : Int) + 1)).toNat) (updRow (0 + (wi64 (wi64 ((((wi64 ((b.n : Int) + 1)).toNat : Nat) : Int) - 1) - 0)).toNat) 0 ((eI .u8) (wu8 (n.fdiv (2 ^ 0)))) (putRow 0 (0 + (min b.n (wi64 ((b.n : Int) + 1)).toNat)) (rowOf (eI .u8) b.w) (rowOf (eI .u8) (fun _ => 0)))))]
    else none)
   else none)
  else none) := by kernel_rfl
theorem octet_Put2_e (k : Nat) (b : Sl Int) (n : Int) (κ : AV → Heap → Option ρ) : evalF ctx (k + 5) n_octet_Put [.sl 1 b.n (rowOf (eI .u8) b.w) b.u, .int .u64 n, .int .i64 2] [] κ =
  (bif ((decide (0 ≤ wi64 ((b.n : Int) + 2))) && ((decide (wi64 ((b.n : Int) + 2) = wi64 ((b.n : Int) + 2))) && (roomOf ((wi64 ((b.n : Int) + 2)).toNat) 1))) then
   (bif idxOK (wi64 (wi64 ((((wi64 ((b.n : Int) + 2)).toNat : Nat) : Int) - 1) - 0)) ((wi64 ((b.n : Int) + 2)).toNat) then
    (bif decide ((0 + (wi64 (wi64 ((((wi64 ((b.n : Int) + 2)).toNat : Nat) : Int) - 1) - 0)).toNat) < (wi64 ((b.n : Int) + 2)).toNat) then
     (bif idxOK (wi64 (wi64 ((((wi64 ((b.n : Int) + 2)).toNat : Nat) : Int) - 1) - 1)) ((wi64 ((b.n : Int) + 2)).toNat) then
      (bif decide ((0 + (wi64 (wi64 ((((wi64 ((b.n : Int) + 2)).toNat : Nat) : Int) - 1) - 1)).toNat) < (wi64 ((b.n : Int) + 2)).toNat) then
       κ (.osl 1 0 0 ((wi64 ((b.n : Int) + 2)).toNat) true) [some (.arr 1 ((wi64 ((b.n : Int) + 2)).toNat) (updRow (0 + (wi64 (wi64 ((((wi64 ((b.n : Int) + 2)).toNat : Nat) : Int) - 1) - 1)).toNat) 0 ((eI .u8) (wu8 (n.fdiv (2 ^ 8)))) (updRow (0 + (wi64 (wi64 ((((wi64 ((b.n : Int) + 2)).toNat : Nat) : Int) - 1) - 0)).toNat) 0 ((eI .u8) (wu8 (n.fdiv (2 ^ 0)))) (putRow 0 (0 + (min b.n (wi64 ((b.n : Int) + 2)).toNat)) (rowOf (eI .u8) b.w) (rowOf (eI .u8) (fun _ => 0))))))]
      else none)
     else none)
    else none)
   else none)
  else none) := by kernel_rfl
theorem octet_Put4_e (k : Nat) (b : Sl Int) (n : Int) (κ : AV → Heap → Option ρ) : evalF ctx (k + 7) n_octet_Put [.sl 1 b.n (rowOf (eI .u8) b.w) b.u, .int .u64 n, .int .i64 4] [] κ =
  (bif ((decide (0 ≤ wi64 ((b.n : Int) + 4))) && ((decide (wi64 ((b.n : Int) + 4) = wi64 ((b.n : Int) + 4))) && (roomOf ((wi64 ((b.n : Int) + 4)).toNat) 1))) then
   (bif idxOK (wi64 (wi64 ((((wi64 ((b.n : Int) + 4)).toNat : Nat) : Int) - 1) - 0)) ((wi64 ((b.n : Int) + 4)).toNat) then
    (bif decide ((0 + (wi64 (wi64 ((((wi64 ((b.n : Int) + 4)).toNat : Nat) : Int) - 1) - 0)).toNat) < (wi64 ((b.n : Int) + 4)).toNat) then
     (bif idxOK (wi64 (wi64 ((((wi64 ((b.n : Int) + 4)).toNat : Nat) : Int) - 1) - 1)) ((wi64 ((b.n : Int) + 4)).toNat) then
      (bif decide ((0 + (wi64 (wi64 ((((wi64 ((b.n : Int) + 4)).toNat : Nat) : Int) - 1) - 1)).toNat) < (wi64 ((b.n : Int) + 4)).toNat) then
       (bif idxOK (wi64 (wi64 ((((wi64 ((b.n : Int) + 4)).toNat : Nat) : Int) - 1) - 2)) ((wi64 ((b.n : Int) + 4)).toNat) then
        (bif decide ((0 + (wi64 (wi64 ((((wi64 ((b.n : Int) + 4)).toNat : Nat) : Int) - 1) - 2)).toNat) < (wi64 ((b.n : Int) + 4)).toNat) then
         (bif idxOK (wi64 (wi64 ((((wi64 ((b.n : Int) + 4)).toNat : Nat) : Int) - 1) - 3)) ((wi64 ((b.n : Int) + 4)).toNat) then
          (bif decide ((0 + (wi64 (wi64 ((((wi64 ((b.n : Int) + 4)).toNat : Nat) : Int) - 1) - 3)).toNat) < (wi64 ((b.n : Int) + 4)).toNat) then
           κ (.osl 1 0 0 ((wi64 ((b.n : Int) + 4)).toNat) true) [some (.arr 1 ((wi64 ((b.n : Int) + 4)).toNat) (updRow (0 + (wi64 (wi64 ((((wi64 ((b.n : Int) + 4)).toNat : Nat) : Int) - 1) - 3)).toNat) 0 ((eI .u8) (wu8 (n.fdiv (2 ^ 24)))) (updRow (0 + (wi64 (wi64 ((((wi64 ((b.n : Int) + 4)).toNat : Nat) : Int) - 1) - 2)).toNat) 0 ((eI .u8) (wu8 (n.fdiv (2 ^ 16)))) (updRow (0 + (wi64 (wi64 ((((wi64 ((b.n : Int) + 4)).toNat : Nat) : Int) - 1) - 1)).toNat) 0 ((eI .u8) (wu8 (n.fdiv (2 ^ 8)))) (updRow (0 + (wi64 (wi64 ((((wi64 ((b.n : Int) + 4)).toNat : Nat) : Int) - 1) - 0)).toNat) 0 ((eI .u8) (wu8 (n.fdiv (2 ^ 0)))) (putRow 0 (0 + (min b.n (wi64 ((b.n : Int) + 4)).toNat)) (rowOf (eI .u8) b.w) (rowOf (eI .u8) (fun _ => 0))))))))]
          else none)
         else none)
        else none)
       else none)
      else none)
     else none)
    else none)
   else none)
  else none) := by kernel_rfl
theorem octet_Put8_e (k : Nat) (b : Sl Int) (n : Int) (κ : AV → Heap → Option ρ) : evalF ctx (k + 11) n_octet_Put [.sl 1 b.n (rowOf (eI .u8) b.w) b.u, .int .u64 n, .int .i64 8] [] κ =
  (bif ((decide (0 ≤ wi64 ((b.n : Int) + 8))) && ((decide (wi64 ((b.n : Int) + 8) = wi64 ((b.n : Int) + 8))) && (roomOf ((wi64 ((b.n : Int) + 8)).toNat) 1))) then
   (bif idxOK (wi64 (wi64 ((((wi64 ((b.n : Int) + 8)).toNat : Nat) : Int) - 1) - 0)) ((wi64 ((b.n : Int) + 8)).toNat) then
    (bif decide ((0 + (wi64 (wi64 ((((wi64 ((b.n : Int) + 8)).toNat : Nat) : Int) - 1) - 0)).toNat) < (wi64 ((b.n : Int) + 8)).toNat) then
     (bif idxOK (wi64 (wi64 ((((wi64 ((b.n : Int) + 8)).toNat : Nat) : Int) - 1) - 1)) ((wi64 ((b.n : Int) + 8)).toNat) then
      (bif decide ((0 + (wi64 (wi64 ((((wi64 ((b.n : Int) + 8)).toNat : Nat) : Int) - 1) - 1)).toNat) < (wi64 ((b.n : Int) + 8)).toNat) then
       (bif idxOK (wi64 (wi64 ((((wi64 ((b.n : Int) + 8)).toNat : Nat) : Int) - 1) - 2)) ((wi64 ((b.n : Int) + 8)).toNat) then
        (bif decide ((0 + (wi64 (wi64 ((((wi64 ((b.n : Int) + 8)).toNat : Nat) : Int) - 1) - 2)).toNat) < (wi64 ((b.n : Int) + 8)).toNat) then
         (bif idxOK (wi64 (wi64 ((((wi64 ((b.n : Int) + 8)).toNat : Nat) : Int) - 1) - 3)) ((wi64 ((b.n : Int) + 8)).toNat) then
          (bif decide ((0 + (wi64 (wi64 ((((wi64 ((b.n : Int) + 8)).toNat : Nat) : Int) - 1) - 3)).toNat) < (wi64 ((b.n : Int) + 8)).toNat) then
           (bif idxOK (wi64 (wi64 ((((wi64 ((b.n : Int) + 8)).toNat : Nat) : Int) - 1) - 4)) ((wi64 ((b.n : Int) + 8)).toNat) then
            (bif decide ((0 + (wi64 (wi64 ((((wi64 ((b.n : Int) + 8)).toNat : Nat) : Int) - 1) - 4)).toNat) < (wi64 ((b.n : Int) + 8)).toNat) then
             (bif idxOK (wi64 (wi64 ((((wi64 ((b.n : Int) + 8)).toNat : Nat) : Int) - 1) - 5)) ((wi64 ((b.n : Int) + 8)).toNat) then
              (bif decide ((0 + (wi64 (wi64 ((((wi64 ((b.n : Int) + 8)).toNat : Nat) : Int) - 1) - 5)).toNat) < (wi64 ((b.n : Int) + 8)).toNat) then
               (bif idxOK (wi64 (wi64 ((((wi64 ((b.n : Int) + 8)).toNat : Nat) : Int) - 1) - 6)) ((wi64 ((b.n : Int) + 8)).toNat) then
                (bif decide ((0 + (wi64 (wi64 ((((wi64 ((b.n : Int) + 8)).toNat : Nat) : Int) - 1) - 6)).toNat) < (wi64 ((b.n : Int) + 8)).toNat) then
                 (bif idxOK (wi64 (wi64 ((((wi64 ((b.n : Int) + 8)).toNat : Nat) : Int) - 1) - 7)) ((wi64 ((b.n : Int) + 8)).toNat) then
                  (bif decide ((0 + (wi64 (wi64 ((((wi64 ((b.n : Int) + 8)).toNat : Nat) : Int) - 1) - 7)).toNat) < (wi64 ((b.n : Int) + 8)).toNat) then
                   κ (.osl 1 0 0 ((wi64 ((b.n : Int) + 8)).toNat) true) [some (.arr 1 ((wi64 ((b.n : Int) + 8)).toNat) (updRow (0 + (wi64 (wi64 ((((wi64 ((b.n : Int) + 8)).toNat : Nat) : Int) - 1) - 7)).toNat) 0 ((eI .u8) (wu8 (n.fdiv (2 ^ 56)))) (updRow (0 + (wi64 (wi64 ((((wi64 ((b.n : Int) + 8)).toNat : Nat) : Int) - 1) - 6)).toNat) 0 ((eI .u8) (wu8 (n.fdiv (2 ^ 48)))) (updRow (0 + (wi64 (wi64 ((((wi64 ((b.n : Int) + 8)).toNat : Nat) : Int) - 1) - 5)).toNat) 0 ((eI .u8) (wu8 (n.fdiv (2 ^ 40)))) (updRow (0 + (wi64 (wi64 ((((wi64 ((b.n : Int) + 8)).toNat : Nat) : Int) - 1) - 4)).toNat) 0 ((eI .u8) (wu8 (n.fdiv (2 ^ 32)))) (updRow (0 + (wi64 (wi64 ((((wi64 ((b.n : Int) + 8)).toNat : Nat) : Int) - 1) - 3)).toNat) 0 ((eI .u8) (wu8 (n.fdiv (2 ^ 24)))) (updRow (0 + (wi64 (wi64 ((((wi64 ((b.n : Int) + 8)).toNat : Nat) : Int) - 1) - 2)).toNat) 0 ((eI .u8) (wu8 (n.fdiv (2 ^ 16)))) (updRow (0 + (wi64 (wi64 ((((wi64 ((b.n : Int) + 8)).toNat : Nat) : Int) - 1) - 1)).toNat) 0 ((eI .u8) (wu8 (n.fdiv (2 ^ 8)))) (updRow (0 + (wi64 (wi64 ((((wi64 ((b.n : Int) + 8)).toNat : Nat) : Int) - 1) - 0)).toNat) 0 ((eI .u8) (wu8 (n.fdiv (2 ^ 0)))) (putRow 0 (0 + (min b.n (wi64 ((b.n : Int) + 8)).toNat)) (rowOf (eI .u8) b.w) (rowOf (eI .u8) (fun _ => 0))))))))))))]
                  else none)
                 else none)
                else none)
               else none)
              else none)
             else none)
            else none)
           else none)
          else none)
         else none)
        else none)
       else none)
      else none)
     else none)
    else none)
   else none)
  else none) := by kernel_rfl
end Go.Proofs.YtadbbgechcjciaaC
