/- Octets: numbers laid behind bytes. No conditions. -/
import Derived.Test.YtadbbgechcjciaaL2
import Derived.Test.YtadbbgechcjciaaG9
set_option linter.unusedVariables false
set_option linter.unusedSimpArgs false
set_option maxRecDepth 20000
namespace Go.Proofs.YtadbbgechcjciaaC
open Go Go.Ev Go.Proofs
variable {ρ : Type}
theorem upd_u8 (i : Nat) (v : Int) (w : Nat → Int) : updRow i 0 (eI .u8 v) (rowOf (eI .u8) w) = rowOf (eI .u8) (fun j => if j = i then v else w j) := upd_row (eI .u8) i 0 (eI .u8 v) w v rfl
theorem put1_row (m : Nat) (b : Nat → Int) (x : Int) : (fun j => if j = m then wu8 (x.fdiv (2 ^ 0)) else putW 0 (min m (m + 1)) b (fun _ => 0) j) = catW m b (digs 1 x) := by
  funext j
  by_cases h : j < m
  · rw [if_neg (by omega)]
    unfold putW catW
    rw [if_pos ⟨by omega, by omega⟩, if_pos h, Nat.sub_zero]
  by_cases h8 : m + 1 ≤ j
  · rw [if_neg (by omega)]
    unfold putW catW digs
    rw [if_neg (by omega), if_neg h, if_neg (by omega)]
  have hj : j = m + 0 := by omega
  clear h8
  · rw [if_pos (by omega)]
    unfold catW digs
    rw [if_neg h, if_pos (by omega), show 8 * (1 - 1 - (j - m)) = 0 by omega]
theorem octet_Put1_ok (k m : Nat) (b : Nat → Int) (u : Bool) (x : Int) (hm : m ≤ 1000000000) (hk : 20 ≤ k) (κ : AV → Heap → Option ρ) :
    evalF ctx k n_octet_Put [.sl 1 m (rowOf (eI .u8) b) u, .int .u64 x, .int .i64 1] [] κ = κ (.osl 1 0 0 (m + 1) true) [some (.arr 1 (m + 1) (rowOf (eI .u8) (catW m b (digs 1 x))))] := by
  obtain ⟨k, rfl⟩ : ∃ k', k = k' + 4 := ⟨k - 4, by omega⟩
  refine (octet_Put1_e k ⟨m, b, u⟩ x κ).trans ?_
  have e0 : wi64 ((m : Int) + 1) = ((m + 1 : Nat) : Int) := by rw [wi64_in (by omega) (by omega)]; omega
  have e1 : wi64 (((m + 1 : Nat) : Int) - 1) = ((m : Nat) : Int) := by rw [wi64_in (by omega) (by omega)]; omega
  have d0 : wi64 (((m : Nat) : Int) - 0) = ((m : Nat) : Int) := by rw [wi64_in (by omega) (by omega)]; omega
  have z : decide (0 ≤ ((m + 1 : Nat) : Int)) = true := decide_eq_true (by omega)
  have i0 : decide (m < m + 1) = true := decide_eq_true (by omega)
  have hw := put1_row m b x
  simp only [e0, z, dec_int, room_of (show (m + 1) * 1 ≤ 70368744177664 by omega) (by omega), Int.toNat_natCast, Bool.and_self, cond_true, e1, d0, idx_nat, i0, Nat.zero_add, put_row, upd_u8, hw, decide_true, Bool.and_true]
theorem put2_row (m : Nat) (b : Nat → Int) (x : Int) : (fun j => if j = m then wu8 (x.fdiv (2 ^ 8)) else if j = m + 1 then wu8 (x.fdiv (2 ^ 0)) else putW 0 (min m (m + 2)) b (fun _ => 0) j) = catW m b (digs 2 x) := by
  funext j
  by_cases h : j < m
  · rw [if_neg (by omega)]
    rw [if_neg (by omega)]
    unfold putW catW
    rw [if_pos ⟨by omega, by omega⟩, if_pos h, Nat.sub_zero]
  by_cases h8 : m + 2 ≤ j
  · rw [if_neg (by omega)]
    rw [if_neg (by omega)]
    unfold putW catW digs
    rw [if_neg (by omega), if_neg h, if_neg (by omega)]
  have hj : j = m + 0 ∨ j = m + 1 := by omega
  clear h8
  rcases hj with hj | hj
  · rw [if_pos (by omega)]
    unfold catW digs
    rw [if_neg h, if_pos (by omega), show 8 * (2 - 1 - (j - m)) = 8 by omega]
  · rw [if_neg (by omega)]
    rw [if_pos (by omega)]
    unfold catW digs
    rw [if_neg h, if_pos (by omega), show 8 * (2 - 1 - (j - m)) = 0 by omega]
theorem octet_Put2_ok (k m : Nat) (b : Nat → Int) (u : Bool) (x : Int) (hm : m ≤ 1000000000) (hk : 20 ≤ k) (κ : AV → Heap → Option ρ) :
    evalF ctx k n_octet_Put [.sl 1 m (rowOf (eI .u8) b) u, .int .u64 x, .int .i64 2] [] κ = κ (.osl 1 0 0 (m + 2) true) [some (.arr 1 (m + 2) (rowOf (eI .u8) (catW m b (digs 2 x))))] := by
  obtain ⟨k, rfl⟩ : ∃ k', k = k' + 5 := ⟨k - 5, by omega⟩
  refine (octet_Put2_e k ⟨m, b, u⟩ x κ).trans ?_
  have e0 : wi64 ((m : Int) + 2) = ((m + 2 : Nat) : Int) := by rw [wi64_in (by omega) (by omega)]; omega
  have e1 : wi64 (((m + 2 : Nat) : Int) - 1) = ((m + 1 : Nat) : Int) := by rw [wi64_in (by omega) (by omega)]; omega
  have d0 : wi64 (((m + 1 : Nat) : Int) - 0) = ((m + 1 : Nat) : Int) := by rw [wi64_in (by omega) (by omega)]; omega
  have d1 : wi64 (((m + 1 : Nat) : Int) - 1) = ((m : Nat) : Int) := by rw [wi64_in (by omega) (by omega)]; omega
  have z : decide (0 ≤ ((m + 2 : Nat) : Int)) = true := decide_eq_true (by omega)
  have i0 : decide (m + 1 < m + 2) = true := decide_eq_true (by omega)
  have i1 : decide (m < m + 2) = true := decide_eq_true (by omega)
  have hw := put2_row m b x
  simp only [e0, z, dec_int, room_of (show (m + 2) * 1 ≤ 70368744177664 by omega) (by omega), Int.toNat_natCast, Bool.and_self, cond_true, e1, d0, d1, idx_nat, i0, i1, Nat.zero_add, put_row, upd_u8, hw, decide_true, Bool.and_true]
theorem put4_row (m : Nat) (b : Nat → Int) (x : Int) : (fun j => if j = m then wu8 (x.fdiv (2 ^ 24)) else if j = m + 1 then wu8 (x.fdiv (2 ^ 16)) else if j = m + 2 then wu8 (x.fdiv (2 ^ 8)) else if j = m + 3 then wu8 (x.fdiv (2 ^ 0)) else putW 0 (min m (m + 4)) b (fun _ => 0) j) = catW m b (digs 4 x) := by
  funext j
  by_cases h : j < m
  · rw [if_neg (by omega)]
    rw [if_neg (by omega)]
    rw [if_neg (by omega)]
    rw [if_neg (by omega)]
    unfold putW catW
    rw [if_pos ⟨by omega, by omega⟩, if_pos h, Nat.sub_zero]
  by_cases h8 : m + 4 ≤ j
  · rw [if_neg (by omega)]
    rw [if_neg (by omega)]
    rw [if_neg (by omega)]
    rw [if_neg (by omega)]
    unfold putW catW digs
    rw [if_neg (by omega), if_neg h, if_neg (by omega)]
  have hj : j = m + 0 ∨ j = m + 1 ∨ j = m + 2 ∨ j = m + 3 := by omega
  clear h8
  rcases hj with hj | hj | hj | hj
  · rw [if_pos (by omega)]
    unfold catW digs
    rw [if_neg h, if_pos (by omega), show 8 * (4 - 1 - (j - m)) = 24 by omega]
  · rw [if_neg (by omega)]
    rw [if_pos (by omega)]
    unfold catW digs
    rw [if_neg h, if_pos (by omega), show 8 * (4 - 1 - (j - m)) = 16 by omega]
  · rw [if_neg (by omega)]
    rw [if_neg (by omega)]
    rw [if_pos (by omega)]
    unfold catW digs
    rw [if_neg h, if_pos (by omega), show 8 * (4 - 1 - (j - m)) = 8 by omega]
  · rw [if_neg (by omega)]
    rw [if_neg (by omega)]
    rw [if_neg (by omega)]
    rw [if_pos (by omega)]
    unfold catW digs
    rw [if_neg h, if_pos (by omega), show 8 * (4 - 1 - (j - m)) = 0 by omega]
theorem octet_Put4_ok (k m : Nat) (b : Nat → Int) (u : Bool) (x : Int) (hm : m ≤ 1000000000) (hk : 20 ≤ k) (κ : AV → Heap → Option ρ) :
    evalF ctx k n_octet_Put [.sl 1 m (rowOf (eI .u8) b) u, .int .u64 x, .int .i64 4] [] κ = κ (.osl 1 0 0 (m + 4) true) [some (.arr 1 (m + 4) (rowOf (eI .u8) (catW m b (digs 4 x))))] := by
  obtain ⟨k, rfl⟩ : ∃ k', k = k' + 7 := ⟨k - 7, by omega⟩
  refine (octet_Put4_e k ⟨m, b, u⟩ x κ).trans ?_
  have e0 : wi64 ((m : Int) + 4) = ((m + 4 : Nat) : Int) := by rw [wi64_in (by omega) (by omega)]; omega
  have e1 : wi64 (((m + 4 : Nat) : Int) - 1) = ((m + 3 : Nat) : Int) := by rw [wi64_in (by omega) (by omega)]; omega
  have d0 : wi64 (((m + 3 : Nat) : Int) - 0) = ((m + 3 : Nat) : Int) := by rw [wi64_in (by omega) (by omega)]; omega
  have d1 : wi64 (((m + 3 : Nat) : Int) - 1) = ((m + 2 : Nat) : Int) := by rw [wi64_in (by omega) (by omega)]; omega
  have d2 : wi64 (((m + 3 : Nat) : Int) - 2) = ((m + 1 : Nat) : Int) := by rw [wi64_in (by omega) (by omega)]; omega
  have d3 : wi64 (((m + 3 : Nat) : Int) - 3) = ((m : Nat) : Int) := by rw [wi64_in (by omega) (by omega)]; omega
  have z : decide (0 ≤ ((m + 4 : Nat) : Int)) = true := decide_eq_true (by omega)
  have i0 : decide (m + 3 < m + 4) = true := decide_eq_true (by omega)
  have i1 : decide (m + 2 < m + 4) = true := decide_eq_true (by omega)
  have i2 : decide (m + 1 < m + 4) = true := decide_eq_true (by omega)
  have i3 : decide (m < m + 4) = true := decide_eq_true (by omega)
  have hw := put4_row m b x
  simp only [e0, z, dec_int, room_of (show (m + 4) * 1 ≤ 70368744177664 by omega) (by omega), Int.toNat_natCast, Bool.and_self, cond_true, e1, d0, d1, d2, d3, idx_nat, i0, i1, i2, i3, Nat.zero_add, put_row, upd_u8, hw, decide_true, Bool.and_true]
theorem put8_row (m : Nat) (b : Nat → Int) (x : Int) : (fun j => if j = m then wu8 (x.fdiv (2 ^ 56)) else if j = m + 1 then wu8 (x.fdiv (2 ^ 48)) else if j = m + 2 then wu8 (x.fdiv (2 ^ 40)) else if j = m + 3 then wu8 (x.fdiv (2 ^ 32)) else if j = m + 4 then wu8 (x.fdiv (2 ^ 24)) else if j = m + 5 then wu8 (x.fdiv (2 ^ 16)) else if j = m + 6 then wu8 (x.fdiv (2 ^ 8)) else if j = m + 7 then wu8 (x.fdiv (2 ^ 0)) else putW 0 (min m (m + 8)) b (fun _ => 0) j) = catW m b (digs 8 x) := by
  funext j
  by_cases h : j < m
  · rw [if_neg (by omega)]
    rw [if_neg (by omega)]
    rw [if_neg (by omega)]
    rw [if_neg (by omega)]
    rw [if_neg (by omega)]
    rw [if_neg (by omega)]
    rw [if_neg (by omega)]
    rw [if_neg (by omega)]
    unfold putW catW
    rw [if_pos ⟨by omega, by omega⟩, if_pos h, Nat.sub_zero]
  by_cases h8 : m + 8 ≤ j
  · rw [if_neg (by omega)]
    rw [if_neg (by omega)]
    rw [if_neg (by omega)]
    rw [if_neg (by omega)]
    rw [if_neg (by omega)]
    rw [if_neg (by omega)]
    rw [if_neg (by omega)]
    rw [if_neg (by omega)]
    unfold putW catW digs
    rw [if_neg (by omega), if_neg h, if_neg (by omega)]
  have hj : j = m + 0 ∨ j = m + 1 ∨ j = m + 2 ∨ j = m + 3 ∨ j = m + 4 ∨ j = m + 5 ∨ j = m + 6 ∨ j = m + 7 := by omega
  clear h8
  rcases hj with hj | hj | hj | hj | hj | hj | hj | hj
  · rw [if_pos (by omega)]
    unfold catW digs
    rw [if_neg h, if_pos (by omega), show 8 * (8 - 1 - (j - m)) = 56 by omega]
  · rw [if_neg (by omega)]
    rw [if_pos (by omega)]
    unfold catW digs
    rw [if_neg h, if_pos (by omega), show 8 * (8 - 1 - (j - m)) = 48 by omega]
  · rw [if_neg (by omega)]
    rw [if_neg (by omega)]
    rw [if_pos (by omega)]
    unfold catW digs
    rw [if_neg h, if_pos (by omega), show 8 * (8 - 1 - (j - m)) = 40 by omega]
  · rw [if_neg (by omega)]
    rw [if_neg (by omega)]
    rw [if_neg (by omega)]
    rw [if_pos (by omega)]
    unfold catW digs
    rw [if_neg h, if_pos (by omega), show 8 * (8 - 1 - (j - m)) = 32 by omega]
  · rw [if_neg (by omega)]
    rw [if_neg (by omega)]
    rw [if_neg (by omega)]
    rw [if_neg (by omega)]
    rw [if_pos (by omega)]
    unfold catW digs
    rw [if_neg h, if_pos (by omega), show 8 * (8 - 1 - (j - m)) = 24 by omega]
  · rw [if_neg (by omega)]
    rw [if_neg (by omega)]
    rw [if_neg (by omega)]
    rw [if_neg (by omega)]
    rw [if_neg (by omega)]
    rw [if_pos (by omega)]
    unfold catW digs
    rw [if_neg h, if_pos (by omega), show 8 * (8 - 1 - (j - m)) = 16 by omega]
  · rw [if_neg (by omega)]
    rw [if_neg (by omega)]
    rw [if_neg (by omega)]
    rw [if_neg (by omega)]
    rw [if_neg (by omega)]
    rw [if_neg (by omega)]
    rw [if_pos (by omega)]
    unfold catW digs
    rw [if_neg h, if_pos (by omega), show 8 * (8 - 1 - (j - m)) = 8 by omega]
  · rw [if_neg (by omega)]
    rw [if_neg (by omega)]
    rw [if_neg (by omega)]
    rw [if_neg (by omega)]
    rw [if_neg (by omega)]
    rw [if_neg (by omega)]
    rw [if_neg (by omega)]
    rw [if_pos (by omega)]
    unfold catW digs
    rw [if_neg h, if_pos (by omega), show 8 * (8 - 1 - (j - m)) = 0 by omega]
theorem octet_Put8_ok (k m : Nat) (b : Nat → Int) (u : Bool) (x : Int) (hm : m ≤ 1000000000) (hk : 20 ≤ k) (κ : AV → Heap → Option ρ) :
    evalF ctx k n_octet_Put [.sl 1 m (rowOf (eI .u8) b) u, .int .u64 x, .int .i64 8] [] κ = κ (.osl 1 0 0 (m + 8) true) [some (.arr 1 (m + 8) (rowOf (eI .u8) (catW m b (digs 8 x))))] := by
  obtain ⟨k, rfl⟩ : ∃ k', k = k' + 11 := ⟨k - 11, by omega⟩
  refine (octet_Put8_e k ⟨m, b, u⟩ x κ).trans ?_
  have e0 : wi64 ((m : Int) + 8) = ((m + 8 : Nat) : Int) := by rw [wi64_in (by omega) (by omega)]; omega
  have e1 : wi64 (((m + 8 : Nat) : Int) - 1) = ((m + 7 : Nat) : Int) := by rw [wi64_in (by omega) (by omega)]; omega
  have d0 : wi64 (((m + 7 : Nat) : Int) - 0) = ((m + 7 : Nat) : Int) := by rw [wi64_in (by omega) (by omega)]; omega
  have d1 : wi64 (((m + 7 : Nat) : Int) - 1) = ((m + 6 : Nat) : Int) := by rw [wi64_in (by omega) (by omega)]; omega
  have d2 : wi64 (((m + 7 : Nat) : Int) - 2) = ((m + 5 : Nat) : Int) := by rw [wi64_in (by omega) (by omega)]; omega
  have d3 : wi64 (((m + 7 : Nat) : Int) - 3) = ((m + 4 : Nat) : Int) := by rw [wi64_in (by omega) (by omega)]; omega
  have d4 : wi64 (((m + 7 : Nat) : Int) - 4) = ((m + 3 : Nat) : Int) := by rw [wi64_in (by omega) (by omega)]; omega
  have d5 : wi64 (((m + 7 : Nat) : Int) - 5) = ((m + 2 : Nat) : Int) := by rw [wi64_in (by omega) (by omega)]; omega
  have d6 : wi64 (((m + 7 : Nat) : Int) - 6) = ((m + 1 : Nat) : Int) := by rw [wi64_in (by omega) (by omega)]; omega
  have d7 : wi64 (((m + 7 : Nat) : Int) - 7) = ((m : Nat) : Int) := by rw [wi64_in (by omega) (by omega)]; omega
  have z : decide (0 ≤ ((m + 8 : Nat) : Int)) = true := decide_eq_true (by omega)
  have i0 : decide (m + 7 < m + 8) = true := decide_eq_true (by omega)
  have i1 : decide (m + 6 < m + 8) = true := decide_eq_true (by omega)
  have i2 : decide (m + 5 < m + 8) = true := decide_eq_true (by omega)
  have i3 : decide (m + 4 < m + 8) = true := decide_eq_true (by omega)
  have i4 : decide (m + 3 < m + 8) = true := decide_eq_true (by omega)
  have i5 : decide (m + 2 < m + 8) = true := decide_eq_true (by omega)
  have i6 : decide (m + 1 < m + 8) = true := decide_eq_true (by omega)
  have i7 : decide (m < m + 8) = true := decide_eq_true (by omega)
  have hw := put8_row m b x
  simp only [e0, z, dec_int, room_of (show (m + 8) * 1 ≤ 70368744177664 by omega) (by omega), Int.toNat_natCast, Bool.and_self, cond_true, e1, d0, d1, d2, d3, d4, d5, d6, d7, idx_nat, i0, i1, i2, i3, i4, i5, i6, i7, Nat.zero_add, put_row, upd_u8, hw, decide_true, Bool.and_true]
end Go.Proofs.YtadbbgechcjciaaC
