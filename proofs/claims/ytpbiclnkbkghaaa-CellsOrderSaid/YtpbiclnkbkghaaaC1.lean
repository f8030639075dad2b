/- Cells: what the program's and the document's functions tell of rows of cells. No conditions. -/
import Derived.Test.YtpbiclnkbkghaaaL0
import Derived.Test.YtpbiclnkbkghaaaG1
set_option linter.unusedVariables false
set_option linter.unusedSimpArgs false
namespace Go.Proofs.YtpbiclnkbkghaaaC
open Go Go.Ev Go.Proofs
variable {ρ : Type}

/-- bytes of a cell -/
def csz (c : TCell) : Nat := c.Key.size + c.Value.size
def tot (n : Nat) (w : Nat → TCell) : Nat := ((lst n w).map csz).sum
theorem tot_succ (n : Nat) (w : Nat → TCell) : tot (n + 1) w = tot n w + csz (w n) := by simp [tot, lst_succ]
def Fine (n : Nat) (w : Nat → TCell) : Prop := ∀ i, i < n → (w i).Key.size ≤ 140737488351232 ∧ (w i).Value.size ≤ 140737488351232
theorem tot_le {n : Nat} {w : Nat → TCell} (h : Fine n w) : ∀ i, i ≤ n → tot i w ≤ i * 281474976710656
  | 0, _ => by simp [tot, lst]
  | i + 1, hi => by
    have := tot_le h i (by omega)
    have := h i (by omega)
    rw [tot_succ]; unfold csz; omega
theorem tot_mono {w : Nat → TCell} {a b : Nat} (h : a ≤ b) : tot a w ≤ tot b w := by
  induction b with
  | zero => rw [Nat.le_zero.1 h]; exact Nat.le_refl _
  | succ b ih =>
    rcases Nat.lt_or_ge b a with h' | h'
    · rw [show a = b + 1 by omega]; exact Nat.le_refl _
    · rw [tot_succ]; have := ih h'; omega

def greatB (n : Nat) (w : Nat → TCell) : Bool := if 50 < n then true else decide (20000 < tot n w)
theorem greatB_false {n : Nat} {w : Nat → TCell} (h : greatB n w = false) : n ≤ 50 ∧ tot n w ≤ 20000 := by
  unfold greatB at h
  split at h
  · cases h
  · simp only [decide_eq_false_iff_not] at h; omega
theorem great_loop (k : Nat) (l : Sl TCell) (hf : Fine l.n l.w) (κ : AV → Heap → Option ρ) : ∀ j i, i ≤ min l.n 50 → min l.n 50 < i + j →
    law10_great_h0 k j l (tot i l.w : Int) (i : Int) κ = κ (.bool (greatB l.n l.w)) []
  | 0, i, h1, h2 => by omega
  | j + 1, i, h1, h2 => by
    rw [law10_great_h0_s]
    simp only [Bool.cond_decide, idx_nat, Int.toNat_natCast]
    have hb := tot_le hf (min l.n 50) (by omega)
    by_cases hi : i < min l.n 50
    · rw [if_pos (by omega), if_pos (by omega), if_pos (by omega), if_pos (by omega)]
      have ht := tot_mono (w := l.w) (show i + 1 ≤ min l.n 50 by omega)
      have e1 := tot_succ i l.w
      unfold csz at e1
      have e : wi64 (wi64 ((tot i l.w : Int) + ((l.w i).Key.size : Int)) + ((l.w i).Value.size : Int)) = (tot (i + 1) l.w : Int) := by
        rw [wi64_in (n := (tot i l.w : Int) + ((l.w i).Key.size : Int)) (by omega) (by omega), wi64_in (by omega) (by omega)]; omega
      rw [e, wi64_succ (by omega)]
      exact great_loop k l hf κ j (i + 1) (by omega) (by omega)
    · have hc : ∀ (A B : Option ρ), (if (i : Int) < (l.n : Int) then (if (i : Int) < 50 then A else B) else B) = B := by
        intro A B
        split
        · rw [if_neg (by omega)]
        · rfl
      rw [hc]
      unfold greatB
      by_cases h5 : 50 < l.n
      · rw [if_pos (by omega), if_pos h5]
      · rw [if_neg (by omega), if_neg h5]
        have : i = l.n := by omega
        subst this
        congr 2
        exact decide_eq_decide.2 (by omega)
theorem great_ok (k : Nat) (l : Sl TCell) (hf : Fine l.n l.w) (hk : 60 ≤ k) (κ : AV → Option ρ) : callP ctx k n_law10_great [.sl 2 l.n (rowOf eCell l.w) l.u] κ = κ (.bool (greatB l.n l.w)) := by
  obtain ⟨k, rfl⟩ : ∃ k', k = k' + 1 := ⟨k - 1, by omega⟩
  unfold callP
  rw [law10_great_e]
  exact great_loop k l hf _ k 0 (by omega) (by omega)

/-! ### Right -/
def fitB (c : TCell) : Bool := decide (c.Key.size ≤ 513) && decide (c.Value.size ≤ 2048)
def rightP (w : Nat → TCell) (i : Nat) : Bool := fitB (w i) && (decide (i = 0) || bl (w (i - 1)).Key (w i).Key)
def rightB (n : Nat) (w : Nat → TCell) : Bool := allN n (rightP w)
theorem right_step (w : Nat → TCell) (i : Nat) (A : Option ρ) (B : Option ρ) (n : Nat) (hi : i < n) (hn : n ≤ 4611686018427387904) :
    (bif decide (((w i).Key.size : Int) ≤ 513) then (bif !(decide (((w i).Value.size : Int) ≤ 2048)) then B else
      (bif decide ((0 : Int) < (i : Int)) then (bif idxOK (wi64 ((i : Int) - 1)) n then (bif !bl (w (wi64 ((i : Int) - 1)).toNat).Key (w i).Key then B else A) else none) else A)) else B) = if rightP w i = true then A else B := by
  have h1 : decide (((w i).Key.size : Int) ≤ 513) = decide ((w i).Key.size ≤ 513) := decide_eq_decide.2 (by omega)
  have h2 : decide (((w i).Value.size : Int) ≤ 2048) = decide ((w i).Value.size ≤ 2048) := decide_eq_decide.2 (by omega)
  rw [h1, h2]
  unfold rightP fitB
  cases decide ((w i).Key.size ≤ 513) <;> cases decide ((w i).Value.size ≤ 2048) <;> simp only [cond_true, cond_false, Bool.not_true, Bool.not_false, Bool.true_and, Bool.false_and, Bool.and_false, Bool.and_self, if_true, Bool.false_eq_true, if_false]
  by_cases h0 : i = 0
  · subst h0; simp
  · rw [wi64_pred (by omega) (by omega), idx_nat, Int.toNat_natCast]
    have e1 : decide ((0 : Int) < (i : Int)) = true := decide_eq_true (by omega)
    have e2 : decide (i - 1 < n) = true := decide_eq_true (by omega)
    have e3 : decide (i = 0) = false := decide_eq_false h0
    rw [e1, e2, e3]
    simp only [cond_true, Bool.false_or]
    cases bl (w (i - 1)).Key (w i).Key <;> simp
theorem r10_Right_ok (k n : Nat) (w : Nat → TCell) (u : Bool) (hn : n ≤ 4611686018427387904) (hk : n + 3 ≤ k) (κ : AV → Option ρ) : callP ctx k n_r10_Right [.sl 2 n (rowOf eCell w) u] κ = κ (.bool (rightB n w)) := by
  obtain ⟨k, rfl⟩ : ∃ k', k = k' + 2 := ⟨k - 2, by omega⟩
  rw [callP_eq]
  refine (r10_Right_e (k + 1) ⟨n, w, u⟩ (pk κ)).trans ?_
  have h := all_loop (n := n) (P := rightP w) (hd := fun j i => r10_Right_h0 (k + 1) j ⟨n, w, u⟩ (i : Int) (pk κ)) (yes := κ (.bool true)) (no := κ (.bool false)) (fun j i hi => ?_) (fun j => ?_) (k + 1) 0 (by omega) (by omega) (fun i h => by omega)
  · refine h.trans ?_
    unfold rightB
    cases allN n (rightP w) <;> rfl
  · rw [r10_Right_h0_s]
    have e0 : decide ((i : Int) < (n : Int)) = true := decide_eq_true (by omega)
    have e1 : decide (i < n) = true := decide_eq_true hi
    simp only [e0, e1, idx_nat, Int.toNat_natCast, cond_true, pk_bool]
    have := right_step w i (r10_Right_h0 (k + 1) j ⟨n, w, u⟩ (wi64 ((i : Int) + 1)) (pk κ)) (κ (.bool false)) n hi hn
    rw [wi64_succ (by omega)] at *
    rw [this]
  · rw [r10_Right_h0_s]
    have e0 : decide ((n : Int) < (n : Int)) = false := decide_eq_false (by omega)
    simp only [e0, cond_false, pk_bool]
theorem cells_Right_ok (k n : Nat) (w : Nat → TCell) (u : Bool) (hn : n ≤ 4611686018427387904) (hk : n + 3 ≤ k) (κ : AV → Option ρ) : callP ctx k n_cells_Right [.sl 2 n (rowOf eCell w) u] κ = κ (.bool (rightB n w)) := by
  obtain ⟨k, rfl⟩ : ∃ k', k = k' + 2 := ⟨k - 2, by omega⟩
  rw [callP_eq]
  refine (cells_Right_e (k + 1) ⟨n, w, u⟩ (pk κ)).trans ?_
  have h := all_loop (n := n) (P := rightP w) (hd := fun j i => cells_Right_h0 (k + 1) j ⟨n, w, u⟩ (i : Int) (pk κ)) (yes := κ (.bool true)) (no := κ (.bool false)) (fun j i hi => ?_) (fun j => ?_) (k + 1) 0 (by omega) (by omega) (fun i h => by omega)
  · refine h.trans ?_
    unfold rightB
    cases allN n (rightP w) <;> rfl
  · rw [cells_Right_h0_s]
    have e0 : decide ((i : Int) < (n : Int)) = true := decide_eq_true (by omega)
    have e1 : decide (i < n) = true := decide_eq_true hi
    have := right_step w i (cells_Right_h0 (k + 1) j ⟨n, w, u⟩ (wi64 ((i : Int) + 1)) (pk κ)) (κ (.bool false)) n hi hn
    rw [wi64_succ (by omega)] at *
    simp only [e0, e1, idx_nat, Int.toNat_natCast, cond_true, pk_bool]
    exact this
  · rw [cells_Right_h0_s]
    have e0 : decide ((n : Int) < (n : Int)) = false := decide_eq_false (by omega)
    simp only [e0, cond_false, pk_bool]

/-! ### Size -/
def cszS (c : TCell) : Nat := 4 + c.Key.size + c.Value.size
def sizeN (n : Nat) (w : Nat → TCell) : Nat := ((lst n w).map cszS).sum
theorem sizeN_succ (n : Nat) (w : Nat → TCell) : sizeN (n + 1) w = sizeN n w + cszS (w n) := by simp [sizeN, lst_succ]
theorem sizeN_le {n : Nat} {w : Nat → TCell} (h : Fine n w) : ∀ i, i ≤ n → sizeN i w ≤ i * 281474976710660
  | 0, _ => by simp [sizeN, lst]
  | i + 1, hi => by
    have := sizeN_le h i (by omega)
    have := h i (by omega)
    rw [sizeN_succ]; unfold cszS; omega
theorem r10_Size_ok (k n : Nat) (w : Nat → TCell) (u : Bool) (hf : Fine n w) (hn : n ≤ 10000) (hk : n + 3 ≤ k) (κ : AV → Option ρ) : callP ctx k n_r10_Size [.sl 2 n (rowOf eCell w) u] κ = κ (.int .i64 (sizeN n w : Int)) := by
  obtain ⟨k, rfl⟩ : ∃ k', k = k' + 2 := ⟨k - 2, by omega⟩
  rw [callP_eq]
  refine (r10_Size_e (k + 1) ⟨n, w, u⟩ (pk κ)).trans ?_
  have : ∀ j i, i ≤ n → n < i + j → r10_Size_h0 (k + 1) j ⟨n, w, u⟩ (sizeN i w : Int) (i : Int) (pk κ) = κ (.int .i64 (sizeN n w : Int)) := by
    intro j
    induction j with
    | zero => intro i h1 h2; omega
    | succ j ih =>
      intro i h1 h2
      rw [r10_Size_h0_s]
      by_cases hi : i < n
      · have e0 : decide ((i : Int) < (n : Int)) = true := decide_eq_true (by omega)
        have e1 : decide (i < n) = true := decide_eq_true hi
        have hb := sizeN_le hf i (by omega)
        have hc := hf i hi
        have e : wi64 (wi64 (wi64 ((sizeN i w : Int) + 4) + ((w i).Key.size : Int)) + ((w i).Value.size : Int)) = (sizeN (i + 1) w : Int) := by
          rw [sizeN_succ]; unfold cszS
          rw [wi64_in (n := (sizeN i w : Int) + 4) (by omega) (by omega), wi64_in (n := (sizeN i w : Int) + 4 + ((w i).Key.size : Int)) (by omega) (by omega), wi64_in (by omega) (by omega)]; omega
        simp only [e0, e1, idx_nat, Int.toNat_natCast, cond_true]
        rw [e, wi64_succ (by omega)]
        exact ih (i + 1) hi (by omega)
      · have : i = n := by omega
        subst this
        have e0 : decide ((i : Int) < (i : Int)) = false := decide_eq_false (by omega)
        simp only [e0, cond_false, pk_int]
  exact this (k + 1) 0 (by omega) (by omega)
theorem cells_Size_ok (k n : Nat) (w : Nat → TCell) (u : Bool) (hf : Fine n w) (hn : n ≤ 10000) (hk : n + 3 ≤ k) (κ : AV → Option ρ) : callP ctx k n_cells_Size [.sl 2 n (rowOf eCell w) u] κ = κ (.int .i64 (sizeN n w : Int)) := by
  obtain ⟨k, rfl⟩ : ∃ k', k = k' + 2 := ⟨k - 2, by omega⟩
  rw [callP_eq]
  refine (cells_Size_e (k + 1) ⟨n, w, u⟩ (pk κ)).trans ?_
  have : ∀ j i, i ≤ n → n < i + j → cells_Size_h0 (k + 1) j ⟨n, w, u⟩ (sizeN i w : Int) (i : Int) (pk κ) = κ (.int .i64 (sizeN n w : Int)) := by
    intro j
    induction j with
    | zero => intro i h1 h2; omega
    | succ j ih =>
      intro i h1 h2
      rw [cells_Size_h0_s]
      by_cases hi : i < n
      · have e0 : decide ((i : Int) < (n : Int)) = true := decide_eq_true (by omega)
        have e1 : decide (i < n) = true := decide_eq_true hi
        have hb := sizeN_le hf i (by omega)
        have hc := hf i hi
        have e : wi64 ((sizeN i w : Int) + wi64 (wi64 (4 + ((w i).Key.size : Int)) + ((w i).Value.size : Int))) = (sizeN (i + 1) w : Int) := by
          rw [sizeN_succ]; unfold cszS
          rw [wi64_in (n := 4 + ((w i).Key.size : Int)) (by omega) (by omega), wi64_in (n := 4 + ((w i).Key.size : Int) + ((w i).Value.size : Int)) (by omega) (by omega), wi64_in (by omega) (by omega)]; omega
        simp only [e0, e1, idx_nat, Int.toNat_natCast, cond_true]
        rw [e, wi64_succ (by omega)]
        exact ih (i + 1) hi (by omega)
      · have : i = n := by omega
        subst this
        have e0 : decide ((i : Int) < (i : Int)) = false := decide_eq_false (by omega)
        simp only [e0, cond_false, pk_int]
  exact this (k + 1) 0 (by omega) (by omega)

/-! ### Same -/
def sameP (v w : Nat → TCell) (i : Nat) : Bool := decide ((v i).Key = (w i).Key) && (decide ((v i).Value = (w i).Value) && true)
def sameB (n : Nat) (v : Nat → TCell) (m : Nat) (w : Nat → TCell) : Bool := decide (n = m) && allN n (sameP v w)
theorem r10_Same_ok (k n m : Nat) (v w : Nat → TCell) (u u' : Bool) (hn : n ≤ 4611686018427387904) (hk : n + 3 ≤ k) (κ : AV → Option ρ) : callP ctx k n_r10_Same [.sl 2 n (rowOf eCell v) u, .sl 2 m (rowOf eCell w) u'] κ = κ (.bool (sameB n v m w)) := by
  obtain ⟨k, rfl⟩ : ∃ k', k = k' + 1 := ⟨k - 1, by omega⟩
  rw [callP_eq]
  refine (r10_Same_e k ⟨n, v, u⟩ ⟨m, w, u'⟩ (pk κ)).trans ?_
  unfold sameB
  by_cases hm : n = m
  · subst hm
    simp only [decide_true, Bool.not_true, cond_false, Bool.true_and]
    have h := all_loop (n := n) (P := sameP v w) (hd := fun j i => r10_Same_h0 k j ⟨n, v, u⟩ ⟨n, w, u'⟩ (i : Int) (pk κ)) (yes := κ (.bool true)) (no := κ (.bool false)) (fun j i hi => ?_) (fun j => ?_) k 0 (by omega) (by omega) (fun i h => by omega)
    · refine h.trans ?_
      cases allN n (sameP v w) <;> rfl
    · rw [r10_Same_h0_s]
      have e0 : decide ((i : Int) < (n : Int)) = true := decide_eq_true (by omega)
      have e1 : decide (i < n) = true := decide_eq_true hi
      simp only [e0, e1, idx_nat, Int.toNat_natCast, cond_true, pk_bool]
      rw [wi64_succ (by omega)]
      show (bif !(sameP v w i) then _ else _) = _
      cases sameP v w i <;> rfl
    · rw [r10_Same_h0_s]
      have e0 : decide ((n : Int) < (n : Int)) = false := decide_eq_false (by omega)
      simp only [e0, cond_false, pk_bool]
  · have e : decide ((n : Int) = (m : Int)) = false := decide_eq_false (by omega)
    simp only [e, Bool.not_false, cond_true, pk_bool, decide_eq_false hm, Bool.false_and]
theorem slices_Equal_ok (k n m : Nat) (v w : Nat → TCell) (u u' : Bool) (hn : n ≤ 4611686018427387904) (hk : n + 3 ≤ k) (κ : AV → Option ρ) : callP ctx k n_slices_Equal_Cell [.sl 2 n (rowOf eCell v) u, .sl 2 m (rowOf eCell w) u'] κ = κ (.bool (sameB n v m w)) := by
  obtain ⟨k, rfl⟩ : ∃ k', k = k' + 1 := ⟨k - 1, by omega⟩
  rw [callP_eq]
  refine (slices_Equal_Cell_e k ⟨n, v, u⟩ ⟨m, w, u'⟩ (pk κ)).trans ?_
  unfold sameB
  by_cases hm : n = m
  · subst hm
    simp only [decide_true, Bool.not_true, cond_false, Bool.true_and]
    have h := all_loop (n := n) (P := sameP v w) (hd := fun j i => slices_Equal_Cell_h0 k j ⟨n, v, u⟩ ⟨n, w, u'⟩ (i : Int) (pk κ)) (yes := κ (.bool true)) (no := κ (.bool false)) (fun j i hi => ?_) (fun j => ?_) k 0 (by omega) (by omega) (fun i h => by omega)
    · refine h.trans ?_
      cases allN n (sameP v w) <;> rfl
    · rw [slices_Equal_Cell_h0_s]
      have e0 : decide ((i : Int) < (n : Int)) = true := decide_eq_true (by omega)
      have e1 : decide (i < n) = true := decide_eq_true hi
      simp only [e0, e1, idx_nat, Int.toNat_natCast, cond_true, pk_bool]
      rw [wi64_succ (by omega)]
      show (bif !(sameP v w i) then _ else _) = _
      cases sameP v w i <;> rfl
    · rw [slices_Equal_Cell_h0_s]
      have e0 : decide ((n : Int) < (n : Int)) = false := decide_eq_false (by omega)
      simp only [e0, cond_false, pk_bool]
  · have e : decide ((n : Int) = (m : Int)) = false := decide_eq_false (by omega)
    simp only [e, Bool.not_false, cond_true, pk_bool, decide_eq_false hm, Bool.false_and]
theorem cells_Same_ok (k n m : Nat) (v w : Nat → TCell) (u u' : Bool) (hn : n ≤ 4611686018427387904) (hk : n + 4 ≤ k) (κ : AV → Option ρ) : callP ctx k n_cells_Same [.sl 2 n (rowOf eCell v) u, .sl 2 m (rowOf eCell w) u'] κ = κ (.bool (sameB n v m w)) := by
  obtain ⟨k, rfl⟩ : ∃ k', k = k' + 1 := ⟨k - 1, by omega⟩
  rw [callP_eq]
  refine (cells_Same_e k ⟨n, v, u⟩ ⟨m, w, u'⟩ (pk κ)).trans ?_
  simp only
  rw [slices_Equal_ok k n m v w u u' hn (by omega), cells_Same_r0_s]
  rfl

/-! ### Copy -/
theorem r10_Copy_ok (k n : Nat) (w : Nat → TCell) (u : Bool) (hn : n ≤ 10000) (hk : 1 ≤ k) : ∃ w' : Nat → TCell, (∀ i, i < n → w' i = w i) ∧ ∀ κ : AV → Option ρ, callP ctx k n_r10_Copy [.sl 2 n (rowOf eCell w) u] κ = κ (.sl 2 n (rowOf eCell w') false) := by
  obtain ⟨k, rfl⟩ : ∃ k', k = k' + 1 := ⟨k - 1, by omega⟩
  by_cases h0 : n = 0
  · subst h0
    refine ⟨fun _ => zCell, fun i hi => by omega, fun κ => ?_⟩
    rw [callP_eq]
    exact (r10_Copy_e k ⟨0, w, u⟩ (pk κ)).trans rfl
  · refine ⟨catW 0 (fun _ => zCell) w, fun i hi => by simp [catW], fun κ => ?_⟩
    rw [callP_eq]
    refine (r10_Copy_e k ⟨n, w, u⟩ (pk κ)).trans ?_
    simp only [decide_eq_false h0, cond_false, room_of (show n * 32 ≤ 70368744177664 by omega) (by omega), cond_true, cat_row, Nat.zero_add, pk_osl]

/-! ### At -/
theorem right_lt {n : Nat} {w : Nat → TCell} (h : rightB n w = true) {i : Nat} : ∀ {j : Nat}, i < j → j < n → bl (w i).Key (w j).Key = true
  | 0, h1, _ => by omega
  | j + 1, h1, h2 => by
    have hj := allN_true.1 h (j + 1) h2
    simp only [rightP, Bool.and_eq_true, Bool.or_eq_true, decide_eq_true_eq, Nat.add_sub_cancel] at hj
    have hs : bl (w j).Key (w (j + 1)).Key = true := hj.2.resolve_left (by omega)
    rcases Nat.lt_or_ge i j with h' | h'
    · exact bl_trans (right_lt h h' (by omega)) hs
    · rw [show i = j by omega]; exact hs
def Cut (n : Nat) (w : Nat → TCell) (key : ByteArray) (c : Nat) : Prop := c ≤ n ∧ (∀ i, i < c → bl key (w i).Key = false) ∧ ∀ i, c ≤ i → i < n → bl key (w i).Key = true
theorem Cut.one {n : Nat} {w : Nat → TCell} {key : ByteArray} {c d : Nat} (h : Cut n w key c) (h' : Cut n w key d) : c = d := by
  rcases Nat.lt_trichotomy c d with hl | he | hl
  · have := h.2.2 c (Nat.le_refl _) (by have := h'.1; omega); rw [h'.2.1 c hl] at this; cases this
  · exact he
  · have := h'.2.2 d (Nat.le_refl _) (by have := h.1; omega); rw [h.2.1 d hl] at this; cases this
def cutN : Nat → (Nat → TCell) → ByteArray → Nat
  | 0, _, _ => 0
  | n + 1, w, key => if bl key (w n).Key = true then cutN n w key else n + 1
theorem cutN_succ (n : Nat) (w : Nat → TCell) (key : ByteArray) : cutN (n + 1) w key = if bl key (w n).Key = true then cutN n w key else n + 1 := rfl
theorem cutN_le (w : Nat → TCell) (key : ByteArray) : ∀ n, cutN n w key ≤ n
  | 0 => Nat.le_refl _
  | n + 1 => by unfold cutN; split; have := cutN_le w key n; omega; exact Nat.le_refl _
theorem cutN_cut {n : Nat} {w : Nat → TCell} (h : rightB n w = true) (key : ByteArray) : ∀ m, m ≤ n → Cut m w key (cutN m w key)
  | 0, _ => ⟨Nat.le_refl _, fun i hi => by simp [cutN] at hi, fun i _ hi => by omega⟩
  | m + 1, hm => by
    obtain ⟨h1, h2, h3⟩ := cutN_cut h key m (by omega)
    unfold cutN
    split
    · rename_i hb
      refine ⟨by omega, h2, fun i hi hi' => ?_⟩
      rcases Nat.lt_or_ge i m with h' | h'
      · exact h3 i hi h'
      · rw [show i = m by omega]; exact hb
    · rename_i hb
      have hb : bl key (w m).Key = false := by simpa using hb
      refine ⟨Nat.le_refl _, fun i hi => ?_, fun i hi hi' => by omega⟩
      rcases Nat.lt_or_ge i m with h' | h'
      · exact bl_le_trans (bl_asymm (right_lt h h' (by omega))) hb
      · rw [show i = m by omega]; exact hb
def atI (n : Nat) (w : Nat → TCell) (key : ByteArray) : Int := if rightB n w = true then (cutN n w key : Int) - 1 else -1
theorem search_loop (k : Nat) (l : Sl TCell) (key : ByteArray) (hn : l.n ≤ 1000000) (h : rightB l.n l.w = true) (κ : AV → Heap → Option ρ) : ∀ j lo hi, lo ≤ hi → hi ≤ l.n → hi < lo + j → (∀ i, i < lo → bl key (l.w i).Key = false) → (∀ i, hi ≤ i → i < l.n → bl key (l.w i).Key = true) →
    sort_Search_h0 (k + 1) j l key (lo : Int) (hi : Int) κ = κ (.int .i64 (cutN l.n l.w key : Int)) [some (.box [.sl 2 l.n (rowOf eCell l.w) l.u]), some (.box [.str key])]
  | 0, lo, hi, h1, h2, h3, h4, h5 => by omega
  | j + 1, lo, hi, h1, h2, h3, h4, h5 => by
    rw [sort_Search_h0_s, mid_of (by omega)]
    by_cases hl : lo < hi
    · have e0 : decide ((lo : Int) < (hi : Int)) = true := decide_eq_true (by omega)
      have e1 : decide ((lo + hi) / 2 < l.n) = true := decide_eq_true (by omega)
      simp only [e0, idx_nat, e1, Int.toNat_natCast, cond_true]
      cases hb : bl key (l.w ((lo + hi) / 2)).Key with
      | true =>
        simp only [Bool.not_true, cond_false]
        refine search_loop k l key hn h κ j lo ((lo + hi) / 2) (by omega) (by omega) (by omega) h4 fun i hi1 hi2 => ?_
        rcases Nat.lt_or_ge ((lo + hi) / 2) i with h' | h'
        · exact bl_trans hb (right_lt h h' hi2)
        · rw [show i = (lo + hi) / 2 by omega]; exact hb
      | false =>
        simp only [Bool.not_false, cond_true]
        rw [wi64_succ (by omega)]
        refine search_loop k l key hn h κ j ((lo + hi) / 2 + 1) hi (by omega) h2 (by omega) (fun i hi1 => ?_) h5
        rcases Nat.lt_or_ge i ((lo + hi) / 2) with h' | h'
        · exact bl_le_trans (bl_asymm (right_lt h h' (by omega))) hb
        · rw [show i = (lo + hi) / 2 by omega]; exact hb
    · have : lo = hi := by omega
      subst this
      have e0 : decide ((lo : Int) < (lo : Int)) = false := decide_eq_false (by omega)
      simp only [e0, cond_false]
      rw [(cutN_cut h key l.n (Nat.le_refl _)).one ⟨h2, h4, h5⟩]
theorem cells_At_ok (k n : Nat) (w : Nat → TCell) (u : Bool) (key : ByteArray) (hn : n ≤ 1000000) (hk : n + 5 ≤ k) (κ : AV → Option ρ) : callP ctx k n_cells_At [.sl 2 n (rowOf eCell w) u, .str key] κ = κ (.int .i64 (atI n w key)) := by
  obtain ⟨k, rfl⟩ : ∃ k', k = k' + 3 := ⟨k - 3, by omega⟩
  rw [callP_eq]
  refine (cells_At_e (k + 2) ⟨n, w, u⟩ key (pk κ)).trans ?_
  simp only
  rw [cells_Right_ok (k + 2) n w u (by omega) (by omega), cells_At_r0_s]
  unfold atI
  cases h : rightB n w with
  | false => rfl
  | true =>
    simp only [Bool.not_true, cond_false, if_true]
    refine (sort_Search_e (k + 1) (n : Int) ⟨n, w, u⟩ key _).trans ?_
    have := search_loop k ⟨n, w, u⟩ key (by simp only; omega) h (cells_At_r1 (k + 2) ⟨n, w, u⟩ key (pk κ)) (k + 1) 0 n (by omega) (Nat.le_refl _) (by omega) (fun i hi => by omega) (fun i h1 h2 => by simp only at h2; omega)
    refine this.trans ?_
    simp only
    refine (cells_At_r1_s (k + 2) ⟨n, w, u⟩ key _ (pk κ)).trans ?_
    have := cutN_le w key n
    rw [wi64_in (by omega) (by omega)]
    rfl
theorem r10_At_ok (k n : Nat) (w : Nat → TCell) (u : Bool) (key : ByteArray) (hn : n ≤ 1000000) (hk : n + 5 ≤ k) (κ : AV → Option ρ) : callP ctx k n_r10_At [.sl 2 n (rowOf eCell w) u, .str key] κ = κ (.int .i64 (atI n w key)) := by
  obtain ⟨k, rfl⟩ : ∃ k', k = k' + 1 := ⟨k - 1, by omega⟩
  rw [callP_eq]
  refine (r10_At_e k ⟨n, w, u⟩ key (pk κ)).trans ?_
  unfold atI
  cases h : rightB n w with
  | false =>
    obtain ⟨j, hj⟩ : ∃ j, k = j + 1 := ⟨k - 1, by omega⟩
    have e : ∀ k', k' = k → r10_At_h0 k k' ⟨n, w, u⟩ key (-1) 0 (pk κ) = κ (.int .i64 (-1)) := by
      rintro k' rfl
      rw [hj, r10_At_h0_s]
      simp only
      rw [r10_Right_ok (j + 1) n w u (by omega) (by omega), r10_At_r0_s, h]
      cases decide ((0 : Int) < (n : Int)) <;> rfl
    exact e k rfl
  | true =>
    have : ∀ j i, i ≤ n → n < i + j → r10_At_h0 k j ⟨n, w, u⟩ key ((cutN i w key : Int) - 1) (i : Int) (pk κ) = κ (.int .i64 ((cutN n w key : Int) - 1)) := by
      intro j
      induction j with
      | zero => intro i h1 h2; omega
      | succ j ih =>
        intro i h1 h2
        rw [r10_At_h0_s]
        by_cases hi : i < n
        · have e0 : decide ((i : Int) < (n : Int)) = true := decide_eq_true (by omega)
          have e1 : decide (i < n) = true := decide_eq_true hi
          simp only [e0, cond_true]
          rw [r10_Right_ok k n w u (by omega) (by omega), r10_At_r0_s, h]
          simp only [e1, idx_nat, Int.toNat_natCast, cond_true]
          rw [wi64_succ (by omega)]
          have hi' := ih (i + 1) hi (by omega)
          rw [cutN_succ] at hi'
          cases hb : bl key (w i).Key with
          | true =>
            rw [hb] at hi'
            simp only [Bool.not_true, cond_false, if_true] at hi' ⊢
            exact hi'
          | false =>
            rw [hb] at hi'
            simp only [Bool.not_false, cond_true, Bool.false_eq_true, if_false] at hi' ⊢
            rw [show (((i + 1 : Nat) : Int) - 1) = (i : Int) by omega] at hi'
            exact hi'
        · have : i = n := by omega
          subst this
          have e0 : decide ((i : Int) < (i : Int)) = false := decide_eq_false (by omega)
          simp only [e0, cond_false, pk_int]
    rw [if_pos rfl]
    exact this k 0 (by omega) (by omega)

/-! ### Find -/
def nilB : ByteArray := ⟨#[]⟩
def findV (n : Nat) (w : Nat → TCell) (key : ByteArray) : ByteArray × Bool :=
  if rightB n w = true ∧ 0 < cutN n w key ∧ (w (cutN n w key - 1)).Key = key then ((w (cutN n w key - 1)).Value, true) else (nilB, false)
theorem cells_Find_ok (k n : Nat) (w : Nat → TCell) (u : Bool) (key : ByteArray) (hn : n ≤ 1000000) (hk : n + 6 ≤ k) (κ : AV → Option ρ) : callP ctx k n_cells_Find [.sl 2 n (rowOf eCell w) u, .str key] κ = κ (.tup [.str (findV n w key).1, .bool (findV n w key).2]) := by
  obtain ⟨k, rfl⟩ : ∃ k', k = k' + 1 := ⟨k - 1, by omega⟩
  rw [callP_eq]
  refine (cells_Find_e k ⟨n, w, u⟩ key (pk κ)).trans ?_
  simp only
  rw [cells_At_ok k n w u key hn (by omega), cells_Find_r0_s]
  unfold atI findV
  have hc := cutN_le w key n
  cases h : rightB n w with
  | false => rfl
  | true =>
    by_cases h0 : 0 < cutN n w key
    · have e : ((cutN n w key : Int) - 1) = ((cutN n w key - 1 : Nat) : Int) := by omega
      have e1 : decide (0 ≤ (((cutN n w key - 1 : Nat) : Int))) = true := decide_eq_true (by omega)
      have e2 : decide (cutN n w key - 1 < n) = true := decide_eq_true (by omega)
      simp only [if_true, e, e1, idx_nat, e2, Int.toNat_natCast, cond_true, h0, true_and]
      by_cases hk : (w (cutN n w key - 1)).Key = key
      · rw [decide_eq_true hk, if_pos hk]; rfl
      · rw [decide_eq_false hk, if_neg hk]; rfl
    · have e1 : decide ((0 : Int) ≤ (cutN n w key : Int) - 1) = false := decide_eq_false (by omega)
      simp only [if_true, e1, cond_false, h0, false_and, and_false, if_false]
      rfl
theorem find_cut {n : Nat} {w : Nat → TCell} {key : ByteArray} (h : rightB n w = true) {i : Nat} (hi : i < n) (hk : (w i).Key = key) : cutN n w key = i + 1 := by
  refine (cutN_cut h key n (Nat.le_refl _)).one ⟨hi, fun i' hi' => ?_, fun i' h1 h2 => ?_⟩
  · rcases Nat.lt_or_ge i' i with h' | h'
    · rw [← hk]; exact bl_asymm (right_lt h h' hi)
    · rw [show i' = i by omega, hk]; exact bl_irrefl _
  · rw [← hk]; exact right_lt h (by omega) h2
theorem r10_Find_ok (k n : Nat) (w : Nat → TCell) (u : Bool) (key : ByteArray) (hn : n ≤ 1000000) (hk : n + 6 ≤ k) (κ : AV → Option ρ) : callP ctx k n_r10_Find [.sl 2 n (rowOf eCell w) u, .str key] κ = κ (.tup [.str (findV n w key).1, .bool (findV n w key).2]) := by
  obtain ⟨k, rfl⟩ : ∃ k', k = k' + 1 := ⟨k - 1, by omega⟩
  rw [callP_eq]
  refine (r10_Find_e k ⟨n, w, u⟩ key (pk κ)).trans ?_
  cases h : rightB n w with
  | false =>
    have e : findV n w key = (nilB, false) := by unfold findV; rw [h]; simp
    rw [e]
    obtain ⟨j, hj⟩ : ∃ j, k = j + 1 := ⟨k - 1, by omega⟩
    have e : ∀ k', k' = k → r10_Find_h0 k k' ⟨n, w, u⟩ key 0 (pk κ) = κ (.tup [.str nilB, .bool false]) := by
      rintro k' rfl
      rw [hj, r10_Find_h0_s]
      simp only
      rw [r10_Right_ok (j + 1) n w u (by omega) (by omega), r10_Find_r0_s, h]
      cases decide ((0 : Int) < (n : Int)) <;> rfl
    exact e k rfl
  | true =>
    have hl := find_loop (n := n) (P := fun i => decide ((w i).Key = key)) (hd := fun j i => r10_Find_h0 k j ⟨n, w, u⟩ key (i : Int) (pk κ)) (at_ := fun i => κ (.tup [.str (w i).Value, .bool true])) (no := κ (.tup [.str nilB, .bool false])) (fun j i hi => ?_) (fun j => ?_) k 0 (by omega) (by omega) (fun i h => by omega)
    · refine hl.trans ?_
      cases hf : (List.range n).find? (fun i => decide ((w i).Key = key)) with
      | some i =>
        have h1 := List.find?_some hf
        have h2 := List.mem_of_find?_eq_some hf
        simp only [decide_eq_true_eq, List.mem_range] at h1 h2
        have hc := find_cut h h2 h1
        have e : findV n w key = ((w i).Value, true) := by
          unfold findV
          rw [hc, Nat.add_sub_cancel, if_pos ⟨h, by omega, h1⟩]
        rw [e]
      | none =>
        rw [List.find?_eq_none] at hf
        have e : findV n w key = (nilB, false) := by
          unfold findV
          rw [if_neg]
          rintro ⟨_, h1, h2⟩
          have hc := cutN_le w key n
          exact hf (cutN n w key - 1) (List.mem_range.2 (by omega)) (decide_eq_true h2)
        rw [e]
    · rw [r10_Find_h0_s]
      have e0 : decide ((i : Int) < (n : Int)) = true := decide_eq_true (by omega)
      have e1 : decide (i < n) = true := decide_eq_true hi
      simp only [e0, cond_true]
      rw [r10_Right_ok k n w u (by omega) (by omega), r10_Find_r0_s, h]
      simp only [e1, idx_nat, Int.toNat_natCast, cond_true]
      rw [wi64_succ (by omega)]
      cases decide ((w i).Key = key) <;> rfl
    · rw [r10_Find_h0_s]
      have e0 : decide ((n : Int) < (n : Int)) = false := decide_eq_false (by omega)
      simp only [e0, cond_false]
      rfl

/-! ### Half -/
theorem sizeN_mono {w : Nat → TCell} {a b : Nat} (h : a ≤ b) : sizeN a w ≤ sizeN b w := by
  induction b with
  | zero => rw [Nat.le_zero.1 h]; exact Nat.le_refl _
  | succ b ih =>
    rcases Nat.lt_or_ge b a with h' | h'
    · rw [show a = b + 1 by omega]; exact Nat.le_refl _
    · rw [sizeN_succ]; have := ih h'; omega
def HalfP (n : Nat) (w : Nat → TCell) (m : Nat) : Prop := 1 ≤ m ∧ m ≤ n - 1 ∧ (m = n - 1 ∨ sizeN n w ≤ 2 * sizeN m w) ∧ ∀ m', 1 ≤ m' → m' < m → 2 * sizeN m' w < sizeN n w
theorem HalfP.one {n : Nat} {w : Nat → TCell} {m d : Nat} (h : HalfP n w m) (h' : HalfP n w d) : m = d := by
  obtain ⟨a1, a2, a3, a4⟩ := h
  obtain ⟨b1, b2, b3, b4⟩ := h'
  rcases Nat.lt_trichotomy m d with hl | he | hl
  · have := b4 m a1 hl; omega
  · exact he
  · have := a4 d b1 hl; omega
def halfF (n : Nat) (w : Nat → TCell) : Nat → Nat → Nat
  | 0, m => m
  | f + 1, m => if m < n - 1 ∧ 2 * sizeN m w < sizeN n w then halfF n w f (m + 1) else m
def halfN (n : Nat) (w : Nat → TCell) : Nat := halfF n w n 1
theorem halfF_ok {n : Nat} {w : Nat → TCell} : ∀ f m, 1 ≤ m → m ≤ n - 1 → n ≤ f + m → (∀ m', 1 ≤ m' → m' < m → 2 * sizeN m' w < sizeN n w) → HalfP n w (halfF n w f m)
  | 0, m, h1, h2, h3, h4 => by omega
  | f + 1, m, h1, h2, h3, h4 => by
    unfold halfF
    split
    · rename_i hc
      refine halfF_ok f (m + 1) (by omega) (by omega) (by omega) fun m' h1' h2' => ?_
      rcases Nat.lt_or_ge m' m with h' | h'
      · exact h4 m' h1' h'
      · rw [show m' = m by omega]; exact hc.2
    · rename_i hc
      exact ⟨h1, h2, by omega, h4⟩
theorem halfN_ok {n : Nat} (w : Nat → TCell) (hn : 2 ≤ n) : HalfP n w (halfN n w) := halfF_ok n 1 (Nat.le_refl _) (by omega) (by omega) fun m' h1 h2 => by omega
def halfI (n : Nat) (w : Nat → TCell) : Int × Int := if rightB n w = true then (if n < 2 then (0, 9) else ((halfN n w : Int), 0)) else (0, 100)
theorem Fine.le {n m : Nat} {w : Nat → TCell} (h : Fine n w) (hm : m ≤ n) : Fine m w := fun i hi => h i (by omega)
theorem r10_Half_loop (k n : Nat) (w : Nat → TCell) (u : Bool) (hf : Fine n w) (hn : n ≤ 10000) (hk : n + 3 ≤ k) (κ : AV → Option ρ) : ∀ f j m, 1 ≤ m → m ≤ n - 1 → n ≤ f + m → f < j → r10_Half_h0 k j ⟨n, w, u⟩ (m : Int) (pk κ) = κ (.tup [.int .i64 (halfF n w f m : Int), .int .i64 0])
  | 0, j, m, h1, h2, h3, h4 => by omega
  | f + 1, 0, m, h1, h2, h3, h4 => by omega
  | f + 1, j + 1, m, h1, h2, h3, h4 => by
    rw [r10_Half_h0_s, wi64_in (n := ((n : Int) - 1)) (by omega) (by omega)]
    unfold halfF
    have hb := sizeN_le hf n (Nat.le_refl _)
    have hm := sizeN_mono (w := w) (show m ≤ n by omega)
    by_cases hc : m < n - 1
    · have e0 : decide ((m : Int) < (n : Int) - 1) = true := decide_eq_true (by omega)
      have ec := cut_nat (n := n) (l := 0) (h := m) (m := n) (by omega) (by omega) (by omega)
      simp only [Int.natCast_zero] at ec
      simp only [e0, ec, cond_true, zrow, Int.toNat_natCast]
      rw [r10_Size_ok k m w _ (hf.le (by omega)) (by omega) (by omega), r10_Half_r1_s]
      simp only
      rw [r10_Size_ok k n w _ hf (by omega) (by omega), r10_Half_r2_s, wi64_in (n := 2 * (sizeN m w : Int)) (by omega) (by omega), wi64_succ (by omega)]
      by_cases h2 : 2 * sizeN m w < sizeN n w
      · have e1 : decide (2 * (sizeN m w : Int) < (sizeN n w : Int)) = true := decide_eq_true (by omega)
        simp only [e1, cond_true]
        rw [if_pos ⟨hc, h2⟩]
        exact r10_Half_loop k n w u hf hn hk κ f j (m + 1) (by omega) (by omega) (by omega) (by omega)
      · have e1 : decide (2 * (sizeN m w : Int) < (sizeN n w : Int)) = false := decide_eq_false (by omega)
        simp only [e1, cond_false]
        rw [if_neg fun h => h2 h.2]
        rfl
    · have e0 : decide ((m : Int) < (n : Int) - 1) = false := decide_eq_false (by omega)
      simp only [e0, cond_false]
      rw [if_neg fun h => hc h.1]
      rfl
theorem r10_Half_ok (k n : Nat) (w : Nat → TCell) (u : Bool) (hf : Fine n w) (hn : n ≤ 10000) (hk : n + 5 ≤ k) (κ : AV → Option ρ) : callP ctx k n_r10_Half [.sl 2 n (rowOf eCell w) u] κ = κ (.tup [.int .i64 (halfI n w).1, .int .i64 (halfI n w).2]) := by
  obtain ⟨k, rfl⟩ : ∃ k', k = k' + 2 := ⟨k - 2, by omega⟩
  rw [callP_eq]
  refine (r10_Half_e (k + 1) ⟨n, w, u⟩ (pk κ)).trans ?_
  simp only
  rw [r10_Right_ok (k + 1) n w u (by omega) (by omega), r10_Half_r0_s]
  unfold halfI
  cases h : rightB n w with
  | false => rfl
  | true =>
    simp only [Bool.not_true, cond_false, if_true]
    by_cases h2 : n < 2
    · have e0 : decide ((n : Int) < 2) = true := decide_eq_true (by omega)
      simp only [e0, cond_true, if_pos h2]; rfl
    · have e0 : decide ((n : Int) < 2) = false := decide_eq_false (by omega)
      simp only [e0, cond_false, if_neg h2]
      exact r10_Half_loop (k + 1) n w u hf hn (by omega) κ n (k + 1) 1 (by omega) (by omega) (by omega) (by omega)
theorem cells_Half_ok (k n : Nat) (w : Nat → TCell) (u : Bool) (hf : Fine n w) (hn : n ≤ 10000) (hk : n + 5 ≤ k) (κ : AV → Option ρ) : callP ctx k n_cells_Half [.sl 2 n (rowOf eCell w) u] κ = κ (.tup [.int .i64 (halfI n w).1, .int .i64 (halfI n w).2]) := by
  obtain ⟨k, rfl⟩ : ∃ k', k = k' + 2 := ⟨k - 2, by omega⟩
  rw [callP_eq]
  refine (cells_Half_e (k + 1) ⟨n, w, u⟩ (pk κ)).trans ?_
  simp only
  rw [cells_Right_ok (k + 1) n w u (by omega) (by omega), cells_Half_r0_s]
  unfold halfI
  cases h : rightB n w with
  | false => rfl
  | true =>
    simp only [Bool.not_true, cond_false, if_true]
    by_cases h2 : n < 2
    · have e0 : decide ((n : Int) < 2) = true := decide_eq_true (by omega)
      simp only [e0, cond_true, if_pos h2]; rfl
    · have e0 : decide ((n : Int) < 2) = false := decide_eq_false (by omega)
      simp only [e0, cond_false, if_neg h2]
      rw [cells_Size_ok (k + 1) n w u hf (by omega) (by omega), cells_Half_r1_s]
      have hP := halfN_ok w (show 2 ≤ n by omega)
      have hb := sizeN_le hf n (Nat.le_refl _)
      have : ∀ j i, i < n → n < i + j → (∀ m', 1 ≤ m' → m' ≤ i → 2 * sizeN m' w < sizeN n w) → cells_Half_h0 (k + 1) j ⟨n, w, u⟩ (sizeN n w : Int) (sizeN i w : Int) (i : Int) (pk κ) = κ (.tup [.int .i64 (halfN n w : Int), .int .i64 0]) := by
        intro j
        induction j with
        | zero => intro i h1 h2; omega
        | succ j ih =>
          intro i hi h2 h3
          rw [cells_Half_h0_s]
          have e0 : decide ((i : Int) < (n : Int)) = true := decide_eq_true (by omega)
          have e1 : decide (i < n) = true := decide_eq_true hi
          have hs := sizeN_succ i w
          have hc := hf i hi
          have hm := sizeN_mono (w := w) (show i + 1 ≤ n by omega)
          have hs' : sizeN (i + 1) w = sizeN i w + (4 + (w i).Key.size + (w i).Value.size) := hs
          have e : wi64 ((sizeN i w : Int) + wi64 (wi64 (4 + ((w i).Key.size : Int)) + ((w i).Value.size : Int))) = (sizeN (i + 1) w : Int) := by
            rw [hs', wi64_in (n := 4 + ((w i).Key.size : Int)) (by omega) (by omega), wi64_in (n := 4 + ((w i).Key.size : Int) + ((w i).Value.size : Int)) (by omega) (by omega), wi64_in (by omega) (by omega)]; omega
          have em := wi64_in (n := 2 * (sizeN (i + 1) w : Int)) (by omega) (by omega)
          have es := wi64_succ (i := i) (by omega)
          have ep := wi64_in (n := (n : Int) - 1) (by omega) (by omega)
          simp only [e0, e1, idx_nat, Int.toNat_natCast, cond_true, e, em, es, ep]
          by_cases h4 : sizeN n w ≤ 2 * sizeN (i + 1) w
          · have e2 : decide ((sizeN n w : Int) ≤ 2 * (sizeN (i + 1) w : Int)) = true := decide_eq_true (by omega)
            simp only [e2, cond_true]
            have hq : HalfP n w (min (i + 1) (n - 1)) := by
              refine ⟨by omega, by omega, ?_, fun m' h1 h2 => h3 m' h1 (by omega)⟩
              by_cases hh : i + 1 ≤ n - 1
              · rw [Nat.min_eq_left hh]; exact .inr h4
              · left; omega
            rw [hP.one hq]
            have : (if (n : Int) - 1 < ((i + 1 : Nat) : Int) then (n : Int) - 1 else ((i + 1 : Nat) : Int)) = ((min (i + 1) (n - 1) : Nat) : Int) := by split <;> omega
            rw [this]; rfl
          · have e2 : decide ((sizeN n w : Int) ≤ 2 * (sizeN (i + 1) w : Int)) = false := decide_eq_false (by omega)
            simp only [e2, cond_false]
            have hi' : i + 1 < n := by
              rcases Nat.lt_or_ge (i + 1) n with h | h
              · exact h
              · exfalso; have : i + 1 = n := by omega
                rw [this] at h4; omega
            refine ih (i + 1) hi' (by omega) fun m' h1 h2 => ?_
            rcases Nat.lt_or_ge m' (i + 1) with h | h
            · exact h3 m' h1 (by omega)
            · rw [show m' = i + 1 by omega]; omega
      exact this (k + 1) 0 (by omega) (by omega) (fun m' h1 h2 => by omega)

end Go.Proofs.YtpbiclnkbkghaaaC
