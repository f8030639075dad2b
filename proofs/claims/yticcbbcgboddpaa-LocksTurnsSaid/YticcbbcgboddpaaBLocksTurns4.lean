/- Locks: the document's ranges, locks and tables. No conditions. -/
import Derived.Test.YticcbbcgboddpaaBLocksTurns3
import Derived.KernelRfl
set_option linter.unusedVariables false
set_option linter.unusedSimpArgs false
set_option maxRecDepth 20000
namespace Go.Proofs.YticcbbcgboddpaaC
open Go Go.Ev Go.Proofs
variable {ρ : Type}
/-! ### ranges -/
def bothR (a b : TRange) : TRange :=
  ⟨bif bl a.From b.From then b.From else a.From, bif b.End && (!a.End || bl b.To a.To) then b.To else a.To, bif b.End && (!a.End || bl b.To a.To) then true else a.End⟩
def bothB (a b : TRange) : Bool := rRight a && (rRight b && rRight (bothR a b))
theorem both_fin (q : Bool) (R : TRange) (κ : AV → Option ρ) : (bif !q then κ (.tup [.agg (eRange zRange), .bool false]) else κ (.tup [.agg (eRange R), .bool true])) = κ (.tup [.agg (eRange (bif q then R else zRange)), .bool q]) := by cases q <;> rfl
theorem Both_ok (k : Nat) (a b : TRange) (hk : 3 ≤ k) (κ : AV → Option ρ) : callP ctx k n_r03_Both [.agg (eRange a), .agg (eRange b)] κ = κ (.tup [.agg (eRange (bif bothB a b then bothR a b else zRange)), .bool (bothB a b)]) := by
  obtain ⟨k, rfl⟩ : ∃ k', k = k' + 1 := ⟨k - 1, by omega⟩
  obtain ⟨af, at_, ae⟩ := a
  obtain ⟨bf, bt, be⟩ := b
  rw [callP_eq, r03_Both_e, r03_Right_ok k _ (by omega), r03_Both_r0_s]
  unfold bothB
  cases rRight ⟨af, at_, ae⟩ with
  | false => rfl
  | true =>
    rw [Bool.not_true, cond_false, r03_Right_ok k _ (by omega), r03_Both_r1_s]
    cases rRight ⟨bf, bt, be⟩ with
    | false => rfl
    | true =>
      rw [Bool.not_true, cond_false, Bool.true_and, Bool.true_and]
      unfold bothR
      dsimp only
      cases bl af bf <;> cases be <;> cases ae <;> cases bl bt at_ <;>
        simp only [Bool.not_true, Bool.not_false, cond_true, cond_false, Bool.true_and, Bool.false_and, Bool.true_or, Bool.false_or, Bool.or_true, Bool.or_false] <;>
        first
        | (rw [r03_Right_ok k _ (by omega), r03_Both_r2_s]; exact both_fin _ _ κ)
        | (rw [r03_Right_ok k _ (by omega), r03_Both_r3_s]; exact both_fin _ _ κ)
theorem right_iff {f t : ByteArray} {e : Bool} : rRight ⟨f, t, e⟩ = true ↔ f.size ≤ 513 ∧ t.size ≤ 513 ∧ (bif e then bl f t else decide (t = (⟨#[]⟩ : ByteArray))) = true := by
  unfold rRight
  simp only [Bool.and_eq_true, Bool.not_eq_true', decide_eq_false_iff_not]
  exact ⟨fun h => ⟨by omega, by omega, h.2.2⟩, fun h => ⟨by omega, by omega, h.2.2⟩⟩
theorem right_of {f t : ByteArray} {e : Bool} (h1 : f.size ≤ 513) (h2 : t.size ≤ 513) : rRight ⟨f, t, e⟩ = (bif e then bl f t else decide (t = (⟨#[]⟩ : ByteArray))) := by
  unfold rRight
  dsimp only
  rw [decide_eq_false (by omega), decide_eq_false (by omega)]; rfl
theorem both_meets (a b : TRange) : bothB a b = meetsB a b := by
  obtain ⟨af, at_, ae⟩ := a
  obtain ⟨bf, bt, be⟩ := b
  unfold bothB meetsB
  cases ha : rRight ⟨af, at_, ae⟩ with
  | false => rfl
  | true =>
  cases hb : rRight ⟨bf, bt, be⟩ with
  | false => rfl
  | true =>
  obtain ⟨a1, a2, a3⟩ := right_iff.1 ha
  obtain ⟨b1, b2, b3⟩ := right_iff.1 hb
  rw [Bool.true_and, Bool.true_and, Bool.true_and, Bool.true_and]
  unfold bothR hasB
  dsimp only
  cases h1 : bl af bf with
  | true =>
    have h2 := bl_asymm h1
    rw [h2]
    cases be with
    | false =>
      show rRight ⟨bf, at_, ae⟩ = _
      rw [right_of b1 a2]
      cases ae <;> simp_all
    | true =>
      rw [cond_true] at b3
      cases ae with
      | false =>
        show rRight ⟨bf, bt, true⟩ = _
        rw [hb]; rfl
      | true =>
        cases h4 : bl bt at_ with
        | true =>
          show rRight ⟨bf, bt, true⟩ = _
          rw [hb, bl_trans b3 h4]; rfl
        | false =>
          show rRight ⟨bf, at_, true⟩ = _
          rw [right_of b1 a2]
          cases bl bf at_ <;> rfl
  | false =>
    cases be with
    | false =>
      show rRight ⟨af, at_, ae⟩ = _
      rw [ha]
      cases bl bf af <;> cases ae <;> cases bl bf at_ <;> rfl
    | true =>
      rw [cond_true] at b3
      have key : bl bf af = false → bl af bt = true := fun h => by
        have := bl_tri h1 h; rw [this]; exact b3
      cases ae with
      | false =>
        show rRight ⟨af, bt, true⟩ = _
        rw [right_of a1 b2, cond_true]
        cases h5 : bl bf af with
        | true => cases bl af bt <;> rfl
        | false => rw [key h5]; rfl
      | true =>
        rw [cond_true] at a3
        cases h4 : bl bt at_ with
        | true =>
          show rRight ⟨af, bt, true⟩ = _
          rw [right_of a1 b2, cond_true]
          cases h5 : bl bf af with
          | true => cases bl af bt <;> rfl
          | false => rw [key h5]; cases bl bf at_ <;> rfl
        | false =>
          show rRight ⟨af, at_, true⟩ = _
          rw [ha, bl_lt_le a3 h4]
          cases bl bf af <;> cases bl bf at_ <;> rfl
theorem both_within (a b : TRange) : (bothB a b && (decide ((bothR a b).From = a.From) && (decide ((bothR a b).To = a.To) && (((bothR a b).End == a.End) && true)))) = withinB a b := by
  obtain ⟨af, at_, ae⟩ := a
  obtain ⟨bf, bt, be⟩ := b
  unfold bothB withinB
  cases ha : rRight ⟨af, at_, ae⟩ with
  | false => rfl
  | true =>
  cases hb : rRight ⟨bf, bt, be⟩ with
  | false => rfl
  | true =>
  rw [Bool.true_and, Bool.true_and, Bool.true_and, Bool.true_and]
  unfold bothR
  dsimp only
  cases h1 : bl af bf with
  | true =>
    have hne : bf ≠ af := fun e => by rw [e, bl_irrefl] at h1; cases h1
    rw [cond_true, decide_eq_false hne]
    cases rRight _ <;> rfl
  | false =>
    rw [cond_false, decide_eq_true rfl]
    cases be with
    | false =>
      show (rRight ⟨af, at_, ae⟩ && (true && (decide (at_ = at_) && ((ae == ae) && true)))) = _
      rw [ha, decide_eq_true rfl, beq_self_eq_true]; rfl
    | true =>
      cases ae with
      | false =>
        show (rRight ⟨af, bt, true⟩ && (true && (decide (bt = at_) && ((true == false) && true)))) = false
        cases rRight ⟨af, bt, true⟩ <;> cases decide (bt = at_) <;> rfl
      | true =>
        cases h4 : bl bt at_ with
        | true =>
          have hne : bt ≠ at_ := fun e => by rw [e, bl_irrefl] at h4; cases h4
          show (rRight ⟨af, bt, true⟩ && (true && (decide (bt = at_) && ((true == true) && true)))) = false
          rw [decide_eq_false hne]
          cases rRight ⟨af, bt, true⟩ <;> rfl
        | false =>
          show (rRight ⟨af, at_, true⟩ && (true && (decide (at_ = at_) && ((true == true) && true)))) = true
          rw [ha, decide_eq_true rfl]; rfl
theorem r03_Meets_ok (k : Nat) (a b : TRange) (hk : 5 ≤ k) (κ : AV → Option ρ) : callP ctx k n_r03_Meets [.agg (eRange a), .agg (eRange b)] κ = κ (.bool (meetsB a b)) := by
  obtain ⟨k, rfl⟩ : ∃ k', k = k' + 1 := ⟨k - 1, by omega⟩
  rw [callP_eq, r03_Meets_e, Both_ok k a b (by omega), r03_Meets_r0_s, both_meets]; rfl
theorem r03_Within_ok (k : Nat) (a b : TRange) (hk : 5 ≤ k) (κ : AV → Option ρ) : callP ctx k n_r03_Within [.agg (eRange a), .agg (eRange b)] κ = κ (.bool (withinB a b)) := by
  obtain ⟨k, rfl⟩ : ∃ k', k = k' + 1 := ⟨k - 1, by omega⟩
  rw [callP_eq, r03_Within_e, Both_ok k a b (by omega), r03_Within_r0_s, ← both_within]
  cases bothB a b <;> rfl
/-! ### locks -/
theorem r22_May_ok (k : Nat) (a : TLock) (h : 0 ≤ a.Tx) (hk : 3 ≤ k) (κ : AV → Option ρ) : callP ctx k n_r22_May [.agg (eLock a)] κ = κ (.bool (mayB a)) := by
  obtain ⟨k, rfl⟩ : ∃ k', k = k' + 1 := ⟨k - 1, by omega⟩
  rw [callP_eq, r22_May_e, r03_Right_ok k _ (by omega), r22_May_r0_s]
  unfold mayB
  by_cases h0 : a.Tx = 0
  · rw [dec_f (by omega), dec_t h0]; rfl
  · rw [dec_t (show 0 < a.Tx by omega), dec_f h0]; rfl
theorem r22_Against_ok (k : Nat) (a b : TLock) (hk : 8 ≤ k) (κ : AV → Option ρ) : callP ctx k n_r22_Against [.agg (eLock a), .agg (eLock b)] κ = κ (.bool (againstB a b)) := by
  obtain ⟨k, rfl⟩ : ∃ k', k = k' + 1 := ⟨k - 1, by omega⟩
  rw [callP_eq, r22_Against_e, r03_Meets_ok k _ _ (by omega), r22_Against_r0_s]
  unfold againstB
  cases decide (a.Tx = b.Tx) <;> cases meetsB a.R b.R <;> cases a.X <;> cases b.X <;> rfl
theorem r22_Conflict_ok (k : Nat) (a b : TLock) (ha : 0 ≤ a.Tx) (hb : 0 ≤ b.Tx) (hk : 12 ≤ k) (κ : AV → Option ρ) : callP ctx k n_r22_Conflict [.agg (eLock a), .agg (eLock b)] κ = κ (.bool (conflB a b)) := by
  obtain ⟨k, rfl⟩ : ∃ k', k = k' + 1 := ⟨k - 1, by omega⟩
  rw [callP_eq]
  refine (r22_Conflict_e k a b (pk κ)).trans ?_
  unfold conflB
  rw [r22_May_ok k a ha (by omega), r22_Conflict_r0_s]
  cases mayB a with
  | false => rfl
  | true =>
    rw [cond_true, r22_May_ok k b hb (by omega), r22_Conflict_r1_s]
    cases mayB b with
    | false => rfl
    | true => rw [cond_true, r22_Against_ok k a b (by omega), r22_Conflict_r2_s]; rfl
theorem r22_any_ok (k n : Nat) (w : Nat → TLock) (u : Bool) (o : TLock) (hn : n ≤ 10000) (hk : n + 20 ≤ k) (κ : AV → Option ρ) :
    callP ctx k n_r22_any [.agg (eLock o), .sl 5 n (rowOf eLock w) u] κ = κ (.bool (anyN n fun i => againstB o (w i))) := by
  obtain ⟨k, rfl⟩ : ∃ k', k = k' + 1 := ⟨k - 1, by omega⟩
  rw [callP_eq]
  refine (r22_any_e k o ⟨n, w, u⟩ (pk κ)).trans ?_
  have h := find_loop (n := n) (P := fun i => againstB o (w i)) (hd := fun j i => r22_any_h0 k j o ⟨n, w, u⟩ (i : Int) (pk κ)) (at_ := fun i => κ (.bool true)) (no := κ (.bool false)) (fun j i hi => ?_) (fun j => ?_) k 0 (by omega) (by omega) (fun i h => by omega)
  · refine h.trans ?_
    rw [← first_any]
    unfold firstI
    cases (List.range n).find? (fun i => againstB o (w i)) <;> rfl
  · rw [r22_any_h0_s]
    dsimp only
    rw [dec_t (show (i : Int) < (n : Int) by omega), cond_true, idx_ok (by omega) (by omega), cond_true]
    simp only [Int.toNat_natCast]
    refine (r22_Against_ok k o (w i) (by omega) _).trans ?_
    rw [r22_any_r0_s, wi64_succ (by omega)]
    cases againstB o (w i) <;> rfl
  · rw [r22_any_h0_s]
    dsimp only
    rw [dec_f (by omega), cond_false]; rfl
/-- the numbers are no less than nothing -/
def Tx0 (s : TLocks) : Prop := (∀ i, i < s.Held.n → 0 ≤ (s.Held.w i).Tx) ∧ ∀ i, i < s.Waits.n → 0 ≤ (s.Waits.w i).Tx
theorem r22_Check_ok (k : Nat) (s : TLocks) (hT : Tx0 s) (hn : s.Held.n ≤ 10000) (hm : s.Waits.n ≤ 10000) (hk : s.Held.n + s.Waits.n + 40 ≤ k) (κ : AV → Option ρ) : callP ctx k n_r22_Check [.agg (eLocks s)] κ = κ (.int .i64 (checkE' s)) := by
  obtain ⟨k, rfl⟩ : ∃ k', k = k' + 1 := ⟨k - 1, by omega⟩
  rw [callP_eq]
  refine (r22_Check_e k s (pk κ)).trans ?_
  unfold checkE' checkB
  rw [wi64_in (by omega) (by omega)]
  by_cases h2 : s.Held.n + s.Waits.n ≤ 200
  · rw [dec_f (show ¬ 200 < (s.Held.n : Int) + (s.Waits.n : Int) by omega), cond_false, decide_eq_true h2, Bool.true_and]
    have h := all_loop (n := s.Held.n) (P := heldP s) (hd := fun j i => r22_Check_h0 k j s (i : Int) (pk κ)) (yes := r22_Check_h1 k k s 0 (pk κ)) (no := κ (.int .i64 220)) (fun j i hi => ?_) (fun j => ?_) k 0 (by omega) (by omega) (fun i h => by omega)
    · refine h.trans ?_
      cases allN s.Held.n (heldP s) with
      | false => rfl
      | true =>
        rw [if_pos rfl, Bool.true_and]
        have h := all_loop (n := s.Waits.n) (P := waitP s) (hd := fun j i => r22_Check_h1 k j s (i : Int) (pk κ)) (yes := κ (.int .i64 0)) (no := κ (.int .i64 220)) (fun j i hi => ?_) (fun j => ?_) k 0 (by omega) (by omega) (fun i h => by omega)
        · refine h.trans ?_
          cases allN s.Waits.n (waitP s) <;> rfl
        · have inner : r22_Check_h2 k j k s (i : Int) (s.Waits.w i).Tx (s.Waits.w i).R.From (s.Waits.w i).R.To (s.Waits.w i).R.End (s.Waits.w i).X 0 (pk κ) = bif anyN i (fun c => decide ((s.Waits.w c).Tx = (s.Waits.w i).Tx)) then κ (.int .i64 220) else r22_Check_h1 k j s ((i + 1 : Nat) : Int) (pk κ) := by
            have h := find_loop (n := i) (P := fun c => decide ((s.Waits.w c).Tx = (s.Waits.w i).Tx)) (hd := fun jj c => r22_Check_h2 k j jj s (i : Int) (s.Waits.w i).Tx (s.Waits.w i).R.From (s.Waits.w i).R.To (s.Waits.w i).R.End (s.Waits.w i).X (c : Int) (pk κ)) (at_ := fun c => κ (.int .i64 220)) (no := r22_Check_h1 k j s ((i + 1 : Nat) : Int) (pk κ)) (fun jj c hc => ?_) (fun jj => ?_) k 0 (by omega) (by omega) (fun i h => by omega)
            · refine h.trans ?_
              rw [← first_any]
              unfold firstI
              cases (List.range i).find? (fun c => decide ((s.Waits.w c).Tx = (s.Waits.w i).Tx)) with
              | none => rfl
              | some c => dsimp only; rw [dec_t (show (0 : Int) ≤ (c : Int) by omega), cond_true]
            · rw [r22_Check_h2_s, dec_t (show (c : Int) < (i : Int) by omega), cond_true, idx_ok (by omega) (by omega), cond_true, wi64_succ (by omega)]
              simp only [Int.toNat_natCast]
              cases decide ((s.Waits.w c).Tx = (s.Waits.w i).Tx) <;> rfl
            · rw [r22_Check_h2_s, dec_f (by omega), cond_false, wi64_succ (by omega)]
          rw [r22_Check_h1_s, dec_t (show (i : Int) < (s.Waits.n : Int) by omega), cond_true, idx_ok (by omega) (by omega), cond_true]
          refine (r22_May_ok k (s.Waits.w i) (hT.2 i hi) (by omega) _).trans ?_
          rw [r22_Check_r1_s]
          unfold waitP grantsB
          cases mayB (s.Waits.w i) with
          | false => rfl
          | true =>
            rw [Bool.not_true, cond_false]
            refine (r22_any_ok k s.Held.n s.Held.w s.Held.u (s.Waits.w i) hn (by omega) _).trans ?_
            rw [r22_Check_r3_s]
            simp only [Int.toNat_natCast]
            rw [inner]
            cases (anyN s.Held.n fun c => againstB (s.Waits.w i) (s.Held.w c)) with
            | true =>
              rw [Bool.not_true, cond_false]
              cases anyN i (fun c => decide ((s.Waits.w c).Tx = (s.Waits.w i).Tx)) <;> rfl
            | false =>
              rw [Bool.not_false, cond_true, cut_ok (by omega) (by omega) (by omega) (by omega), cond_true, zrow]
              refine (r22_any_ok k i s.Waits.w _ (s.Waits.w i) (by omega) (by omega) _).trans ?_
              rw [r22_Check_r4_s]
              simp only [Int.toNat_natCast]
              rw [inner]
              cases (anyN i fun c => againstB (s.Waits.w i) (s.Waits.w c)) <;> cases anyN i (fun c => decide ((s.Waits.w c).Tx = (s.Waits.w i).Tx)) <;> rfl
        · rw [r22_Check_h1_s, dec_f (by omega), cond_false]; rfl
    · rw [r22_Check_h0_s, dec_t (show (i : Int) < (s.Held.n : Int) by omega), cond_true, idx_ok (by omega) (by omega), cond_true]
      refine (r22_May_ok k (s.Held.w i) (hT.1 i hi) (by omega) _).trans ?_
      rw [r22_Check_r0_s]
      unfold heldP grantsB
      cases mayB (s.Held.w i) with
      | false => rfl
      | true =>
        rw [Bool.not_true, cond_false, idx_ok (by omega) (by omega), cond_true, cut_ok (by omega) (by omega) (by omega) (by omega), cond_true, zrow]
        simp only [Int.toNat_natCast]
        refine (r22_any_ok k i s.Held.w _ (s.Held.w i) (by omega) (by omega) _).trans ?_
        rw [r22_Check_r2_s, wi64_succ (by omega)]
        cases (anyN i fun c => againstB (s.Held.w i) (s.Held.w c)) <;> rfl
    · rw [r22_Check_h0_s, dec_f (by omega), cond_false]
  · rw [dec_t (show 200 < (s.Held.n : Int) + (s.Waits.n : Int) by omega), cond_true, decide_eq_false h2, Bool.false_and]; rfl
/-! ### the same -/
def eqB (x y : TLock) : Bool := decide (x.Tx = y.Tx) && (decide (x.R.From = y.R.From) && (decide (x.R.To = y.R.To) && ((x.R.End == y.R.End) && ((x.X == y.X) && true))))
theorem eqB_self (x : TLock) : eqB x x = true := by unfold eqB; rw [dec_int, dec_str, dec_str, beq_b, beq_b]; rfl
def sameB (n m : Nat) (v w : Nat → TLock) : Bool := decide (n = m) && allN n fun i => eqB (v i) (w i)
theorem same_copy {n : Nat} {v w : Nat → TLock} (h : ∀ i, i < n → w i = v i) : sameB n n v w = true := by
  unfold sameB
  rw [dec_t rfl, Bool.true_and, allN_true]
  intro i hi
  rw [h i hi]; exact eqB_self _
theorem sameRow_ok (k n m : Nat) (v w : Nat → TLock) (u u' : Bool) (hn : n ≤ 10000) (hk : n + 5 ≤ k) (κ : AV → Option ρ) : callP ctx k n_r22_sameRow [.sl 5 n (rowOf eLock v) u, .sl 5 m (rowOf eLock w) u'] κ = κ (.bool (sameB n m v w)) := by
  obtain ⟨k, rfl⟩ : ∃ k', k = k' + 1 := ⟨k - 1, by omega⟩
  rw [callP_eq]
  refine (r22_sameRow_e k ⟨n, v, u⟩ ⟨m, w, u'⟩ (pk κ)).trans ?_
  unfold sameB
  dsimp only
  by_cases h : n = m
  · subst h
    rw [dec_int, Bool.not_true, cond_false, dec_t rfl, Bool.true_and]
    have h := all_loop (n := n) (P := fun i => eqB (v i) (w i)) (hd := fun j i => r22_sameRow_h0 k j ⟨n, v, u⟩ ⟨n, w, u'⟩ (i : Int) (pk κ)) (yes := κ (.bool true)) (no := κ (.bool false)) (fun j i hi => ?_) (fun j => ?_) k 0 (by omega) (by omega) (fun i h => by omega)
    · refine h.trans ?_
      cases allN n fun i => eqB (v i) (w i) <;> rfl
    · rw [r22_sameRow_h0_s]
      dsimp only
      rw [dec_t (show (i : Int) < (n : Int) by omega), cond_true, idx_ok (by omega) (by omega), cond_true, cond_true, wi64_succ (by omega)]
      simp only [Int.toNat_natCast]
      show (bif !(eqB (v i) (w i)) then _ else _) = _
      cases eqB (v i) (w i) <;> rfl
    · rw [r22_sameRow_h0_s]
      dsimp only
      rw [dec_f (by omega), cond_false]; rfl
  · rw [dec_f (show ¬ (n : Int) = (m : Int) by omega), dec_f h]; rfl
theorem Equal_ok (k n m : Nat) (v w : Nat → TLock) (u u' : Bool) (hn : n ≤ 10000) (hk : n + 5 ≤ k) (κ : AV → Option ρ) : callP ctx k n_slices_Equal_Lock [.sl 5 n (rowOf eLock v) u, .sl 5 m (rowOf eLock w) u'] κ = κ (.bool (sameB n m v w)) := by
  obtain ⟨k, rfl⟩ : ∃ k', k = k' + 1 := ⟨k - 1, by omega⟩
  rw [callP_eq]
  refine (slices_Equal_Lock_e k ⟨n, v, u⟩ ⟨m, w, u'⟩ (pk κ)).trans ?_
  unfold sameB
  dsimp only
  by_cases h : n = m
  · subst h
    rw [dec_int, Bool.not_true, cond_false, dec_t rfl, Bool.true_and]
    have h := all_loop (n := n) (P := fun i => eqB (v i) (w i)) (hd := fun j i => slices_Equal_Lock_h0 k j ⟨n, v, u⟩ ⟨n, w, u'⟩ (i : Int) (pk κ)) (yes := κ (.bool true)) (no := κ (.bool false)) (fun j i hi => ?_) (fun j => ?_) k 0 (by omega) (by omega) (fun i h => by omega)
    · refine h.trans ?_
      cases allN n fun i => eqB (v i) (w i) <;> rfl
    · rw [slices_Equal_Lock_h0_s]
      dsimp only
      rw [dec_t (show (i : Int) < (n : Int) by omega), cond_true, idx_ok (by omega) (by omega), cond_true, cond_true, wi64_succ (by omega)]
      simp only [Int.toNat_natCast]
      show (bif !(eqB (v i) (w i)) then _ else _) = _
      cases eqB (v i) (w i) <;> rfl
    · rw [slices_Equal_Lock_h0_s]
      dsimp only
      rw [dec_f (by omega), cond_false]; rfl
  · rw [dec_f (show ¬ (n : Int) = (m : Int) by omega), dec_f h]; rfl
def sameT (a b : TLocks) : Bool := sameB a.Held.n b.Held.n a.Held.w b.Held.w && sameB a.Waits.n b.Waits.n a.Waits.w b.Waits.w
theorem r22_Same_ok (k : Nat) (a b : TLocks) (hn : a.Held.n ≤ 10000) (hm : a.Waits.n ≤ 10000) (hk : a.Held.n + a.Waits.n + 10 ≤ k) (κ : AV → Option ρ) : callP ctx k n_r22_Same [.agg (eLocks a), .agg (eLocks b)] κ = κ (.bool (sameT a b)) := by
  obtain ⟨k, rfl⟩ : ∃ k', k = k' + 1 := ⟨k - 1, by omega⟩
  rw [callP_eq]
  refine (r22_Same_e k a b (pk κ)).trans ?_
  unfold sameT
  rw [sameRow_ok k _ _ _ _ _ _ hn (by omega), r22_Same_r0_s]
  cases sameB a.Held.n b.Held.n a.Held.w b.Held.w with
  | false => rfl
  | true => rw [cond_true, sameRow_ok k _ _ _ _ _ _ hm (by omega), r22_Same_r1_s]; rfl
theorem locks_Same_ok (k : Nat) (a b : TLocks) (hn : a.Held.n ≤ 10000) (hm : a.Waits.n ≤ 10000) (hk : a.Held.n + a.Waits.n + 10 ≤ k) (κ : AV → Option ρ) : callP ctx k n_locks_Same [.agg (eLocks a), .agg (eLocks b)] κ = κ (.bool (sameT a b)) := by
  obtain ⟨k, rfl⟩ : ∃ k', k = k' + 1 := ⟨k - 1, by omega⟩
  rw [callP_eq]
  refine (locks_Same_e k a b (pk κ)).trans ?_
  unfold sameT
  rw [Equal_ok k _ _ _ _ _ _ hn (by omega), locks_Same_r0_s]
  cases sameB a.Held.n b.Held.n a.Held.w b.Held.w with
  | false => rfl
  | true => rw [cond_true, Equal_ok k _ _ _ _ _ _ hm (by omega), locks_Same_r1_s]; rfl
/-! ### covered, Holds, waits -/
theorem r22_covered_ok (k : Nat) (s : TLocks) (o : TLock) (hn : s.Held.n ≤ 10000) (hk : s.Held.n + 30 ≤ k) (κ : AV → Option ρ) : callP ctx k n_r22_covered [.agg (eLocks s), .agg (eLock o)] κ = κ (.bool (coveredB s o)) := by
  obtain ⟨k, rfl⟩ : ∃ k', k = k' + 1 := ⟨k - 1, by omega⟩
  rw [callP_eq]
  refine (r22_covered_e k s o (pk κ)).trans ?_
  have h := find_loop (n := s.Held.n) (P := fun i => coversB (s.Held.w i) o) (hd := fun j i => r22_covered_h0 k j s o (i : Int) (pk κ)) (at_ := fun i => κ (.bool true)) (no := κ (.bool false)) (fun j i hi => ?_) (fun j => ?_) k 0 (by omega) (by omega) (fun i h => by omega)
  · refine h.trans ?_
    unfold coveredB
    rw [← first_any]
    unfold firstI
    cases (List.range s.Held.n).find? (fun i => coversB (s.Held.w i) o) <;> rfl
  · rw [r22_covered_h0_s, dec_t (show (i : Int) < (s.Held.n : Int) by omega), cond_true, idx_ok (by omega) (by omega), cond_true, r03_Within_ok k _ _ (by omega), r03_Within_ok k _ _ (by omega), r22_covered_r0_s, r22_covered_r1_s, wi64_succ (by omega)]
    simp only [Int.toNat_natCast]
    unfold coversB
    show (bif decide ((s.Held.w i).Tx = o.Tx) then (bif (s.Held.w i).X then (bif withinB o.R (s.Held.w i).R then _ else _) else (bif !o.X then (bif withinB o.R (s.Held.w i).R then _ else _) else _)) else _) = _
    cases decide ((s.Held.w i).Tx = o.Tx) <;> cases (s.Held.w i).X <;> cases o.X <;> cases withinB o.R (s.Held.w i).R <;> rfl
  · rw [r22_covered_h0_s, dec_f (by omega), cond_false]; rfl
theorem r22_Holds_ok (k : Nat) (s : TLocks) (a : TLock) (hT : Tx0 s) (ha : 0 ≤ a.Tx) (hn : s.Held.n ≤ 10000) (hm : s.Waits.n ≤ 10000) (hk : s.Held.n + s.Waits.n + 60 ≤ k) (κ : AV → Option ρ) : callP ctx k n_r22_Holds [.agg (eLocks s), .agg (eLock a)] κ = κ (.bool (checkB s && (mayB a && coveredB s a))) := by
  obtain ⟨k, rfl⟩ : ∃ k', k = k' + 1 := ⟨k - 1, by omega⟩
  rw [callP_eq]
  refine (r22_Holds_e k s a (pk κ)).trans ?_
  rw [r22_Check_ok k s hT hn hm (by omega), r22_Holds_r0_s]
  unfold checkE'
  cases checkB s with
  | false => rfl
  | true =>
    rw [if_pos rfl, dec_int, cond_true, r22_May_ok k a ha (by omega), r22_Holds_r1_s]
    cases mayB a with
    | false => rfl
    | true => rw [cond_true, r22_covered_ok k s a hn (by omega), r22_Holds_r2_s]; rfl
theorem r22_waits_ok (k : Nat) (s : TLocks) (tx : Int) (hm : s.Waits.n ≤ 10000) (hk : s.Waits.n + 5 ≤ k) (κ : AV → Option ρ) : callP ctx k n_r22_waits [.agg (eLocks s), .int .u64 tx] κ = κ (.int .i64 (firstI s.Waits.n fun i => decide ((s.Waits.w i).Tx = tx))) := by
  obtain ⟨k, rfl⟩ : ∃ k', k = k' + 1 := ⟨k - 1, by omega⟩
  rw [callP_eq]
  refine (r22_waits_e k s tx (pk κ)).trans ?_
  have h := find_loop (n := s.Waits.n) (P := fun i => decide ((s.Waits.w i).Tx = tx)) (hd := fun j i => r22_waits_h0 k j s tx (i : Int) (pk κ)) (at_ := fun i => κ (.int .i64 (i : Int))) (no := κ (.int .i64 (-1))) (fun j i hi => ?_) (fun j => ?_) k 0 (by omega) (by omega) (fun i h => by omega)
  · refine h.trans ?_
    unfold firstI
    cases (List.range s.Waits.n).find? (fun i => decide ((s.Waits.w i).Tx = tx)) <;> rfl
  · rw [r22_waits_h0_s, dec_t (show (i : Int) < (s.Waits.n : Int) by omega), cond_true, idx_ok (by omega) (by omega), cond_true, wi64_succ (by omega)]
    simp only [Int.toNat_natCast]
    cases decide ((s.Waits.w i).Tx = tx) <;> rfl
  · rw [r22_waits_h0_s, dec_f (by omega), cond_false]; rfl
/-! ### Small, SameIds -/
theorem small_in (k : Nat) (s : TLocks) : ∀ (j i : Nat) (x : Int), i ≤ 210 → 210 < i + j → ∃ b : Bool, (b = true → s.Held.n ≤ 210 ∧ s.Waits.n ≤ 210) ∧ ∀ κ : AV → Heap → Option ρ, r22_Small_h1 k j s x (i : Int) κ = κ (.bool b) []
  | 0, i, x, h1, h2 => by omega
  | j + 1, i, x, h1, h2 => by
    have fin : ∃ b : Bool, (b = true → s.Held.n ≤ 210 ∧ s.Waits.n ≤ 210) ∧ ∀ κ : AV → Heap → Option ρ, (bif decide ((s.Held.n : Int) ≤ 210) then (bif decide ((s.Waits.n : Int) ≤ 210) then κ (.bool (decide (x ≤ 30000))) [] else κ (.bool false) []) else κ (.bool false) []) = κ (.bool b) [] := by
      by_cases a1 : s.Held.n ≤ 210
      · by_cases a2 : s.Waits.n ≤ 210
        · exact ⟨decide (x ≤ 30000), fun _ => ⟨a1, a2⟩, fun κ => by rw [dec_t (by omega), dec_t (by omega)]; rfl⟩
        · exact ⟨false, fun h => (by cases h), fun κ => by rw [dec_t (by omega), dec_f (by omega)]; rfl⟩
      · exact ⟨false, fun h => (by cases h), fun κ => by rw [dec_f (by omega)]; rfl⟩
    by_cases hi : i < s.Waits.n
    · by_cases h3 : i < 210
      · obtain ⟨b, e1, e2⟩ := small_in k s j (i + 1) (wi64 (wi64 (x + (((s.Waits.w i).R.From.size : Nat) : Int)) + (((s.Waits.w i).R.To.size : Nat) : Int))) (by omega) (by omega)
        refine ⟨b, e1, fun κ => ?_⟩
        rw [r22_Small_h1_s, dec_t (show (i : Int) < (s.Waits.n : Int) by omega), cond_true, dec_t (show (i : Int) < 210 by omega), cond_true, idx_ok (by omega) (by omega), cond_true, cond_true, wi64_succ (i := i) (by omega), Int.toNat_natCast]
        exact e2 κ
      · obtain ⟨b, e1, e2⟩ := fin
        refine ⟨b, e1, fun κ => ?_⟩
        rw [r22_Small_h1_s, dec_t (show (i : Int) < (s.Waits.n : Int) by omega), cond_true, dec_f (show ¬ (i : Int) < 210 by omega), cond_false]
        exact e2 κ
    · obtain ⟨b, e1, e2⟩ := fin
      refine ⟨b, e1, fun κ => ?_⟩
      rw [r22_Small_h1_s, dec_f (show ¬ (i : Int) < (s.Waits.n : Int) by omega), cond_false]
      exact e2 κ
theorem small_at (k : Nat) (s : TLocks) (hk : 220 ≤ k) : ∀ (j i : Nat) (x : Int), i ≤ 210 → 210 < i + j → ∃ b : Bool, (b = true → s.Held.n ≤ 210 ∧ s.Waits.n ≤ 210) ∧ ∀ κ : AV → Heap → Option ρ, r22_Small_h0 k j s x (i : Int) κ = κ (.bool b) []
  | 0, i, x, h1, h2 => by omega
  | j + 1, i, x, h1, h2 => by
    by_cases hi : i < s.Held.n
    · by_cases h3 : i < 210
      · obtain ⟨b, e1, e2⟩ := small_at k s hk j (i + 1) (wi64 (wi64 (x + (((s.Held.w i).R.From.size : Nat) : Int)) + (((s.Held.w i).R.To.size : Nat) : Int))) (by omega) (by omega)
        refine ⟨b, e1, fun κ => ?_⟩
        rw [r22_Small_h0_s, dec_t (show (i : Int) < (s.Held.n : Int) by omega), cond_true, dec_t (show (i : Int) < 210 by omega), cond_true, idx_ok (by omega) (by omega), cond_true, cond_true, wi64_succ (i := i) (by omega), Int.toNat_natCast]
        exact e2 κ
      · obtain ⟨b, e1, e2⟩ := small_in (ρ := ρ) k s k 0 x (by omega) (by omega)
        refine ⟨b, e1, fun κ => ?_⟩
        rw [r22_Small_h0_s, dec_t (show (i : Int) < (s.Held.n : Int) by omega), cond_true, dec_f (show ¬ (i : Int) < 210 by omega), cond_false]
        exact e2 κ
    · obtain ⟨b, e1, e2⟩ := small_in (ρ := ρ) k s k 0 x (by omega) (by omega)
      refine ⟨b, e1, fun κ => ?_⟩
      rw [r22_Small_h0_s, dec_f (show ¬ (i : Int) < (s.Held.n : Int) by omega), cond_false]
      exact e2 κ
theorem r22_Small_ok (k : Nat) (s : TLocks) (hk : 230 ≤ k) : ∃ b : Bool, (b = true → s.Held.n ≤ 210 ∧ s.Waits.n ≤ 210) ∧ ∀ κ : AV → Option ρ, callP ctx k n_r22_Small [.agg (eLocks s)] κ = κ (.bool b) := by
  obtain ⟨k, rfl⟩ : ∃ k', k = k' + 1 := ⟨k - 1, by omega⟩
  obtain ⟨b, e1, e2⟩ := small_at (ρ := ρ) k s (by omega) k 0 0 (by omega) (by omega)
  refine ⟨b, e1, fun κ => ?_⟩
  rw [callP_eq]
  refine (r22_Small_e k s (pk κ)).trans ?_
  exact e2 (pk κ)
def sameI (n m : Nat) (v w : Nat → Int) : Bool := decide (n = m) && allN n fun i => decide (v i = w i)
theorem sameI_of {n m : Nat} {v w : Nat → Int} (h : lst n v = lst m w) : sameI n m v w = true := by
  have e := congrArg List.length h
  rw [lst_len, lst_len] at e
  subst e
  unfold sameI
  rw [dec_t rfl, Bool.true_and, allN_true]
  intro i hi
  refine dec_t ?_
  have h1 := congrArg (fun L => L[i]?) h
  simpa [lst, hi] using h1
theorem SameIds_ok (k n m : Nat) (v w : Nat → Int) (u u' : Bool) (hn : n ≤ 10000) (hk : n + 5 ≤ k) (κ : AV → Option ρ) : callP ctx k n_r12_SameIds [.sl 1 n (rowOf (eI .u64) v) u, .sl 1 m (rowOf (eI .u64) w) u'] κ = κ (.bool (sameI n m v w)) := by
  obtain ⟨k, rfl⟩ : ∃ k', k = k' + 1 := ⟨k - 1, by omega⟩
  rw [callP_eq]
  refine (r12_SameIds_e k ⟨n, v, u⟩ ⟨m, w, u'⟩ (pk κ)).trans ?_
  unfold sameI
  dsimp only
  by_cases h : n = m
  · subst h
    rw [dec_int, Bool.not_true, cond_false, dec_t rfl, Bool.true_and]
    have h := all_loop (n := n) (P := fun i => decide (v i = w i)) (hd := fun j i => r12_SameIds_h0 k j ⟨n, v, u⟩ ⟨n, w, u'⟩ (i : Int) (pk κ)) (yes := κ (.bool true)) (no := κ (.bool false)) (fun j i hi => ?_) (fun j => ?_) k 0 (by omega) (by omega) (fun i h => by omega)
    · refine h.trans ?_
      cases allN n fun i => decide (v i = w i) <;> rfl
    · rw [r12_SameIds_h0_s]
      dsimp only
      rw [dec_t (show (i : Int) < (n : Int) by omega), cond_true, idx_ok (by omega) (by omega), cond_true, cond_true, wi64_succ (by omega)]
      simp only [Int.toNat_natCast]
      cases decide (v i = w i) <;> rfl
    · rw [r12_SameIds_h0_s]
      dsimp only
      rw [dec_f (by omega), cond_false]; rfl
  · rw [dec_f (show ¬ (n : Int) = (m : Int) by omega), dec_f h]; rfl
end Go.Proofs.YticcbbcgboddpaaC

set_option linter.unusedVariables false
set_option maxRecDepth 20000
namespace Go.Proofs.YticcbbcgboddpaaC
open Go Go.Ev Go.Proofs
variable {ρ : Type}
theorem r22_Copy_e (k : Nat) (l : TLocks) (κ : AV → Heap → Option ρ) : evalF ctx (k + 1) n_r22_Copy [.agg (eLocks l)] [] κ =
  (bif decide (l.Held.n = 0) then
   (bif decide (l.Waits.n = 0) then
    κ (.agg (eLocks zLocks)) [some (.box [.sl 5 0 (rowOf eLock (fun _ => zLock)) true, .sl 5 0 (rowOf eLock (fun _ => zLock)) true])]
   else (bif roomOf (0 + l.Waits.n) 56 then
     κ (.agg [.sl 5 0 (rowOf eLock (fun _ => zLock)) true, .osl 5 1 0 (0 + l.Waits.n) false]) [some (.box [.sl 5 0 (rowOf eLock (fun _ => zLock)) true, .osl 5 1 0 (0 + l.Waits.n) false]), some (.arr 5 (0 + l.Waits.n) (catRow 0 (rowOf eLock (fun _ => zLock)) (rowOf eLock l.Waits.w)))]
    else none))
  else (bif roomOf (0 + l.Held.n) 56 then
    (bif decide (l.Waits.n = 0) then
     κ (.agg [.osl 5 1 0 (0 + l.Held.n) false, .sl 5 0 (rowOf eLock (fun _ => zLock)) true]) [some (.box [.osl 5 1 0 (0 + l.Held.n) false, .sl 5 0 (rowOf eLock (fun _ => zLock)) true]), some (.arr 5 (0 + l.Held.n) (catRow 0 (rowOf eLock (fun _ => zLock)) (rowOf eLock l.Held.w)))]
    else (bif roomOf (0 + l.Waits.n) 56 then
      κ (.agg [.osl 5 1 0 (0 + l.Held.n) false, .osl 5 2 0 (0 + l.Waits.n) false]) [some (.box [.osl 5 1 0 (0 + l.Held.n) false, .osl 5 2 0 (0 + l.Waits.n) false]), some (.arr 5 (0 + l.Held.n) (catRow 0 (rowOf eLock (fun _ => zLock)) (rowOf eLock l.Held.w))), some (.arr 5 (0 + l.Waits.n) (catRow 0 (rowOf eLock (fun _ => zLock)) (rowOf eLock l.Waits.w)))]
     else none))
   else none)) := by kernel_rfl
end Go.Proofs.YticcbbcgboddpaaC

set_option linter.unusedVariables false
set_option linter.unusedSimpArgs false
set_option maxRecDepth 20000
namespace Go.Proofs.YticcbbcgboddpaaC
open Go Go.Ev Go.Proofs
variable {ρ : Type}
theorem cat0 {α : Type} (f : α → List AV) (v w : Nat → α) : catRow 0 (rowOf f v) (rowOf f w) = rowOf f w := by
  rw [cat_row]; apply row_ext; funext i; unfold catW; rw [if_neg (by omega)]; rfl
theorem room56 {n : Nat} (h : n ≤ 100000) : roomOf (0 + n) 56 = true := by
  have h1 : (0 + n) * 56 ≤ 100000 * 56 := Nat.mul_le_mul (by omega) (Nat.le_refl _)
  exact room_of (Nat.le_trans h1 (by decide)) (by omega)
theorem room8 {n : Nat} (h : n ≤ 100000) : roomOf n 8 = true := by
  have h1 : n * 8 ≤ 100000 * 8 := Nat.mul_le_mul (by omega) (Nat.le_refl _)
  exact room_of (Nat.le_trans h1 (by decide)) (by omega)
theorem r22_Copy_ok (k : Nat) (s : TLocks) (hn : s.Held.n ≤ 10000) (hm : s.Waits.n ≤ 10000) (hk : 1 ≤ k) :
    ∃ v w : Nat → TLock, (∀ i, i < s.Held.n → v i = s.Held.w i) ∧ (∀ i, i < s.Waits.n → w i = s.Waits.w i) ∧ ∀ κ : AV → Option ρ, callP ctx k n_r22_Copy [.agg (eLocks s)] κ = κ (.agg (eLocks ⟨⟨s.Held.n, v, false⟩, ⟨s.Waits.n, w, false⟩⟩)) := by
  obtain ⟨k, rfl⟩ : ∃ k', k = k' + 1 := ⟨k - 1, by omega⟩
  by_cases h1 : s.Held.n = 0
  · by_cases h2 : s.Waits.n = 0
    · refine ⟨fun _ => zLock, fun _ => zLock, fun i hi => by omega, fun i hi => by omega, fun κ => ?_⟩
      rw [callP_eq]
      refine (r22_Copy_e k s (pk κ)).trans ?_
      rw [dec_t h1, cond_true, dec_t h2, cond_true, h1, h2]; rfl
    · refine ⟨fun _ => zLock, s.Waits.w, fun i hi => by omega, fun i hi => rfl, fun κ => ?_⟩
      rw [callP_eq]
      refine (r22_Copy_e k s (pk κ)).trans ?_
      rw [dec_t h1, cond_true, dec_f h2, cond_false, room56 (by omega), cond_true, cat0]
      show κ (.agg [.sl 5 0 (rowOf eLock (fun _ => zLock)) false, .sl 5 (0 + s.Waits.n) (fun i => rowOf eLock s.Waits.w (0 + i)) false]) = _
      rw [zrow, Nat.zero_add, h1]; rfl
  · by_cases h2 : s.Waits.n = 0
    · refine ⟨s.Held.w, fun _ => zLock, fun i hi => rfl, fun i hi => by omega, fun κ => ?_⟩
      rw [callP_eq]
      refine (r22_Copy_e k s (pk κ)).trans ?_
      rw [dec_f h1, cond_false, room56 (by omega), cond_true, dec_t h2, cond_true, cat0]
      show κ (.agg [.sl 5 (0 + s.Held.n) (fun i => rowOf eLock s.Held.w (0 + i)) false, .sl 5 0 (rowOf eLock (fun _ => zLock)) false]) = _
      rw [zrow, Nat.zero_add, h2]; rfl
    · refine ⟨s.Held.w, s.Waits.w, fun i hi => rfl, fun i hi => rfl, fun κ => ?_⟩
      rw [callP_eq]
      refine (r22_Copy_e k s (pk κ)).trans ?_
      rw [dec_f h1, cond_false, room56 (by omega), cond_true, dec_f h2, cond_false, room56 (by omega), cond_true, cat0, cat0]
      show κ (.agg [.sl 5 (0 + s.Held.n) (fun i => rowOf eLock s.Held.w (0 + i)) false, .sl 5 (0 + s.Waits.n) (fun i => rowOf eLock s.Waits.w (0 + i)) false]) = _
      rw [zrow, zrow, Nat.zero_add, Nat.zero_add]; rfl
end Go.Proofs.YticcbbcgboddpaaC

set_option linter.unusedVariables false
set_option linter.unusedSimpArgs false
set_option maxRecDepth 20000
namespace Go.Proofs.YticcbbcgboddpaaC
open Go Go.Ev Go.Proofs
variable {ρ : Type}
abbrev nilL : AV := .sl 5 0 (rowOf eLock (fun _ => zLock)) true
abbrev nilI : AV := .sl 1 0 (rowOf (eI .u64) (fun _ => 0)) true
def rV (i n : Nat) : AV := if n = 0 then nilL else .osl 5 i 0 n false
def rH (n : Nat) (v : Nat → TLock) : Heap := if n = 0 then [] else [some (.arr 5 n (rowOf eLock v))]
/-- a table of own, a bool, an error -/
def endA (n : Nat) (v : Nat → TLock) (m : Nat) (w : Nat → TLock) (b : Bool) (e : Int) (κ : AV → Heap → Option ρ) : Option ρ :=
  κ (.tup [.agg [rV 1 n, rV (if n = 0 then 1 else 2) m], .bool b, .int .i64 e]) (some (.box [rV 1 n, rV (if n = 0 then 1 else 2) m]) :: (rH n v ++ rH m w))
section
variable {n m tn : Nat} {v w : Nat → TLock} {tw : Nat → Int} {b : Bool} {e : Int} {κ : AV → Heap → Option ρ}
theorem endA_00 (hn : n = 0) (hm : m = 0) : endA n v m w b e κ = κ (.tup [.agg (eLocks zLocks), .bool b, .int .i64 e]) [some (.box [nilL, nilL])] := by
  subst hn; subst hm; rfl
theorem endA_01 (hn : n = 0) (hm : m ≠ 0) : endA n v m w b e κ = κ (.tup [.agg [nilL, .osl 5 1 0 m false], .bool b, .int .i64 e]) [some (.box [nilL, .osl 5 1 0 m false]), some (.arr 5 m (rowOf eLock w))] := by
  unfold endA rV rH; rw [if_pos hn, if_neg hm, if_pos hn, if_pos hn, if_neg hm]; rfl
theorem endA_10 (hn : n ≠ 0) (hm : m = 0) : endA n v m w b e κ = κ (.tup [.agg [.osl 5 1 0 n false, nilL], .bool b, .int .i64 e]) [some (.box [.osl 5 1 0 n false, nilL]), some (.arr 5 n (rowOf eLock v))] := by
  unfold endA rV rH; rw [if_neg hn, if_pos hm, if_neg hn, if_pos hm]; rfl
theorem endA_11 (hn : n ≠ 0) (hm : m ≠ 0) : endA n v m w b e κ = κ (.tup [.agg [.osl 5 1 0 n false, .osl 5 2 0 m false], .bool b, .int .i64 e]) [some (.box [.osl 5 1 0 n false, .osl 5 2 0 m false]), some (.arr 5 n (rowOf eLock v)), some (.arr 5 m (rowOf eLock w))] := by
  unfold endA rV rH; rw [if_neg hn, if_neg hm, if_neg hn, if_neg hn, if_neg hm]; rfl
def toV (tn : Nat) : AV := if tn = 0 then nilI else .osl 1 1 0 tn false
def toH (tn : Nat) (tw : Nat → Int) : Heap := if tn = 0 then [] else [some (.arr 1 tn (rowOf (eI .u64) tw))]
/-- a table of own, those that are told, an error -/
def endK (tn : Nat) (tw : Nat → Int) (n : Nat) (v : Nat → TLock) (m : Nat) (w : Nat → TLock) (e : Int) (κ : AV → Heap → Option ρ) : Option ρ :=
  κ (.tup [.agg [rV (if tn = 0 then 1 else 2) n, rV ((if tn = 0 then 1 else 2) + (if n = 0 then 0 else 1)) m], toV tn, .int .i64 e]) (some (.box [rV (if tn = 0 then 1 else 2) n, rV ((if tn = 0 then 1 else 2) + (if n = 0 then 0 else 1)) m]) :: (toH tn tw ++ (rH n v ++ rH m w)))
theorem endK_000 (ht : tn = 0) (hn : n = 0) (hm : m = 0) : endK tn tw n v m w e κ = κ (.tup [.agg (eLocks zLocks), nilI, .int .i64 e]) [some (.box [nilL, nilL])] := by
  subst ht; subst hn; subst hm; rfl
theorem endK_010 (ht : tn = 0) (hn : n ≠ 0) (hm : m = 0) : endK tn tw n v m w e κ = κ (.tup [.agg [.osl 5 1 0 n false, nilL], nilI, .int .i64 e]) [some (.box [.osl 5 1 0 n false, nilL]), some (.arr 5 n (rowOf eLock v))] := by
  subst ht; subst hm; simp only [endK, rV, rH, toV, toH, hn, if_true, if_false]; rfl
theorem endK_011 (ht : tn = 0) (hn : n ≠ 0) (hm : m ≠ 0) : endK tn tw n v m w e κ = κ (.tup [.agg [.osl 5 1 0 n false, .osl 5 2 0 m false], nilI, .int .i64 e]) [some (.box [.osl 5 1 0 n false, .osl 5 2 0 m false]), some (.arr 5 n (rowOf eLock v)), some (.arr 5 m (rowOf eLock w))] := by
  subst ht; simp only [endK, rV, rH, toV, toH, hn, hm, if_true, if_false]; rfl
theorem endK_001 (ht : tn = 0) (hn : n = 0) (hm : m ≠ 0) : endK tn tw n v m w e κ = κ (.tup [.agg [nilL, .osl 5 1 0 m false], nilI, .int .i64 e]) [some (.box [nilL, .osl 5 1 0 m false]), some (.arr 5 m (rowOf eLock w))] := by
  subst ht; subst hn; simp only [endK, rV, rH, toV, toH, hm, if_true, if_false]; rfl
theorem endK_110 (ht : tn ≠ 0) (hn : n ≠ 0) (hm : m = 0) : endK tn tw n v m w e κ = κ (.tup [.agg [.osl 5 2 0 n false, nilL], .osl 1 1 0 tn false, .int .i64 e]) [some (.box [.osl 5 2 0 n false, nilL]), some (.arr 1 tn (rowOf (eI .u64) tw)), some (.arr 5 n (rowOf eLock v))] := by
  subst hm; simp only [endK, rV, rH, toV, toH, ht, hn, if_true, if_false]; rfl
theorem endK_111 (ht : tn ≠ 0) (hn : n ≠ 0) (hm : m ≠ 0) : endK tn tw n v m w e κ = κ (.tup [.agg [.osl 5 2 0 n false, .osl 5 3 0 m false], .osl 1 1 0 tn false, .int .i64 e]) [some (.box [.osl 5 2 0 n false, .osl 5 3 0 m false]), some (.arr 1 tn (rowOf (eI .u64) tw)), some (.arr 5 n (rowOf eLock v)), some (.arr 5 m (rowOf eLock w))] := by
  simp only [endK, rV, rH, toV, toH, ht, hn, hm, if_false]; rfl
end
theorem Ask_own (k : Nat) (s : TLocks) (a : TLock) (hn : s.Held.n ≤ 10000) (hm : s.Waits.n ≤ 10000) (hk : s.Held.n + s.Waits.n + 80 ≤ k) :
    ∃ n v m w, lst n v = askH s a ∧ lst m w = askW s a ∧ ∀ κ : AV → Heap → Option ρ, evalF ctx k n_locks_Ask [.agg (eLocks s), .agg (eLock a)] [] κ = endA n v m w (askG s a) (askE s a) κ := by
  obtain ⟨k, rfl⟩ : ∃ k', k = k' + 1 := ⟨k - 1, by omega⟩
  have err : ∀ c : Int, c ≠ 0 → askE s a = c → (∀ κ : AV → Heap → Option ρ, evalF ctx (k + 1) n_locks_Ask [.agg (eLocks s), .agg (eLock a)] [] κ = endA 0 (fun _ => zLock) 0 (fun _ => zLock) false c κ) →
      ∃ n v m w, lst n v = askH s a ∧ lst m w = askW s a ∧ ∀ κ : AV → Heap → Option ρ, evalF ctx (k + 1) n_locks_Ask [.agg (eLocks s), .agg (eLock a)] [] κ = endA n v m w (askG s a) (askE s a) κ := by
    intro c hc he h
    refine ⟨0, fun _ => zLock, 0, fun _ => zLock, ?_, ?_, fun κ => ?_⟩
    · unfold askH; rw [he, if_pos hc]; rfl
    · unfold askW; rw [he, if_pos hc]; rfl
    · unfold askG
      rw [h, he, decide_eq_false hc, Bool.false_and]
  have start : ∀ κ : AV → Heap → Option ρ, evalF ctx (k + 1) n_locks_Ask [.agg (eLocks s), .agg (eLock a)] [] κ = callP ctx k n_locks_Check [.agg (eLocks s)] (locks_Ask_r0 k s a κ) := fun κ => by
    exact locks_Ask_e k s a κ
  have st1 : ∀ κ : AV → Heap → Option ρ, evalF ctx (k + 1) n_locks_Ask [.agg (eLocks s), .agg (eLock a)] [] κ = locks_Ask_r0 k s a κ (.int .i64 (checkE' s)) := fun κ => by
    rw [start, locks_Check_ok k s hn hm (by omega)]
  cases hc : checkB s with
  | false =>
    refine err 220 (by decide) (by unfold askE; rw [hc, if_pos rfl]) fun κ => ?_
    rw [st1]
    unfold checkE'
    rw [hc, locks_Ask_r0_s]; rfl
  | true =>
    have st2 : ∀ κ : AV → Heap → Option ρ, evalF ctx (k + 1) n_locks_Ask [.agg (eLocks s), .agg (eLock a)] [] κ = locks_Ask_r1 k s a 0 κ (.bool (mayB a)) := fun κ => by
      rw [st1]
      unfold checkE'
      rw [hc, if_pos rfl, locks_Ask_r0_s, dec_int, Bool.not_true, cond_false, may_ok k a (by omega)]
    cases hmay : mayB a with
    | false =>
      refine err 2 (by decide) (by unfold askE; rw [hc, hmay, if_neg (by decide), if_pos rfl]) fun κ => ?_
      rw [st2, hmay, locks_Ask_r1_s]; rfl
    | true =>
      have st3 : ∀ κ : AV → Heap → Option ρ, evalF ctx (k + 1) n_locks_Ask [.agg (eLocks s), .agg (eLock a)] [] κ = locks_Ask_r2 k s a true κ (.bool (anyN s.Waits.n fun i => decide ((s.Waits.w i).Tx = a.Tx))) [some (.box (eLock a))] := fun κ => by
        rw [st2, hmay, locks_Ask_r1_s, Bool.not_true, cond_false, ask_row k _ _ _ a hm (by omega)]
      cases hany : anyN s.Waits.n fun i => decide ((s.Waits.w i).Tx = a.Tx) with
      | true =>
        refine err 9 (by decide) (by unfold askE; rw [hc, hmay, hany, if_neg (by decide), if_neg (by decide), if_pos rfl]) fun κ => ?_
        rw [st3, hany, locks_Ask_r2_s]; rfl
      | false =>
        have st4 : ∀ κ : AV → Heap → Option ρ, evalF ctx (k + 1) n_locks_Ask [.agg (eLocks s), .agg (eLock a)] [] κ = evalF ctx k n_locks_own [.agg (eLocks s)] [] (locks_Ask_r3 k s a false κ) := fun κ => by
          rw [st3, hany, locks_Ask_r2_s, cond_false]
        have hE : askE s a = if coveredB s a = true then 0 else if s.Held.n + s.Waits.n = 200 then 6 else 0 := by
          unfold askE
          rw [hc, hmay, hany, if_neg (by decide), if_neg (by decide), if_neg (by decide)]
        have hsum : wi64 ((s.Held.n : Int) + (s.Waits.n : Int)) = ((s.Held.n + s.Waits.n : Nat) : Int) := by rw [wi64_in (by omega) (by omega)]; omega
        have cov := covered_ok (ρ := ρ) k s a hn (by omega)
        have grt := grants_ok (ρ := ρ) k a s.Held.n s.Waits.n s.Held.w s.Waits.w s.Held.u s.Waits.u hn hm (by omega)
        by_cases h6 : ¬ coveredB s a = true ∧ s.Held.n + s.Waits.n = 200
        · refine err 6 (by decide) (by rw [hE, if_neg h6.1, if_pos h6.2]) fun κ => ?_
          have hcf : coveredB s a = false := by simpa using h6.1
          rw [st4, own_run k s hn hm (by omega)]
          have d : decide (wi64 ((s.Held.n : Int) + (s.Waits.n : Int)) = 200) = true := decide_eq_true (by rw [hsum]; omega)
          by_cases q1 : s.Held.n = 0
          · rw [if_pos q1]
            by_cases q2 : s.Waits.n = 0
            · rw [if_pos q2, locks_Ask_r3_s, cov, hcf, locks_Ask_r4_s, d]; rfl
            · rw [if_neg q2, locks_Ask_r3_s1, cov, hcf, locks_Ask_r5_s, d]; rfl
          · rw [if_neg q1]
            by_cases q2 : s.Waits.n = 0
            · rw [if_pos q2, locks_Ask_r3_s2, cov, hcf, locks_Ask_r6_s, d]; rfl
            · rw [if_neg q2, locks_Ask_r3_s3, cov, hcf, locks_Ask_r7_s, d]; rfl
        · have hE0 : askE s a = 0 := by
            rw [hE]
            by_cases q : coveredB s a = true
            · rw [if_pos q]
            · rw [if_neg q, if_neg (fun h => h6 ⟨q, h⟩)]
          unfold askH askW askG
          rw [hE0, if_neg (show ¬ ((0 : Int) ≠ 0) by decide), if_neg (show ¬ ((0 : Int) ≠ 0) by decide), dec_int, Bool.true_and]
          cases hcv : coveredB s a with
          | true =>
            refine ⟨s.Held.n, if s.Held.n = 0 then fun _ => zLock else s.Held.w, s.Waits.n, if s.Waits.n = 0 then fun _ => zLock else s.Waits.w, ?_, ?_, fun κ => ?_⟩
            · rw [Bool.not_true, Bool.false_and, if_neg (show ¬ (false = true) by decide)]
              by_cases q1 : s.Held.n = 0
              · unfold Sl.l; rw [q1]; rfl
              · rw [if_neg q1]
            · rw [Bool.true_or, if_pos rfl]
              by_cases q1 : s.Waits.n = 0
              · unfold Sl.l; rw [q1]; rfl
              · rw [if_neg q1]
            · rw [st4, own_run k s hn hm (by omega), Bool.true_or]
              by_cases q1 : s.Held.n = 0
              · rw [if_pos q1, if_pos q1]
                by_cases q2 : s.Waits.n = 0
                · rw [if_pos q2, if_pos q2, locks_Ask_r3_s, cov, hcv, locks_Ask_r4_s, endA_00 q1 q2]; rfl
                · rw [if_neg q2, if_neg q2, locks_Ask_r3_s1, cov, hcv, locks_Ask_r5_s]
                  rw [endA_01 q1 q2]; rfl
              · rw [if_neg q1, if_neg q1]
                by_cases q2 : s.Waits.n = 0
                · rw [if_pos q2, if_pos q2, locks_Ask_r3_s2, cov, hcv, locks_Ask_r6_s]
                  rw [endA_10 q1 q2]; rfl
                · rw [if_neg q2, if_neg q2, locks_Ask_r3_s3, cov, hcv, locks_Ask_r7_s]
                  rw [endA_11 q1 q2]; rfl
          | false =>
            have d : decide (wi64 ((s.Held.n : Int) + (s.Waits.n : Int)) = 200) = false := decide_eq_false (by rw [hsum]; intro h; exact h6 ⟨by rw [hcv]; simp, by omega⟩)
            have hn1 : roomOf (s.Held.n + 1) 56 = true := room_of (by omega) (by omega)
            have hm1 : roomOf (s.Waits.n + 1) 56 = true := room_of (by omega) (by omega)
            have c1 : cutOK s.Held.n 0 (s.Held.n : Int) (s.Held.n : Int) = true := cut_ok (by omega) (by omega) (by omega) (by omega)
            have dm : decide (((0 + s.Waits.n) + 1) ≤ s.Waits.n) = false := decide_eq_false (by omega)
            have dn : decide (s.Waits.n = s.Waits.n) = true := decide_eq_true rfl
            have grt' : ∀ κ : AV → Option ρ, callP ctx k n_locks_grants [.agg (eLock a), .sl 5 s.Held.n (rowOf eLock s.Held.w) s.Held.u, .sl 5 s.Waits.n (rowOf eLock s.Waits.w) s.Waits.u] κ = κ (.bool (okB s a)) := grt
            cases hok : okB s a with
            | true =>
              refine ⟨s.Held.n + 1, if s.Held.n = 0 then addW s.Held.n (fun _ => zLock) a else addW s.Held.n s.Held.w a, s.Waits.n, if s.Waits.n = 0 then fun _ => zLock else s.Waits.w, ?_, ?_, fun κ => ?_⟩
              · rw [Bool.not_false, Bool.true_and, if_pos rfl]
                by_cases q1 : s.Held.n = 0
                · rw [if_pos q1, lst_add]; unfold Sl.l; rw [q1]; rfl
                · rw [if_neg q1, lst_add]
              · rw [Bool.or_true, if_pos rfl]
                by_cases q1 : s.Waits.n = 0
                · unfold Sl.l; rw [q1]; rfl
                · rw [if_neg q1]
              · rw [st4, own_run k s hn hm (by omega), Bool.or_true]
                by_cases q1 : s.Held.n = 0
                · have c0 : cutOK 0 0 (s.Held.n : Int) (s.Held.n : Int) = true := by rw [q1]; rfl
                  rw [if_pos q1, if_pos q1]
                  by_cases q2 : s.Waits.n = 0
                  · rw [if_pos q2, if_pos q2, locks_Ask_r3_s, cov, hcv, locks_Ask_r4_s, cond_false, d, cond_false, grt', hok, locks_Ask_r8_s, cond_true, c0, cond_true, dec_int, hn1, Bool.and_self, cond_true, sh0_row, lit_row, cat_row]
                    rw [endA_10 (Nat.succ_ne_zero _) q2]; rfl
                  · rw [if_neg q2, if_neg q2, locks_Ask_r3_s1, cov, hcv, locks_Ask_r5_s, cond_false, d, cond_false, grt', hok, locks_Ask_r9_s, cond_true, c0, cond_true, dec_int, hn1, Bool.and_self, cond_true, sh0_row, lit_row, cat_row]
                    rw [endA_11 (Nat.succ_ne_zero _) q2]; rfl
                · rw [if_neg q1, if_neg q1]
                  by_cases q2 : s.Waits.n = 0
                  · rw [if_pos q2, if_pos q2, locks_Ask_r3_s2, cov, hcv, locks_Ask_r6_s, cond_false, d, cond_false, grt', hok, locks_Ask_r10_s, cond_true, c1, dec_int, Bool.and_self, cond_true, hn1, cond_true, zrow, lit_row, cat_row]
                    rw [endA_10 (Nat.succ_ne_zero _) q2]; rfl
                  · rw [if_neg q2, if_neg q2, locks_Ask_r3_s3, cov, hcv, locks_Ask_r7_s, cond_false, d, cond_false, grt', hok, locks_Ask_r11_s, cond_true, c1, dec_int, Bool.and_self, cond_true, hn1, cond_true, zrow, lit_row, cat_row]
                    rw [endA_11 (Nat.succ_ne_zero _) q2]; rfl
            | false =>
              refine ⟨s.Held.n, if s.Held.n = 0 then fun _ => zLock else s.Held.w, s.Waits.n + 1, if s.Waits.n = 0 then addW 0 (fun _ => zLock) a else addW s.Waits.n s.Waits.w a, ?_, ?_, fun κ => ?_⟩
              · rw [Bool.and_false, if_neg (show ¬ (false = true) by decide)]
                by_cases q1 : s.Held.n = 0
                · unfold Sl.l; rw [q1]; rfl
                · rw [if_neg q1]
              · rw [Bool.or_false, if_neg (show ¬ (false = true) by decide)]
                by_cases q1 : s.Waits.n = 0
                · rw [if_pos q1, q1, lst_add]; unfold Sl.l; rw [q1]; rfl
                · rw [if_neg q1, lst_add]
              · rw [st4, own_run k s hn hm (by omega), Bool.or_false]
                by_cases q1 : s.Held.n = 0
                · rw [if_pos q1, if_pos q1]
                  by_cases q2 : s.Waits.n = 0
                  · rw [if_pos q2, if_pos q2, locks_Ask_r3_s, cov, hcv, locks_Ask_r4_s, cond_false, d, cond_false, grt', hok, locks_Ask_r8_s, cond_false, lit_row, cat_row]
                    rw [endA_01 q1 (Nat.succ_ne_zero _), q2]; rfl
                  · rw [if_neg q2, if_neg q2, locks_Ask_r3_s1, cov, hcv, locks_Ask_r5_s, cond_false, d, cond_false, grt', hok, locks_Ask_r9_s, cond_false, dm, cond_false, dn, hm1, Bool.and_self, cond_true, lit_row, cat_row]
                    rw [endA_01 q1 (Nat.succ_ne_zero _)]; rfl
                · rw [if_neg q1, if_neg q1]
                  by_cases q2 : s.Waits.n = 0
                  · rw [if_pos q2, if_pos q2, locks_Ask_r3_s2, cov, hcv, locks_Ask_r6_s, cond_false, d, cond_false, grt', hok, locks_Ask_r10_s, cond_false, lit_row, cat_row]
                    rw [endA_11 q1 (Nat.succ_ne_zero _), q2]; rfl
                  · rw [if_neg q2, if_neg q2, locks_Ask_r3_s3, cov, hcv, locks_Ask_r7_s, cond_false, d, cond_false, grt', hok, locks_Ask_r11_s, cond_false, dm, cond_false, dn, hm1, Bool.and_self, cond_true, lit_row, cat_row]
                    rw [endA_11 q1 (Nat.succ_ne_zero _)]; rfl
/-! ### Release -/
def OwnR (f : Nat) (A B : List TLock) (k : Nat) (s : TLocks) (tx : Int) (ρ : Type) : Prop :=
  ∃ (tn : Nat) (tw : Nat → Int) (n : Nat) (v : Nat → TLock) (m : Nat) (w : Nat → TLock), lst tn tw = txs (serveF A [] [] B).1 ∧ lst n v = A ++ (serveF A [] [] B).1 ∧ lst m w = (serveF A [] [] B).2 ∧
    ∀ κ : AV → Heap → Option ρ, evalF ctx k f [.agg (eLocks s), .int .u64 tx] [] κ = endK tn tw n v m w 0 κ
theorem one_ne (n : Nat) : n + 1 ≠ 0 := Nat.succ_ne_zero n
theorem rel_own (k : Nat) (s : TLocks) (tx : Int) (hc : checkB s = true) (hk : s.Held.n + s.Waits.n + 100 ≤ k) : OwnR n_locks_Release (othL s.Held.l tx) (othL s.Waits.l tx) k s tx ρ := by
  have h200 : s.Held.n + s.Waits.n ≤ 200 := by
    unfold checkB at hc
    simp only [Bool.and_eq_true, decide_eq_true_eq] at hc
    exact hc.1
  obtain ⟨k, rfl⟩ : ∃ k', k = k' + 2 := ⟨k - 2, by omega⟩
  have st : ∀ κ : AV → Heap → Option ρ, evalF ctx (k + 2) n_locks_Release [.agg (eLocks s), .int .u64 tx] [] κ = locks_Release_r1 (k + 1) s tx 0 κ (oV 5 eLock zLock 1 (othL (lst s.Held.n s.Held.w) tx)) (some (.box [.int .u64 tx]) :: oH 5 eLock zLock (othL (lst s.Held.n s.Held.w) tx)) := by
    intro κ
    refine (locks_Release_e (k + 1) s tx κ).trans ?_
    rw [locks_Check_ok (k + 1) s (by omega) (by omega) (by omega), locks_Release_r0_s]
    unfold checkE'
    rw [if_pos hc, dec_int, Bool.not_true, cond_false, kept_others_ok (k + 1) _ _ _ tx (by omega) (by omega)]
  have hA : (othL (lst s.Held.n s.Held.w) tx).length ≤ 200 := Nat.le_trans (List.length_filter_le ..) (by rw [lst_len]; omega)
  have hB : (othL (lst s.Waits.n s.Waits.w) tx).length ≤ 200 := Nat.le_trans (List.length_filter_le ..) (by rw [lst_len]; omega)
  have hAB : (othL (lst s.Held.n s.Held.w) tx).length + (othL (lst s.Waits.n s.Waits.w) tx).length ≤ s.Held.n + s.Waits.n := Nat.add_le_add (Nat.le_trans (List.length_filter_le ..) (by rw [lst_len]; omega)) (Nat.le_trans (List.length_filter_le ..) (by rw [lst_len]; omega))
  have kw := fun κ' : AV → Heap → Option ρ => kept_others_ok (k + 1) s.Waits.n s.Waits.w s.Waits.u tx (by omega) (by omega) κ'
  unfold Sl.l
  generalize othL (lst s.Held.n s.Held.w) tx = A at *
  generalize othL (lst s.Waits.n s.Waits.w) tx = B at *
  unfold OwnR
  cases A with
  | nil =>
    have st2 : ∀ κ : AV → Heap → Option ρ, evalF ctx (k + 2) n_locks_Release [.agg (eLocks s), .int .u64 tx] [] κ = locks_Release_r2 (k + 1) s tx 0 κ (oV 5 eLock zLock 1 B) (some (.box [.int .u64 tx]) :: oH 5 eLock zLock B) := by
      intro κ
      rw [st]
      refine (locks_Release_r1_s k s tx 0 κ).trans ?_
      rw [dec_int, cond_true, kw]
    cases B with
    | nil =>
      refine ⟨0, fun _ => 0, 0, fun _ => zLock, 0, fun _ => zLock, rfl, rfl, rfl, fun κ => ?_⟩
      rw [st2]
      refine (locks_Release_r2_s (k + 1) s tx 0 κ).trans ?_
      rw [dec_int, cond_true, serve00_e, show (k : Nat) = (k - 1) + 1 by omega, serve00_h0_s]
      exact (locks_Release_r4_s _ s tx 0 κ).trans (endK_000 rfl rfl rfl).symm
    | cons b B =>
      simp only [List.length_cons, List.length_nil] at hB hAB
      have st3 : ∀ κ : AV → Heap → Option ρ, evalF ctx (k + 2) n_locks_Release [.agg (eLocks s), .int .u64 tx] [] κ = fin01 (b :: B) (locks_Release_r5 (k + 1) s tx 0 (B.length + 1) (gd zLock (b :: B)) κ) (serveF [] [] [] (b :: B)).1 (serveF [] [] [] (b :: B)).2 := by
        intro κ
        rw [st2]
        refine (locks_Release_r2_s1 (k + 1) s tx 0 (B.length + 1) (gd zLock (b :: B)) κ).trans ?_
        rw [dec_int, cond_true]
        exact serve01_ok (k + 1) (b :: B) (by simp only [List.length_cons]; omega) (by simp) (by simp only [List.length_cons]; omega) _
      generalize serveF [] [] [] (b :: B) = S at *
      obtain ⟨G, W⟩ := S
      cases G with
      | nil =>
        cases W with
        | nil => exact ⟨0, fun _ => 0, 0, fun _ => zLock, 0, fun _ => zLock, rfl, rfl, rfl, fun κ => (st3 κ).trans ((locks_Release_r5_s (k + 1) s tx 0 (B.length + 1) (gd zLock (b :: B)) κ).trans (endK_000 rfl rfl rfl).symm)⟩
        | cons w W => exact ⟨0, fun _ => 0, 0, fun _ => zLock, W.length + 1, gd zLock (w :: W), rfl, rfl, gd_lst _ _, fun κ => (st3 κ).trans ((locks_Release_r5_s1 (k + 1) s tx 0 (B.length + 1) (gd zLock (b :: B)) (W.length + 1) (gd zLock (w :: W)) κ).trans (endK_001 rfl rfl (one_ne _)).symm)⟩
      | cons g G =>
        have htx : lst (G.length + 1) (gd 0 (txs (g :: G))) = txs (g :: G) := by rw [show G.length + 1 = (txs (g :: G)).length by rw [len_tx]; rfl]; exact gd_lst _ _
        cases W with
        | nil => exact ⟨G.length + 1, gd 0 (txs (g :: G)), G.length + 1, gd zLock (g :: G), 0, fun _ => zLock, htx, gd_lst zLock (g :: G), rfl, fun κ => (st3 κ).trans ((locks_Release_r5_s2 (k + 1) s tx 0 (B.length + 1) (gd zLock (b :: B)) (G.length + 1) (gd 0 (txs (g :: G))) (G.length + 1) (gd zLock (g :: G)) κ).trans (endK_110 (one_ne _) (one_ne _) rfl).symm)⟩
        | cons w W => exact ⟨G.length + 1, gd 0 (txs (g :: G)), G.length + 1, gd zLock (g :: G), W.length + 1, gd zLock (w :: W), htx, gd_lst zLock (g :: G), gd_lst _ _, fun κ => (st3 κ).trans ((locks_Release_r5_s3 (k + 1) s tx 0 (B.length + 1) (gd zLock (b :: B)) (G.length + 1) (gd 0 (txs (g :: G))) (G.length + 1) (gd zLock (g :: G)) (W.length + 1) (gd zLock (w :: W)) κ).trans (endK_111 (one_ne _) (one_ne _) (one_ne _)).symm)⟩
  | cons a A =>
    have st2 : ∀ κ : AV → Heap → Option ρ, evalF ctx (k + 2) n_locks_Release [.agg (eLocks s), .int .u64 tx] [] κ = locks_Release_r3 (k + 1) s tx 0 (A.length + 1) (gd zLock (a :: A)) κ (oV 5 eLock zLock 1 B) (some (.box [.int .u64 tx]) :: oH 5 eLock zLock B) := by
      intro κ
      rw [st]
      refine (locks_Release_r1_s1 k s tx 0 (A.length + 1) (gd zLock (a :: A)) κ).trans ?_
      rw [dec_int, cond_true, kw]
    cases B with
    | nil =>
      refine ⟨0, fun _ => 0, A.length + 1, gd zLock (a :: A), 0, fun _ => zLock, rfl, ?_, rfl, fun κ => ?_⟩
      · show lst (A.length + 1) (gd zLock (a :: A)) = a :: A ++ []
        rw [List.append_nil]; exact gd_lst zLock (a :: A)
      · rw [st2]
        refine (locks_Release_r3_s (k + 1) s tx 0 (A.length + 1) (gd zLock (a :: A)) κ).trans ?_
        rw [dec_int, cond_true, serve10_e, show (k : Nat) = (k - 1) + 1 by omega, serve10_h0_s]
        exact (locks_Release_r6_s _ s tx 0 (A.length + 1) (gd zLock (a :: A)) κ).trans (endK_010 rfl (one_ne _) rfl).symm
    | cons b B =>
      simp only [List.length_cons] at hB hA hAB
      have st3 : ∀ κ : AV → Heap → Option ρ, evalF ctx (k + 2) n_locks_Release [.agg (eLocks s), .int .u64 tx] [] κ = fin11 (gd zLock (a :: A)) (a :: A) (b :: B) (locks_Release_r7 (k + 1) s tx 0 (A.length + 1) (gd zLock (a :: A)) (B.length + 1) (gd zLock (b :: B)) κ) (serveF (a :: A) [] [] (b :: B)).1 (serveF (a :: A) [] [] (b :: B)).2 := by
        intro κ
        rw [st2]
        refine (locks_Release_r3_s1 (k + 1) s tx 0 (A.length + 1) (gd zLock (a :: A)) (B.length + 1) (gd zLock (b :: B)) κ).trans ?_
        rw [dec_int, cond_true]
        exact serve11_ok (k + 1) (gd zLock (a :: A)) (a :: A) (b :: B) (gd_lst zLock (a :: A)) (by simp only [List.length_cons]; omega) (by simp only [List.length_cons]; omega) (by simp) (by simp only [List.length_cons]; omega) _
      generalize serveF (a :: A) [] [] (b :: B) = S at *
      obtain ⟨G, W⟩ := S
      cases G with
      | nil =>
        have h0 : lst (A.length + 1) (gd zLock (a :: A)) = a :: A ++ [] := by rw [List.append_nil]; exact gd_lst zLock (a :: A)
        cases W with
        | nil => exact ⟨0, fun _ => 0, A.length + 1, gd zLock (a :: A), 0, fun _ => zLock, rfl, h0, rfl, fun κ => (st3 κ).trans ((locks_Release_r7_s (k + 1) s tx 0 (A.length + 1) (gd zLock (a :: A)) (B.length + 1) (gd zLock (b :: B)) κ).trans (endK_010 rfl (one_ne _) rfl).symm)⟩
        | cons w W => exact ⟨0, fun _ => 0, A.length + 1, gd zLock (a :: A), W.length + 1, gd zLock (w :: W), rfl, h0, gd_lst _ _, fun κ => (st3 κ).trans ((locks_Release_r7_s1 (k + 1) s tx 0 (A.length + 1) (gd zLock (a :: A)) (B.length + 1) (gd zLock (b :: B)) (W.length + 1) (gd zLock (w :: W)) κ).trans (endK_011 rfl (one_ne _) (one_ne _)).symm)⟩
      | cons g G =>
        have htx : lst (G.length + 1) (gd 0 (txs (g :: G))) = txs (g :: G) := by rw [show G.length + 1 = (txs (g :: G)).length by rw [len_tx]; rfl]; exact gd_lst _ _
        have h0 : lst ((a :: A).length + (G.length + 1)) (gd zLock (a :: A ++ g :: G)) = a :: A ++ g :: G := by rw [← lenA]; exact gd_lst _ _
        have hne : (a :: A).length + (G.length + 1) ≠ 0 := by simp
        cases W with
        | nil => exact ⟨G.length + 1, gd 0 (txs (g :: G)), (a :: A).length + (G.length + 1), gd zLock (a :: A ++ g :: G), 0, fun _ => zLock, htx, h0, rfl, fun κ => (st3 κ).trans ((locks_Release_r7_s2 (k + 1) s tx 0 (A.length + 1) (gd zLock (a :: A)) (B.length + 1) (gd zLock (b :: B)) (G.length + 1) (gd 0 (txs (g :: G))) ((a :: A).length + (G.length + 1)) (gd zLock (a :: A ++ g :: G)) κ).trans (endK_110 (one_ne _) hne rfl).symm)⟩
        | cons w W => exact ⟨G.length + 1, gd 0 (txs (g :: G)), (a :: A).length + (G.length + 1), gd zLock (a :: A ++ g :: G), W.length + 1, gd zLock (w :: W), htx, h0, gd_lst _ _, fun κ => (st3 κ).trans ((locks_Release_r7_s3 (k + 1) s tx 0 (A.length + 1) (gd zLock (a :: A)) (B.length + 1) (gd zLock (b :: B)) (G.length + 1) (gd 0 (txs (g :: G))) ((a :: A).length + (G.length + 1)) (gd zLock (a :: A ++ g :: G)) (W.length + 1) (gd zLock (w :: W)) κ).trans (endK_111 (one_ne _) hne (one_ne _)).symm)⟩
theorem rel_obad (k : Nat) (s : TLocks) (tx : Int) (hn : s.Held.n ≤ 10000) (hm : s.Waits.n ≤ 10000) (hc : checkB s = false) (hk : s.Held.n + s.Waits.n + 100 ≤ k) (κ : AV → Heap → Option ρ) :
    evalF ctx k n_locks_Release [.agg (eLocks s), .int .u64 tx] [] κ = endK 0 (fun _ => 0) 0 (fun _ => zLock) 0 (fun _ => zLock) 220 κ := by
  obtain ⟨k, rfl⟩ : ∃ k', k = k' + 2 := ⟨k - 2, by omega⟩
  refine (locks_Release_e (k + 1) s tx κ).trans ?_
  rw [locks_Check_ok (k + 1) s hn hm (by omega), locks_Release_r0_s]
  unfold checkE'
  rw [hc]; rfl
/-! ### Withdraw -/
theorem wit_own (k : Nat) (s : TLocks) (tx : Int) (hc : checkB s = true) (hk : s.Held.n + s.Waits.n + 100 ≤ k) : OwnR n_locks_Withdraw s.Held.l (othL s.Waits.l tx) k s tx ρ := by
  have h200 : s.Held.n + s.Waits.n ≤ 200 := by
    unfold checkB at hc
    simp only [Bool.and_eq_true, decide_eq_true_eq] at hc
    exact hc.1
  obtain ⟨k, rfl⟩ : ∃ k', k = k' + 3 := ⟨k - 3, by omega⟩
  have start : ∀ κ : AV → Heap → Option ρ, evalF ctx (k + 3) n_locks_Withdraw [.agg (eLocks s), .int .u64 tx] [] κ = evalF ctx (k + 2) n_slices_Clone_Lock [.sl 5 s.Held.n (rowOf eLock s.Held.w) s.Held.u] [] (locks_Withdraw_r1 (k + 2) s tx 0 κ) := by
    intro κ
    refine (locks_Withdraw_e (k + 2) s tx κ).trans ?_
    rw [locks_Check_ok (k + 2) s (by omega) (by omega) (by omega), locks_Withdraw_r0_s]
    unfold checkE'
    rw [if_pos hc, dec_int, Bool.not_true, cond_false]
  have hB : (othL (lst s.Waits.n s.Waits.w) tx).length ≤ 200 := Nat.le_trans (List.length_filter_le ..) (by rw [lst_len]; omega)
  have hAB : (othL (lst s.Waits.n s.Waits.w) tx).length ≤ s.Waits.n := Nat.le_trans (List.length_filter_le ..) (by rw [lst_len]; omega)
  have kw := fun κ' : AV → Heap → Option ρ => kept_others_ok (k + 2) s.Waits.n s.Waits.w s.Waits.u tx (by omega) (by omega) κ'
  have hH : s.Held.l = lst s.Held.n s.Held.w := rfl
  have hW : s.Waits.l = lst s.Waits.n s.Waits.w := rfl
  rw [hW]
  generalize othL (lst s.Waits.n s.Waits.w) tx = B at *
  unfold OwnR
  by_cases h0 : s.Held.n = 0
  · have hl : s.Held.l = [] := by rw [hH, h0]; rfl
    have st2 : ∀ κ : AV → Heap → Option ρ, evalF ctx (k + 3) n_locks_Withdraw [.agg (eLocks s), .int .u64 tx] [] κ = locks_Withdraw_r4 (k + 2) s tx 0 κ (oV 5 eLock zLock 1 B) (some (.box [.int .u64 tx]) :: oH 5 eLock zLock B) := by
      intro κ
      rw [start, clone_lock (k + 1) _ _ _ (by omega), if_pos h0, locks_Withdraw_r1_s, locks_others_e, locks_Withdraw_r2_s, kw]
    rw [hl]
    cases B with
    | nil =>
      refine ⟨0, fun _ => 0, 0, fun _ => zLock, 0, fun _ => zLock, rfl, rfl, rfl, fun κ => ?_⟩
      rw [st2]
      refine (locks_Withdraw_r4_s (k + 2) s tx 0 κ).trans ?_
      rw [dec_int, cond_true, serve00_e, serve00_h0_s]
      exact (locks_Withdraw_r6_s (k + 2) s tx 0 κ).trans (endK_000 rfl rfl rfl).symm
    | cons b B =>
      simp only [List.length_cons] at hB hAB
      have st3 : ∀ κ : AV → Heap → Option ρ, evalF ctx (k + 3) n_locks_Withdraw [.agg (eLocks s), .int .u64 tx] [] κ = fin01 (b :: B) (locks_Withdraw_r7 (k + 2) s tx 0 (B.length + 1) (gd zLock (b :: B)) κ) (serveF [] [] [] (b :: B)).1 (serveF [] [] [] (b :: B)).2 := by
        intro κ
        rw [st2]
        refine (locks_Withdraw_r4_s1 (k + 2) s tx 0 (B.length + 1) (gd zLock (b :: B)) κ).trans ?_
        rw [dec_int, cond_true]
        exact serve01_ok (k + 2) (b :: B) (by simp only [List.length_cons]; omega) (by simp) (by simp only [List.length_cons]; omega) _
      generalize serveF [] [] [] (b :: B) = S at *
      obtain ⟨G, W⟩ := S
      cases G with
      | nil =>
        cases W with
        | nil => exact ⟨0, fun _ => 0, 0, fun _ => zLock, 0, fun _ => zLock, rfl, rfl, rfl, fun κ => (st3 κ).trans ((locks_Withdraw_r7_s (k + 2) s tx 0 (B.length + 1) (gd zLock (b :: B)) κ).trans (endK_000 rfl rfl rfl).symm)⟩
        | cons w W => exact ⟨0, fun _ => 0, 0, fun _ => zLock, W.length + 1, gd zLock (w :: W), rfl, rfl, gd_lst _ _, fun κ => (st3 κ).trans ((locks_Withdraw_r7_s1 (k + 2) s tx 0 (B.length + 1) (gd zLock (b :: B)) (W.length + 1) (gd zLock (w :: W)) κ).trans (endK_001 rfl rfl (one_ne _)).symm)⟩
      | cons g G =>
        have htx : lst (G.length + 1) (gd 0 (txs (g :: G))) = txs (g :: G) := by rw [show G.length + 1 = (txs (g :: G)).length by rw [len_tx]; rfl]; exact gd_lst _ _
        cases W with
        | nil => exact ⟨G.length + 1, gd 0 (txs (g :: G)), G.length + 1, gd zLock (g :: G), 0, fun _ => zLock, htx, gd_lst zLock (g :: G), rfl, fun κ => (st3 κ).trans ((locks_Withdraw_r7_s2 (k + 2) s tx 0 (B.length + 1) (gd zLock (b :: B)) (G.length + 1) (gd 0 (txs (g :: G))) (G.length + 1) (gd zLock (g :: G)) κ).trans (endK_110 (one_ne _) (one_ne _) rfl).symm)⟩
        | cons w W => exact ⟨G.length + 1, gd 0 (txs (g :: G)), G.length + 1, gd zLock (g :: G), W.length + 1, gd zLock (w :: W), htx, gd_lst zLock (g :: G), gd_lst _ _, fun κ => (st3 κ).trans ((locks_Withdraw_r7_s3 (k + 2) s tx 0 (B.length + 1) (gd zLock (b :: B)) (G.length + 1) (gd 0 (txs (g :: G))) (G.length + 1) (gd zLock (g :: G)) (W.length + 1) (gd zLock (w :: W)) κ).trans (endK_111 (one_ne _) (one_ne _) (one_ne _)).symm)⟩
  · have st2 : ∀ κ : AV → Heap → Option ρ, evalF ctx (k + 3) n_locks_Withdraw [.agg (eLocks s), .int .u64 tx] [] κ = locks_Withdraw_r5 (k + 2) s tx 0 κ (oV 5 eLock zLock 1 B) (some (.box [.int .u64 tx]) :: oH 5 eLock zLock B) := by
      intro κ
      rw [start, clone_lock (k + 1) _ _ _ (by omega), if_neg h0, locks_Withdraw_r1_s1, locks_others_e, locks_Withdraw_r3_s, kw]
    have hlst : lst s.Held.n s.Held.w = s.Held.l ++ [] := by rw [List.append_nil]
    cases B with
    | nil =>
      refine ⟨0, fun _ => 0, s.Held.n, s.Held.w, 0, fun _ => zLock, rfl, hlst, rfl, fun κ => ?_⟩
      rw [st2]
      refine (locks_Withdraw_r5_s (k + 2) s tx 0 κ).trans ?_
      rw [dec_int, cond_true, serve10_e, serve10_h0_s]
      exact (locks_Withdraw_r8_s (k + 2) s tx 0 κ).trans (endK_010 rfl h0 rfl).symm
    | cons b B =>
      simp only [List.length_cons] at hB hAB
      have hlen : s.Held.l.length = s.Held.n := lst_len _ _
      have st3 : ∀ κ : AV → Heap → Option ρ, evalF ctx (k + 3) n_locks_Withdraw [.agg (eLocks s), .int .u64 tx] [] κ = fin11 s.Held.w s.Held.l (b :: B) (locks_Withdraw_r9 (k + 2) s tx 0 (B.length + 1) (gd zLock (b :: B)) κ) (serveF s.Held.l [] [] (b :: B)).1 (serveF s.Held.l [] [] (b :: B)).2 := by
        intro κ
        rw [st2]
        refine (locks_Withdraw_r5_s1 (k + 2) s tx 0 (B.length + 1) (gd zLock (b :: B)) κ).trans ?_
        rw [dec_int, cond_true]
        have := serve11_ok (k + 2) s.Held.w s.Held.l (b :: B) (by rw [hlen]) (by omega) (by simp only [List.length_cons]; omega) (by simp) (by simp only [List.length_cons]; omega) (locks_Withdraw_r9 (k + 2) s tx 0 (B.length + 1) (gd zLock (b :: B)) κ)
        rw [hlen] at this
        exact this
      generalize serveF s.Held.l [] [] (b :: B) = S at *
      obtain ⟨G, W⟩ := S
      cases G with
      | nil =>
        cases W with
        | nil =>
          refine ⟨0, fun _ => 0, s.Held.n, s.Held.w, 0, fun _ => zLock, rfl, hlst, rfl, fun κ => ?_⟩
          rw [st3]
          unfold fin11
          dsimp only
          rw [hlen]
          exact (locks_Withdraw_r9_s (k + 2) s tx 0 (B.length + 1) (gd zLock (b :: B)) κ).trans (endK_010 rfl h0 rfl).symm
        | cons w W =>
          refine ⟨0, fun _ => 0, s.Held.n, s.Held.w, W.length + 1, gd zLock (w :: W), rfl, hlst, gd_lst _ _, fun κ => ?_⟩
          rw [st3]
          unfold fin11
          dsimp only
          rw [hlen]
          exact (locks_Withdraw_r9_s1 (k + 2) s tx 0 (B.length + 1) (gd zLock (b :: B)) (W.length + 1) (gd zLock (w :: W)) κ).trans (endK_011 rfl h0 (one_ne _)).symm
      | cons g G =>
        have htx : lst (G.length + 1) (gd 0 (txs (g :: G))) = txs (g :: G) := by rw [show G.length + 1 = (txs (g :: G)).length by rw [len_tx]; rfl]; exact gd_lst _ _
        have h1 : lst (s.Held.l.length + (G.length + 1)) (gd zLock (s.Held.l ++ g :: G)) = s.Held.l ++ g :: G := by rw [← lenA]; exact gd_lst _ _
        have hne : s.Held.l.length + (G.length + 1) ≠ 0 := by omega
        cases W with
        | nil => exact ⟨G.length + 1, gd 0 (txs (g :: G)), s.Held.l.length + (G.length + 1), gd zLock (s.Held.l ++ g :: G), 0, fun _ => zLock, htx, h1, rfl, fun κ => (st3 κ).trans ((locks_Withdraw_r9_s2 (k + 2) s tx 0 (B.length + 1) (gd zLock (b :: B)) (G.length + 1) (gd 0 (txs (g :: G))) (s.Held.l.length + (G.length + 1)) (gd zLock (s.Held.l ++ g :: G)) κ).trans (endK_110 (one_ne _) hne rfl).symm)⟩
        | cons w W => exact ⟨G.length + 1, gd 0 (txs (g :: G)), s.Held.l.length + (G.length + 1), gd zLock (s.Held.l ++ g :: G), W.length + 1, gd zLock (w :: W), htx, h1, gd_lst _ _, fun κ => (st3 κ).trans ((locks_Withdraw_r9_s3 (k + 2) s tx 0 (B.length + 1) (gd zLock (b :: B)) (G.length + 1) (gd 0 (txs (g :: G))) (s.Held.l.length + (G.length + 1)) (gd zLock (s.Held.l ++ g :: G)) (W.length + 1) (gd zLock (w :: W)) κ).trans (endK_111 (one_ne _) hne (one_ne _)).symm)⟩
theorem wit_obad (k : Nat) (s : TLocks) (tx : Int) (hn : s.Held.n ≤ 10000) (hm : s.Waits.n ≤ 10000) (hc : checkB s = false) (hk : s.Held.n + s.Waits.n + 100 ≤ k) (κ : AV → Heap → Option ρ) :
    evalF ctx k n_locks_Withdraw [.agg (eLocks s), .int .u64 tx] [] κ = endK 0 (fun _ => 0) 0 (fun _ => zLock) 0 (fun _ => zLock) 220 κ := by
  obtain ⟨k, rfl⟩ : ∃ k', k = k' + 2 := ⟨k - 2, by omega⟩
  refine (locks_Withdraw_e (k + 1) s tx κ).trans ?_
  rw [locks_Check_ok (k + 1) s hn hm (by omega), locks_Withdraw_r0_s]
  unfold checkE'
  rw [hc]; rfl
end Go.Proofs.YticcbbcgboddpaaC

set_option linter.unusedVariables false
set_option maxRecDepth 20000
namespace Go.Proofs.YticcbbcgboddpaaC
open Go Go.Ev Go.Proofs
variable {ρ : Type}
noncomputable def r22_Ask_r0 (k : Nat) (l : TLocks) (o : TLock) (κ : AV → Heap → Option ρ) (v : AV) : Option ρ := resAt ctx k n_r22_Ask 0 [.r, .l, .l] 1 [] ⟨(envOf 61 [(2, .ref 0 0), (3, .ref 1 0), (4, .ref 2 0), (8, .agg (eLocks l)), (9, v)]), [some (.box [.sl 5 l.Held.n (rowOf eLock l.Held.w) l.Held.u, .sl 5 l.Waits.n (rowOf eLock l.Waits.w) l.Waits.u]), some (.box (eLock o)), some (.box [.sl 5 0 (rowOf eLock (fun _ => zLock)) true, .sl 5 0 (rowOf eLock (fun _ => zLock)) true])]⟩ κ
noncomputable def r22_Ask_r1 (k : Nat) (l : TLocks) (o : TLock) (r0 : Int) (κ : AV → Heap → Option ρ) (v : AV) : Option ρ := resAt ctx k n_r22_Ask 0 [.r, .r, .l, .l] 1 [] ⟨(envOf 61 [(2, .ref 0 0), (3, .ref 1 0), (4, .ref 2 0), (10, .bool (!decide (r0 = 0))), (12, .agg (eLock o)), (13, v)]), [some (.box [.sl 5 l.Held.n (rowOf eLock l.Held.w) l.Held.u, .sl 5 l.Waits.n (rowOf eLock l.Waits.w) l.Waits.u]), some (.box (eLock o)), some (.box [.sl 5 0 (rowOf eLock (fun _ => zLock)) true, .sl 5 0 (rowOf eLock (fun _ => zLock)) true])]⟩ κ
noncomputable def r22_Ask_r2 (k : Nat) (l : TLocks) (o : TLock) (r1 : Bool) (κ : AV → Heap → Option ρ) (v : AV) : Option ρ := resAt ctx k n_r22_Ask 0 [.r, .r, .r, .l, .l] 3 [] ⟨(envOf 61 [(2, .ref 0 0), (3, .ref 1 0), (4, .ref 2 0), (14, .bool (!r1)), (16, .agg (eLocks l)), (17, .ref 1 0), (18, .int .u64 o.Tx), (19, v)]), [some (.box [.sl 5 l.Held.n (rowOf eLock l.Held.w) l.Held.u, .sl 5 l.Waits.n (rowOf eLock l.Waits.w) l.Waits.u]), some (.box (eLock o)), some (.box [.sl 5 0 (rowOf eLock (fun _ => zLock)) true, .sl 5 0 (rowOf eLock (fun _ => zLock)) true])]⟩ κ
noncomputable def r22_Ask_r3 (k : Nat) (l : TLocks) (o : TLock) (r2 : Int) (κ : AV → Heap → Option ρ) (v : AV) (W : Heap) : Option ρ := backF [.agg (eLocks l)] [some (.box [.sl 5 l.Held.n (rowOf eLock l.Held.w) l.Held.u, .sl 5 l.Waits.n (rowOf eLock l.Waits.w) l.Waits.u]), some (.box (eLock o)), some (.box [.sl 5 0 (rowOf eLock (fun _ => zLock)) true, .sl 5 0 (rowOf eLock (fun _ => zLock)) true])] (fun v H => resAt ctx k n_r22_Ask 0 [.r, .r, .r, .r, .l] 1 [] ⟨(envOf 61 [(2, .ref 0 0), (3, .ref 1 0), (4, .ref 2 0), (20, .bool (decide (0 ≤ r2))), (22, .agg (eLocks l)), (23, v)]), H⟩ κ) v W
noncomputable def r22_Ask_r4 (k : Nat) (l : TLocks) (o : TLock) (κ : AV → Heap → Option ρ) (v : AV) : Option ρ := resAt ctx k n_r22_Ask 0 [.r, .r, .r, .r, .r, .l, .l] 2 [] ⟨(envOf 61 [(2, .ref 0 0), (3, .ref 1 0), (4, .ref 2 0), (7, .ref 3 0), (24, .agg (eLocks l)), (25, .agg (eLock o)), (26, v)]), [some (.box [.sl 5 l.Held.n (rowOf eLock l.Held.w) l.Held.u, .sl 5 l.Waits.n (rowOf eLock l.Waits.w) l.Waits.u]), some (.box (eLock o)), some (.box [.sl 5 0 (rowOf eLock (fun _ => zLock)) true, .sl 5 0 (rowOf eLock (fun _ => zLock)) true]), some (.box [.sl 5 0 (rowOf eLock (fun _ => zLock)) true, .sl 5 0 (rowOf eLock (fun _ => zLock)) true])]⟩ κ
noncomputable def r22_Ask_r5 (k : Nat) (l : TLocks) (o : TLock) (κ : AV → Heap → Option ρ) (v : AV) : Option ρ := resAt ctx k n_r22_Ask 0 [.r, .r, .r, .r, .r, .l, .l] 2 [] ⟨(envOf 61 [(2, .ref 0 0), (3, .ref 1 0), (4, .ref 2 0), (7, .ref 3 0), (24, .agg (eLocks l)), (25, .agg (eLock o)), (26, v)]), [some (.box [.sl 5 l.Held.n (rowOf eLock l.Held.w) l.Held.u, .sl 5 l.Waits.n (rowOf eLock l.Waits.w) l.Waits.u]), some (.box (eLock o)), some (.box [.sl 5 0 (rowOf eLock (fun _ => zLock)) true, .sl 5 0 (rowOf eLock (fun _ => zLock)) true]), some (.box [.sl 5 0 (rowOf eLock (fun _ => zLock)) true, .osl 5 4 0 l.Waits.n false]), some (.arr 5 l.Waits.n (rowOf eLock l.Waits.w))]⟩ κ
noncomputable def r22_Ask_r6 (k : Nat) (l : TLocks) (o : TLock) (κ : AV → Heap → Option ρ) (v : AV) : Option ρ := resAt ctx k n_r22_Ask 0 [.r, .r, .r, .r, .r, .l, .l] 2 [] ⟨(envOf 61 [(2, .ref 0 0), (3, .ref 1 0), (4, .ref 2 0), (7, .ref 3 0), (24, .agg (eLocks l)), (25, .agg (eLock o)), (26, v)]), [some (.box [.sl 5 l.Held.n (rowOf eLock l.Held.w) l.Held.u, .sl 5 l.Waits.n (rowOf eLock l.Waits.w) l.Waits.u]), some (.box (eLock o)), some (.box [.sl 5 0 (rowOf eLock (fun _ => zLock)) true, .sl 5 0 (rowOf eLock (fun _ => zLock)) true]), some (.box [.osl 5 4 0 l.Held.n false, .sl 5 0 (rowOf eLock (fun _ => zLock)) true]), some (.arr 5 l.Held.n (rowOf eLock l.Held.w))]⟩ κ
noncomputable def r22_Ask_r7 (k : Nat) (l : TLocks) (o : TLock) (κ : AV → Heap → Option ρ) (v : AV) : Option ρ := resAt ctx k n_r22_Ask 0 [.r, .r, .r, .r, .r, .l, .l] 2 [] ⟨(envOf 61 [(2, .ref 0 0), (3, .ref 1 0), (4, .ref 2 0), (7, .ref 3 0), (24, .agg (eLocks l)), (25, .agg (eLock o)), (26, v)]), [some (.box [.sl 5 l.Held.n (rowOf eLock l.Held.w) l.Held.u, .sl 5 l.Waits.n (rowOf eLock l.Waits.w) l.Waits.u]), some (.box (eLock o)), some (.box [.sl 5 0 (rowOf eLock (fun _ => zLock)) true, .sl 5 0 (rowOf eLock (fun _ => zLock)) true]), some (.box [.osl 5 4 0 l.Held.n false, .osl 5 5 0 l.Waits.n false]), some (.arr 5 l.Held.n (rowOf eLock l.Held.w)), some (.arr 5 l.Waits.n (rowOf eLock l.Waits.w))]⟩ κ
noncomputable def r22_Ask_r8 (k : Nat) (l : TLocks) (o : TLock) (κ : AV → Heap → Option ρ) (v : AV) : Option ρ := resAt ctx k n_r22_Ask 0 [.r, .r, .r, .r, .r, .r, .r, .l, .l] 3 [] ⟨(envOf 61 [(2, .ref 0 0), (3, .ref 1 0), (4, .ref 2 0), (7, .ref 3 0), (35, .bool (decide (200 ≤ wi64 ((l.Held.n : Int) + (l.Waits.n : Int))))), (37, .agg (eLock o)), (38, .ref 0 0), (39, .sl 5 l.Held.n (rowOf eLock l.Held.w) l.Held.u), (40, v)]), [some (.box [.sl 5 l.Held.n (rowOf eLock l.Held.w) l.Held.u, .sl 5 l.Waits.n (rowOf eLock l.Waits.w) l.Waits.u]), some (.box (eLock o)), some (.box [.sl 5 0 (rowOf eLock (fun _ => zLock)) true, .sl 5 0 (rowOf eLock (fun _ => zLock)) true]), some (.box [.sl 5 0 (rowOf eLock (fun _ => zLock)) true, .sl 5 0 (rowOf eLock (fun _ => zLock)) true])]⟩ κ
noncomputable def r22_Ask_r9 (k : Nat) (l : TLocks) (o : TLock) (κ : AV → Heap → Option ρ) (v : AV) : Option ρ := resAt ctx k n_r22_Ask 0 [.r, .r, .r, .r, .r, .r, .r, .l, .l] 3 [] ⟨(envOf 61 [(2, .ref 0 0), (3, .ref 1 0), (4, .ref 2 0), (7, .ref 3 0), (35, .bool (decide (200 ≤ wi64 ((l.Held.n : Int) + (l.Waits.n : Int))))), (37, .agg (eLock o)), (38, .ref 0 0), (39, .sl 5 l.Held.n (rowOf eLock l.Held.w) l.Held.u), (40, v)]), [some (.box [.sl 5 l.Held.n (rowOf eLock l.Held.w) l.Held.u, .sl 5 l.Waits.n (rowOf eLock l.Waits.w) l.Waits.u]), some (.box (eLock o)), some (.box [.sl 5 0 (rowOf eLock (fun _ => zLock)) true, .sl 5 0 (rowOf eLock (fun _ => zLock)) true]), some (.box [.sl 5 0 (rowOf eLock (fun _ => zLock)) true, .osl 5 4 0 l.Waits.n false]), some (.arr 5 l.Waits.n (rowOf eLock l.Waits.w))]⟩ κ
noncomputable def r22_Ask_r10 (k : Nat) (l : TLocks) (o : TLock) (κ : AV → Heap → Option ρ) (v : AV) : Option ρ := resAt ctx k n_r22_Ask 0 [.r, .r, .r, .r, .r, .r, .r, .l, .l] 3 [] ⟨(envOf 61 [(2, .ref 0 0), (3, .ref 1 0), (4, .ref 2 0), (7, .ref 3 0), (35, .bool (decide (200 ≤ wi64 ((l.Held.n : Int) + (l.Waits.n : Int))))), (37, .agg (eLock o)), (38, .ref 0 0), (39, .sl 5 l.Held.n (rowOf eLock l.Held.w) l.Held.u), (40, v)]), [some (.box [.sl 5 l.Held.n (rowOf eLock l.Held.w) l.Held.u, .sl 5 l.Waits.n (rowOf eLock l.Waits.w) l.Waits.u]), some (.box (eLock o)), some (.box [.sl 5 0 (rowOf eLock (fun _ => zLock)) true, .sl 5 0 (rowOf eLock (fun _ => zLock)) true]), some (.box [.osl 5 4 0 l.Held.n false, .sl 5 0 (rowOf eLock (fun _ => zLock)) true]), some (.arr 5 l.Held.n (rowOf eLock l.Held.w))]⟩ κ
noncomputable def r22_Ask_r11 (k : Nat) (l : TLocks) (o : TLock) (κ : AV → Heap → Option ρ) (v : AV) : Option ρ := resAt ctx k n_r22_Ask 0 [.r, .r, .r, .r, .r, .r, .r, .l, .l] 3 [] ⟨(envOf 61 [(2, .ref 0 0), (3, .ref 1 0), (4, .ref 2 0), (7, .ref 3 0), (35, .bool (decide (200 ≤ wi64 ((l.Held.n : Int) + (l.Waits.n : Int))))), (37, .agg (eLock o)), (38, .ref 0 0), (39, .sl 5 l.Held.n (rowOf eLock l.Held.w) l.Held.u), (40, v)]), [some (.box [.sl 5 l.Held.n (rowOf eLock l.Held.w) l.Held.u, .sl 5 l.Waits.n (rowOf eLock l.Waits.w) l.Waits.u]), some (.box (eLock o)), some (.box [.sl 5 0 (rowOf eLock (fun _ => zLock)) true, .sl 5 0 (rowOf eLock (fun _ => zLock)) true]), some (.box [.osl 5 4 0 l.Held.n false, .osl 5 5 0 l.Waits.n false]), some (.arr 5 l.Held.n (rowOf eLock l.Held.w)), some (.arr 5 l.Waits.n (rowOf eLock l.Waits.w))]⟩ κ
noncomputable def r22_Ask_r12 (k : Nat) (l : TLocks) (o : TLock) (r8 : Bool) (κ : AV → Heap → Option ρ) (v : AV) : Option ρ := resAt ctx k n_r22_Ask 0 [.r, .r, .r, .r, .r, .r, .r, .l, .l] 8 [(41, false)] ⟨(envOf 61 [(2, .ref 0 0), (3, .ref 1 0), (4, .ref 2 0), (7, .ref 3 0), (35, .bool (decide (200 ≤ wi64 ((l.Held.n : Int) + (l.Waits.n : Int))))), (37, .agg (eLock o)), (38, .ref 0 0), (39, .sl 5 l.Held.n (rowOf eLock l.Held.w) l.Held.u), (40, .bool r8), (41, .bool r8), (42, .agg (eLock o)), (43, .ref 0 1), (44, .sl 5 l.Waits.n (rowOf eLock l.Waits.w) l.Waits.u), (45, v)]), [some (.box [.sl 5 l.Held.n (rowOf eLock l.Held.w) l.Held.u, .sl 5 l.Waits.n (rowOf eLock l.Waits.w) l.Waits.u]), some (.box (eLock o)), some (.box [.sl 5 0 (rowOf eLock (fun _ => zLock)) true, .sl 5 0 (rowOf eLock (fun _ => zLock)) true]), some (.box [.sl 5 0 (rowOf eLock (fun _ => zLock)) true, .sl 5 0 (rowOf eLock (fun _ => zLock)) true])]⟩ κ
noncomputable def r22_Ask_r13 (k : Nat) (l : TLocks) (o : TLock) (r9 : Bool) (κ : AV → Heap → Option ρ) (v : AV) : Option ρ := resAt ctx k n_r22_Ask 0 [.r, .r, .r, .r, .r, .r, .r, .l, .l] 8 [(41, false)] ⟨(envOf 61 [(2, .ref 0 0), (3, .ref 1 0), (4, .ref 2 0), (7, .ref 3 0), (35, .bool (decide (200 ≤ wi64 ((l.Held.n : Int) + (l.Waits.n : Int))))), (37, .agg (eLock o)), (38, .ref 0 0), (39, .sl 5 l.Held.n (rowOf eLock l.Held.w) l.Held.u), (40, .bool r9), (41, .bool r9), (42, .agg (eLock o)), (43, .ref 0 1), (44, .sl 5 l.Waits.n (rowOf eLock l.Waits.w) l.Waits.u), (45, v)]), [some (.box [.sl 5 l.Held.n (rowOf eLock l.Held.w) l.Held.u, .sl 5 l.Waits.n (rowOf eLock l.Waits.w) l.Waits.u]), some (.box (eLock o)), some (.box [.sl 5 0 (rowOf eLock (fun _ => zLock)) true, .sl 5 0 (rowOf eLock (fun _ => zLock)) true]), some (.box [.sl 5 0 (rowOf eLock (fun _ => zLock)) true, .osl 5 4 0 l.Waits.n false]), some (.arr 5 l.Waits.n (rowOf eLock l.Waits.w))]⟩ κ
noncomputable def r22_Ask_r14 (k : Nat) (l : TLocks) (o : TLock) (r10 : Bool) (κ : AV → Heap → Option ρ) (v : AV) : Option ρ := resAt ctx k n_r22_Ask 0 [.r, .r, .r, .r, .r, .r, .r, .l, .l] 8 [(41, false)] ⟨(envOf 61 [(2, .ref 0 0), (3, .ref 1 0), (4, .ref 2 0), (7, .ref 3 0), (35, .bool (decide (200 ≤ wi64 ((l.Held.n : Int) + (l.Waits.n : Int))))), (37, .agg (eLock o)), (38, .ref 0 0), (39, .sl 5 l.Held.n (rowOf eLock l.Held.w) l.Held.u), (40, .bool r10), (41, .bool r10), (42, .agg (eLock o)), (43, .ref 0 1), (44, .sl 5 l.Waits.n (rowOf eLock l.Waits.w) l.Waits.u), (45, v)]), [some (.box [.sl 5 l.Held.n (rowOf eLock l.Held.w) l.Held.u, .sl 5 l.Waits.n (rowOf eLock l.Waits.w) l.Waits.u]), some (.box (eLock o)), some (.box [.sl 5 0 (rowOf eLock (fun _ => zLock)) true, .sl 5 0 (rowOf eLock (fun _ => zLock)) true]), some (.box [.osl 5 4 0 l.Held.n false, .sl 5 0 (rowOf eLock (fun _ => zLock)) true]), some (.arr 5 l.Held.n (rowOf eLock l.Held.w))]⟩ κ
noncomputable def r22_Ask_r15 (k : Nat) (l : TLocks) (o : TLock) (r11 : Bool) (κ : AV → Heap → Option ρ) (v : AV) : Option ρ := resAt ctx k n_r22_Ask 0 [.r, .r, .r, .r, .r, .r, .r, .l, .l] 8 [(41, false)] ⟨(envOf 61 [(2, .ref 0 0), (3, .ref 1 0), (4, .ref 2 0), (7, .ref 3 0), (35, .bool (decide (200 ≤ wi64 ((l.Held.n : Int) + (l.Waits.n : Int))))), (37, .agg (eLock o)), (38, .ref 0 0), (39, .sl 5 l.Held.n (rowOf eLock l.Held.w) l.Held.u), (40, .bool r11), (41, .bool r11), (42, .agg (eLock o)), (43, .ref 0 1), (44, .sl 5 l.Waits.n (rowOf eLock l.Waits.w) l.Waits.u), (45, v)]), [some (.box [.sl 5 l.Held.n (rowOf eLock l.Held.w) l.Held.u, .sl 5 l.Waits.n (rowOf eLock l.Waits.w) l.Waits.u]), some (.box (eLock o)), some (.box [.sl 5 0 (rowOf eLock (fun _ => zLock)) true, .sl 5 0 (rowOf eLock (fun _ => zLock)) true]), some (.box [.osl 5 4 0 l.Held.n false, .osl 5 5 0 l.Waits.n false]), some (.arr 5 l.Held.n (rowOf eLock l.Held.w)), some (.arr 5 l.Waits.n (rowOf eLock l.Waits.w))]⟩ κ
theorem r22_Ask_r0_s (k : Nat) (l : TLocks) (o : TLock) (r0 : Int) (κ : AV → Heap → Option ρ) : r22_Ask_r0 k l o κ (.int .i64 r0) =
  (bif !decide (r0 = 0) then
   κ (.tup [.agg (eLocks zLocks), .bool false, .int .i64 220]) [some (.box [.sl 5 0 (rowOf eLock (fun _ => zLock)) true, .sl 5 0 (rowOf eLock (fun _ => zLock)) true])]
  else callP ctx k n_r22_May [.agg (eLock o)] (r22_Ask_r1 k l o r0 κ)) := by kernel_rfl
theorem r22_Ask_r1_s (k : Nat) (l : TLocks) (o : TLock) (r0 : Int) (r1 : Bool) (κ : AV → Heap → Option ρ) : r22_Ask_r1 k l o r0 κ (.bool r1) =
  (bif !r1 then
   κ (.tup [.agg (eLocks zLocks), .bool false, .int .i64 2]) [some (.box [.sl 5 0 (rowOf eLock (fun _ => zLock)) true, .sl 5 0 (rowOf eLock (fun _ => zLock)) true])]
  else callP ctx k n_r22_waits [.agg (eLocks l), .int .u64 o.Tx] (r22_Ask_r2 k l o r1 κ)) := by kernel_rfl
theorem r22_Ask_r2_s (k : Nat) (l : TLocks) (o : TLock) (r1 : Bool) (r2 : Int) (κ : AV → Heap → Option ρ) : r22_Ask_r2 k l o r1 κ (.int .i64 r2) =
  (bif decide (0 ≤ r2) then
   κ (.tup [.agg (eLocks zLocks), .bool false, .int .i64 9]) [some (.box [.sl 5 0 (rowOf eLock (fun _ => zLock)) true, .sl 5 0 (rowOf eLock (fun _ => zLock)) true])]
  else evalF ctx k n_r22_Copy [.agg (eLocks l)] [] (r22_Ask_r3 k l o r2 κ)) := by kernel_rfl
theorem r22_Ask_r3_s (k : Nat) (l : TLocks) (o : TLock) (r2 : Int) (κ : AV → Heap → Option ρ) : r22_Ask_r3 k l o r2 κ (.agg (eLocks zLocks)) [some (.box [.sl 5 0 (rowOf eLock (fun _ => zLock)) true, .sl 5 0 (rowOf eLock (fun _ => zLock)) true])] =
  callP ctx k n_r22_covered [.agg (eLocks l), .agg (eLock o)] (r22_Ask_r4 k l o κ) := by kernel_rfl
theorem r22_Ask_r3_s1 (k : Nat) (l : TLocks) (o : TLock) (r2 : Int) (κ : AV → Heap → Option ρ) : r22_Ask_r3 k l o r2 κ (.agg [.sl 5 0 (rowOf eLock (fun _ => zLock)) true, .osl 5 1 0 l.Waits.n false]) [some (.box [.sl 5 0 (rowOf eLock (fun _ => zLock)) true, .osl 5 1 0 l.Waits.n false]), some (.arr 5 l.Waits.n (rowOf eLock l.Waits.w))] =
  callP ctx k n_r22_covered [.agg (eLocks l), .agg (eLock o)] (r22_Ask_r5 k l o κ) := by kernel_rfl
theorem r22_Ask_r3_s2 (k : Nat) (l : TLocks) (o : TLock) (r2 : Int) (κ : AV → Heap → Option ρ) : r22_Ask_r3 k l o r2 κ (.agg [.osl 5 1 0 l.Held.n false, .sl 5 0 (rowOf eLock (fun _ => zLock)) true]) [some (.box [.osl 5 1 0 l.Held.n false, .sl 5 0 (rowOf eLock (fun _ => zLock)) true]), some (.arr 5 l.Held.n (rowOf eLock l.Held.w))] =
  callP ctx k n_r22_covered [.agg (eLocks l), .agg (eLock o)] (r22_Ask_r6 k l o κ) := by kernel_rfl
theorem r22_Ask_r3_s3 (k : Nat) (l : TLocks) (o : TLock) (r2 : Int) (κ : AV → Heap → Option ρ) : r22_Ask_r3 k l o r2 κ (.agg [.osl 5 1 0 l.Held.n false, .osl 5 2 0 l.Waits.n false]) [some (.box [.osl 5 1 0 l.Held.n false, .osl 5 2 0 l.Waits.n false]), some (.arr 5 l.Held.n (rowOf eLock l.Held.w)), some (.arr 5 l.Waits.n (rowOf eLock l.Waits.w))] =
  callP ctx k n_r22_covered [.agg (eLocks l), .agg (eLock o)] (r22_Ask_r7 k l o κ) := by kernel_rfl
theorem r22_Ask_r4_s (k : Nat) (l : TLocks) (o : TLock) (r4 : Bool) (κ : AV → Heap → Option ρ) : r22_Ask_r4 k l o κ (.bool r4) =
  (bif r4 then
   κ (.tup [.agg (eLocks zLocks), .bool true, .int .i64 0]) [some (.box [.sl 5 0 (rowOf eLock (fun _ => zLock)) true, .sl 5 0 (rowOf eLock (fun _ => zLock)) true])]
  else (bif decide (200 ≤ wi64 ((l.Held.n : Int) + (l.Waits.n : Int))) then
    κ (.tup [.agg (eLocks zLocks), .bool false, .int .i64 6]) [some (.box [.sl 5 0 (rowOf eLock (fun _ => zLock)) true, .sl 5 0 (rowOf eLock (fun _ => zLock)) true])]
   else callP ctx k n_r22_any [.agg (eLock o), .sl 5 l.Held.n (rowOf eLock l.Held.w) l.Held.u] (r22_Ask_r8 k l o κ))) := by kernel_rfl
theorem r22_Ask_r5_s (k : Nat) (l : TLocks) (o : TLock) (r5 : Bool) (κ : AV → Heap → Option ρ) : r22_Ask_r5 k l o κ (.bool r5) =
  (bif r5 then
   κ (.tup [.agg [.sl 5 0 (rowOf eLock (fun _ => zLock)) true, .osl 5 1 0 l.Waits.n false], .bool true, .int .i64 0]) [some (.box [.sl 5 0 (rowOf eLock (fun _ => zLock)) true, .osl 5 1 0 l.Waits.n false]), some (.arr 5 l.Waits.n (rowOf eLock l.Waits.w))]
  else (bif decide (200 ≤ wi64 ((l.Held.n : Int) + (l.Waits.n : Int))) then
    κ (.tup [.agg (eLocks zLocks), .bool false, .int .i64 6]) [some (.box [.sl 5 0 (rowOf eLock (fun _ => zLock)) true, .sl 5 0 (rowOf eLock (fun _ => zLock)) true])]
   else callP ctx k n_r22_any [.agg (eLock o), .sl 5 l.Held.n (rowOf eLock l.Held.w) l.Held.u] (r22_Ask_r9 k l o κ))) := by kernel_rfl
theorem r22_Ask_r6_s (k : Nat) (l : TLocks) (o : TLock) (r6 : Bool) (κ : AV → Heap → Option ρ) : r22_Ask_r6 k l o κ (.bool r6) =
  (bif r6 then
   κ (.tup [.agg [.osl 5 1 0 l.Held.n false, .sl 5 0 (rowOf eLock (fun _ => zLock)) true], .bool true, .int .i64 0]) [some (.box [.osl 5 1 0 l.Held.n false, .sl 5 0 (rowOf eLock (fun _ => zLock)) true]), some (.arr 5 l.Held.n (rowOf eLock l.Held.w))]
  else (bif decide (200 ≤ wi64 ((l.Held.n : Int) + (l.Waits.n : Int))) then
    κ (.tup [.agg (eLocks zLocks), .bool false, .int .i64 6]) [some (.box [.sl 5 0 (rowOf eLock (fun _ => zLock)) true, .sl 5 0 (rowOf eLock (fun _ => zLock)) true])]
   else callP ctx k n_r22_any [.agg (eLock o), .sl 5 l.Held.n (rowOf eLock l.Held.w) l.Held.u] (r22_Ask_r10 k l o κ))) := by kernel_rfl
theorem r22_Ask_r7_s (k : Nat) (l : TLocks) (o : TLock) (r7 : Bool) (κ : AV → Heap → Option ρ) : r22_Ask_r7 k l o κ (.bool r7) =
  (bif r7 then
   κ (.tup [.agg [.osl 5 1 0 l.Held.n false, .osl 5 2 0 l.Waits.n false], .bool true, .int .i64 0]) [some (.box [.osl 5 1 0 l.Held.n false, .osl 5 2 0 l.Waits.n false]), some (.arr 5 l.Held.n (rowOf eLock l.Held.w)), some (.arr 5 l.Waits.n (rowOf eLock l.Waits.w))]
  else (bif decide (200 ≤ wi64 ((l.Held.n : Int) + (l.Waits.n : Int))) then
    κ (.tup [.agg (eLocks zLocks), .bool false, .int .i64 6]) [some (.box [.sl 5 0 (rowOf eLock (fun _ => zLock)) true, .sl 5 0 (rowOf eLock (fun _ => zLock)) true])]
   else callP ctx k n_r22_any [.agg (eLock o), .sl 5 l.Held.n (rowOf eLock l.Held.w) l.Held.u] (r22_Ask_r11 k l o κ))) := by kernel_rfl
theorem r22_Ask_r8_s (k : Nat) (l : TLocks) (o : TLock) (r8 : Bool) (κ : AV → Heap → Option ρ) : r22_Ask_r8 k l o κ (.bool r8) =
  (bif r8 then
   κ (.tup [.agg [.sl 5 0 (rowOf eLock (fun _ => zLock)) true, .osl 5 1 0 1 false], .bool false, .int .i64 0]) [some (.box [.sl 5 0 (rowOf eLock (fun _ => zLock)) true, .osl 5 1 0 1 false]), some (.arr 5 1 (catRow 0 (rowOf eLock (fun _ => zLock)) (litRow eLock [o] zLock)))]
  else callP ctx k n_r22_any [.agg (eLock o), .sl 5 l.Waits.n (rowOf eLock l.Waits.w) l.Waits.u] (r22_Ask_r12 k l o r8 κ)) := by kernel_rfl
theorem r22_Ask_r9_s (k : Nat) (l : TLocks) (o : TLock) (r9 : Bool) (κ : AV → Heap → Option ρ) : r22_Ask_r9 k l o κ (.bool r9) =
  (bif r9 then
   (bif decide (((0 + l.Waits.n) + 1) ≤ l.Waits.n) then
    κ (.tup [.agg [.sl 5 0 (rowOf eLock (fun _ => zLock)) true, .osl 5 1 0 (l.Waits.n + 1) false], .bool false, .int .i64 0]) [some (.box [.sl 5 0 (rowOf eLock (fun _ => zLock)) true, .osl 5 1 0 (l.Waits.n + 1) false]), some (.arr 5 l.Waits.n (putRow (0 + l.Waits.n) ((0 + l.Waits.n) + 1) (litRow eLock [o] zLock) (rowOf eLock l.Waits.w)))]
   else (bif ((decide (l.Waits.n = l.Waits.n)) && (roomOf (l.Waits.n + 1) 56)) then
     κ (.tup [.agg [.sl 5 0 (rowOf eLock (fun _ => zLock)) true, .osl 5 1 0 (l.Waits.n + 1) false], .bool false, .int .i64 0]) [some (.box [.sl 5 0 (rowOf eLock (fun _ => zLock)) true, .osl 5 1 0 (l.Waits.n + 1) false]), some (.arr 5 (l.Waits.n + 1) (catRow l.Waits.n (rowOf eLock l.Waits.w) (litRow eLock [o] zLock)))]
    else none))
  else callP ctx k n_r22_any [.agg (eLock o), .sl 5 l.Waits.n (rowOf eLock l.Waits.w) l.Waits.u] (r22_Ask_r13 k l o r9 κ)) := by kernel_rfl
theorem r22_Ask_r10_s (k : Nat) (l : TLocks) (o : TLock) (r10 : Bool) (κ : AV → Heap → Option ρ) : r22_Ask_r10 k l o κ (.bool r10) =
  (bif r10 then
   κ (.tup [.agg [.osl 5 1 0 l.Held.n false, .osl 5 2 0 1 false], .bool false, .int .i64 0]) [some (.box [.osl 5 1 0 l.Held.n false, .osl 5 2 0 1 false]), some (.arr 5 l.Held.n (rowOf eLock l.Held.w)), some (.arr 5 1 (catRow 0 (rowOf eLock (fun _ => zLock)) (litRow eLock [o] zLock)))]
  else callP ctx k n_r22_any [.agg (eLock o), .sl 5 l.Waits.n (rowOf eLock l.Waits.w) l.Waits.u] (r22_Ask_r14 k l o r10 κ)) := by kernel_rfl
theorem r22_Ask_r11_s (k : Nat) (l : TLocks) (o : TLock) (r11 : Bool) (κ : AV → Heap → Option ρ) : r22_Ask_r11 k l o κ (.bool r11) =
  (bif r11 then
   (bif decide (((0 + l.Waits.n) + 1) ≤ l.Waits.n) then
    κ (.tup [.agg [.osl 5 1 0 l.Held.n false, .osl 5 2 0 (l.Waits.n + 1) false], .bool false, .int .i64 0]) [some (.box [.osl 5 1 0 l.Held.n false, .osl 5 2 0 (l.Waits.n + 1) false]), some (.arr 5 l.Held.n (rowOf eLock l.Held.w)), some (.arr 5 l.Waits.n (putRow (0 + l.Waits.n) ((0 + l.Waits.n) + 1) (litRow eLock [o] zLock) (rowOf eLock l.Waits.w)))]
   else (bif ((decide (l.Waits.n = l.Waits.n)) && (roomOf (l.Waits.n + 1) 56)) then
     κ (.tup [.agg [.osl 5 1 0 l.Held.n false, .osl 5 2 0 (l.Waits.n + 1) false], .bool false, .int .i64 0]) [some (.box [.osl 5 1 0 l.Held.n false, .osl 5 2 0 (l.Waits.n + 1) false]), some (.arr 5 l.Held.n (rowOf eLock l.Held.w)), some (.arr 5 (l.Waits.n + 1) (catRow l.Waits.n (rowOf eLock l.Waits.w) (litRow eLock [o] zLock)))]
    else none))
  else callP ctx k n_r22_any [.agg (eLock o), .sl 5 l.Waits.n (rowOf eLock l.Waits.w) l.Waits.u] (r22_Ask_r15 k l o r11 κ)) := by kernel_rfl
theorem r22_Ask_r12_s (k : Nat) (l : TLocks) (o : TLock) (r8 : Bool) (r12 : Bool) (κ : AV → Heap → Option ρ) : r22_Ask_r12 k l o r8 κ (.bool r12) =
  (bif r12 then
   κ (.tup [.agg [.sl 5 0 (rowOf eLock (fun _ => zLock)) true, .osl 5 1 0 1 false], .bool false, .int .i64 0]) [some (.box [.sl 5 0 (rowOf eLock (fun _ => zLock)) true, .osl 5 1 0 1 false]), some (.arr 5 1 (catRow 0 (rowOf eLock (fun _ => zLock)) (litRow eLock [o] zLock)))]
  else κ (.tup [.agg [.osl 5 1 0 1 false, .sl 5 0 (rowOf eLock (fun _ => zLock)) true], .bool true, .int .i64 0]) [some (.box [.osl 5 1 0 1 false, .sl 5 0 (rowOf eLock (fun _ => zLock)) true]), some (.arr 5 1 (catRow 0 (rowOf eLock (fun _ => zLock)) (litRow eLock [o] zLock)))]) := by kernel_rfl
theorem r22_Ask_r13_s (k : Nat) (l : TLocks) (o : TLock) (r9 : Bool) (r13 : Bool) (κ : AV → Heap → Option ρ) : r22_Ask_r13 k l o r9 κ (.bool r13) =
  (bif r13 then
   (bif decide (((0 + l.Waits.n) + 1) ≤ l.Waits.n) then
    κ (.tup [.agg [.sl 5 0 (rowOf eLock (fun _ => zLock)) true, .osl 5 1 0 (l.Waits.n + 1) false], .bool false, .int .i64 0]) [some (.box [.sl 5 0 (rowOf eLock (fun _ => zLock)) true, .osl 5 1 0 (l.Waits.n + 1) false]), some (.arr 5 l.Waits.n (putRow (0 + l.Waits.n) ((0 + l.Waits.n) + 1) (litRow eLock [o] zLock) (rowOf eLock l.Waits.w)))]
   else (bif ((decide (l.Waits.n = l.Waits.n)) && (roomOf (l.Waits.n + 1) 56)) then
     κ (.tup [.agg [.sl 5 0 (rowOf eLock (fun _ => zLock)) true, .osl 5 1 0 (l.Waits.n + 1) false], .bool false, .int .i64 0]) [some (.box [.sl 5 0 (rowOf eLock (fun _ => zLock)) true, .osl 5 1 0 (l.Waits.n + 1) false]), some (.arr 5 (l.Waits.n + 1) (catRow l.Waits.n (rowOf eLock l.Waits.w) (litRow eLock [o] zLock)))]
    else none))
  else κ (.tup [.agg [.osl 5 1 0 1 false, .osl 5 2 0 l.Waits.n false], .bool true, .int .i64 0]) [some (.box [.osl 5 1 0 1 false, .osl 5 2 0 l.Waits.n false]), some (.arr 5 1 (catRow 0 (rowOf eLock (fun _ => zLock)) (litRow eLock [o] zLock))), some (.arr 5 l.Waits.n (rowOf eLock l.Waits.w))]) := by kernel_rfl
theorem r22_Ask_r14_s (k : Nat) (l : TLocks) (o : TLock) (r10 : Bool) (r14 : Bool) (κ : AV → Heap → Option ρ) : r22_Ask_r14 k l o r10 κ (.bool r14) =
  (bif r14 then
   κ (.tup [.agg [.osl 5 1 0 l.Held.n false, .osl 5 2 0 1 false], .bool false, .int .i64 0]) [some (.box [.osl 5 1 0 l.Held.n false, .osl 5 2 0 1 false]), some (.arr 5 l.Held.n (rowOf eLock l.Held.w)), some (.arr 5 1 (catRow 0 (rowOf eLock (fun _ => zLock)) (litRow eLock [o] zLock)))]
  else (bif decide (((0 + l.Held.n) + 1) ≤ l.Held.n) then
    κ (.tup [.agg [.osl 5 1 0 (l.Held.n + 1) false, .sl 5 0 (rowOf eLock (fun _ => zLock)) true], .bool true, .int .i64 0]) [some (.box [.osl 5 1 0 (l.Held.n + 1) false, .sl 5 0 (rowOf eLock (fun _ => zLock)) true]), some (.arr 5 l.Held.n (putRow (0 + l.Held.n) ((0 + l.Held.n) + 1) (litRow eLock [o] zLock) (rowOf eLock l.Held.w)))]
   else (bif ((decide (l.Held.n = l.Held.n)) && (roomOf (l.Held.n + 1) 56)) then
     κ (.tup [.agg [.osl 5 1 0 (l.Held.n + 1) false, .sl 5 0 (rowOf eLock (fun _ => zLock)) true], .bool true, .int .i64 0]) [some (.box [.osl 5 1 0 (l.Held.n + 1) false, .sl 5 0 (rowOf eLock (fun _ => zLock)) true]), some (.arr 5 (l.Held.n + 1) (catRow l.Held.n (rowOf eLock l.Held.w) (litRow eLock [o] zLock)))]
    else none))) := by kernel_rfl
theorem r22_Ask_r15_s (k : Nat) (l : TLocks) (o : TLock) (r11 : Bool) (r15 : Bool) (κ : AV → Heap → Option ρ) : r22_Ask_r15 k l o r11 κ (.bool r15) =
  (bif r15 then
   (bif decide (((0 + l.Waits.n) + 1) ≤ l.Waits.n) then
    κ (.tup [.agg [.osl 5 1 0 l.Held.n false, .osl 5 2 0 (l.Waits.n + 1) false], .bool false, .int .i64 0]) [some (.box [.osl 5 1 0 l.Held.n false, .osl 5 2 0 (l.Waits.n + 1) false]), some (.arr 5 l.Held.n (rowOf eLock l.Held.w)), some (.arr 5 l.Waits.n (putRow (0 + l.Waits.n) ((0 + l.Waits.n) + 1) (litRow eLock [o] zLock) (rowOf eLock l.Waits.w)))]
   else (bif ((decide (l.Waits.n = l.Waits.n)) && (roomOf (l.Waits.n + 1) 56)) then
     κ (.tup [.agg [.osl 5 1 0 l.Held.n false, .osl 5 2 0 (l.Waits.n + 1) false], .bool false, .int .i64 0]) [some (.box [.osl 5 1 0 l.Held.n false, .osl 5 2 0 (l.Waits.n + 1) false]), some (.arr 5 l.Held.n (rowOf eLock l.Held.w)), some (.arr 5 (l.Waits.n + 1) (catRow l.Waits.n (rowOf eLock l.Waits.w) (litRow eLock [o] zLock)))]
    else none))
  else (bif decide (((0 + l.Held.n) + 1) ≤ l.Held.n) then
    κ (.tup [.agg [.osl 5 1 0 (l.Held.n + 1) false, .osl 5 2 0 l.Waits.n false], .bool true, .int .i64 0]) [some (.box [.osl 5 1 0 (l.Held.n + 1) false, .osl 5 2 0 l.Waits.n false]), some (.arr 5 l.Held.n (putRow (0 + l.Held.n) ((0 + l.Held.n) + 1) (litRow eLock [o] zLock) (rowOf eLock l.Held.w))), some (.arr 5 l.Waits.n (rowOf eLock l.Waits.w))]
   else (bif ((decide (l.Held.n = l.Held.n)) && (roomOf (l.Held.n + 1) 56)) then
     κ (.tup [.agg [.osl 5 1 0 (l.Held.n + 1) false, .osl 5 2 0 l.Waits.n false], .bool true, .int .i64 0]) [some (.box [.osl 5 1 0 (l.Held.n + 1) false, .osl 5 2 0 l.Waits.n false]), some (.arr 5 (l.Held.n + 1) (catRow l.Held.n (rowOf eLock l.Held.w) (litRow eLock [o] zLock))), some (.arr 5 l.Waits.n (rowOf eLock l.Waits.w))]
    else none))) := by kernel_rfl
theorem r22_Ask_e (k : Nat) (l : TLocks) (o : TLock) (κ : AV → Heap → Option ρ) : evalF ctx (k + 1) n_r22_Ask [.agg (eLocks l), .agg (eLock o)] [] κ =
  callP ctx k n_r22_Check [.agg (eLocks l)] (r22_Ask_r0 k l o κ) := by kernel_rfl
noncomputable def r22_Release_h0 (k j : Nat) (l : TLocks) (tx : Int) (x9 : Int) (κ : AV → Heap → Option ρ) : Option ρ := headAt ctx k n_r22_Release 0 [.r, .r, .r, .r, .l, .r] j ⟨(envOf 86 [(1, .int .u64 tx), (2, .ref 0 0), (4, .ref 1 0), (7, .ref 2 0), (8, .sl 1 0 (rowOf (eI .u64) (fun _ => 0)) true), (9, .int .i64 x9)]), [some (.box [.sl 5 l.Held.n (rowOf eLock l.Held.w) l.Held.u, .sl 5 l.Waits.n (rowOf eLock l.Waits.w) l.Waits.u]), some (.box [.sl 5 0 (rowOf eLock (fun _ => zLock)) true, .sl 5 0 (rowOf eLock (fun _ => zLock)) true]), some (.box [.sl 5 0 (rowOf eLock (fun _ => zLock)) true, .sl 5 0 (rowOf eLock (fun _ => zLock)) true])]⟩ κ
noncomputable def r22_Release_h1 (k j : Nat) (l : TLocks) (tx : Int) (w3 : Nat → List AV) (x9 : Int) (b2_0n : Nat) (n3 : Nat) (κ : AV → Heap → Option ρ) : Option ρ := headAt ctx k n_r22_Release 0 [.r, .r, .r, .r, .l, .r] j ⟨(envOf 86 [(1, .int .u64 tx), (2, .ref 0 0), (4, .ref 1 0), (7, .ref 2 0), (8, .sl 1 0 (rowOf (eI .u64) (fun _ => 0)) true), (9, .int .i64 x9)]), [some (.box [.sl 5 l.Held.n (rowOf eLock l.Held.w) l.Held.u, .sl 5 l.Waits.n (rowOf eLock l.Waits.w) l.Waits.u]), some (.box [.sl 5 0 (rowOf eLock (fun _ => zLock)) true, .sl 5 0 (rowOf eLock (fun _ => zLock)) true]), some (.box [.osl 5 3 0 b2_0n false, .sl 5 0 (rowOf eLock (fun _ => zLock)) true]), some (.arr 5 n3 w3)]⟩ κ
noncomputable def r22_Release_h2 (k j : Nat) (l : TLocks) (tx : Int) (x10 : Int) (κ : AV → Heap → Option ρ) : Option ρ := headAt ctx k n_r22_Release 0 [.r, .r, .r, .r, .r, .l, .r] j ⟨(envOf 86 [(1, .int .u64 tx), (2, .ref 0 0), (4, .ref 1 0), (7, .ref 2 0), (8, .sl 1 0 (rowOf (eI .u64) (fun _ => 0)) true), (10, .int .i64 x10)]), [some (.box [.sl 5 l.Held.n (rowOf eLock l.Held.w) l.Held.u, .sl 5 l.Waits.n (rowOf eLock l.Waits.w) l.Waits.u]), some (.box [.sl 5 0 (rowOf eLock (fun _ => zLock)) true, .sl 5 0 (rowOf eLock (fun _ => zLock)) true]), some (.box [.sl 5 0 (rowOf eLock (fun _ => zLock)) true, .sl 5 0 (rowOf eLock (fun _ => zLock)) true])]⟩ κ
noncomputable def r22_Release_h3 (k j : Nat) (l : TLocks) (tx : Int) (w3 : Nat → TLock) (x10 : Int) (b2_0n : Nat) (n3 : Nat) (κ : AV → Heap → Option ρ) : Option ρ := headAt ctx k n_r22_Release 0 [.r, .r, .r, .r, .r, .l, .r] j ⟨(envOf 86 [(1, .int .u64 tx), (2, .ref 0 0), (4, .ref 1 0), (7, .ref 2 0), (8, .sl 1 0 (rowOf (eI .u64) (fun _ => 0)) true), (10, .int .i64 x10)]), [some (.box [.sl 5 l.Held.n (rowOf eLock l.Held.w) l.Held.u, .sl 5 l.Waits.n (rowOf eLock l.Waits.w) l.Waits.u]), some (.box [.sl 5 0 (rowOf eLock (fun _ => zLock)) true, .sl 5 0 (rowOf eLock (fun _ => zLock)) true]), some (.box [.osl 5 3 0 b2_0n false, .sl 5 0 (rowOf eLock (fun _ => zLock)) true]), some (.arr 5 n3 (rowOf eLock w3))]⟩ κ
noncomputable def r22_Release_h4 (k j : Nat) (l : TLocks) (tx : Int) (w3 : Nat → List AV) (x10 : Int) (b2_1n : Nat) (n3 : Nat) (κ : AV → Heap → Option ρ) : Option ρ := headAt ctx k n_r22_Release 0 [.r, .r, .r, .r, .r, .l, .r] j ⟨(envOf 86 [(1, .int .u64 tx), (2, .ref 0 0), (4, .ref 1 0), (7, .ref 2 0), (8, .sl 1 0 (rowOf (eI .u64) (fun _ => 0)) true), (10, .int .i64 x10)]), [some (.box [.sl 5 l.Held.n (rowOf eLock l.Held.w) l.Held.u, .sl 5 l.Waits.n (rowOf eLock l.Waits.w) l.Waits.u]), some (.box [.sl 5 0 (rowOf eLock (fun _ => zLock)) true, .sl 5 0 (rowOf eLock (fun _ => zLock)) true]), some (.box [.sl 5 0 (rowOf eLock (fun _ => zLock)) true, .osl 5 3 0 b2_1n false]), some (.arr 5 n3 w3)]⟩ κ
noncomputable def r22_Release_h5 (k j : Nat) (l : TLocks) (tx : Int) (w3 : Nat → TLock) (w4 : Nat → List AV) (x10 : Int) (b2_1n : Nat) (n4 : Nat) (b2_0n : Nat) (n3 : Nat) (κ : AV → Heap → Option ρ) : Option ρ := headAt ctx k n_r22_Release 0 [.r, .r, .r, .r, .r, .l, .r] j ⟨(envOf 86 [(1, .int .u64 tx), (2, .ref 0 0), (4, .ref 1 0), (7, .ref 2 0), (8, .sl 1 0 (rowOf (eI .u64) (fun _ => 0)) true), (10, .int .i64 x10)]), [some (.box [.sl 5 l.Held.n (rowOf eLock l.Held.w) l.Held.u, .sl 5 l.Waits.n (rowOf eLock l.Waits.w) l.Waits.u]), some (.box [.sl 5 0 (rowOf eLock (fun _ => zLock)) true, .sl 5 0 (rowOf eLock (fun _ => zLock)) true]), some (.box [.osl 5 3 0 b2_0n false, .osl 5 4 0 b2_1n false]), some (.arr 5 n3 (rowOf eLock w3)), some (.arr 5 n4 w4)]⟩ κ
noncomputable def r22_Release_h6 (k j : Nat) (l : TLocks) (tx : Int) (w3_1 : Nat → List AV) (w4 : Nat → List AV) (b2_0n : Nat) (n4 : Nat) (x10 : Int) (x8n : Nat) (n3 : Nat) (κ : AV → Heap → Option ρ) : Option ρ := headAt ctx k n_r22_Release 0 [.r, .r, .r, .r, .r, .l, .r] j ⟨(envOf 86 [(1, .int .u64 tx), (2, .ref 0 0), (4, .ref 1 0), (7, .ref 2 0), (8, .osl 1 3 0 x8n false), (10, .int .i64 x10)]), [some (.box [.sl 5 l.Held.n (rowOf eLock l.Held.w) l.Held.u, .sl 5 l.Waits.n (rowOf eLock l.Waits.w) l.Waits.u]), some (.box [.sl 5 0 (rowOf eLock (fun _ => zLock)) true, .sl 5 0 (rowOf eLock (fun _ => zLock)) true]), some (.box [.osl 5 4 0 b2_0n false, .sl 5 0 (rowOf eLock (fun _ => zLock)) true]), some (.arr 1 n3 w3_1), some (.arr 5 n4 w4)]⟩ κ
noncomputable def r22_Release_h7 (k j : Nat) (l : TLocks) (tx : Int) (w3_1 : Nat → List AV) (w4 : Nat → List AV) (b2_0n : Nat) (n4 : Nat) (w5 : Nat → List AV) (x10 : Int) (b2_1n : Nat) (n5 : Nat) (x8n : Nat) (n3 : Nat) (κ : AV → Heap → Option ρ) : Option ρ := headAt ctx k n_r22_Release 0 [.r, .r, .r, .r, .r, .l, .r] j ⟨(envOf 86 [(1, .int .u64 tx), (2, .ref 0 0), (4, .ref 1 0), (7, .ref 2 0), (8, .osl 1 3 0 x8n false), (10, .int .i64 x10)]), [some (.box [.sl 5 l.Held.n (rowOf eLock l.Held.w) l.Held.u, .sl 5 l.Waits.n (rowOf eLock l.Waits.w) l.Waits.u]), some (.box [.sl 5 0 (rowOf eLock (fun _ => zLock)) true, .sl 5 0 (rowOf eLock (fun _ => zLock)) true]), some (.box [.osl 5 4 0 b2_0n false, .osl 5 5 0 b2_1n false]), some (.arr 1 n3 w3_1), some (.arr 5 n4 w4), some (.arr 5 n5 w5)]⟩ κ
noncomputable def r22_Release_r0 (k : Nat) (l : TLocks) (tx : Int) (κ : AV → Heap → Option ρ) (v : AV) : Option ρ := resAt ctx k n_r22_Release 0 [.r, .l, .l] 1 [] ⟨(envOf 86 [(1, .int .u64 tx), (2, .ref 0 0), (4, .ref 1 0), (12, .agg (eLocks l)), (13, v)]), [some (.box [.sl 5 l.Held.n (rowOf eLock l.Held.w) l.Held.u, .sl 5 l.Waits.n (rowOf eLock l.Waits.w) l.Waits.u]), some (.box [.sl 5 0 (rowOf eLock (fun _ => zLock)) true, .sl 5 0 (rowOf eLock (fun _ => zLock)) true])]⟩ κ
noncomputable def r22_Release_r1 (k j1 : Nat) (l : TLocks) (tx : Int) (x10 : Int) (κ : AV → Heap → Option ρ) (v : AV) : Option ρ := resAt ctx k n_r22_Release 0 [.r, .r, .r, .r, .r, .l, .r, .into j1, .r, .l, .r, .r, .l] 3 [] ⟨(envOf 86 [(1, .int .u64 tx), (2, .ref 0 0), (4, .ref 1 0), (7, .ref 2 0), (8, .sl 1 0 (rowOf (eI .u64) (fun _ => 0)) true), (10, .int .i64 x10), (11, .ref 3 0), (56, .bool (decide (((l.Waits.w ((x10).toNat)).Tx) = tx))), (57, .agg (eLock ⟨((l.Waits.w ((x10).toNat)).Tx), ⟨(((l.Waits.w ((x10).toNat)).R).From), (((l.Waits.w ((x10).toNat)).R).To), (((l.Waits.w ((x10).toNat)).R).End)⟩, ((l.Waits.w ((x10).toNat)).X)⟩)), (58, .ref 2 0), (59, .sl 5 0 (rowOf eLock (fun _ => zLock)) true), (60, v)]), [some (.box [.sl 5 l.Held.n (rowOf eLock l.Held.w) l.Held.u, .sl 5 l.Waits.n (rowOf eLock l.Waits.w) l.Waits.u]), some (.box [.sl 5 0 (rowOf eLock (fun _ => zLock)) true, .sl 5 0 (rowOf eLock (fun _ => zLock)) true]), some (.box [.sl 5 0 (rowOf eLock (fun _ => zLock)) true, .sl 5 0 (rowOf eLock (fun _ => zLock)) true]), some (.box (eLock ⟨((l.Waits.w ((x10).toNat)).Tx), ⟨(((l.Waits.w ((x10).toNat)).R).From), (((l.Waits.w ((x10).toNat)).R).To), (((l.Waits.w ((x10).toNat)).R).End)⟩, ((l.Waits.w ((x10).toNat)).X)⟩))]⟩ κ
noncomputable def r22_Release_r2 (k j1 : Nat) (l : TLocks) (tx : Int) (w3 : Nat → TLock) (b2_0n : Nat) (n3 : Nat) (x10 : Int) (κ : AV → Heap → Option ρ) (v : AV) : Option ρ := retH false [.agg (eLock ⟨((l.Waits.w ((x10).toNat)).Tx), ⟨(((l.Waits.w ((x10).toNat)).R).From), (((l.Waits.w ((x10).toNat)).R).To), (((l.Waits.w ((x10).toNat)).R).End)⟩, ((l.Waits.w ((x10).toNat)).X)⟩), .osl 5 4 0 b2_0n false] [some (.box [.sl 5 l.Held.n (rowOf eLock l.Held.w) l.Held.u, .sl 5 l.Waits.n (rowOf eLock l.Waits.w) l.Waits.u]), some (.box [.sl 5 0 (rowOf eLock (fun _ => zLock)) true, .sl 5 0 (rowOf eLock (fun _ => zLock)) true]), some (.box [.osl 5 4 0 b2_0n false, .sl 5 0 (rowOf eLock (fun _ => zLock)) true]), some (.box (eLock ⟨((l.Waits.w ((x10).toNat)).Tx), ⟨(((l.Waits.w ((x10).toNat)).R).From), (((l.Waits.w ((x10).toNat)).R).To), (((l.Waits.w ((x10).toNat)).R).End)⟩, ((l.Waits.w ((x10).toNat)).X)⟩)), some (.arr 5 n3 (rowOf eLock w3))] (fun v H => resAt ctx k n_r22_Release 0 [.r, .r, .r, .r, .r, .l, .r, .into j1, .r, .l, .r, .r, .l] 3 [] ⟨(envOf 86 [(1, .int .u64 tx), (2, .ref 0 0), (4, .ref 1 0), (7, .ref 2 0), (8, .sl 1 0 (rowOf (eI .u64) (fun _ => 0)) true), (10, .int .i64 x10), (11, .ref 3 0), (56, .bool (decide (((l.Waits.w ((x10).toNat)).Tx) = tx))), (57, .agg (eLock ⟨((l.Waits.w ((x10).toNat)).Tx), ⟨(((l.Waits.w ((x10).toNat)).R).From), (((l.Waits.w ((x10).toNat)).R).To), (((l.Waits.w ((x10).toNat)).R).End)⟩, ((l.Waits.w ((x10).toNat)).X)⟩)), (58, .ref 2 0), (59, .osl 5 4 0 b2_0n false), (60, v)]), H⟩ κ) v
noncomputable def r22_Release_r3 (k j1 : Nat) (l : TLocks) (tx : Int) (w3 : Nat → TLock) (n3 : Nat) (x10 : Int) (b2_1n : Nat) (κ : AV → Heap → Option ρ) (v : AV) : Option ρ := resAt ctx k n_r22_Release 0 [.r, .r, .r, .r, .r, .l, .r, .into j1, .r, .l, .r, .r, .l] 3 [] ⟨(envOf 86 [(1, .int .u64 tx), (2, .ref 0 0), (4, .ref 1 0), (7, .ref 2 0), (8, .sl 1 0 (rowOf (eI .u64) (fun _ => 0)) true), (10, .int .i64 x10), (11, .ref 3 0), (56, .bool (decide (((l.Waits.w ((x10).toNat)).Tx) = tx))), (57, .agg (eLock ⟨((l.Waits.w ((x10).toNat)).Tx), ⟨(((l.Waits.w ((x10).toNat)).R).From), (((l.Waits.w ((x10).toNat)).R).To), (((l.Waits.w ((x10).toNat)).R).End)⟩, ((l.Waits.w ((x10).toNat)).X)⟩)), (58, .ref 2 0), (59, .sl 5 0 (rowOf eLock (fun _ => zLock)) true), (60, v)]), [some (.box [.sl 5 l.Held.n (rowOf eLock l.Held.w) l.Held.u, .sl 5 l.Waits.n (rowOf eLock l.Waits.w) l.Waits.u]), some (.box [.sl 5 0 (rowOf eLock (fun _ => zLock)) true, .sl 5 0 (rowOf eLock (fun _ => zLock)) true]), some (.box [.sl 5 0 (rowOf eLock (fun _ => zLock)) true, .osl 5 4 0 b2_1n false]), some (.box (eLock ⟨((l.Waits.w ((x10).toNat)).Tx), ⟨(((l.Waits.w ((x10).toNat)).R).From), (((l.Waits.w ((x10).toNat)).R).To), (((l.Waits.w ((x10).toNat)).R).End)⟩, ((l.Waits.w ((x10).toNat)).X)⟩)), some (.arr 5 n3 (rowOf eLock w3))]⟩ κ
noncomputable def r22_Release_r4 (k j1 : Nat) (l : TLocks) (tx : Int) (w3 : Nat → TLock) (b2_0n : Nat) (n3 : Nat) (x10 : Int) (w4 : Nat → TLock) (n4 : Nat) (b2_1n : Nat) (κ : AV → Heap → Option ρ) (v : AV) : Option ρ := retH false [.agg (eLock ⟨((l.Waits.w ((x10).toNat)).Tx), ⟨(((l.Waits.w ((x10).toNat)).R).From), (((l.Waits.w ((x10).toNat)).R).To), (((l.Waits.w ((x10).toNat)).R).End)⟩, ((l.Waits.w ((x10).toNat)).X)⟩), .osl 5 4 0 b2_0n false] [some (.box [.sl 5 l.Held.n (rowOf eLock l.Held.w) l.Held.u, .sl 5 l.Waits.n (rowOf eLock l.Waits.w) l.Waits.u]), some (.box [.sl 5 0 (rowOf eLock (fun _ => zLock)) true, .sl 5 0 (rowOf eLock (fun _ => zLock)) true]), some (.box [.osl 5 4 0 b2_0n false, .osl 5 5 0 b2_1n false]), some (.box (eLock ⟨((l.Waits.w ((x10).toNat)).Tx), ⟨(((l.Waits.w ((x10).toNat)).R).From), (((l.Waits.w ((x10).toNat)).R).To), (((l.Waits.w ((x10).toNat)).R).End)⟩, ((l.Waits.w ((x10).toNat)).X)⟩)), some (.arr 5 n3 (rowOf eLock w3)), some (.arr 5 n4 (rowOf eLock w4))] (fun v H => resAt ctx k n_r22_Release 0 [.r, .r, .r, .r, .r, .l, .r, .into j1, .r, .l, .r, .r, .l] 3 [] ⟨(envOf 86 [(1, .int .u64 tx), (2, .ref 0 0), (4, .ref 1 0), (7, .ref 2 0), (8, .sl 1 0 (rowOf (eI .u64) (fun _ => 0)) true), (10, .int .i64 x10), (11, .ref 3 0), (56, .bool (decide (((l.Waits.w ((x10).toNat)).Tx) = tx))), (57, .agg (eLock ⟨((l.Waits.w ((x10).toNat)).Tx), ⟨(((l.Waits.w ((x10).toNat)).R).From), (((l.Waits.w ((x10).toNat)).R).To), (((l.Waits.w ((x10).toNat)).R).End)⟩, ((l.Waits.w ((x10).toNat)).X)⟩)), (58, .ref 2 0), (59, .osl 5 4 0 b2_0n false), (60, v)]), H⟩ κ) v
noncomputable def r22_Release_r5 (k j1 : Nat) (l : TLocks) (tx : Int) (b2_0n : Nat) (n3 : Nat) (x10 : Int) (w4 : Nat → TLock) (w3_1 : Nat → Int) (n4 : Nat) (x8n : Nat) (κ : AV → Heap → Option ρ) (v : AV) : Option ρ := retH false [.agg (eLock ⟨((l.Waits.w ((x10).toNat)).Tx), ⟨(((l.Waits.w ((x10).toNat)).R).From), (((l.Waits.w ((x10).toNat)).R).To), (((l.Waits.w ((x10).toNat)).R).End)⟩, ((l.Waits.w ((x10).toNat)).X)⟩), .osl 5 5 0 b2_0n false] [some (.box [.sl 5 l.Held.n (rowOf eLock l.Held.w) l.Held.u, .sl 5 l.Waits.n (rowOf eLock l.Waits.w) l.Waits.u]), some (.box [.sl 5 0 (rowOf eLock (fun _ => zLock)) true, .sl 5 0 (rowOf eLock (fun _ => zLock)) true]), some (.box [.osl 5 5 0 b2_0n false, .sl 5 0 (rowOf eLock (fun _ => zLock)) true]), some (.arr 1 n3 (rowOf (eI .u64) w3_1)), some (.box (eLock ⟨((l.Waits.w ((x10).toNat)).Tx), ⟨(((l.Waits.w ((x10).toNat)).R).From), (((l.Waits.w ((x10).toNat)).R).To), (((l.Waits.w ((x10).toNat)).R).End)⟩, ((l.Waits.w ((x10).toNat)).X)⟩)), some (.arr 5 n4 (rowOf eLock w4))] (fun v H => resAt ctx k n_r22_Release 0 [.r, .r, .r, .r, .r, .l, .r, .into j1, .r, .l, .r, .r, .l] 3 [] ⟨(envOf 86 [(1, .int .u64 tx), (2, .ref 0 0), (4, .ref 1 0), (7, .ref 2 0), (8, .osl 1 3 0 x8n false), (10, .int .i64 x10), (11, .ref 4 0), (56, .bool (decide (((l.Waits.w ((x10).toNat)).Tx) = tx))), (57, .agg (eLock ⟨((l.Waits.w ((x10).toNat)).Tx), ⟨(((l.Waits.w ((x10).toNat)).R).From), (((l.Waits.w ((x10).toNat)).R).To), (((l.Waits.w ((x10).toNat)).R).End)⟩, ((l.Waits.w ((x10).toNat)).X)⟩)), (58, .ref 2 0), (59, .osl 5 5 0 b2_0n false), (60, v)]), H⟩ κ) v
noncomputable def r22_Release_r6 (k j1 : Nat) (l : TLocks) (tx : Int) (b2_0n : Nat) (n3 : Nat) (x10 : Int) (w4 : Nat → TLock) (w3_1 : Nat → Int) (n4 : Nat) (b2_1n : Nat) (w5 : Nat → TLock) (x8n : Nat) (n5 : Nat) (κ : AV → Heap → Option ρ) (v : AV) : Option ρ := retH false [.agg (eLock ⟨((l.Waits.w ((x10).toNat)).Tx), ⟨(((l.Waits.w ((x10).toNat)).R).From), (((l.Waits.w ((x10).toNat)).R).To), (((l.Waits.w ((x10).toNat)).R).End)⟩, ((l.Waits.w ((x10).toNat)).X)⟩), .osl 5 5 0 b2_0n false] [some (.box [.sl 5 l.Held.n (rowOf eLock l.Held.w) l.Held.u, .sl 5 l.Waits.n (rowOf eLock l.Waits.w) l.Waits.u]), some (.box [.sl 5 0 (rowOf eLock (fun _ => zLock)) true, .sl 5 0 (rowOf eLock (fun _ => zLock)) true]), some (.box [.osl 5 5 0 b2_0n false, .osl 5 6 0 b2_1n false]), some (.arr 1 n3 (rowOf (eI .u64) w3_1)), some (.box (eLock ⟨((l.Waits.w ((x10).toNat)).Tx), ⟨(((l.Waits.w ((x10).toNat)).R).From), (((l.Waits.w ((x10).toNat)).R).To), (((l.Waits.w ((x10).toNat)).R).End)⟩, ((l.Waits.w ((x10).toNat)).X)⟩)), some (.arr 5 n4 (rowOf eLock w4)), some (.arr 5 n5 (rowOf eLock w5))] (fun v H => resAt ctx k n_r22_Release 0 [.r, .r, .r, .r, .r, .l, .r, .into j1, .r, .l, .r, .r, .l] 3 [] ⟨(envOf 86 [(1, .int .u64 tx), (2, .ref 0 0), (4, .ref 1 0), (7, .ref 2 0), (8, .osl 1 3 0 x8n false), (10, .int .i64 x10), (11, .ref 4 0), (56, .bool (decide (((l.Waits.w ((x10).toNat)).Tx) = tx))), (57, .agg (eLock ⟨((l.Waits.w ((x10).toNat)).Tx), ⟨(((l.Waits.w ((x10).toNat)).R).From), (((l.Waits.w ((x10).toNat)).R).To), (((l.Waits.w ((x10).toNat)).R).End)⟩, ((l.Waits.w ((x10).toNat)).X)⟩)), (58, .ref 2 0), (59, .osl 5 5 0 b2_0n false), (60, v)]), H⟩ κ) v
noncomputable def r22_Release_r7 (k j1 : Nat) (l : TLocks) (tx : Int) (x10 : Int) (r1 : Bool) (κ : AV → Heap → Option ρ) (v : AV) : Option ρ := resAt ctx k n_r22_Release 0 [.r, .r, .r, .r, .r, .l, .r, .into j1, .r, .l, .r, .r, .l] 8 [(61, false)] ⟨(envOf 86 [(1, .int .u64 tx), (2, .ref 0 0), (4, .ref 1 0), (7, .ref 2 0), (8, .sl 1 0 (rowOf (eI .u64) (fun _ => 0)) true), (10, .int .i64 x10), (11, .ref 3 0), (56, .bool (decide (((l.Waits.w ((x10).toNat)).Tx) = tx))), (57, .agg (eLock ⟨((l.Waits.w ((x10).toNat)).Tx), ⟨(((l.Waits.w ((x10).toNat)).R).From), (((l.Waits.w ((x10).toNat)).R).To), (((l.Waits.w ((x10).toNat)).R).End)⟩, ((l.Waits.w ((x10).toNat)).X)⟩)), (58, .ref 2 0), (59, .sl 5 0 (rowOf eLock (fun _ => zLock)) true), (60, .bool r1), (61, .bool r1), (62, .agg (eLock ⟨((l.Waits.w ((x10).toNat)).Tx), ⟨(((l.Waits.w ((x10).toNat)).R).From), (((l.Waits.w ((x10).toNat)).R).To), (((l.Waits.w ((x10).toNat)).R).End)⟩, ((l.Waits.w ((x10).toNat)).X)⟩)), (63, .ref 2 1), (64, .sl 5 0 (rowOf eLock (fun _ => zLock)) true), (65, v)]), [some (.box [.sl 5 l.Held.n (rowOf eLock l.Held.w) l.Held.u, .sl 5 l.Waits.n (rowOf eLock l.Waits.w) l.Waits.u]), some (.box [.sl 5 0 (rowOf eLock (fun _ => zLock)) true, .sl 5 0 (rowOf eLock (fun _ => zLock)) true]), some (.box [.sl 5 0 (rowOf eLock (fun _ => zLock)) true, .sl 5 0 (rowOf eLock (fun _ => zLock)) true]), some (.box (eLock ⟨((l.Waits.w ((x10).toNat)).Tx), ⟨(((l.Waits.w ((x10).toNat)).R).From), (((l.Waits.w ((x10).toNat)).R).To), (((l.Waits.w ((x10).toNat)).R).End)⟩, ((l.Waits.w ((x10).toNat)).X)⟩))]⟩ κ
noncomputable def r22_Release_r8 (k j1 : Nat) (l : TLocks) (tx : Int) (w3 : Nat → TLock) (b2_0n : Nat) (n3 : Nat) (x10 : Int) (r2 : Bool) (κ : AV → Heap → Option ρ) (v : AV) : Option ρ := resAt ctx k n_r22_Release 0 [.r, .r, .r, .r, .r, .l, .r, .into j1, .r, .l, .r, .r, .l] 8 [(61, false)] ⟨(envOf 86 [(1, .int .u64 tx), (2, .ref 0 0), (4, .ref 1 0), (7, .ref 2 0), (8, .sl 1 0 (rowOf (eI .u64) (fun _ => 0)) true), (10, .int .i64 x10), (11, .ref 3 0), (56, .bool (decide (((l.Waits.w ((x10).toNat)).Tx) = tx))), (57, .agg (eLock ⟨((l.Waits.w ((x10).toNat)).Tx), ⟨(((l.Waits.w ((x10).toNat)).R).From), (((l.Waits.w ((x10).toNat)).R).To), (((l.Waits.w ((x10).toNat)).R).End)⟩, ((l.Waits.w ((x10).toNat)).X)⟩)), (58, .ref 2 0), (59, .osl 5 4 0 b2_0n false), (60, .bool r2), (61, .bool r2), (62, .agg (eLock ⟨((l.Waits.w ((x10).toNat)).Tx), ⟨(((l.Waits.w ((x10).toNat)).R).From), (((l.Waits.w ((x10).toNat)).R).To), (((l.Waits.w ((x10).toNat)).R).End)⟩, ((l.Waits.w ((x10).toNat)).X)⟩)), (63, .ref 2 1), (64, .sl 5 0 (rowOf eLock (fun _ => zLock)) true), (65, v)]), [some (.box [.sl 5 l.Held.n (rowOf eLock l.Held.w) l.Held.u, .sl 5 l.Waits.n (rowOf eLock l.Waits.w) l.Waits.u]), some (.box [.sl 5 0 (rowOf eLock (fun _ => zLock)) true, .sl 5 0 (rowOf eLock (fun _ => zLock)) true]), some (.box [.osl 5 4 0 b2_0n false, .sl 5 0 (rowOf eLock (fun _ => zLock)) true]), some (.box (eLock ⟨((l.Waits.w ((x10).toNat)).Tx), ⟨(((l.Waits.w ((x10).toNat)).R).From), (((l.Waits.w ((x10).toNat)).R).To), (((l.Waits.w ((x10).toNat)).R).End)⟩, ((l.Waits.w ((x10).toNat)).X)⟩)), some (.arr 5 n3 (rowOf eLock w3))]⟩ κ
noncomputable def r22_Release_r9 (k j1 : Nat) (l : TLocks) (tx : Int) (w3 : Nat → TLock) (n3 : Nat) (x10 : Int) (r3 : Bool) (b2_1n : Nat) (κ : AV → Heap → Option ρ) (v : AV) : Option ρ := retH false [.agg (eLock ⟨((l.Waits.w ((x10).toNat)).Tx), ⟨(((l.Waits.w ((x10).toNat)).R).From), (((l.Waits.w ((x10).toNat)).R).To), (((l.Waits.w ((x10).toNat)).R).End)⟩, ((l.Waits.w ((x10).toNat)).X)⟩), .osl 5 4 0 b2_1n false] [some (.box [.sl 5 l.Held.n (rowOf eLock l.Held.w) l.Held.u, .sl 5 l.Waits.n (rowOf eLock l.Waits.w) l.Waits.u]), some (.box [.sl 5 0 (rowOf eLock (fun _ => zLock)) true, .sl 5 0 (rowOf eLock (fun _ => zLock)) true]), some (.box [.sl 5 0 (rowOf eLock (fun _ => zLock)) true, .osl 5 4 0 b2_1n false]), some (.box (eLock ⟨((l.Waits.w ((x10).toNat)).Tx), ⟨(((l.Waits.w ((x10).toNat)).R).From), (((l.Waits.w ((x10).toNat)).R).To), (((l.Waits.w ((x10).toNat)).R).End)⟩, ((l.Waits.w ((x10).toNat)).X)⟩)), some (.arr 5 n3 (rowOf eLock w3))] (fun v H => resAt ctx k n_r22_Release 0 [.r, .r, .r, .r, .r, .l, .r, .into j1, .r, .l, .r, .r, .l] 8 [(61, false)] ⟨(envOf 86 [(1, .int .u64 tx), (2, .ref 0 0), (4, .ref 1 0), (7, .ref 2 0), (8, .sl 1 0 (rowOf (eI .u64) (fun _ => 0)) true), (10, .int .i64 x10), (11, .ref 3 0), (56, .bool (decide (((l.Waits.w ((x10).toNat)).Tx) = tx))), (57, .agg (eLock ⟨((l.Waits.w ((x10).toNat)).Tx), ⟨(((l.Waits.w ((x10).toNat)).R).From), (((l.Waits.w ((x10).toNat)).R).To), (((l.Waits.w ((x10).toNat)).R).End)⟩, ((l.Waits.w ((x10).toNat)).X)⟩)), (58, .ref 2 0), (59, .sl 5 0 (rowOf eLock (fun _ => zLock)) true), (60, .bool r3), (61, .bool r3), (62, .agg (eLock ⟨((l.Waits.w ((x10).toNat)).Tx), ⟨(((l.Waits.w ((x10).toNat)).R).From), (((l.Waits.w ((x10).toNat)).R).To), (((l.Waits.w ((x10).toNat)).R).End)⟩, ((l.Waits.w ((x10).toNat)).X)⟩)), (63, .ref 2 1), (64, .osl 5 4 0 b2_1n false), (65, v)]), H⟩ κ) v
noncomputable def r22_Release_r10 (k j1 : Nat) (l : TLocks) (tx : Int) (w3 : Nat → TLock) (b2_0n : Nat) (n3 : Nat) (x10 : Int) (w4 : Nat → TLock) (r4 : Bool) (n4 : Nat) (b2_1n : Nat) (κ : AV → Heap → Option ρ) (v : AV) : Option ρ := retH false [.agg (eLock ⟨((l.Waits.w ((x10).toNat)).Tx), ⟨(((l.Waits.w ((x10).toNat)).R).From), (((l.Waits.w ((x10).toNat)).R).To), (((l.Waits.w ((x10).toNat)).R).End)⟩, ((l.Waits.w ((x10).toNat)).X)⟩), .osl 5 5 0 b2_1n false] [some (.box [.sl 5 l.Held.n (rowOf eLock l.Held.w) l.Held.u, .sl 5 l.Waits.n (rowOf eLock l.Waits.w) l.Waits.u]), some (.box [.sl 5 0 (rowOf eLock (fun _ => zLock)) true, .sl 5 0 (rowOf eLock (fun _ => zLock)) true]), some (.box [.osl 5 4 0 b2_0n false, .osl 5 5 0 b2_1n false]), some (.box (eLock ⟨((l.Waits.w ((x10).toNat)).Tx), ⟨(((l.Waits.w ((x10).toNat)).R).From), (((l.Waits.w ((x10).toNat)).R).To), (((l.Waits.w ((x10).toNat)).R).End)⟩, ((l.Waits.w ((x10).toNat)).X)⟩)), some (.arr 5 n3 (rowOf eLock w3)), some (.arr 5 n4 (rowOf eLock w4))] (fun v H => resAt ctx k n_r22_Release 0 [.r, .r, .r, .r, .r, .l, .r, .into j1, .r, .l, .r, .r, .l] 8 [(61, false)] ⟨(envOf 86 [(1, .int .u64 tx), (2, .ref 0 0), (4, .ref 1 0), (7, .ref 2 0), (8, .sl 1 0 (rowOf (eI .u64) (fun _ => 0)) true), (10, .int .i64 x10), (11, .ref 3 0), (56, .bool (decide (((l.Waits.w ((x10).toNat)).Tx) = tx))), (57, .agg (eLock ⟨((l.Waits.w ((x10).toNat)).Tx), ⟨(((l.Waits.w ((x10).toNat)).R).From), (((l.Waits.w ((x10).toNat)).R).To), (((l.Waits.w ((x10).toNat)).R).End)⟩, ((l.Waits.w ((x10).toNat)).X)⟩)), (58, .ref 2 0), (59, .osl 5 4 0 b2_0n false), (60, .bool r4), (61, .bool r4), (62, .agg (eLock ⟨((l.Waits.w ((x10).toNat)).Tx), ⟨(((l.Waits.w ((x10).toNat)).R).From), (((l.Waits.w ((x10).toNat)).R).To), (((l.Waits.w ((x10).toNat)).R).End)⟩, ((l.Waits.w ((x10).toNat)).X)⟩)), (63, .ref 2 1), (64, .osl 5 5 0 b2_1n false), (65, v)]), H⟩ κ) v
noncomputable def r22_Release_r11 (k j1 : Nat) (l : TLocks) (tx : Int) (b2_0n : Nat) (n3 : Nat) (x10 : Int) (w4 : Nat → TLock) (w3_1 : Nat → Int) (n4 : Nat) (r5 : Bool) (x8n : Nat) (κ : AV → Heap → Option ρ) (v : AV) : Option ρ := resAt ctx k n_r22_Release 0 [.r, .r, .r, .r, .r, .l, .r, .into j1, .r, .l, .r, .r, .l] 8 [(61, false)] ⟨(envOf 86 [(1, .int .u64 tx), (2, .ref 0 0), (4, .ref 1 0), (7, .ref 2 0), (8, .osl 1 3 0 x8n false), (10, .int .i64 x10), (11, .ref 4 0), (56, .bool (decide (((l.Waits.w ((x10).toNat)).Tx) = tx))), (57, .agg (eLock ⟨((l.Waits.w ((x10).toNat)).Tx), ⟨(((l.Waits.w ((x10).toNat)).R).From), (((l.Waits.w ((x10).toNat)).R).To), (((l.Waits.w ((x10).toNat)).R).End)⟩, ((l.Waits.w ((x10).toNat)).X)⟩)), (58, .ref 2 0), (59, .osl 5 5 0 b2_0n false), (60, .bool r5), (61, .bool r5), (62, .agg (eLock ⟨((l.Waits.w ((x10).toNat)).Tx), ⟨(((l.Waits.w ((x10).toNat)).R).From), (((l.Waits.w ((x10).toNat)).R).To), (((l.Waits.w ((x10).toNat)).R).End)⟩, ((l.Waits.w ((x10).toNat)).X)⟩)), (63, .ref 2 1), (64, .sl 5 0 (rowOf eLock (fun _ => zLock)) true), (65, v)]), [some (.box [.sl 5 l.Held.n (rowOf eLock l.Held.w) l.Held.u, .sl 5 l.Waits.n (rowOf eLock l.Waits.w) l.Waits.u]), some (.box [.sl 5 0 (rowOf eLock (fun _ => zLock)) true, .sl 5 0 (rowOf eLock (fun _ => zLock)) true]), some (.box [.osl 5 5 0 b2_0n false, .sl 5 0 (rowOf eLock (fun _ => zLock)) true]), some (.arr 1 n3 (rowOf (eI .u64) w3_1)), some (.box (eLock ⟨((l.Waits.w ((x10).toNat)).Tx), ⟨(((l.Waits.w ((x10).toNat)).R).From), (((l.Waits.w ((x10).toNat)).R).To), (((l.Waits.w ((x10).toNat)).R).End)⟩, ((l.Waits.w ((x10).toNat)).X)⟩)), some (.arr 5 n4 (rowOf eLock w4))]⟩ κ
noncomputable def r22_Release_r12 (k j1 : Nat) (l : TLocks) (tx : Int) (b2_0n : Nat) (n3 : Nat) (x10 : Int) (w4 : Nat → TLock) (w3_1 : Nat → Int) (n4 : Nat) (b2_1n : Nat) (r6 : Bool) (w5 : Nat → TLock) (x8n : Nat) (n5 : Nat) (κ : AV → Heap → Option ρ) (v : AV) : Option ρ := retH false [.agg (eLock ⟨((l.Waits.w ((x10).toNat)).Tx), ⟨(((l.Waits.w ((x10).toNat)).R).From), (((l.Waits.w ((x10).toNat)).R).To), (((l.Waits.w ((x10).toNat)).R).End)⟩, ((l.Waits.w ((x10).toNat)).X)⟩), .osl 5 6 0 b2_1n false] [some (.box [.sl 5 l.Held.n (rowOf eLock l.Held.w) l.Held.u, .sl 5 l.Waits.n (rowOf eLock l.Waits.w) l.Waits.u]), some (.box [.sl 5 0 (rowOf eLock (fun _ => zLock)) true, .sl 5 0 (rowOf eLock (fun _ => zLock)) true]), some (.box [.osl 5 5 0 b2_0n false, .osl 5 6 0 b2_1n false]), some (.arr 1 n3 (rowOf (eI .u64) w3_1)), some (.box (eLock ⟨((l.Waits.w ((x10).toNat)).Tx), ⟨(((l.Waits.w ((x10).toNat)).R).From), (((l.Waits.w ((x10).toNat)).R).To), (((l.Waits.w ((x10).toNat)).R).End)⟩, ((l.Waits.w ((x10).toNat)).X)⟩)), some (.arr 5 n4 (rowOf eLock w4)), some (.arr 5 n5 (rowOf eLock w5))] (fun v H => resAt ctx k n_r22_Release 0 [.r, .r, .r, .r, .r, .l, .r, .into j1, .r, .l, .r, .r, .l] 8 [(61, false)] ⟨(envOf 86 [(1, .int .u64 tx), (2, .ref 0 0), (4, .ref 1 0), (7, .ref 2 0), (8, .osl 1 3 0 x8n false), (10, .int .i64 x10), (11, .ref 4 0), (56, .bool (decide (((l.Waits.w ((x10).toNat)).Tx) = tx))), (57, .agg (eLock ⟨((l.Waits.w ((x10).toNat)).Tx), ⟨(((l.Waits.w ((x10).toNat)).R).From), (((l.Waits.w ((x10).toNat)).R).To), (((l.Waits.w ((x10).toNat)).R).End)⟩, ((l.Waits.w ((x10).toNat)).X)⟩)), (58, .ref 2 0), (59, .osl 5 5 0 b2_0n false), (60, .bool r6), (61, .bool r6), (62, .agg (eLock ⟨((l.Waits.w ((x10).toNat)).Tx), ⟨(((l.Waits.w ((x10).toNat)).R).From), (((l.Waits.w ((x10).toNat)).R).To), (((l.Waits.w ((x10).toNat)).R).End)⟩, ((l.Waits.w ((x10).toNat)).X)⟩)), (63, .ref 2 1), (64, .osl 5 6 0 b2_1n false), (65, v)]), H⟩ κ) v
theorem r22_Release_h0_s (k j : Nat) (l : TLocks) (tx : Int) (x9 : Int) (κ : AV → Heap → Option ρ) : r22_Release_h0 k (j + 1) l tx x9 κ =
  (bif decide (x9 < (l.Held.n : Int)) then
   (bif idxOK x9 l.Held.n then
    (bif !decide (((l.Held.w ((x9).toNat)).Tx) = tx) then
     (bif idxOK x9 l.Held.n then
      r22_Release_h1 k j l tx (catRow 0 (rowOf eLock (fun _ => zLock)) (litRow eLock [⟨((l.Held.w ((x9).toNat)).Tx), ⟨(((l.Held.w ((x9).toNat)).R).From), (((l.Held.w ((x9).toNat)).R).To), (((l.Held.w ((x9).toNat)).R).End)⟩, ((l.Held.w ((x9).toNat)).X)⟩] zLock)) (wi64 (x9 + 1)) 1 1 κ
     else none)
    else r22_Release_h0 k j l tx (wi64 (x9 + 1)) κ)
   else none)
  else r22_Release_h2 k k l tx 0 κ) := by kernel_rfl
theorem r22_Release_h1_s (k j : Nat) (l : TLocks) (tx : Int) (w3 : Nat → TLock) (x9 : Int) (b2_0n : Nat) (n3 : Nat) (κ : AV → Heap → Option ρ) : r22_Release_h1 k (j + 1) l tx (rowOf eLock w3) x9 b2_0n n3 κ =
  (bif decide (x9 < (l.Held.n : Int)) then
   (bif idxOK x9 l.Held.n then
    (bif !decide (((l.Held.w ((x9).toNat)).Tx) = tx) then
     (bif idxOK x9 l.Held.n then
      (bif decide (((0 + b2_0n) + 1) ≤ n3) then
       r22_Release_h1 k j l tx (putRow (0 + b2_0n) ((0 + b2_0n) + 1) (litRow eLock [⟨((l.Held.w ((x9).toNat)).Tx), ⟨(((l.Held.w ((x9).toNat)).R).From), (((l.Held.w ((x9).toNat)).R).To), (((l.Held.w ((x9).toNat)).R).End)⟩, ((l.Held.w ((x9).toNat)).X)⟩] zLock) (rowOf eLock w3)) (wi64 (x9 + 1)) (b2_0n + 1) n3 κ
      else (bif ((decide (b2_0n = n3)) && (roomOf (b2_0n + 1) 56)) then
        r22_Release_h1 k j l tx (catRow b2_0n (rowOf eLock w3) (litRow eLock [⟨((l.Held.w ((x9).toNat)).Tx), ⟨(((l.Held.w ((x9).toNat)).R).From), (((l.Held.w ((x9).toNat)).R).To), (((l.Held.w ((x9).toNat)).R).End)⟩, ((l.Held.w ((x9).toNat)).X)⟩] zLock)) (wi64 (x9 + 1)) (b2_0n + 1) (b2_0n + 1) κ
       else none))
     else none)
    else r22_Release_h1 k j l tx (rowOf eLock w3) (wi64 (x9 + 1)) b2_0n n3 κ)
   else none)
  else r22_Release_h3 k k l tx w3 0 b2_0n n3 κ) := by kernel_rfl
theorem r22_Release_h2_s (k j : Nat) (l : TLocks) (tx : Int) (x10 : Int) (κ : AV → Heap → Option ρ) : r22_Release_h2 k (j + 1) l tx x10 κ =
  (bif decide (x10 < (l.Waits.n : Int)) then
   (bif idxOK x10 l.Waits.n then
    (bif decide (((l.Waits.w ((x10).toNat)).Tx) = tx) then
     r22_Release_h2 k j l tx (wi64 (x10 + 1)) κ
    else callP ctx k n_r22_any [.agg (eLock ⟨((l.Waits.w ((x10).toNat)).Tx), ⟨(((l.Waits.w ((x10).toNat)).R).From), (((l.Waits.w ((x10).toNat)).R).To), (((l.Waits.w ((x10).toNat)).R).End)⟩, ((l.Waits.w ((x10).toNat)).X)⟩), .sl 5 0 (rowOf eLock (fun _ => zLock)) true] (r22_Release_r1 k j l tx x10 κ))
   else none)
  else κ (.tup [.agg (eLocks zLocks), .sl 1 0 (rowOf (eI .u64) (fun _ => 0)) true, .int .i64 0]) [some (.box [.sl 5 0 (rowOf eLock (fun _ => zLock)) true, .sl 5 0 (rowOf eLock (fun _ => zLock)) true])]) := by kernel_rfl
theorem r22_Release_h3_s (k j : Nat) (l : TLocks) (tx : Int) (w3 : Nat → TLock) (x10 : Int) (b2_0n : Nat) (n3 : Nat) (κ : AV → Heap → Option ρ) : r22_Release_h3 k (j + 1) l tx w3 x10 b2_0n n3 κ =
  (bif decide (x10 < (l.Waits.n : Int)) then
   (bif idxOK x10 l.Waits.n then
    (bif decide (((l.Waits.w ((x10).toNat)).Tx) = tx) then
     r22_Release_h3 k j l tx w3 (wi64 (x10 + 1)) b2_0n n3 κ
    else callP ctx k n_r22_any [.agg (eLock ⟨((l.Waits.w ((x10).toNat)).Tx), ⟨(((l.Waits.w ((x10).toNat)).R).From), (((l.Waits.w ((x10).toNat)).R).To), (((l.Waits.w ((x10).toNat)).R).End)⟩, ((l.Waits.w ((x10).toNat)).X)⟩), .sl 5 b2_0n (rowOf eLock (fun i => w3 (0 + i))) false] (r22_Release_r2 k j l tx w3 b2_0n n3 x10 κ))
   else none)
  else κ (.tup [.agg [.osl 5 1 0 b2_0n false, .sl 5 0 (rowOf eLock (fun _ => zLock)) true], .sl 1 0 (rowOf (eI .u64) (fun _ => 0)) true, .int .i64 0]) [some (.box [.osl 5 1 0 b2_0n false, .sl 5 0 (rowOf eLock (fun _ => zLock)) true]), some (.arr 5 n3 (rowOf eLock w3))]) := by kernel_rfl
theorem r22_Release_h4_s (k j : Nat) (l : TLocks) (tx : Int) (w3 : Nat → TLock) (x10 : Int) (b2_1n : Nat) (n3 : Nat) (κ : AV → Heap → Option ρ) : r22_Release_h4 k (j + 1) l tx (rowOf eLock w3) x10 b2_1n n3 κ =
  (bif decide (x10 < (l.Waits.n : Int)) then
   (bif idxOK x10 l.Waits.n then
    (bif decide (((l.Waits.w ((x10).toNat)).Tx) = tx) then
     r22_Release_h4 k j l tx (rowOf eLock w3) (wi64 (x10 + 1)) b2_1n n3 κ
    else callP ctx k n_r22_any [.agg (eLock ⟨((l.Waits.w ((x10).toNat)).Tx), ⟨(((l.Waits.w ((x10).toNat)).R).From), (((l.Waits.w ((x10).toNat)).R).To), (((l.Waits.w ((x10).toNat)).R).End)⟩, ((l.Waits.w ((x10).toNat)).X)⟩), .sl 5 0 (rowOf eLock (fun _ => zLock)) true] (r22_Release_r3 k j l tx w3 n3 x10 b2_1n κ))
   else none)
  else κ (.tup [.agg [.sl 5 0 (rowOf eLock (fun _ => zLock)) true, .osl 5 1 0 b2_1n false], .sl 1 0 (rowOf (eI .u64) (fun _ => 0)) true, .int .i64 0]) [some (.box [.sl 5 0 (rowOf eLock (fun _ => zLock)) true, .osl 5 1 0 b2_1n false]), some (.arr 5 n3 (rowOf eLock w3))]) := by kernel_rfl
theorem r22_Release_h5_s (k j : Nat) (l : TLocks) (tx : Int) (w3 : Nat → TLock) (w4 : Nat → TLock) (x10 : Int) (b2_1n : Nat) (n4 : Nat) (b2_0n : Nat) (n3 : Nat) (κ : AV → Heap → Option ρ) : r22_Release_h5 k (j + 1) l tx w3 (rowOf eLock w4) x10 b2_1n n4 b2_0n n3 κ =
  (bif decide (x10 < (l.Waits.n : Int)) then
   (bif idxOK x10 l.Waits.n then
    (bif decide (((l.Waits.w ((x10).toNat)).Tx) = tx) then
     r22_Release_h5 k j l tx w3 (rowOf eLock w4) (wi64 (x10 + 1)) b2_1n n4 b2_0n n3 κ
    else callP ctx k n_r22_any [.agg (eLock ⟨((l.Waits.w ((x10).toNat)).Tx), ⟨(((l.Waits.w ((x10).toNat)).R).From), (((l.Waits.w ((x10).toNat)).R).To), (((l.Waits.w ((x10).toNat)).R).End)⟩, ((l.Waits.w ((x10).toNat)).X)⟩), .sl 5 b2_0n (rowOf eLock (fun i => w3 (0 + i))) false] (r22_Release_r4 k j l tx w3 b2_0n n3 x10 w4 n4 b2_1n κ))
   else none)
  else κ (.tup [.agg [.osl 5 1 0 b2_0n false, .osl 5 2 0 b2_1n false], .sl 1 0 (rowOf (eI .u64) (fun _ => 0)) true, .int .i64 0]) [some (.box [.osl 5 1 0 b2_0n false, .osl 5 2 0 b2_1n false]), some (.arr 5 n3 (rowOf eLock w3)), some (.arr 5 n4 (rowOf eLock w4))]) := by kernel_rfl
theorem r22_Release_h6_s (k j : Nat) (l : TLocks) (tx : Int) (w3_1 : Nat → Int) (w4 : Nat → TLock) (b2_0n : Nat) (n4 : Nat) (x10 : Int) (x8n : Nat) (n3 : Nat) (κ : AV → Heap → Option ρ) : r22_Release_h6 k (j + 1) l tx (rowOf (eI .u64) w3_1) (rowOf eLock w4) b2_0n n4 x10 x8n n3 κ =
  (bif decide (x10 < (l.Waits.n : Int)) then
   (bif idxOK x10 l.Waits.n then
    (bif decide (((l.Waits.w ((x10).toNat)).Tx) = tx) then
     r22_Release_h6 k j l tx (rowOf (eI .u64) w3_1) (rowOf eLock w4) b2_0n n4 (wi64 (x10 + 1)) x8n n3 κ
    else callP ctx k n_r22_any [.agg (eLock ⟨((l.Waits.w ((x10).toNat)).Tx), ⟨(((l.Waits.w ((x10).toNat)).R).From), (((l.Waits.w ((x10).toNat)).R).To), (((l.Waits.w ((x10).toNat)).R).End)⟩, ((l.Waits.w ((x10).toNat)).X)⟩), .sl 5 b2_0n (rowOf eLock (fun i => w4 (0 + i))) false] (r22_Release_r5 k j l tx b2_0n n3 x10 w4 w3_1 n4 x8n κ))
   else none)
  else κ (.tup [.agg [.osl 5 2 0 b2_0n false, .sl 5 0 (rowOf eLock (fun _ => zLock)) true], .osl 1 1 0 x8n false, .int .i64 0]) [some (.box [.osl 5 2 0 b2_0n false, .sl 5 0 (rowOf eLock (fun _ => zLock)) true]), some (.arr 1 n3 (rowOf (eI .u64) w3_1)), some (.arr 5 n4 (rowOf eLock w4))]) := by kernel_rfl
theorem r22_Release_h7_s (k j : Nat) (l : TLocks) (tx : Int) (w3_1 : Nat → Int) (w4 : Nat → TLock) (b2_0n : Nat) (n4 : Nat) (w5 : Nat → TLock) (x10 : Int) (b2_1n : Nat) (n5 : Nat) (x8n : Nat) (n3 : Nat) (κ : AV → Heap → Option ρ) : r22_Release_h7 k (j + 1) l tx (rowOf (eI .u64) w3_1) (rowOf eLock w4) b2_0n n4 (rowOf eLock w5) x10 b2_1n n5 x8n n3 κ =
  (bif decide (x10 < (l.Waits.n : Int)) then
   (bif idxOK x10 l.Waits.n then
    (bif decide (((l.Waits.w ((x10).toNat)).Tx) = tx) then
     r22_Release_h7 k j l tx (rowOf (eI .u64) w3_1) (rowOf eLock w4) b2_0n n4 (rowOf eLock w5) (wi64 (x10 + 1)) b2_1n n5 x8n n3 κ
    else callP ctx k n_r22_any [.agg (eLock ⟨((l.Waits.w ((x10).toNat)).Tx), ⟨(((l.Waits.w ((x10).toNat)).R).From), (((l.Waits.w ((x10).toNat)).R).To), (((l.Waits.w ((x10).toNat)).R).End)⟩, ((l.Waits.w ((x10).toNat)).X)⟩), .sl 5 b2_0n (rowOf eLock (fun i => w4 (0 + i))) false] (r22_Release_r6 k j l tx b2_0n n3 x10 w4 w3_1 n4 b2_1n w5 x8n n5 κ))
   else none)
  else κ (.tup [.agg [.osl 5 2 0 b2_0n false, .osl 5 3 0 b2_1n false], .osl 1 1 0 x8n false, .int .i64 0]) [some (.box [.osl 5 2 0 b2_0n false, .osl 5 3 0 b2_1n false]), some (.arr 1 n3 (rowOf (eI .u64) w3_1)), some (.arr 5 n4 (rowOf eLock w4)), some (.arr 5 n5 (rowOf eLock w5))]) := by kernel_rfl
theorem r22_Release_r0_s (k : Nat) (l : TLocks) (tx : Int) (r0 : Int) (κ : AV → Heap → Option ρ) : r22_Release_r0 k l tx κ (.int .i64 r0) =
  (bif !decide (r0 = 0) then
   κ (.tup [.agg (eLocks zLocks), .sl 1 0 (rowOf (eI .u64) (fun _ => 0)) true, .int .i64 220]) [some (.box [.sl 5 0 (rowOf eLock (fun _ => zLock)) true, .sl 5 0 (rowOf eLock (fun _ => zLock)) true])]
  else r22_Release_h0 k k l tx 0 κ) := by kernel_rfl
theorem r22_Release_r1_s (k j1 : Nat) (l : TLocks) (tx : Int) (x10 : Int) (r1 : Bool) (κ : AV → Heap → Option ρ) : r22_Release_r1 k j1 l tx x10 κ (.bool r1) =
  (bif r1 then
   r22_Release_h4 k j1 l tx (catRow 0 (rowOf eLock (fun _ => zLock)) (litRow eLock [⟨((l.Waits.w ((x10).toNat)).Tx), ⟨(((l.Waits.w ((x10).toNat)).R).From), (((l.Waits.w ((x10).toNat)).R).To), (((l.Waits.w ((x10).toNat)).R).End)⟩, ((l.Waits.w ((x10).toNat)).X)⟩] zLock)) (wi64 (x10 + 1)) 1 1 κ
  else callP ctx k n_r22_any [.agg (eLock ⟨((l.Waits.w ((x10).toNat)).Tx), ⟨(((l.Waits.w ((x10).toNat)).R).From), (((l.Waits.w ((x10).toNat)).R).To), (((l.Waits.w ((x10).toNat)).R).End)⟩, ((l.Waits.w ((x10).toNat)).X)⟩), .sl 5 0 (rowOf eLock (fun _ => zLock)) true] (r22_Release_r7 k j1 l tx x10 r1 κ)) := by kernel_rfl
theorem r22_Release_r2_s (k j1 : Nat) (l : TLocks) (tx : Int) (w3 : Nat → TLock) (b2_0n : Nat) (n3 : Nat) (x10 : Int) (r2 : Bool) (κ : AV → Heap → Option ρ) : r22_Release_r2 k j1 l tx w3 b2_0n n3 x10 κ (.bool r2) =
  (bif r2 then
   r22_Release_h5 k j1 l tx w3 (catRow 0 (rowOf eLock (fun _ => zLock)) (litRow eLock [⟨((l.Waits.w ((x10).toNat)).Tx), ⟨(((l.Waits.w ((x10).toNat)).R).From), (((l.Waits.w ((x10).toNat)).R).To), (((l.Waits.w ((x10).toNat)).R).End)⟩, ((l.Waits.w ((x10).toNat)).X)⟩] zLock)) (wi64 (x10 + 1)) 1 1 b2_0n n3 κ
  else callP ctx k n_r22_any [.agg (eLock ⟨((l.Waits.w ((x10).toNat)).Tx), ⟨(((l.Waits.w ((x10).toNat)).R).From), (((l.Waits.w ((x10).toNat)).R).To), (((l.Waits.w ((x10).toNat)).R).End)⟩, ((l.Waits.w ((x10).toNat)).X)⟩), .sl 5 0 (rowOf eLock (fun _ => zLock)) true] (r22_Release_r8 k j1 l tx w3 b2_0n n3 x10 r2 κ)) := by kernel_rfl
theorem r22_Release_r3_s (k j1 : Nat) (l : TLocks) (tx : Int) (w3 : Nat → TLock) (n3 : Nat) (x10 : Int) (b2_1n : Nat) (r3 : Bool) (κ : AV → Heap → Option ρ) : r22_Release_r3 k j1 l tx w3 n3 x10 b2_1n κ (.bool r3) =
  (bif r3 then
   (bif decide (((0 + b2_1n) + 1) ≤ n3) then
    r22_Release_h4 k j1 l tx (putRow (0 + b2_1n) ((0 + b2_1n) + 1) (litRow eLock [⟨((l.Waits.w ((x10).toNat)).Tx), ⟨(((l.Waits.w ((x10).toNat)).R).From), (((l.Waits.w ((x10).toNat)).R).To), (((l.Waits.w ((x10).toNat)).R).End)⟩, ((l.Waits.w ((x10).toNat)).X)⟩] zLock) (rowOf eLock w3)) (wi64 (x10 + 1)) (b2_1n + 1) n3 κ
   else (bif ((decide (b2_1n = n3)) && (roomOf (b2_1n + 1) 56)) then
     r22_Release_h4 k j1 l tx (catRow b2_1n (rowOf eLock w3) (litRow eLock [⟨((l.Waits.w ((x10).toNat)).Tx), ⟨(((l.Waits.w ((x10).toNat)).R).From), (((l.Waits.w ((x10).toNat)).R).To), (((l.Waits.w ((x10).toNat)).R).End)⟩, ((l.Waits.w ((x10).toNat)).X)⟩] zLock)) (wi64 (x10 + 1)) (b2_1n + 1) (b2_1n + 1) κ
    else none))
  else callP ctx k n_r22_any [.agg (eLock ⟨((l.Waits.w ((x10).toNat)).Tx), ⟨(((l.Waits.w ((x10).toNat)).R).From), (((l.Waits.w ((x10).toNat)).R).To), (((l.Waits.w ((x10).toNat)).R).End)⟩, ((l.Waits.w ((x10).toNat)).X)⟩), .sl 5 b2_1n (rowOf eLock (fun i => w3 (0 + i))) false] (r22_Release_r9 k j1 l tx w3 n3 x10 r3 b2_1n κ)) := by kernel_rfl
theorem r22_Release_r4_s (k j1 : Nat) (l : TLocks) (tx : Int) (w3 : Nat → TLock) (b2_0n : Nat) (n3 : Nat) (x10 : Int) (w4 : Nat → TLock) (n4 : Nat) (b2_1n : Nat) (r4 : Bool) (κ : AV → Heap → Option ρ) : r22_Release_r4 k j1 l tx w3 b2_0n n3 x10 w4 n4 b2_1n κ (.bool r4) =
  (bif r4 then
   (bif decide (((0 + b2_1n) + 1) ≤ n4) then
    r22_Release_h5 k j1 l tx w3 (putRow (0 + b2_1n) ((0 + b2_1n) + 1) (litRow eLock [⟨((l.Waits.w ((x10).toNat)).Tx), ⟨(((l.Waits.w ((x10).toNat)).R).From), (((l.Waits.w ((x10).toNat)).R).To), (((l.Waits.w ((x10).toNat)).R).End)⟩, ((l.Waits.w ((x10).toNat)).X)⟩] zLock) (rowOf eLock w4)) (wi64 (x10 + 1)) (b2_1n + 1) n4 b2_0n n3 κ
   else (bif ((decide (b2_1n = n4)) && (roomOf (b2_1n + 1) 56)) then
     r22_Release_h5 k j1 l tx w3 (catRow b2_1n (rowOf eLock w4) (litRow eLock [⟨((l.Waits.w ((x10).toNat)).Tx), ⟨(((l.Waits.w ((x10).toNat)).R).From), (((l.Waits.w ((x10).toNat)).R).To), (((l.Waits.w ((x10).toNat)).R).End)⟩, ((l.Waits.w ((x10).toNat)).X)⟩] zLock)) (wi64 (x10 + 1)) (b2_1n + 1) (b2_1n + 1) b2_0n n3 κ
    else none))
  else callP ctx k n_r22_any [.agg (eLock ⟨((l.Waits.w ((x10).toNat)).Tx), ⟨(((l.Waits.w ((x10).toNat)).R).From), (((l.Waits.w ((x10).toNat)).R).To), (((l.Waits.w ((x10).toNat)).R).End)⟩, ((l.Waits.w ((x10).toNat)).X)⟩), .sl 5 b2_1n (rowOf eLock (fun i => w4 (0 + i))) false] (r22_Release_r10 k j1 l tx w3 b2_0n n3 x10 w4 r4 n4 b2_1n κ)) := by kernel_rfl
theorem r22_Release_r5_s (k j1 : Nat) (l : TLocks) (tx : Int) (b2_0n : Nat) (n3 : Nat) (x10 : Int) (w4 : Nat → TLock) (w3_1 : Nat → Int) (n4 : Nat) (x8n : Nat) (r5 : Bool) (κ : AV → Heap → Option ρ) : r22_Release_r5 k j1 l tx b2_0n n3 x10 w4 w3_1 n4 x8n κ (.bool r5) =
  (bif r5 then
   r22_Release_h7 k j1 l tx (rowOf (eI .u64) w3_1) (rowOf eLock w4) b2_0n n4 (catRow 0 (rowOf eLock (fun _ => zLock)) (litRow eLock [⟨((l.Waits.w ((x10).toNat)).Tx), ⟨(((l.Waits.w ((x10).toNat)).R).From), (((l.Waits.w ((x10).toNat)).R).To), (((l.Waits.w ((x10).toNat)).R).End)⟩, ((l.Waits.w ((x10).toNat)).X)⟩] zLock)) (wi64 (x10 + 1)) 1 1 x8n n3 κ
  else callP ctx k n_r22_any [.agg (eLock ⟨((l.Waits.w ((x10).toNat)).Tx), ⟨(((l.Waits.w ((x10).toNat)).R).From), (((l.Waits.w ((x10).toNat)).R).To), (((l.Waits.w ((x10).toNat)).R).End)⟩, ((l.Waits.w ((x10).toNat)).X)⟩), .sl 5 0 (rowOf eLock (fun _ => zLock)) true] (r22_Release_r11 k j1 l tx b2_0n n3 x10 w4 w3_1 n4 r5 x8n κ)) := by kernel_rfl
theorem r22_Release_r6_s (k j1 : Nat) (l : TLocks) (tx : Int) (b2_0n : Nat) (n3 : Nat) (x10 : Int) (w4 : Nat → TLock) (w3_1 : Nat → Int) (n4 : Nat) (b2_1n : Nat) (w5 : Nat → TLock) (x8n : Nat) (n5 : Nat) (r6 : Bool) (κ : AV → Heap → Option ρ) : r22_Release_r6 k j1 l tx b2_0n n3 x10 w4 w3_1 n4 b2_1n w5 x8n n5 κ (.bool r6) =
  (bif r6 then
   (bif decide (((0 + b2_1n) + 1) ≤ n5) then
    r22_Release_h7 k j1 l tx (rowOf (eI .u64) w3_1) (rowOf eLock w4) b2_0n n4 (putRow (0 + b2_1n) ((0 + b2_1n) + 1) (litRow eLock [⟨((l.Waits.w ((x10).toNat)).Tx), ⟨(((l.Waits.w ((x10).toNat)).R).From), (((l.Waits.w ((x10).toNat)).R).To), (((l.Waits.w ((x10).toNat)).R).End)⟩, ((l.Waits.w ((x10).toNat)).X)⟩] zLock) (rowOf eLock w5)) (wi64 (x10 + 1)) (b2_1n + 1) n5 x8n n3 κ
   else (bif ((decide (b2_1n = n5)) && (roomOf (b2_1n + 1) 56)) then
     r22_Release_h7 k j1 l tx (rowOf (eI .u64) w3_1) (rowOf eLock w4) b2_0n n4 (catRow b2_1n (rowOf eLock w5) (litRow eLock [⟨((l.Waits.w ((x10).toNat)).Tx), ⟨(((l.Waits.w ((x10).toNat)).R).From), (((l.Waits.w ((x10).toNat)).R).To), (((l.Waits.w ((x10).toNat)).R).End)⟩, ((l.Waits.w ((x10).toNat)).X)⟩] zLock)) (wi64 (x10 + 1)) (b2_1n + 1) (b2_1n + 1) x8n n3 κ
    else none))
  else callP ctx k n_r22_any [.agg (eLock ⟨((l.Waits.w ((x10).toNat)).Tx), ⟨(((l.Waits.w ((x10).toNat)).R).From), (((l.Waits.w ((x10).toNat)).R).To), (((l.Waits.w ((x10).toNat)).R).End)⟩, ((l.Waits.w ((x10).toNat)).X)⟩), .sl 5 b2_1n (rowOf eLock (fun i => w5 (0 + i))) false] (r22_Release_r12 k j1 l tx b2_0n n3 x10 w4 w3_1 n4 b2_1n r6 w5 x8n n5 κ)) := by kernel_rfl
theorem r22_Release_r7_s (k j1 : Nat) (l : TLocks) (tx : Int) (x10 : Int) (r1 : Bool) (r7 : Bool) (κ : AV → Heap → Option ρ) : r22_Release_r7 k j1 l tx x10 r1 κ (.bool r7) =
  (bif r7 then
   r22_Release_h4 k j1 l tx (catRow 0 (rowOf eLock (fun _ => zLock)) (litRow eLock [⟨((l.Waits.w ((x10).toNat)).Tx), ⟨(((l.Waits.w ((x10).toNat)).R).From), (((l.Waits.w ((x10).toNat)).R).To), (((l.Waits.w ((x10).toNat)).R).End)⟩, ((l.Waits.w ((x10).toNat)).X)⟩] zLock)) (wi64 (x10 + 1)) 1 1 κ
  else r22_Release_h6 k j1 l tx (catRow 0 (rowOf (eI .u64) (fun _ => 0)) (litRow (eI .u64) [((l.Waits.w ((x10).toNat)).Tx)] 0)) (catRow 0 (rowOf eLock (fun _ => zLock)) (litRow eLock [⟨((l.Waits.w ((x10).toNat)).Tx), ⟨(((l.Waits.w ((x10).toNat)).R).From), (((l.Waits.w ((x10).toNat)).R).To), (((l.Waits.w ((x10).toNat)).R).End)⟩, ((l.Waits.w ((x10).toNat)).X)⟩] zLock)) 1 1 (wi64 (x10 + 1)) 1 1 κ) := by kernel_rfl
theorem r22_Release_r8_s (k j1 : Nat) (l : TLocks) (tx : Int) (w3 : Nat → TLock) (b2_0n : Nat) (n3 : Nat) (x10 : Int) (r2 : Bool) (r8 : Bool) (κ : AV → Heap → Option ρ) : r22_Release_r8 k j1 l tx w3 b2_0n n3 x10 r2 κ (.bool r8) =
  (bif r8 then
   r22_Release_h5 k j1 l tx w3 (catRow 0 (rowOf eLock (fun _ => zLock)) (litRow eLock [⟨((l.Waits.w ((x10).toNat)).Tx), ⟨(((l.Waits.w ((x10).toNat)).R).From), (((l.Waits.w ((x10).toNat)).R).To), (((l.Waits.w ((x10).toNat)).R).End)⟩, ((l.Waits.w ((x10).toNat)).X)⟩] zLock)) (wi64 (x10 + 1)) 1 1 b2_0n n3 κ
  else (bif decide (((0 + b2_0n) + 1) ≤ n3) then
    r22_Release_h6 k j1 l tx (catRow 0 (rowOf (eI .u64) (fun _ => 0)) (litRow (eI .u64) [((l.Waits.w ((x10).toNat)).Tx)] 0)) (putRow (0 + b2_0n) ((0 + b2_0n) + 1) (litRow eLock [⟨((l.Waits.w ((x10).toNat)).Tx), ⟨(((l.Waits.w ((x10).toNat)).R).From), (((l.Waits.w ((x10).toNat)).R).To), (((l.Waits.w ((x10).toNat)).R).End)⟩, ((l.Waits.w ((x10).toNat)).X)⟩] zLock) (rowOf eLock w3)) (b2_0n + 1) n3 (wi64 (x10 + 1)) 1 1 κ
   else (bif ((decide (b2_0n = n3)) && (roomOf (b2_0n + 1) 56)) then
     r22_Release_h6 k j1 l tx (catRow 0 (rowOf (eI .u64) (fun _ => 0)) (litRow (eI .u64) [((l.Waits.w ((x10).toNat)).Tx)] 0)) (catRow b2_0n (rowOf eLock w3) (litRow eLock [⟨((l.Waits.w ((x10).toNat)).Tx), ⟨(((l.Waits.w ((x10).toNat)).R).From), (((l.Waits.w ((x10).toNat)).R).To), (((l.Waits.w ((x10).toNat)).R).End)⟩, ((l.Waits.w ((x10).toNat)).X)⟩] zLock)) (b2_0n + 1) (b2_0n + 1) (wi64 (x10 + 1)) 1 1 κ
    else none))) := by kernel_rfl
theorem r22_Release_r9_s (k j1 : Nat) (l : TLocks) (tx : Int) (w3 : Nat → TLock) (n3 : Nat) (x10 : Int) (r3 : Bool) (b2_1n : Nat) (r9 : Bool) (κ : AV → Heap → Option ρ) : r22_Release_r9 k j1 l tx w3 n3 x10 r3 b2_1n κ (.bool r9) =
  (bif r9 then
   (bif decide (((0 + b2_1n) + 1) ≤ n3) then
    r22_Release_h4 k j1 l tx (putRow (0 + b2_1n) ((0 + b2_1n) + 1) (litRow eLock [⟨((l.Waits.w ((x10).toNat)).Tx), ⟨(((l.Waits.w ((x10).toNat)).R).From), (((l.Waits.w ((x10).toNat)).R).To), (((l.Waits.w ((x10).toNat)).R).End)⟩, ((l.Waits.w ((x10).toNat)).X)⟩] zLock) (rowOf eLock w3)) (wi64 (x10 + 1)) (b2_1n + 1) n3 κ
   else (bif ((decide (b2_1n = n3)) && (roomOf (b2_1n + 1) 56)) then
     r22_Release_h4 k j1 l tx (catRow b2_1n (rowOf eLock w3) (litRow eLock [⟨((l.Waits.w ((x10).toNat)).Tx), ⟨(((l.Waits.w ((x10).toNat)).R).From), (((l.Waits.w ((x10).toNat)).R).To), (((l.Waits.w ((x10).toNat)).R).End)⟩, ((l.Waits.w ((x10).toNat)).X)⟩] zLock)) (wi64 (x10 + 1)) (b2_1n + 1) (b2_1n + 1) κ
    else none))
  else r22_Release_h7 k j1 l tx (catRow 0 (rowOf (eI .u64) (fun _ => 0)) (litRow (eI .u64) [((l.Waits.w ((x10).toNat)).Tx)] 0)) (catRow 0 (rowOf eLock (fun _ => zLock)) (litRow eLock [⟨((l.Waits.w ((x10).toNat)).Tx), ⟨(((l.Waits.w ((x10).toNat)).R).From), (((l.Waits.w ((x10).toNat)).R).To), (((l.Waits.w ((x10).toNat)).R).End)⟩, ((l.Waits.w ((x10).toNat)).X)⟩] zLock)) 1 1 (rowOf eLock w3) (wi64 (x10 + 1)) b2_1n n3 1 1 κ) := by kernel_rfl
theorem r22_Release_r10_s (k j1 : Nat) (l : TLocks) (tx : Int) (w3 : Nat → TLock) (b2_0n : Nat) (n3 : Nat) (x10 : Int) (w4 : Nat → TLock) (r4 : Bool) (n4 : Nat) (b2_1n : Nat) (r10 : Bool) (κ : AV → Heap → Option ρ) : r22_Release_r10 k j1 l tx w3 b2_0n n3 x10 w4 r4 n4 b2_1n κ (.bool r10) =
  (bif r10 then
   (bif decide (((0 + b2_1n) + 1) ≤ n4) then
    r22_Release_h5 k j1 l tx w3 (putRow (0 + b2_1n) ((0 + b2_1n) + 1) (litRow eLock [⟨((l.Waits.w ((x10).toNat)).Tx), ⟨(((l.Waits.w ((x10).toNat)).R).From), (((l.Waits.w ((x10).toNat)).R).To), (((l.Waits.w ((x10).toNat)).R).End)⟩, ((l.Waits.w ((x10).toNat)).X)⟩] zLock) (rowOf eLock w4)) (wi64 (x10 + 1)) (b2_1n + 1) n4 b2_0n n3 κ
   else (bif ((decide (b2_1n = n4)) && (roomOf (b2_1n + 1) 56)) then
     r22_Release_h5 k j1 l tx w3 (catRow b2_1n (rowOf eLock w4) (litRow eLock [⟨((l.Waits.w ((x10).toNat)).Tx), ⟨(((l.Waits.w ((x10).toNat)).R).From), (((l.Waits.w ((x10).toNat)).R).To), (((l.Waits.w ((x10).toNat)).R).End)⟩, ((l.Waits.w ((x10).toNat)).X)⟩] zLock)) (wi64 (x10 + 1)) (b2_1n + 1) (b2_1n + 1) b2_0n n3 κ
    else none))
  else (bif decide (((0 + b2_0n) + 1) ≤ n3) then
    r22_Release_h7 k j1 l tx (catRow 0 (rowOf (eI .u64) (fun _ => 0)) (litRow (eI .u64) [((l.Waits.w ((x10).toNat)).Tx)] 0)) (putRow (0 + b2_0n) ((0 + b2_0n) + 1) (litRow eLock [⟨((l.Waits.w ((x10).toNat)).Tx), ⟨(((l.Waits.w ((x10).toNat)).R).From), (((l.Waits.w ((x10).toNat)).R).To), (((l.Waits.w ((x10).toNat)).R).End)⟩, ((l.Waits.w ((x10).toNat)).X)⟩] zLock) (rowOf eLock w3)) (b2_0n + 1) n3 (rowOf eLock w4) (wi64 (x10 + 1)) b2_1n n4 1 1 κ
   else (bif ((decide (b2_0n = n3)) && (roomOf (b2_0n + 1) 56)) then
     r22_Release_h7 k j1 l tx (catRow 0 (rowOf (eI .u64) (fun _ => 0)) (litRow (eI .u64) [((l.Waits.w ((x10).toNat)).Tx)] 0)) (catRow b2_0n (rowOf eLock w3) (litRow eLock [⟨((l.Waits.w ((x10).toNat)).Tx), ⟨(((l.Waits.w ((x10).toNat)).R).From), (((l.Waits.w ((x10).toNat)).R).To), (((l.Waits.w ((x10).toNat)).R).End)⟩, ((l.Waits.w ((x10).toNat)).X)⟩] zLock)) (b2_0n + 1) (b2_0n + 1) (rowOf eLock w4) (wi64 (x10 + 1)) b2_1n n4 1 1 κ
    else none))) := by kernel_rfl
theorem r22_Release_r11_s (k j1 : Nat) (l : TLocks) (tx : Int) (b2_0n : Nat) (n3 : Nat) (x10 : Int) (w4 : Nat → TLock) (w3_1 : Nat → Int) (n4 : Nat) (r5 : Bool) (x8n : Nat) (r11 : Bool) (κ : AV → Heap → Option ρ) : r22_Release_r11 k j1 l tx b2_0n n3 x10 w4 w3_1 n4 r5 x8n κ (.bool r11) =
  (bif r11 then
   r22_Release_h7 k j1 l tx (rowOf (eI .u64) w3_1) (rowOf eLock w4) b2_0n n4 (catRow 0 (rowOf eLock (fun _ => zLock)) (litRow eLock [⟨((l.Waits.w ((x10).toNat)).Tx), ⟨(((l.Waits.w ((x10).toNat)).R).From), (((l.Waits.w ((x10).toNat)).R).To), (((l.Waits.w ((x10).toNat)).R).End)⟩, ((l.Waits.w ((x10).toNat)).X)⟩] zLock)) (wi64 (x10 + 1)) 1 1 x8n n3 κ
  else (bif decide (((0 + b2_0n) + 1) ≤ n4) then
    (bif decide (((0 + x8n) + 1) ≤ n3) then
     r22_Release_h6 k j1 l tx (putRow (0 + x8n) ((0 + x8n) + 1) (litRow (eI .u64) [((l.Waits.w ((x10).toNat)).Tx)] 0) (rowOf (eI .u64) w3_1)) (putRow (0 + b2_0n) ((0 + b2_0n) + 1) (litRow eLock [⟨((l.Waits.w ((x10).toNat)).Tx), ⟨(((l.Waits.w ((x10).toNat)).R).From), (((l.Waits.w ((x10).toNat)).R).To), (((l.Waits.w ((x10).toNat)).R).End)⟩, ((l.Waits.w ((x10).toNat)).X)⟩] zLock) (rowOf eLock w4)) (b2_0n + 1) n4 (wi64 (x10 + 1)) (x8n + 1) n3 κ
    else (bif ((decide (x8n = n3)) && (roomOf (x8n + 1) 8)) then
      r22_Release_h6 k j1 l tx (catRow x8n (rowOf (eI .u64) w3_1) (litRow (eI .u64) [((l.Waits.w ((x10).toNat)).Tx)] 0)) (putRow (0 + b2_0n) ((0 + b2_0n) + 1) (litRow eLock [⟨((l.Waits.w ((x10).toNat)).Tx), ⟨(((l.Waits.w ((x10).toNat)).R).From), (((l.Waits.w ((x10).toNat)).R).To), (((l.Waits.w ((x10).toNat)).R).End)⟩, ((l.Waits.w ((x10).toNat)).X)⟩] zLock) (rowOf eLock w4)) (b2_0n + 1) n4 (wi64 (x10 + 1)) (x8n + 1) (x8n + 1) κ
     else none))
   else (bif ((decide (b2_0n = n4)) && (roomOf (b2_0n + 1) 56)) then
     (bif decide (((0 + x8n) + 1) ≤ n3) then
      r22_Release_h6 k j1 l tx (putRow (0 + x8n) ((0 + x8n) + 1) (litRow (eI .u64) [((l.Waits.w ((x10).toNat)).Tx)] 0) (rowOf (eI .u64) w3_1)) (catRow b2_0n (rowOf eLock w4) (litRow eLock [⟨((l.Waits.w ((x10).toNat)).Tx), ⟨(((l.Waits.w ((x10).toNat)).R).From), (((l.Waits.w ((x10).toNat)).R).To), (((l.Waits.w ((x10).toNat)).R).End)⟩, ((l.Waits.w ((x10).toNat)).X)⟩] zLock)) (b2_0n + 1) (b2_0n + 1) (wi64 (x10 + 1)) (x8n + 1) n3 κ
     else (bif ((decide (x8n = n3)) && (roomOf (x8n + 1) 8)) then
       r22_Release_h6 k j1 l tx (catRow x8n (rowOf (eI .u64) w3_1) (litRow (eI .u64) [((l.Waits.w ((x10).toNat)).Tx)] 0)) (catRow b2_0n (rowOf eLock w4) (litRow eLock [⟨((l.Waits.w ((x10).toNat)).Tx), ⟨(((l.Waits.w ((x10).toNat)).R).From), (((l.Waits.w ((x10).toNat)).R).To), (((l.Waits.w ((x10).toNat)).R).End)⟩, ((l.Waits.w ((x10).toNat)).X)⟩] zLock)) (b2_0n + 1) (b2_0n + 1) (wi64 (x10 + 1)) (x8n + 1) (x8n + 1) κ
      else none))
    else none))) := by kernel_rfl
theorem r22_Release_r12_s (k j1 : Nat) (l : TLocks) (tx : Int) (b2_0n : Nat) (n3 : Nat) (x10 : Int) (w4 : Nat → TLock) (w3_1 : Nat → Int) (n4 : Nat) (b2_1n : Nat) (r6 : Bool) (w5 : Nat → TLock) (x8n : Nat) (n5 : Nat) (r12 : Bool) (κ : AV → Heap → Option ρ) : r22_Release_r12 k j1 l tx b2_0n n3 x10 w4 w3_1 n4 b2_1n r6 w5 x8n n5 κ (.bool r12) =
  (bif r12 then
   (bif decide (((0 + b2_1n) + 1) ≤ n5) then
    r22_Release_h7 k j1 l tx (rowOf (eI .u64) w3_1) (rowOf eLock w4) b2_0n n4 (putRow (0 + b2_1n) ((0 + b2_1n) + 1) (litRow eLock [⟨((l.Waits.w ((x10).toNat)).Tx), ⟨(((l.Waits.w ((x10).toNat)).R).From), (((l.Waits.w ((x10).toNat)).R).To), (((l.Waits.w ((x10).toNat)).R).End)⟩, ((l.Waits.w ((x10).toNat)).X)⟩] zLock) (rowOf eLock w5)) (wi64 (x10 + 1)) (b2_1n + 1) n5 x8n n3 κ
   else (bif ((decide (b2_1n = n5)) && (roomOf (b2_1n + 1) 56)) then
     r22_Release_h7 k j1 l tx (rowOf (eI .u64) w3_1) (rowOf eLock w4) b2_0n n4 (catRow b2_1n (rowOf eLock w5) (litRow eLock [⟨((l.Waits.w ((x10).toNat)).Tx), ⟨(((l.Waits.w ((x10).toNat)).R).From), (((l.Waits.w ((x10).toNat)).R).To), (((l.Waits.w ((x10).toNat)).R).End)⟩, ((l.Waits.w ((x10).toNat)).X)⟩] zLock)) (wi64 (x10 + 1)) (b2_1n + 1) (b2_1n + 1) x8n n3 κ
    else none))
  else (bif decide (((0 + b2_0n) + 1) ≤ n4) then
    (bif decide (((0 + x8n) + 1) ≤ n3) then
     r22_Release_h7 k j1 l tx (putRow (0 + x8n) ((0 + x8n) + 1) (litRow (eI .u64) [((l.Waits.w ((x10).toNat)).Tx)] 0) (rowOf (eI .u64) w3_1)) (putRow (0 + b2_0n) ((0 + b2_0n) + 1) (litRow eLock [⟨((l.Waits.w ((x10).toNat)).Tx), ⟨(((l.Waits.w ((x10).toNat)).R).From), (((l.Waits.w ((x10).toNat)).R).To), (((l.Waits.w ((x10).toNat)).R).End)⟩, ((l.Waits.w ((x10).toNat)).X)⟩] zLock) (rowOf eLock w4)) (b2_0n + 1) n4 (rowOf eLock w5) (wi64 (x10 + 1)) b2_1n n5 (x8n + 1) n3 κ
    else (bif ((decide (x8n = n3)) && (roomOf (x8n + 1) 8)) then
      r22_Release_h7 k j1 l tx (catRow x8n (rowOf (eI .u64) w3_1) (litRow (eI .u64) [((l.Waits.w ((x10).toNat)).Tx)] 0)) (putRow (0 + b2_0n) ((0 + b2_0n) + 1) (litRow eLock [⟨((l.Waits.w ((x10).toNat)).Tx), ⟨(((l.Waits.w ((x10).toNat)).R).From), (((l.Waits.w ((x10).toNat)).R).To), (((l.Waits.w ((x10).toNat)).R).End)⟩, ((l.Waits.w ((x10).toNat)).X)⟩] zLock) (rowOf eLock w4)) (b2_0n + 1) n4 (rowOf eLock w5) (wi64 (x10 + 1)) b2_1n n5 (x8n + 1) (x8n + 1) κ
     else none))
   else (bif ((decide (b2_0n = n4)) && (roomOf (b2_0n + 1) 56)) then
     (bif decide (((0 + x8n) + 1) ≤ n3) then
      r22_Release_h7 k j1 l tx (putRow (0 + x8n) ((0 + x8n) + 1) (litRow (eI .u64) [((l.Waits.w ((x10).toNat)).Tx)] 0) (rowOf (eI .u64) w3_1)) (catRow b2_0n (rowOf eLock w4) (litRow eLock [⟨((l.Waits.w ((x10).toNat)).Tx), ⟨(((l.Waits.w ((x10).toNat)).R).From), (((l.Waits.w ((x10).toNat)).R).To), (((l.Waits.w ((x10).toNat)).R).End)⟩, ((l.Waits.w ((x10).toNat)).X)⟩] zLock)) (b2_0n + 1) (b2_0n + 1) (rowOf eLock w5) (wi64 (x10 + 1)) b2_1n n5 (x8n + 1) n3 κ
     else (bif ((decide (x8n = n3)) && (roomOf (x8n + 1) 8)) then
       r22_Release_h7 k j1 l tx (catRow x8n (rowOf (eI .u64) w3_1) (litRow (eI .u64) [((l.Waits.w ((x10).toNat)).Tx)] 0)) (catRow b2_0n (rowOf eLock w4) (litRow eLock [⟨((l.Waits.w ((x10).toNat)).Tx), ⟨(((l.Waits.w ((x10).toNat)).R).From), (((l.Waits.w ((x10).toNat)).R).To), (((l.Waits.w ((x10).toNat)).R).End)⟩, ((l.Waits.w ((x10).toNat)).X)⟩] zLock)) (b2_0n + 1) (b2_0n + 1) (rowOf eLock w5) (wi64 (x10 + 1)) b2_1n n5 (x8n + 1) (x8n + 1) κ
      else none))
    else none))) := by kernel_rfl
theorem r22_Release_e (k : Nat) (l : TLocks) (tx : Int) (κ : AV → Heap → Option ρ) : evalF ctx (k + 1) n_r22_Release [.agg (eLocks l), .int .u64 tx] [] κ =
  callP ctx k n_r22_Check [.agg (eLocks l)] (r22_Release_r0 k l tx κ) := by kernel_rfl
noncomputable def r22_Withdraw_h0 (k j : Nat) (l : TLocks) (tx : Int) (x9 : Int) (κ : AV → Heap → Option ρ) : Option ρ := headAt ctx k n_r22_Withdraw 0 [.r, .r, .r, .r, .l, .r] j ⟨(envOf 64 [(1, .int .u64 tx), (2, .ref 0 0), (4, .ref 1 0), (7, .ref 2 0), (8, .sl 1 0 (rowOf (eI .u64) (fun _ => 0)) true), (9, .int .i64 x9)]), [some (.box [.sl 5 l.Held.n (rowOf eLock l.Held.w) l.Held.u, .sl 5 l.Waits.n (rowOf eLock l.Waits.w) l.Waits.u]), some (.box [.sl 5 0 (rowOf eLock (fun _ => zLock)) true, .sl 5 0 (rowOf eLock (fun _ => zLock)) true]), some (.box [.sl 5 0 (rowOf eLock (fun _ => zLock)) true, .sl 5 0 (rowOf eLock (fun _ => zLock)) true])]⟩ κ
noncomputable def r22_Withdraw_h1 (k j : Nat) (l : TLocks) (tx : Int) (x9 : Int) (κ : AV → Heap → Option ρ) : Option ρ := headAt ctx k n_r22_Withdraw 0 [.r, .r, .r, .r, .l, .r] j ⟨(envOf 64 [(1, .int .u64 tx), (2, .ref 0 0), (4, .ref 1 0), (7, .ref 2 0), (8, .sl 1 0 (rowOf (eI .u64) (fun _ => 0)) true), (9, .int .i64 x9)]), [some (.box [.sl 5 l.Held.n (rowOf eLock l.Held.w) l.Held.u, .sl 5 l.Waits.n (rowOf eLock l.Waits.w) l.Waits.u]), some (.box [.sl 5 0 (rowOf eLock (fun _ => zLock)) true, .sl 5 0 (rowOf eLock (fun _ => zLock)) true]), some (.box [.osl 5 3 0 l.Held.n false, .sl 5 0 (rowOf eLock (fun _ => zLock)) true]), some (.arr 5 l.Held.n (rowOf eLock l.Held.w))]⟩ κ
noncomputable def r22_Withdraw_h2 (k j : Nat) (l : TLocks) (tx : Int) (w3 : Nat → List AV) (x9 : Int) (b2_1n : Nat) (n3 : Nat) (κ : AV → Heap → Option ρ) : Option ρ := headAt ctx k n_r22_Withdraw 0 [.r, .r, .r, .r, .l, .r] j ⟨(envOf 64 [(1, .int .u64 tx), (2, .ref 0 0), (4, .ref 1 0), (7, .ref 2 0), (8, .sl 1 0 (rowOf (eI .u64) (fun _ => 0)) true), (9, .int .i64 x9)]), [some (.box [.sl 5 l.Held.n (rowOf eLock l.Held.w) l.Held.u, .sl 5 l.Waits.n (rowOf eLock l.Waits.w) l.Waits.u]), some (.box [.sl 5 0 (rowOf eLock (fun _ => zLock)) true, .sl 5 0 (rowOf eLock (fun _ => zLock)) true]), some (.box [.sl 5 0 (rowOf eLock (fun _ => zLock)) true, .osl 5 3 0 b2_1n false]), some (.arr 5 n3 w3)]⟩ κ
noncomputable def r22_Withdraw_h3 (k j : Nat) (l : TLocks) (tx : Int) (w4 : Nat → List AV) (x9 : Int) (b2_1n : Nat) (n4 : Nat) (κ : AV → Heap → Option ρ) : Option ρ := headAt ctx k n_r22_Withdraw 0 [.r, .r, .r, .r, .l, .r] j ⟨(envOf 64 [(1, .int .u64 tx), (2, .ref 0 0), (4, .ref 1 0), (7, .ref 2 0), (8, .sl 1 0 (rowOf (eI .u64) (fun _ => 0)) true), (9, .int .i64 x9)]), [some (.box [.sl 5 l.Held.n (rowOf eLock l.Held.w) l.Held.u, .sl 5 l.Waits.n (rowOf eLock l.Waits.w) l.Waits.u]), some (.box [.sl 5 0 (rowOf eLock (fun _ => zLock)) true, .sl 5 0 (rowOf eLock (fun _ => zLock)) true]), some (.box [.osl 5 3 0 l.Held.n false, .osl 5 4 0 b2_1n false]), some (.arr 5 l.Held.n (rowOf eLock l.Held.w)), some (.arr 5 n4 w4)]⟩ κ
noncomputable def r22_Withdraw_h4 (k j : Nat) (l : TLocks) (tx : Int) (w3_1 : Nat → List AV) (w4 : Nat → List AV) (b2_0n : Nat) (n4 : Nat) (x9 : Int) (x8n : Nat) (n3 : Nat) (κ : AV → Heap → Option ρ) : Option ρ := headAt ctx k n_r22_Withdraw 0 [.r, .r, .r, .r, .l, .r] j ⟨(envOf 64 [(1, .int .u64 tx), (2, .ref 0 0), (4, .ref 1 0), (7, .ref 2 0), (8, .osl 1 3 0 x8n false), (9, .int .i64 x9)]), [some (.box [.sl 5 l.Held.n (rowOf eLock l.Held.w) l.Held.u, .sl 5 l.Waits.n (rowOf eLock l.Waits.w) l.Waits.u]), some (.box [.sl 5 0 (rowOf eLock (fun _ => zLock)) true, .sl 5 0 (rowOf eLock (fun _ => zLock)) true]), some (.box [.osl 5 4 0 b2_0n false, .sl 5 0 (rowOf eLock (fun _ => zLock)) true]), some (.arr 1 n3 w3_1), some (.arr 5 n4 w4)]⟩ κ
noncomputable def r22_Withdraw_h5 (k j : Nat) (l : TLocks) (tx : Int) (w3_1 : Nat → List AV) (w4 : Nat → List AV) (b2_0n : Nat) (n4 : Nat) (w5 : Nat → List AV) (x9 : Int) (b2_1n : Nat) (n5 : Nat) (x8n : Nat) (n3 : Nat) (κ : AV → Heap → Option ρ) : Option ρ := headAt ctx k n_r22_Withdraw 0 [.r, .r, .r, .r, .l, .r] j ⟨(envOf 64 [(1, .int .u64 tx), (2, .ref 0 0), (4, .ref 1 0), (7, .ref 2 0), (8, .osl 1 3 0 x8n false), (9, .int .i64 x9)]), [some (.box [.sl 5 l.Held.n (rowOf eLock l.Held.w) l.Held.u, .sl 5 l.Waits.n (rowOf eLock l.Waits.w) l.Waits.u]), some (.box [.sl 5 0 (rowOf eLock (fun _ => zLock)) true, .sl 5 0 (rowOf eLock (fun _ => zLock)) true]), some (.box [.osl 5 4 0 b2_0n false, .osl 5 5 0 b2_1n false]), some (.arr 1 n3 w3_1), some (.arr 5 n4 w4), some (.arr 5 n5 w5)]⟩ κ
noncomputable def r22_Withdraw_r0 (k : Nat) (l : TLocks) (tx : Int) (κ : AV → Heap → Option ρ) (v : AV) : Option ρ := resAt ctx k n_r22_Withdraw 0 [.r, .l, .l] 1 [] ⟨(envOf 64 [(1, .int .u64 tx), (2, .ref 0 0), (4, .ref 1 0), (11, .agg (eLocks l)), (12, v)]), [some (.box [.sl 5 l.Held.n (rowOf eLock l.Held.w) l.Held.u, .sl 5 l.Waits.n (rowOf eLock l.Waits.w) l.Waits.u]), some (.box [.sl 5 0 (rowOf eLock (fun _ => zLock)) true, .sl 5 0 (rowOf eLock (fun _ => zLock)) true])]⟩ κ
noncomputable def r22_Withdraw_r1 (k j1 : Nat) (l : TLocks) (tx : Int) (x9 : Int) (κ : AV → Heap → Option ρ) (v : AV) : Option ρ := resAt ctx k n_r22_Withdraw 0 [.r, .r, .r, .r, .l, .r, .into j1, .r, .l, .r, .r, .l] 3 [] ⟨(envOf 64 [(1, .int .u64 tx), (2, .ref 0 0), (4, .ref 1 0), (7, .ref 2 0), (8, .sl 1 0 (rowOf (eI .u64) (fun _ => 0)) true), (9, .int .i64 x9), (10, .ref 3 0), (34, .bool (decide (((l.Waits.w ((x9).toNat)).Tx) = tx))), (35, .agg (eLock ⟨((l.Waits.w ((x9).toNat)).Tx), ⟨(((l.Waits.w ((x9).toNat)).R).From), (((l.Waits.w ((x9).toNat)).R).To), (((l.Waits.w ((x9).toNat)).R).End)⟩, ((l.Waits.w ((x9).toNat)).X)⟩)), (36, .ref 2 0), (37, .sl 5 0 (rowOf eLock (fun _ => zLock)) true), (38, v)]), [some (.box [.sl 5 l.Held.n (rowOf eLock l.Held.w) l.Held.u, .sl 5 l.Waits.n (rowOf eLock l.Waits.w) l.Waits.u]), some (.box [.sl 5 0 (rowOf eLock (fun _ => zLock)) true, .sl 5 0 (rowOf eLock (fun _ => zLock)) true]), some (.box [.sl 5 0 (rowOf eLock (fun _ => zLock)) true, .sl 5 0 (rowOf eLock (fun _ => zLock)) true]), some (.box (eLock ⟨((l.Waits.w ((x9).toNat)).Tx), ⟨(((l.Waits.w ((x9).toNat)).R).From), (((l.Waits.w ((x9).toNat)).R).To), (((l.Waits.w ((x9).toNat)).R).End)⟩, ((l.Waits.w ((x9).toNat)).X)⟩))]⟩ κ
noncomputable def r22_Withdraw_r2 (k j1 : Nat) (l : TLocks) (tx : Int) (x9 : Int) (κ : AV → Heap → Option ρ) (v : AV) : Option ρ := retH false [.agg (eLock ⟨((l.Waits.w ((x9).toNat)).Tx), ⟨(((l.Waits.w ((x9).toNat)).R).From), (((l.Waits.w ((x9).toNat)).R).To), (((l.Waits.w ((x9).toNat)).R).End)⟩, ((l.Waits.w ((x9).toNat)).X)⟩), .osl 5 4 0 l.Held.n false] [some (.box [.sl 5 l.Held.n (rowOf eLock l.Held.w) l.Held.u, .sl 5 l.Waits.n (rowOf eLock l.Waits.w) l.Waits.u]), some (.box [.sl 5 0 (rowOf eLock (fun _ => zLock)) true, .sl 5 0 (rowOf eLock (fun _ => zLock)) true]), some (.box [.osl 5 4 0 l.Held.n false, .sl 5 0 (rowOf eLock (fun _ => zLock)) true]), some (.box (eLock ⟨((l.Waits.w ((x9).toNat)).Tx), ⟨(((l.Waits.w ((x9).toNat)).R).From), (((l.Waits.w ((x9).toNat)).R).To), (((l.Waits.w ((x9).toNat)).R).End)⟩, ((l.Waits.w ((x9).toNat)).X)⟩)), some (.arr 5 l.Held.n (rowOf eLock l.Held.w))] (fun v H => resAt ctx k n_r22_Withdraw 0 [.r, .r, .r, .r, .l, .r, .into j1, .r, .l, .r, .r, .l] 3 [] ⟨(envOf 64 [(1, .int .u64 tx), (2, .ref 0 0), (4, .ref 1 0), (7, .ref 2 0), (8, .sl 1 0 (rowOf (eI .u64) (fun _ => 0)) true), (9, .int .i64 x9), (10, .ref 3 0), (34, .bool (decide (((l.Waits.w ((x9).toNat)).Tx) = tx))), (35, .agg (eLock ⟨((l.Waits.w ((x9).toNat)).Tx), ⟨(((l.Waits.w ((x9).toNat)).R).From), (((l.Waits.w ((x9).toNat)).R).To), (((l.Waits.w ((x9).toNat)).R).End)⟩, ((l.Waits.w ((x9).toNat)).X)⟩)), (36, .ref 2 0), (37, .osl 5 4 0 l.Held.n false), (38, v)]), H⟩ κ) v
noncomputable def r22_Withdraw_r3 (k j1 : Nat) (l : TLocks) (tx : Int) (x9 : Int) (w3 : Nat → TLock) (b2_1n : Nat) (n3 : Nat) (κ : AV → Heap → Option ρ) (v : AV) : Option ρ := resAt ctx k n_r22_Withdraw 0 [.r, .r, .r, .r, .l, .r, .into j1, .r, .l, .r, .r, .l] 3 [] ⟨(envOf 64 [(1, .int .u64 tx), (2, .ref 0 0), (4, .ref 1 0), (7, .ref 2 0), (8, .sl 1 0 (rowOf (eI .u64) (fun _ => 0)) true), (9, .int .i64 x9), (10, .ref 3 0), (34, .bool (decide (((l.Waits.w ((x9).toNat)).Tx) = tx))), (35, .agg (eLock ⟨((l.Waits.w ((x9).toNat)).Tx), ⟨(((l.Waits.w ((x9).toNat)).R).From), (((l.Waits.w ((x9).toNat)).R).To), (((l.Waits.w ((x9).toNat)).R).End)⟩, ((l.Waits.w ((x9).toNat)).X)⟩)), (36, .ref 2 0), (37, .sl 5 0 (rowOf eLock (fun _ => zLock)) true), (38, v)]), [some (.box [.sl 5 l.Held.n (rowOf eLock l.Held.w) l.Held.u, .sl 5 l.Waits.n (rowOf eLock l.Waits.w) l.Waits.u]), some (.box [.sl 5 0 (rowOf eLock (fun _ => zLock)) true, .sl 5 0 (rowOf eLock (fun _ => zLock)) true]), some (.box [.sl 5 0 (rowOf eLock (fun _ => zLock)) true, .osl 5 4 0 b2_1n false]), some (.box (eLock ⟨((l.Waits.w ((x9).toNat)).Tx), ⟨(((l.Waits.w ((x9).toNat)).R).From), (((l.Waits.w ((x9).toNat)).R).To), (((l.Waits.w ((x9).toNat)).R).End)⟩, ((l.Waits.w ((x9).toNat)).X)⟩)), some (.arr 5 n3 (rowOf eLock w3))]⟩ κ
noncomputable def r22_Withdraw_r4 (k j1 : Nat) (l : TLocks) (tx : Int) (x9 : Int) (w4 : Nat → TLock) (n4 : Nat) (b2_1n : Nat) (κ : AV → Heap → Option ρ) (v : AV) : Option ρ := retH false [.agg (eLock ⟨((l.Waits.w ((x9).toNat)).Tx), ⟨(((l.Waits.w ((x9).toNat)).R).From), (((l.Waits.w ((x9).toNat)).R).To), (((l.Waits.w ((x9).toNat)).R).End)⟩, ((l.Waits.w ((x9).toNat)).X)⟩), .osl 5 4 0 l.Held.n false] [some (.box [.sl 5 l.Held.n (rowOf eLock l.Held.w) l.Held.u, .sl 5 l.Waits.n (rowOf eLock l.Waits.w) l.Waits.u]), some (.box [.sl 5 0 (rowOf eLock (fun _ => zLock)) true, .sl 5 0 (rowOf eLock (fun _ => zLock)) true]), some (.box [.osl 5 4 0 l.Held.n false, .osl 5 5 0 b2_1n false]), some (.box (eLock ⟨((l.Waits.w ((x9).toNat)).Tx), ⟨(((l.Waits.w ((x9).toNat)).R).From), (((l.Waits.w ((x9).toNat)).R).To), (((l.Waits.w ((x9).toNat)).R).End)⟩, ((l.Waits.w ((x9).toNat)).X)⟩)), some (.arr 5 l.Held.n (rowOf eLock l.Held.w)), some (.arr 5 n4 (rowOf eLock w4))] (fun v H => resAt ctx k n_r22_Withdraw 0 [.r, .r, .r, .r, .l, .r, .into j1, .r, .l, .r, .r, .l] 3 [] ⟨(envOf 64 [(1, .int .u64 tx), (2, .ref 0 0), (4, .ref 1 0), (7, .ref 2 0), (8, .sl 1 0 (rowOf (eI .u64) (fun _ => 0)) true), (9, .int .i64 x9), (10, .ref 3 0), (34, .bool (decide (((l.Waits.w ((x9).toNat)).Tx) = tx))), (35, .agg (eLock ⟨((l.Waits.w ((x9).toNat)).Tx), ⟨(((l.Waits.w ((x9).toNat)).R).From), (((l.Waits.w ((x9).toNat)).R).To), (((l.Waits.w ((x9).toNat)).R).End)⟩, ((l.Waits.w ((x9).toNat)).X)⟩)), (36, .ref 2 0), (37, .osl 5 4 0 l.Held.n false), (38, v)]), H⟩ κ) v
noncomputable def r22_Withdraw_r5 (k j1 : Nat) (l : TLocks) (tx : Int) (x9 : Int) (w4 : Nat → TLock) (w3_1 : Nat → Int) (b2_0n : Nat) (n4 : Nat) (n3 : Nat) (x8n : Nat) (κ : AV → Heap → Option ρ) (v : AV) : Option ρ := retH false [.agg (eLock ⟨((l.Waits.w ((x9).toNat)).Tx), ⟨(((l.Waits.w ((x9).toNat)).R).From), (((l.Waits.w ((x9).toNat)).R).To), (((l.Waits.w ((x9).toNat)).R).End)⟩, ((l.Waits.w ((x9).toNat)).X)⟩), .osl 5 5 0 b2_0n false] [some (.box [.sl 5 l.Held.n (rowOf eLock l.Held.w) l.Held.u, .sl 5 l.Waits.n (rowOf eLock l.Waits.w) l.Waits.u]), some (.box [.sl 5 0 (rowOf eLock (fun _ => zLock)) true, .sl 5 0 (rowOf eLock (fun _ => zLock)) true]), some (.box [.osl 5 5 0 b2_0n false, .sl 5 0 (rowOf eLock (fun _ => zLock)) true]), some (.arr 1 n3 (rowOf (eI .u64) w3_1)), some (.box (eLock ⟨((l.Waits.w ((x9).toNat)).Tx), ⟨(((l.Waits.w ((x9).toNat)).R).From), (((l.Waits.w ((x9).toNat)).R).To), (((l.Waits.w ((x9).toNat)).R).End)⟩, ((l.Waits.w ((x9).toNat)).X)⟩)), some (.arr 5 n4 (rowOf eLock w4))] (fun v H => resAt ctx k n_r22_Withdraw 0 [.r, .r, .r, .r, .l, .r, .into j1, .r, .l, .r, .r, .l] 3 [] ⟨(envOf 64 [(1, .int .u64 tx), (2, .ref 0 0), (4, .ref 1 0), (7, .ref 2 0), (8, .osl 1 3 0 x8n false), (9, .int .i64 x9), (10, .ref 4 0), (34, .bool (decide (((l.Waits.w ((x9).toNat)).Tx) = tx))), (35, .agg (eLock ⟨((l.Waits.w ((x9).toNat)).Tx), ⟨(((l.Waits.w ((x9).toNat)).R).From), (((l.Waits.w ((x9).toNat)).R).To), (((l.Waits.w ((x9).toNat)).R).End)⟩, ((l.Waits.w ((x9).toNat)).X)⟩)), (36, .ref 2 0), (37, .osl 5 5 0 b2_0n false), (38, v)]), H⟩ κ) v
noncomputable def r22_Withdraw_r6 (k j1 : Nat) (l : TLocks) (tx : Int) (x9 : Int) (w4 : Nat → TLock) (w3_1 : Nat → Int) (b2_0n : Nat) (n4 : Nat) (b2_1n : Nat) (n3 : Nat) (w5 : Nat → TLock) (x8n : Nat) (n5 : Nat) (κ : AV → Heap → Option ρ) (v : AV) : Option ρ := retH false [.agg (eLock ⟨((l.Waits.w ((x9).toNat)).Tx), ⟨(((l.Waits.w ((x9).toNat)).R).From), (((l.Waits.w ((x9).toNat)).R).To), (((l.Waits.w ((x9).toNat)).R).End)⟩, ((l.Waits.w ((x9).toNat)).X)⟩), .osl 5 5 0 b2_0n false] [some (.box [.sl 5 l.Held.n (rowOf eLock l.Held.w) l.Held.u, .sl 5 l.Waits.n (rowOf eLock l.Waits.w) l.Waits.u]), some (.box [.sl 5 0 (rowOf eLock (fun _ => zLock)) true, .sl 5 0 (rowOf eLock (fun _ => zLock)) true]), some (.box [.osl 5 5 0 b2_0n false, .osl 5 6 0 b2_1n false]), some (.arr 1 n3 (rowOf (eI .u64) w3_1)), some (.box (eLock ⟨((l.Waits.w ((x9).toNat)).Tx), ⟨(((l.Waits.w ((x9).toNat)).R).From), (((l.Waits.w ((x9).toNat)).R).To), (((l.Waits.w ((x9).toNat)).R).End)⟩, ((l.Waits.w ((x9).toNat)).X)⟩)), some (.arr 5 n4 (rowOf eLock w4)), some (.arr 5 n5 (rowOf eLock w5))] (fun v H => resAt ctx k n_r22_Withdraw 0 [.r, .r, .r, .r, .l, .r, .into j1, .r, .l, .r, .r, .l] 3 [] ⟨(envOf 64 [(1, .int .u64 tx), (2, .ref 0 0), (4, .ref 1 0), (7, .ref 2 0), (8, .osl 1 3 0 x8n false), (9, .int .i64 x9), (10, .ref 4 0), (34, .bool (decide (((l.Waits.w ((x9).toNat)).Tx) = tx))), (35, .agg (eLock ⟨((l.Waits.w ((x9).toNat)).Tx), ⟨(((l.Waits.w ((x9).toNat)).R).From), (((l.Waits.w ((x9).toNat)).R).To), (((l.Waits.w ((x9).toNat)).R).End)⟩, ((l.Waits.w ((x9).toNat)).X)⟩)), (36, .ref 2 0), (37, .osl 5 5 0 b2_0n false), (38, v)]), H⟩ κ) v
noncomputable def r22_Withdraw_r7 (k : Nat) (l : TLocks) (tx : Int) (r0 : Int) (κ : AV → Heap → Option ρ) (v : AV) (W : Heap) : Option ρ := backF [.agg (eLocks l)] [some (.box [.sl 5 l.Held.n (rowOf eLock l.Held.w) l.Held.u, .sl 5 l.Waits.n (rowOf eLock l.Waits.w) l.Waits.u]), some (.box [.sl 5 0 (rowOf eLock (fun _ => zLock)) true, .sl 5 0 (rowOf eLock (fun _ => zLock)) true])] (fun v H => resAt ctx k n_r22_Withdraw 0 [.r, .r, .l] 1 [] ⟨(envOf 64 [(1, .int .u64 tx), (2, .ref 0 0), (4, .ref 1 0), (13, .bool (!decide (r0 = 0))), (15, .agg (eLocks l)), (16, v)]), H⟩ κ) v W
noncomputable def r22_Withdraw_r8 (k j1 : Nat) (l : TLocks) (tx : Int) (x9 : Int) (r1 : Bool) (κ : AV → Heap → Option ρ) (v : AV) : Option ρ := resAt ctx k n_r22_Withdraw 0 [.r, .r, .r, .r, .l, .r, .into j1, .r, .l, .r, .r, .l] 8 [(39, false)] ⟨(envOf 64 [(1, .int .u64 tx), (2, .ref 0 0), (4, .ref 1 0), (7, .ref 2 0), (8, .sl 1 0 (rowOf (eI .u64) (fun _ => 0)) true), (9, .int .i64 x9), (10, .ref 3 0), (34, .bool (decide (((l.Waits.w ((x9).toNat)).Tx) = tx))), (35, .agg (eLock ⟨((l.Waits.w ((x9).toNat)).Tx), ⟨(((l.Waits.w ((x9).toNat)).R).From), (((l.Waits.w ((x9).toNat)).R).To), (((l.Waits.w ((x9).toNat)).R).End)⟩, ((l.Waits.w ((x9).toNat)).X)⟩)), (36, .ref 2 0), (37, .sl 5 0 (rowOf eLock (fun _ => zLock)) true), (38, .bool r1), (39, .bool r1), (40, .agg (eLock ⟨((l.Waits.w ((x9).toNat)).Tx), ⟨(((l.Waits.w ((x9).toNat)).R).From), (((l.Waits.w ((x9).toNat)).R).To), (((l.Waits.w ((x9).toNat)).R).End)⟩, ((l.Waits.w ((x9).toNat)).X)⟩)), (41, .ref 2 1), (42, .sl 5 0 (rowOf eLock (fun _ => zLock)) true), (43, v)]), [some (.box [.sl 5 l.Held.n (rowOf eLock l.Held.w) l.Held.u, .sl 5 l.Waits.n (rowOf eLock l.Waits.w) l.Waits.u]), some (.box [.sl 5 0 (rowOf eLock (fun _ => zLock)) true, .sl 5 0 (rowOf eLock (fun _ => zLock)) true]), some (.box [.sl 5 0 (rowOf eLock (fun _ => zLock)) true, .sl 5 0 (rowOf eLock (fun _ => zLock)) true]), some (.box (eLock ⟨((l.Waits.w ((x9).toNat)).Tx), ⟨(((l.Waits.w ((x9).toNat)).R).From), (((l.Waits.w ((x9).toNat)).R).To), (((l.Waits.w ((x9).toNat)).R).End)⟩, ((l.Waits.w ((x9).toNat)).X)⟩))]⟩ κ
noncomputable def r22_Withdraw_r9 (k j1 : Nat) (l : TLocks) (tx : Int) (x9 : Int) (r2 : Bool) (κ : AV → Heap → Option ρ) (v : AV) : Option ρ := resAt ctx k n_r22_Withdraw 0 [.r, .r, .r, .r, .l, .r, .into j1, .r, .l, .r, .r, .l] 8 [(39, false)] ⟨(envOf 64 [(1, .int .u64 tx), (2, .ref 0 0), (4, .ref 1 0), (7, .ref 2 0), (8, .sl 1 0 (rowOf (eI .u64) (fun _ => 0)) true), (9, .int .i64 x9), (10, .ref 3 0), (34, .bool (decide (((l.Waits.w ((x9).toNat)).Tx) = tx))), (35, .agg (eLock ⟨((l.Waits.w ((x9).toNat)).Tx), ⟨(((l.Waits.w ((x9).toNat)).R).From), (((l.Waits.w ((x9).toNat)).R).To), (((l.Waits.w ((x9).toNat)).R).End)⟩, ((l.Waits.w ((x9).toNat)).X)⟩)), (36, .ref 2 0), (37, .osl 5 4 0 l.Held.n false), (38, .bool r2), (39, .bool r2), (40, .agg (eLock ⟨((l.Waits.w ((x9).toNat)).Tx), ⟨(((l.Waits.w ((x9).toNat)).R).From), (((l.Waits.w ((x9).toNat)).R).To), (((l.Waits.w ((x9).toNat)).R).End)⟩, ((l.Waits.w ((x9).toNat)).X)⟩)), (41, .ref 2 1), (42, .sl 5 0 (rowOf eLock (fun _ => zLock)) true), (43, v)]), [some (.box [.sl 5 l.Held.n (rowOf eLock l.Held.w) l.Held.u, .sl 5 l.Waits.n (rowOf eLock l.Waits.w) l.Waits.u]), some (.box [.sl 5 0 (rowOf eLock (fun _ => zLock)) true, .sl 5 0 (rowOf eLock (fun _ => zLock)) true]), some (.box [.osl 5 4 0 l.Held.n false, .sl 5 0 (rowOf eLock (fun _ => zLock)) true]), some (.box (eLock ⟨((l.Waits.w ((x9).toNat)).Tx), ⟨(((l.Waits.w ((x9).toNat)).R).From), (((l.Waits.w ((x9).toNat)).R).To), (((l.Waits.w ((x9).toNat)).R).End)⟩, ((l.Waits.w ((x9).toNat)).X)⟩)), some (.arr 5 l.Held.n (rowOf eLock l.Held.w))]⟩ κ
noncomputable def r22_Withdraw_r10 (k j1 : Nat) (l : TLocks) (tx : Int) (x9 : Int) (w3 : Nat → TLock) (r3 : Bool) (b2_1n : Nat) (n3 : Nat) (κ : AV → Heap → Option ρ) (v : AV) : Option ρ := retH false [.agg (eLock ⟨((l.Waits.w ((x9).toNat)).Tx), ⟨(((l.Waits.w ((x9).toNat)).R).From), (((l.Waits.w ((x9).toNat)).R).To), (((l.Waits.w ((x9).toNat)).R).End)⟩, ((l.Waits.w ((x9).toNat)).X)⟩), .osl 5 4 0 b2_1n false] [some (.box [.sl 5 l.Held.n (rowOf eLock l.Held.w) l.Held.u, .sl 5 l.Waits.n (rowOf eLock l.Waits.w) l.Waits.u]), some (.box [.sl 5 0 (rowOf eLock (fun _ => zLock)) true, .sl 5 0 (rowOf eLock (fun _ => zLock)) true]), some (.box [.sl 5 0 (rowOf eLock (fun _ => zLock)) true, .osl 5 4 0 b2_1n false]), some (.box (eLock ⟨((l.Waits.w ((x9).toNat)).Tx), ⟨(((l.Waits.w ((x9).toNat)).R).From), (((l.Waits.w ((x9).toNat)).R).To), (((l.Waits.w ((x9).toNat)).R).End)⟩, ((l.Waits.w ((x9).toNat)).X)⟩)), some (.arr 5 n3 (rowOf eLock w3))] (fun v H => resAt ctx k n_r22_Withdraw 0 [.r, .r, .r, .r, .l, .r, .into j1, .r, .l, .r, .r, .l] 8 [(39, false)] ⟨(envOf 64 [(1, .int .u64 tx), (2, .ref 0 0), (4, .ref 1 0), (7, .ref 2 0), (8, .sl 1 0 (rowOf (eI .u64) (fun _ => 0)) true), (9, .int .i64 x9), (10, .ref 3 0), (34, .bool (decide (((l.Waits.w ((x9).toNat)).Tx) = tx))), (35, .agg (eLock ⟨((l.Waits.w ((x9).toNat)).Tx), ⟨(((l.Waits.w ((x9).toNat)).R).From), (((l.Waits.w ((x9).toNat)).R).To), (((l.Waits.w ((x9).toNat)).R).End)⟩, ((l.Waits.w ((x9).toNat)).X)⟩)), (36, .ref 2 0), (37, .sl 5 0 (rowOf eLock (fun _ => zLock)) true), (38, .bool r3), (39, .bool r3), (40, .agg (eLock ⟨((l.Waits.w ((x9).toNat)).Tx), ⟨(((l.Waits.w ((x9).toNat)).R).From), (((l.Waits.w ((x9).toNat)).R).To), (((l.Waits.w ((x9).toNat)).R).End)⟩, ((l.Waits.w ((x9).toNat)).X)⟩)), (41, .ref 2 1), (42, .osl 5 4 0 b2_1n false), (43, v)]), H⟩ κ) v
noncomputable def r22_Withdraw_r11 (k j1 : Nat) (l : TLocks) (tx : Int) (x9 : Int) (w4 : Nat → TLock) (r4 : Bool) (n4 : Nat) (b2_1n : Nat) (κ : AV → Heap → Option ρ) (v : AV) : Option ρ := retH false [.agg (eLock ⟨((l.Waits.w ((x9).toNat)).Tx), ⟨(((l.Waits.w ((x9).toNat)).R).From), (((l.Waits.w ((x9).toNat)).R).To), (((l.Waits.w ((x9).toNat)).R).End)⟩, ((l.Waits.w ((x9).toNat)).X)⟩), .osl 5 5 0 b2_1n false] [some (.box [.sl 5 l.Held.n (rowOf eLock l.Held.w) l.Held.u, .sl 5 l.Waits.n (rowOf eLock l.Waits.w) l.Waits.u]), some (.box [.sl 5 0 (rowOf eLock (fun _ => zLock)) true, .sl 5 0 (rowOf eLock (fun _ => zLock)) true]), some (.box [.osl 5 4 0 l.Held.n false, .osl 5 5 0 b2_1n false]), some (.box (eLock ⟨((l.Waits.w ((x9).toNat)).Tx), ⟨(((l.Waits.w ((x9).toNat)).R).From), (((l.Waits.w ((x9).toNat)).R).To), (((l.Waits.w ((x9).toNat)).R).End)⟩, ((l.Waits.w ((x9).toNat)).X)⟩)), some (.arr 5 l.Held.n (rowOf eLock l.Held.w)), some (.arr 5 n4 (rowOf eLock w4))] (fun v H => resAt ctx k n_r22_Withdraw 0 [.r, .r, .r, .r, .l, .r, .into j1, .r, .l, .r, .r, .l] 8 [(39, false)] ⟨(envOf 64 [(1, .int .u64 tx), (2, .ref 0 0), (4, .ref 1 0), (7, .ref 2 0), (8, .sl 1 0 (rowOf (eI .u64) (fun _ => 0)) true), (9, .int .i64 x9), (10, .ref 3 0), (34, .bool (decide (((l.Waits.w ((x9).toNat)).Tx) = tx))), (35, .agg (eLock ⟨((l.Waits.w ((x9).toNat)).Tx), ⟨(((l.Waits.w ((x9).toNat)).R).From), (((l.Waits.w ((x9).toNat)).R).To), (((l.Waits.w ((x9).toNat)).R).End)⟩, ((l.Waits.w ((x9).toNat)).X)⟩)), (36, .ref 2 0), (37, .osl 5 4 0 l.Held.n false), (38, .bool r4), (39, .bool r4), (40, .agg (eLock ⟨((l.Waits.w ((x9).toNat)).Tx), ⟨(((l.Waits.w ((x9).toNat)).R).From), (((l.Waits.w ((x9).toNat)).R).To), (((l.Waits.w ((x9).toNat)).R).End)⟩, ((l.Waits.w ((x9).toNat)).X)⟩)), (41, .ref 2 1), (42, .osl 5 5 0 b2_1n false), (43, v)]), H⟩ κ) v
noncomputable def r22_Withdraw_r12 (k j1 : Nat) (l : TLocks) (tx : Int) (x9 : Int) (w4 : Nat → TLock) (w3_1 : Nat → Int) (r5 : Bool) (b2_0n : Nat) (n4 : Nat) (n3 : Nat) (x8n : Nat) (κ : AV → Heap → Option ρ) (v : AV) : Option ρ := resAt ctx k n_r22_Withdraw 0 [.r, .r, .r, .r, .l, .r, .into j1, .r, .l, .r, .r, .l] 8 [(39, false)] ⟨(envOf 64 [(1, .int .u64 tx), (2, .ref 0 0), (4, .ref 1 0), (7, .ref 2 0), (8, .osl 1 3 0 x8n false), (9, .int .i64 x9), (10, .ref 4 0), (34, .bool (decide (((l.Waits.w ((x9).toNat)).Tx) = tx))), (35, .agg (eLock ⟨((l.Waits.w ((x9).toNat)).Tx), ⟨(((l.Waits.w ((x9).toNat)).R).From), (((l.Waits.w ((x9).toNat)).R).To), (((l.Waits.w ((x9).toNat)).R).End)⟩, ((l.Waits.w ((x9).toNat)).X)⟩)), (36, .ref 2 0), (37, .osl 5 5 0 b2_0n false), (38, .bool r5), (39, .bool r5), (40, .agg (eLock ⟨((l.Waits.w ((x9).toNat)).Tx), ⟨(((l.Waits.w ((x9).toNat)).R).From), (((l.Waits.w ((x9).toNat)).R).To), (((l.Waits.w ((x9).toNat)).R).End)⟩, ((l.Waits.w ((x9).toNat)).X)⟩)), (41, .ref 2 1), (42, .sl 5 0 (rowOf eLock (fun _ => zLock)) true), (43, v)]), [some (.box [.sl 5 l.Held.n (rowOf eLock l.Held.w) l.Held.u, .sl 5 l.Waits.n (rowOf eLock l.Waits.w) l.Waits.u]), some (.box [.sl 5 0 (rowOf eLock (fun _ => zLock)) true, .sl 5 0 (rowOf eLock (fun _ => zLock)) true]), some (.box [.osl 5 5 0 b2_0n false, .sl 5 0 (rowOf eLock (fun _ => zLock)) true]), some (.arr 1 n3 (rowOf (eI .u64) w3_1)), some (.box (eLock ⟨((l.Waits.w ((x9).toNat)).Tx), ⟨(((l.Waits.w ((x9).toNat)).R).From), (((l.Waits.w ((x9).toNat)).R).To), (((l.Waits.w ((x9).toNat)).R).End)⟩, ((l.Waits.w ((x9).toNat)).X)⟩)), some (.arr 5 n4 (rowOf eLock w4))]⟩ κ
noncomputable def r22_Withdraw_r13 (k j1 : Nat) (l : TLocks) (tx : Int) (x9 : Int) (w4 : Nat → TLock) (w3_1 : Nat → Int) (b2_0n : Nat) (n4 : Nat) (r6 : Bool) (b2_1n : Nat) (n3 : Nat) (w5 : Nat → TLock) (x8n : Nat) (n5 : Nat) (κ : AV → Heap → Option ρ) (v : AV) : Option ρ := retH false [.agg (eLock ⟨((l.Waits.w ((x9).toNat)).Tx), ⟨(((l.Waits.w ((x9).toNat)).R).From), (((l.Waits.w ((x9).toNat)).R).To), (((l.Waits.w ((x9).toNat)).R).End)⟩, ((l.Waits.w ((x9).toNat)).X)⟩), .osl 5 6 0 b2_1n false] [some (.box [.sl 5 l.Held.n (rowOf eLock l.Held.w) l.Held.u, .sl 5 l.Waits.n (rowOf eLock l.Waits.w) l.Waits.u]), some (.box [.sl 5 0 (rowOf eLock (fun _ => zLock)) true, .sl 5 0 (rowOf eLock (fun _ => zLock)) true]), some (.box [.osl 5 5 0 b2_0n false, .osl 5 6 0 b2_1n false]), some (.arr 1 n3 (rowOf (eI .u64) w3_1)), some (.box (eLock ⟨((l.Waits.w ((x9).toNat)).Tx), ⟨(((l.Waits.w ((x9).toNat)).R).From), (((l.Waits.w ((x9).toNat)).R).To), (((l.Waits.w ((x9).toNat)).R).End)⟩, ((l.Waits.w ((x9).toNat)).X)⟩)), some (.arr 5 n4 (rowOf eLock w4)), some (.arr 5 n5 (rowOf eLock w5))] (fun v H => resAt ctx k n_r22_Withdraw 0 [.r, .r, .r, .r, .l, .r, .into j1, .r, .l, .r, .r, .l] 8 [(39, false)] ⟨(envOf 64 [(1, .int .u64 tx), (2, .ref 0 0), (4, .ref 1 0), (7, .ref 2 0), (8, .osl 1 3 0 x8n false), (9, .int .i64 x9), (10, .ref 4 0), (34, .bool (decide (((l.Waits.w ((x9).toNat)).Tx) = tx))), (35, .agg (eLock ⟨((l.Waits.w ((x9).toNat)).Tx), ⟨(((l.Waits.w ((x9).toNat)).R).From), (((l.Waits.w ((x9).toNat)).R).To), (((l.Waits.w ((x9).toNat)).R).End)⟩, ((l.Waits.w ((x9).toNat)).X)⟩)), (36, .ref 2 0), (37, .osl 5 5 0 b2_0n false), (38, .bool r6), (39, .bool r6), (40, .agg (eLock ⟨((l.Waits.w ((x9).toNat)).Tx), ⟨(((l.Waits.w ((x9).toNat)).R).From), (((l.Waits.w ((x9).toNat)).R).To), (((l.Waits.w ((x9).toNat)).R).End)⟩, ((l.Waits.w ((x9).toNat)).X)⟩)), (41, .ref 2 1), (42, .osl 5 6 0 b2_1n false), (43, v)]), H⟩ κ) v
theorem r22_Withdraw_h0_s (k j : Nat) (l : TLocks) (tx : Int) (x9 : Int) (κ : AV → Heap → Option ρ) : r22_Withdraw_h0 k (j + 1) l tx x9 κ =
  (bif decide (x9 < (l.Waits.n : Int)) then
   (bif idxOK x9 l.Waits.n then
    (bif decide (((l.Waits.w ((x9).toNat)).Tx) = tx) then
     r22_Withdraw_h0 k j l tx (wi64 (x9 + 1)) κ
    else callP ctx k n_r22_any [.agg (eLock ⟨((l.Waits.w ((x9).toNat)).Tx), ⟨(((l.Waits.w ((x9).toNat)).R).From), (((l.Waits.w ((x9).toNat)).R).To), (((l.Waits.w ((x9).toNat)).R).End)⟩, ((l.Waits.w ((x9).toNat)).X)⟩), .sl 5 0 (rowOf eLock (fun _ => zLock)) true] (r22_Withdraw_r1 k j l tx x9 κ))
   else none)
  else κ (.tup [.agg (eLocks zLocks), .sl 1 0 (rowOf (eI .u64) (fun _ => 0)) true, .int .i64 0]) [some (.box [.sl 5 0 (rowOf eLock (fun _ => zLock)) true, .sl 5 0 (rowOf eLock (fun _ => zLock)) true])]) := by kernel_rfl
theorem r22_Withdraw_h1_s (k j : Nat) (l : TLocks) (tx : Int) (x9 : Int) (κ : AV → Heap → Option ρ) : r22_Withdraw_h1 k (j + 1) l tx x9 κ =
  (bif decide (x9 < (l.Waits.n : Int)) then
   (bif idxOK x9 l.Waits.n then
    (bif decide (((l.Waits.w ((x9).toNat)).Tx) = tx) then
     r22_Withdraw_h1 k j l tx (wi64 (x9 + 1)) κ
    else callP ctx k n_r22_any [.agg (eLock ⟨((l.Waits.w ((x9).toNat)).Tx), ⟨(((l.Waits.w ((x9).toNat)).R).From), (((l.Waits.w ((x9).toNat)).R).To), (((l.Waits.w ((x9).toNat)).R).End)⟩, ((l.Waits.w ((x9).toNat)).X)⟩), .sl 5 l.Held.n (rowOf eLock (fun i => l.Held.w (0 + i))) false] (r22_Withdraw_r2 k j l tx x9 κ))
   else none)
  else κ (.tup [.agg [.osl 5 1 0 l.Held.n false, .sl 5 0 (rowOf eLock (fun _ => zLock)) true], .sl 1 0 (rowOf (eI .u64) (fun _ => 0)) true, .int .i64 0]) [some (.box [.osl 5 1 0 l.Held.n false, .sl 5 0 (rowOf eLock (fun _ => zLock)) true]), some (.arr 5 l.Held.n (rowOf eLock l.Held.w))]) := by kernel_rfl
theorem r22_Withdraw_h2_s (k j : Nat) (l : TLocks) (tx : Int) (w3 : Nat → TLock) (x9 : Int) (b2_1n : Nat) (n3 : Nat) (κ : AV → Heap → Option ρ) : r22_Withdraw_h2 k (j + 1) l tx (rowOf eLock w3) x9 b2_1n n3 κ =
  (bif decide (x9 < (l.Waits.n : Int)) then
   (bif idxOK x9 l.Waits.n then
    (bif decide (((l.Waits.w ((x9).toNat)).Tx) = tx) then
     r22_Withdraw_h2 k j l tx (rowOf eLock w3) (wi64 (x9 + 1)) b2_1n n3 κ
    else callP ctx k n_r22_any [.agg (eLock ⟨((l.Waits.w ((x9).toNat)).Tx), ⟨(((l.Waits.w ((x9).toNat)).R).From), (((l.Waits.w ((x9).toNat)).R).To), (((l.Waits.w ((x9).toNat)).R).End)⟩, ((l.Waits.w ((x9).toNat)).X)⟩), .sl 5 0 (rowOf eLock (fun _ => zLock)) true] (r22_Withdraw_r3 k j l tx x9 w3 b2_1n n3 κ))
   else none)
  else κ (.tup [.agg [.sl 5 0 (rowOf eLock (fun _ => zLock)) true, .osl 5 1 0 b2_1n false], .sl 1 0 (rowOf (eI .u64) (fun _ => 0)) true, .int .i64 0]) [some (.box [.sl 5 0 (rowOf eLock (fun _ => zLock)) true, .osl 5 1 0 b2_1n false]), some (.arr 5 n3 (rowOf eLock w3))]) := by kernel_rfl
theorem r22_Withdraw_h3_s (k j : Nat) (l : TLocks) (tx : Int) (w4 : Nat → TLock) (x9 : Int) (b2_1n : Nat) (n4 : Nat) (κ : AV → Heap → Option ρ) : r22_Withdraw_h3 k (j + 1) l tx (rowOf eLock w4) x9 b2_1n n4 κ =
  (bif decide (x9 < (l.Waits.n : Int)) then
   (bif idxOK x9 l.Waits.n then
    (bif decide (((l.Waits.w ((x9).toNat)).Tx) = tx) then
     r22_Withdraw_h3 k j l tx (rowOf eLock w4) (wi64 (x9 + 1)) b2_1n n4 κ
    else callP ctx k n_r22_any [.agg (eLock ⟨((l.Waits.w ((x9).toNat)).Tx), ⟨(((l.Waits.w ((x9).toNat)).R).From), (((l.Waits.w ((x9).toNat)).R).To), (((l.Waits.w ((x9).toNat)).R).End)⟩, ((l.Waits.w ((x9).toNat)).X)⟩), .sl 5 l.Held.n (rowOf eLock (fun i => l.Held.w (0 + i))) false] (r22_Withdraw_r4 k j l tx x9 w4 n4 b2_1n κ))
   else none)
  else κ (.tup [.agg [.osl 5 1 0 l.Held.n false, .osl 5 2 0 b2_1n false], .sl 1 0 (rowOf (eI .u64) (fun _ => 0)) true, .int .i64 0]) [some (.box [.osl 5 1 0 l.Held.n false, .osl 5 2 0 b2_1n false]), some (.arr 5 l.Held.n (rowOf eLock l.Held.w)), some (.arr 5 n4 (rowOf eLock w4))]) := by kernel_rfl
theorem r22_Withdraw_h4_s (k j : Nat) (l : TLocks) (tx : Int) (w3_1 : Nat → Int) (w4 : Nat → TLock) (b2_0n : Nat) (n4 : Nat) (x9 : Int) (x8n : Nat) (n3 : Nat) (κ : AV → Heap → Option ρ) : r22_Withdraw_h4 k (j + 1) l tx (rowOf (eI .u64) w3_1) (rowOf eLock w4) b2_0n n4 x9 x8n n3 κ =
  (bif decide (x9 < (l.Waits.n : Int)) then
   (bif idxOK x9 l.Waits.n then
    (bif decide (((l.Waits.w ((x9).toNat)).Tx) = tx) then
     r22_Withdraw_h4 k j l tx (rowOf (eI .u64) w3_1) (rowOf eLock w4) b2_0n n4 (wi64 (x9 + 1)) x8n n3 κ
    else callP ctx k n_r22_any [.agg (eLock ⟨((l.Waits.w ((x9).toNat)).Tx), ⟨(((l.Waits.w ((x9).toNat)).R).From), (((l.Waits.w ((x9).toNat)).R).To), (((l.Waits.w ((x9).toNat)).R).End)⟩, ((l.Waits.w ((x9).toNat)).X)⟩), .sl 5 b2_0n (rowOf eLock (fun i => w4 (0 + i))) false] (r22_Withdraw_r5 k j l tx x9 w4 w3_1 b2_0n n4 n3 x8n κ))
   else none)
  else κ (.tup [.agg [.osl 5 2 0 b2_0n false, .sl 5 0 (rowOf eLock (fun _ => zLock)) true], .osl 1 1 0 x8n false, .int .i64 0]) [some (.box [.osl 5 2 0 b2_0n false, .sl 5 0 (rowOf eLock (fun _ => zLock)) true]), some (.arr 1 n3 (rowOf (eI .u64) w3_1)), some (.arr 5 n4 (rowOf eLock w4))]) := by kernel_rfl
theorem r22_Withdraw_h5_s (k j : Nat) (l : TLocks) (tx : Int) (w3_1 : Nat → Int) (w4 : Nat → TLock) (b2_0n : Nat) (n4 : Nat) (w5 : Nat → TLock) (x9 : Int) (b2_1n : Nat) (n5 : Nat) (x8n : Nat) (n3 : Nat) (κ : AV → Heap → Option ρ) : r22_Withdraw_h5 k (j + 1) l tx (rowOf (eI .u64) w3_1) (rowOf eLock w4) b2_0n n4 (rowOf eLock w5) x9 b2_1n n5 x8n n3 κ =
  (bif decide (x9 < (l.Waits.n : Int)) then
   (bif idxOK x9 l.Waits.n then
    (bif decide (((l.Waits.w ((x9).toNat)).Tx) = tx) then
     r22_Withdraw_h5 k j l tx (rowOf (eI .u64) w3_1) (rowOf eLock w4) b2_0n n4 (rowOf eLock w5) (wi64 (x9 + 1)) b2_1n n5 x8n n3 κ
    else callP ctx k n_r22_any [.agg (eLock ⟨((l.Waits.w ((x9).toNat)).Tx), ⟨(((l.Waits.w ((x9).toNat)).R).From), (((l.Waits.w ((x9).toNat)).R).To), (((l.Waits.w ((x9).toNat)).R).End)⟩, ((l.Waits.w ((x9).toNat)).X)⟩), .sl 5 b2_0n (rowOf eLock (fun i => w4 (0 + i))) false] (r22_Withdraw_r6 k j l tx x9 w4 w3_1 b2_0n n4 b2_1n n3 w5 x8n n5 κ))
   else none)
  else κ (.tup [.agg [.osl 5 2 0 b2_0n false, .osl 5 3 0 b2_1n false], .osl 1 1 0 x8n false, .int .i64 0]) [some (.box [.osl 5 2 0 b2_0n false, .osl 5 3 0 b2_1n false]), some (.arr 1 n3 (rowOf (eI .u64) w3_1)), some (.arr 5 n4 (rowOf eLock w4)), some (.arr 5 n5 (rowOf eLock w5))]) := by kernel_rfl
theorem r22_Withdraw_r0_s (k : Nat) (l : TLocks) (tx : Int) (r0 : Int) (κ : AV → Heap → Option ρ) : r22_Withdraw_r0 k l tx κ (.int .i64 r0) =
  (bif !decide (r0 = 0) then
   κ (.tup [.agg (eLocks zLocks), .sl 1 0 (rowOf (eI .u64) (fun _ => 0)) true, .int .i64 220]) [some (.box [.sl 5 0 (rowOf eLock (fun _ => zLock)) true, .sl 5 0 (rowOf eLock (fun _ => zLock)) true])]
  else evalF ctx k n_r22_Copy [.agg (eLocks l)] [] (r22_Withdraw_r7 k l tx r0 κ)) := by kernel_rfl
theorem r22_Withdraw_r1_s (k j1 : Nat) (l : TLocks) (tx : Int) (x9 : Int) (r1 : Bool) (κ : AV → Heap → Option ρ) : r22_Withdraw_r1 k j1 l tx x9 κ (.bool r1) =
  (bif r1 then
   r22_Withdraw_h2 k j1 l tx (catRow 0 (rowOf eLock (fun _ => zLock)) (litRow eLock [⟨((l.Waits.w ((x9).toNat)).Tx), ⟨(((l.Waits.w ((x9).toNat)).R).From), (((l.Waits.w ((x9).toNat)).R).To), (((l.Waits.w ((x9).toNat)).R).End)⟩, ((l.Waits.w ((x9).toNat)).X)⟩] zLock)) (wi64 (x9 + 1)) 1 1 κ
  else callP ctx k n_r22_any [.agg (eLock ⟨((l.Waits.w ((x9).toNat)).Tx), ⟨(((l.Waits.w ((x9).toNat)).R).From), (((l.Waits.w ((x9).toNat)).R).To), (((l.Waits.w ((x9).toNat)).R).End)⟩, ((l.Waits.w ((x9).toNat)).X)⟩), .sl 5 0 (rowOf eLock (fun _ => zLock)) true] (r22_Withdraw_r8 k j1 l tx x9 r1 κ)) := by kernel_rfl
theorem r22_Withdraw_r2_s (k j1 : Nat) (l : TLocks) (tx : Int) (x9 : Int) (r2 : Bool) (κ : AV → Heap → Option ρ) : r22_Withdraw_r2 k j1 l tx x9 κ (.bool r2) =
  (bif r2 then
   r22_Withdraw_h3 k j1 l tx (catRow 0 (rowOf eLock (fun _ => zLock)) (litRow eLock [⟨((l.Waits.w ((x9).toNat)).Tx), ⟨(((l.Waits.w ((x9).toNat)).R).From), (((l.Waits.w ((x9).toNat)).R).To), (((l.Waits.w ((x9).toNat)).R).End)⟩, ((l.Waits.w ((x9).toNat)).X)⟩] zLock)) (wi64 (x9 + 1)) 1 1 κ
  else callP ctx k n_r22_any [.agg (eLock ⟨((l.Waits.w ((x9).toNat)).Tx), ⟨(((l.Waits.w ((x9).toNat)).R).From), (((l.Waits.w ((x9).toNat)).R).To), (((l.Waits.w ((x9).toNat)).R).End)⟩, ((l.Waits.w ((x9).toNat)).X)⟩), .sl 5 0 (rowOf eLock (fun _ => zLock)) true] (r22_Withdraw_r9 k j1 l tx x9 r2 κ)) := by kernel_rfl
theorem r22_Withdraw_r3_s (k j1 : Nat) (l : TLocks) (tx : Int) (x9 : Int) (w3 : Nat → TLock) (b2_1n : Nat) (n3 : Nat) (r3 : Bool) (κ : AV → Heap → Option ρ) : r22_Withdraw_r3 k j1 l tx x9 w3 b2_1n n3 κ (.bool r3) =
  (bif r3 then
   (bif decide (((0 + b2_1n) + 1) ≤ n3) then
    r22_Withdraw_h2 k j1 l tx (putRow (0 + b2_1n) ((0 + b2_1n) + 1) (litRow eLock [⟨((l.Waits.w ((x9).toNat)).Tx), ⟨(((l.Waits.w ((x9).toNat)).R).From), (((l.Waits.w ((x9).toNat)).R).To), (((l.Waits.w ((x9).toNat)).R).End)⟩, ((l.Waits.w ((x9).toNat)).X)⟩] zLock) (rowOf eLock w3)) (wi64 (x9 + 1)) (b2_1n + 1) n3 κ
   else (bif ((decide (b2_1n = n3)) && (roomOf (b2_1n + 1) 56)) then
     r22_Withdraw_h2 k j1 l tx (catRow b2_1n (rowOf eLock w3) (litRow eLock [⟨((l.Waits.w ((x9).toNat)).Tx), ⟨(((l.Waits.w ((x9).toNat)).R).From), (((l.Waits.w ((x9).toNat)).R).To), (((l.Waits.w ((x9).toNat)).R).End)⟩, ((l.Waits.w ((x9).toNat)).X)⟩] zLock)) (wi64 (x9 + 1)) (b2_1n + 1) (b2_1n + 1) κ
    else none))
  else callP ctx k n_r22_any [.agg (eLock ⟨((l.Waits.w ((x9).toNat)).Tx), ⟨(((l.Waits.w ((x9).toNat)).R).From), (((l.Waits.w ((x9).toNat)).R).To), (((l.Waits.w ((x9).toNat)).R).End)⟩, ((l.Waits.w ((x9).toNat)).X)⟩), .sl 5 b2_1n (rowOf eLock (fun i => w3 (0 + i))) false] (r22_Withdraw_r10 k j1 l tx x9 w3 r3 b2_1n n3 κ)) := by kernel_rfl
theorem r22_Withdraw_r4_s (k j1 : Nat) (l : TLocks) (tx : Int) (x9 : Int) (w4 : Nat → TLock) (n4 : Nat) (b2_1n : Nat) (r4 : Bool) (κ : AV → Heap → Option ρ) : r22_Withdraw_r4 k j1 l tx x9 w4 n4 b2_1n κ (.bool r4) =
  (bif r4 then
   (bif decide (((0 + b2_1n) + 1) ≤ n4) then
    r22_Withdraw_h3 k j1 l tx (putRow (0 + b2_1n) ((0 + b2_1n) + 1) (litRow eLock [⟨((l.Waits.w ((x9).toNat)).Tx), ⟨(((l.Waits.w ((x9).toNat)).R).From), (((l.Waits.w ((x9).toNat)).R).To), (((l.Waits.w ((x9).toNat)).R).End)⟩, ((l.Waits.w ((x9).toNat)).X)⟩] zLock) (rowOf eLock w4)) (wi64 (x9 + 1)) (b2_1n + 1) n4 κ
   else (bif ((decide (b2_1n = n4)) && (roomOf (b2_1n + 1) 56)) then
     r22_Withdraw_h3 k j1 l tx (catRow b2_1n (rowOf eLock w4) (litRow eLock [⟨((l.Waits.w ((x9).toNat)).Tx), ⟨(((l.Waits.w ((x9).toNat)).R).From), (((l.Waits.w ((x9).toNat)).R).To), (((l.Waits.w ((x9).toNat)).R).End)⟩, ((l.Waits.w ((x9).toNat)).X)⟩] zLock)) (wi64 (x9 + 1)) (b2_1n + 1) (b2_1n + 1) κ
    else none))
  else callP ctx k n_r22_any [.agg (eLock ⟨((l.Waits.w ((x9).toNat)).Tx), ⟨(((l.Waits.w ((x9).toNat)).R).From), (((l.Waits.w ((x9).toNat)).R).To), (((l.Waits.w ((x9).toNat)).R).End)⟩, ((l.Waits.w ((x9).toNat)).X)⟩), .sl 5 b2_1n (rowOf eLock (fun i => w4 (0 + i))) false] (r22_Withdraw_r11 k j1 l tx x9 w4 r4 n4 b2_1n κ)) := by kernel_rfl
theorem r22_Withdraw_r5_s (k j1 : Nat) (l : TLocks) (tx : Int) (x9 : Int) (w4 : Nat → TLock) (w3_1 : Nat → Int) (b2_0n : Nat) (n4 : Nat) (n3 : Nat) (x8n : Nat) (r5 : Bool) (κ : AV → Heap → Option ρ) : r22_Withdraw_r5 k j1 l tx x9 w4 w3_1 b2_0n n4 n3 x8n κ (.bool r5) =
  (bif r5 then
   r22_Withdraw_h5 k j1 l tx (rowOf (eI .u64) w3_1) (rowOf eLock w4) b2_0n n4 (catRow 0 (rowOf eLock (fun _ => zLock)) (litRow eLock [⟨((l.Waits.w ((x9).toNat)).Tx), ⟨(((l.Waits.w ((x9).toNat)).R).From), (((l.Waits.w ((x9).toNat)).R).To), (((l.Waits.w ((x9).toNat)).R).End)⟩, ((l.Waits.w ((x9).toNat)).X)⟩] zLock)) (wi64 (x9 + 1)) 1 1 x8n n3 κ
  else callP ctx k n_r22_any [.agg (eLock ⟨((l.Waits.w ((x9).toNat)).Tx), ⟨(((l.Waits.w ((x9).toNat)).R).From), (((l.Waits.w ((x9).toNat)).R).To), (((l.Waits.w ((x9).toNat)).R).End)⟩, ((l.Waits.w ((x9).toNat)).X)⟩), .sl 5 0 (rowOf eLock (fun _ => zLock)) true] (r22_Withdraw_r12 k j1 l tx x9 w4 w3_1 r5 b2_0n n4 n3 x8n κ)) := by kernel_rfl
theorem r22_Withdraw_r6_s (k j1 : Nat) (l : TLocks) (tx : Int) (x9 : Int) (w4 : Nat → TLock) (w3_1 : Nat → Int) (b2_0n : Nat) (n4 : Nat) (b2_1n : Nat) (n3 : Nat) (w5 : Nat → TLock) (x8n : Nat) (n5 : Nat) (r6 : Bool) (κ : AV → Heap → Option ρ) : r22_Withdraw_r6 k j1 l tx x9 w4 w3_1 b2_0n n4 b2_1n n3 w5 x8n n5 κ (.bool r6) =
  (bif r6 then
   (bif decide (((0 + b2_1n) + 1) ≤ n5) then
    r22_Withdraw_h5 k j1 l tx (rowOf (eI .u64) w3_1) (rowOf eLock w4) b2_0n n4 (putRow (0 + b2_1n) ((0 + b2_1n) + 1) (litRow eLock [⟨((l.Waits.w ((x9).toNat)).Tx), ⟨(((l.Waits.w ((x9).toNat)).R).From), (((l.Waits.w ((x9).toNat)).R).To), (((l.Waits.w ((x9).toNat)).R).End)⟩, ((l.Waits.w ((x9).toNat)).X)⟩] zLock) (rowOf eLock w5)) (wi64 (x9 + 1)) (b2_1n + 1) n5 x8n n3 κ
   else (bif ((decide (b2_1n = n5)) && (roomOf (b2_1n + 1) 56)) then
     r22_Withdraw_h5 k j1 l tx (rowOf (eI .u64) w3_1) (rowOf eLock w4) b2_0n n4 (catRow b2_1n (rowOf eLock w5) (litRow eLock [⟨((l.Waits.w ((x9).toNat)).Tx), ⟨(((l.Waits.w ((x9).toNat)).R).From), (((l.Waits.w ((x9).toNat)).R).To), (((l.Waits.w ((x9).toNat)).R).End)⟩, ((l.Waits.w ((x9).toNat)).X)⟩] zLock)) (wi64 (x9 + 1)) (b2_1n + 1) (b2_1n + 1) x8n n3 κ
    else none))
  else callP ctx k n_r22_any [.agg (eLock ⟨((l.Waits.w ((x9).toNat)).Tx), ⟨(((l.Waits.w ((x9).toNat)).R).From), (((l.Waits.w ((x9).toNat)).R).To), (((l.Waits.w ((x9).toNat)).R).End)⟩, ((l.Waits.w ((x9).toNat)).X)⟩), .sl 5 b2_1n (rowOf eLock (fun i => w5 (0 + i))) false] (r22_Withdraw_r13 k j1 l tx x9 w4 w3_1 b2_0n n4 r6 b2_1n n3 w5 x8n n5 κ)) := by kernel_rfl
theorem r22_Withdraw_r7_s (k : Nat) (l : TLocks) (tx : Int) (r0 : Int) (κ : AV → Heap → Option ρ) : r22_Withdraw_r7 k l tx r0 κ (.agg (eLocks zLocks)) [some (.box [.sl 5 0 (rowOf eLock (fun _ => zLock)) true, .sl 5 0 (rowOf eLock (fun _ => zLock)) true])] =
  r22_Withdraw_h0 k k l tx 0 κ := by kernel_rfl
theorem r22_Withdraw_r7_s1 (k : Nat) (l : TLocks) (tx : Int) (r0 : Int) (κ : AV → Heap → Option ρ) : r22_Withdraw_r7 k l tx r0 κ (.agg [.sl 5 0 (rowOf eLock (fun _ => zLock)) true, .osl 5 1 0 l.Waits.n false]) [some (.box [.sl 5 0 (rowOf eLock (fun _ => zLock)) true, .osl 5 1 0 l.Waits.n false]), some (.arr 5 l.Waits.n (rowOf eLock l.Waits.w))] =
  r22_Withdraw_h0 k k l tx 0 κ := by kernel_rfl
theorem r22_Withdraw_r7_s2 (k : Nat) (l : TLocks) (tx : Int) (r0 : Int) (κ : AV → Heap → Option ρ) : r22_Withdraw_r7 k l tx r0 κ (.agg [.osl 5 1 0 l.Held.n false, .sl 5 0 (rowOf eLock (fun _ => zLock)) true]) [some (.box [.osl 5 1 0 l.Held.n false, .sl 5 0 (rowOf eLock (fun _ => zLock)) true]), some (.arr 5 l.Held.n (rowOf eLock l.Held.w))] =
  r22_Withdraw_h1 k k l tx 0 κ := by kernel_rfl
theorem r22_Withdraw_r7_s3 (k : Nat) (l : TLocks) (tx : Int) (r0 : Int) (κ : AV → Heap → Option ρ) : r22_Withdraw_r7 k l tx r0 κ (.agg [.osl 5 1 0 l.Held.n false, .osl 5 2 0 l.Waits.n false]) [some (.box [.osl 5 1 0 l.Held.n false, .osl 5 2 0 l.Waits.n false]), some (.arr 5 l.Held.n (rowOf eLock l.Held.w)), some (.arr 5 l.Waits.n (rowOf eLock l.Waits.w))] =
  r22_Withdraw_h1 k k l tx 0 κ := by kernel_rfl
theorem r22_Withdraw_r8_s (k j1 : Nat) (l : TLocks) (tx : Int) (x9 : Int) (r1 : Bool) (r8 : Bool) (κ : AV → Heap → Option ρ) : r22_Withdraw_r8 k j1 l tx x9 r1 κ (.bool r8) =
  (bif r8 then
   r22_Withdraw_h2 k j1 l tx (catRow 0 (rowOf eLock (fun _ => zLock)) (litRow eLock [⟨((l.Waits.w ((x9).toNat)).Tx), ⟨(((l.Waits.w ((x9).toNat)).R).From), (((l.Waits.w ((x9).toNat)).R).To), (((l.Waits.w ((x9).toNat)).R).End)⟩, ((l.Waits.w ((x9).toNat)).X)⟩] zLock)) (wi64 (x9 + 1)) 1 1 κ
  else r22_Withdraw_h4 k j1 l tx (catRow 0 (rowOf (eI .u64) (fun _ => 0)) (litRow (eI .u64) [((l.Waits.w ((x9).toNat)).Tx)] 0)) (catRow 0 (rowOf eLock (fun _ => zLock)) (litRow eLock [⟨((l.Waits.w ((x9).toNat)).Tx), ⟨(((l.Waits.w ((x9).toNat)).R).From), (((l.Waits.w ((x9).toNat)).R).To), (((l.Waits.w ((x9).toNat)).R).End)⟩, ((l.Waits.w ((x9).toNat)).X)⟩] zLock)) 1 1 (wi64 (x9 + 1)) 1 1 κ) := by kernel_rfl
theorem r22_Withdraw_r9_s (k j1 : Nat) (l : TLocks) (tx : Int) (x9 : Int) (r2 : Bool) (r9 : Bool) (κ : AV → Heap → Option ρ) : r22_Withdraw_r9 k j1 l tx x9 r2 κ (.bool r9) =
  (bif r9 then
   r22_Withdraw_h3 k j1 l tx (catRow 0 (rowOf eLock (fun _ => zLock)) (litRow eLock [⟨((l.Waits.w ((x9).toNat)).Tx), ⟨(((l.Waits.w ((x9).toNat)).R).From), (((l.Waits.w ((x9).toNat)).R).To), (((l.Waits.w ((x9).toNat)).R).End)⟩, ((l.Waits.w ((x9).toNat)).X)⟩] zLock)) (wi64 (x9 + 1)) 1 1 κ
  else (bif decide (((0 + l.Held.n) + 1) ≤ l.Held.n) then
    r22_Withdraw_h4 k j1 l tx (catRow 0 (rowOf (eI .u64) (fun _ => 0)) (litRow (eI .u64) [((l.Waits.w ((x9).toNat)).Tx)] 0)) (putRow (0 + l.Held.n) ((0 + l.Held.n) + 1) (litRow eLock [⟨((l.Waits.w ((x9).toNat)).Tx), ⟨(((l.Waits.w ((x9).toNat)).R).From), (((l.Waits.w ((x9).toNat)).R).To), (((l.Waits.w ((x9).toNat)).R).End)⟩, ((l.Waits.w ((x9).toNat)).X)⟩] zLock) (rowOf eLock l.Held.w)) (l.Held.n + 1) l.Held.n (wi64 (x9 + 1)) 1 1 κ
   else (bif ((decide (l.Held.n = l.Held.n)) && (roomOf (l.Held.n + 1) 56)) then
     r22_Withdraw_h4 k j1 l tx (catRow 0 (rowOf (eI .u64) (fun _ => 0)) (litRow (eI .u64) [((l.Waits.w ((x9).toNat)).Tx)] 0)) (catRow l.Held.n (rowOf eLock l.Held.w) (litRow eLock [⟨((l.Waits.w ((x9).toNat)).Tx), ⟨(((l.Waits.w ((x9).toNat)).R).From), (((l.Waits.w ((x9).toNat)).R).To), (((l.Waits.w ((x9).toNat)).R).End)⟩, ((l.Waits.w ((x9).toNat)).X)⟩] zLock)) (l.Held.n + 1) (l.Held.n + 1) (wi64 (x9 + 1)) 1 1 κ
    else none))) := by kernel_rfl
theorem r22_Withdraw_r10_s (k j1 : Nat) (l : TLocks) (tx : Int) (x9 : Int) (w3 : Nat → TLock) (r3 : Bool) (b2_1n : Nat) (n3 : Nat) (r10 : Bool) (κ : AV → Heap → Option ρ) : r22_Withdraw_r10 k j1 l tx x9 w3 r3 b2_1n n3 κ (.bool r10) =
  (bif r10 then
   (bif decide (((0 + b2_1n) + 1) ≤ n3) then
    r22_Withdraw_h2 k j1 l tx (putRow (0 + b2_1n) ((0 + b2_1n) + 1) (litRow eLock [⟨((l.Waits.w ((x9).toNat)).Tx), ⟨(((l.Waits.w ((x9).toNat)).R).From), (((l.Waits.w ((x9).toNat)).R).To), (((l.Waits.w ((x9).toNat)).R).End)⟩, ((l.Waits.w ((x9).toNat)).X)⟩] zLock) (rowOf eLock w3)) (wi64 (x9 + 1)) (b2_1n + 1) n3 κ
   else (bif ((decide (b2_1n = n3)) && (roomOf (b2_1n + 1) 56)) then
     r22_Withdraw_h2 k j1 l tx (catRow b2_1n (rowOf eLock w3) (litRow eLock [⟨((l.Waits.w ((x9).toNat)).Tx), ⟨(((l.Waits.w ((x9).toNat)).R).From), (((l.Waits.w ((x9).toNat)).R).To), (((l.Waits.w ((x9).toNat)).R).End)⟩, ((l.Waits.w ((x9).toNat)).X)⟩] zLock)) (wi64 (x9 + 1)) (b2_1n + 1) (b2_1n + 1) κ
    else none))
  else r22_Withdraw_h5 k j1 l tx (catRow 0 (rowOf (eI .u64) (fun _ => 0)) (litRow (eI .u64) [((l.Waits.w ((x9).toNat)).Tx)] 0)) (catRow 0 (rowOf eLock (fun _ => zLock)) (litRow eLock [⟨((l.Waits.w ((x9).toNat)).Tx), ⟨(((l.Waits.w ((x9).toNat)).R).From), (((l.Waits.w ((x9).toNat)).R).To), (((l.Waits.w ((x9).toNat)).R).End)⟩, ((l.Waits.w ((x9).toNat)).X)⟩] zLock)) 1 1 (rowOf eLock w3) (wi64 (x9 + 1)) b2_1n n3 1 1 κ) := by kernel_rfl
theorem r22_Withdraw_r11_s (k j1 : Nat) (l : TLocks) (tx : Int) (x9 : Int) (w4 : Nat → TLock) (r4 : Bool) (n4 : Nat) (b2_1n : Nat) (r11 : Bool) (κ : AV → Heap → Option ρ) : r22_Withdraw_r11 k j1 l tx x9 w4 r4 n4 b2_1n κ (.bool r11) =
  (bif r11 then
   (bif decide (((0 + b2_1n) + 1) ≤ n4) then
    r22_Withdraw_h3 k j1 l tx (putRow (0 + b2_1n) ((0 + b2_1n) + 1) (litRow eLock [⟨((l.Waits.w ((x9).toNat)).Tx), ⟨(((l.Waits.w ((x9).toNat)).R).From), (((l.Waits.w ((x9).toNat)).R).To), (((l.Waits.w ((x9).toNat)).R).End)⟩, ((l.Waits.w ((x9).toNat)).X)⟩] zLock) (rowOf eLock w4)) (wi64 (x9 + 1)) (b2_1n + 1) n4 κ
   else (bif ((decide (b2_1n = n4)) && (roomOf (b2_1n + 1) 56)) then
     r22_Withdraw_h3 k j1 l tx (catRow b2_1n (rowOf eLock w4) (litRow eLock [⟨((l.Waits.w ((x9).toNat)).Tx), ⟨(((l.Waits.w ((x9).toNat)).R).From), (((l.Waits.w ((x9).toNat)).R).To), (((l.Waits.w ((x9).toNat)).R).End)⟩, ((l.Waits.w ((x9).toNat)).X)⟩] zLock)) (wi64 (x9 + 1)) (b2_1n + 1) (b2_1n + 1) κ
    else none))
  else (bif decide (((0 + l.Held.n) + 1) ≤ l.Held.n) then
    r22_Withdraw_h5 k j1 l tx (catRow 0 (rowOf (eI .u64) (fun _ => 0)) (litRow (eI .u64) [((l.Waits.w ((x9).toNat)).Tx)] 0)) (putRow (0 + l.Held.n) ((0 + l.Held.n) + 1) (litRow eLock [⟨((l.Waits.w ((x9).toNat)).Tx), ⟨(((l.Waits.w ((x9).toNat)).R).From), (((l.Waits.w ((x9).toNat)).R).To), (((l.Waits.w ((x9).toNat)).R).End)⟩, ((l.Waits.w ((x9).toNat)).X)⟩] zLock) (rowOf eLock l.Held.w)) (l.Held.n + 1) l.Held.n (rowOf eLock w4) (wi64 (x9 + 1)) b2_1n n4 1 1 κ
   else (bif ((decide (l.Held.n = l.Held.n)) && (roomOf (l.Held.n + 1) 56)) then
     r22_Withdraw_h5 k j1 l tx (catRow 0 (rowOf (eI .u64) (fun _ => 0)) (litRow (eI .u64) [((l.Waits.w ((x9).toNat)).Tx)] 0)) (catRow l.Held.n (rowOf eLock l.Held.w) (litRow eLock [⟨((l.Waits.w ((x9).toNat)).Tx), ⟨(((l.Waits.w ((x9).toNat)).R).From), (((l.Waits.w ((x9).toNat)).R).To), (((l.Waits.w ((x9).toNat)).R).End)⟩, ((l.Waits.w ((x9).toNat)).X)⟩] zLock)) (l.Held.n + 1) (l.Held.n + 1) (rowOf eLock w4) (wi64 (x9 + 1)) b2_1n n4 1 1 κ
    else none))) := by kernel_rfl
theorem r22_Withdraw_r12_s (k j1 : Nat) (l : TLocks) (tx : Int) (x9 : Int) (w4 : Nat → TLock) (w3_1 : Nat → Int) (r5 : Bool) (b2_0n : Nat) (n4 : Nat) (n3 : Nat) (x8n : Nat) (r12 : Bool) (κ : AV → Heap → Option ρ) : r22_Withdraw_r12 k j1 l tx x9 w4 w3_1 r5 b2_0n n4 n3 x8n κ (.bool r12) =
  (bif r12 then
   r22_Withdraw_h5 k j1 l tx (rowOf (eI .u64) w3_1) (rowOf eLock w4) b2_0n n4 (catRow 0 (rowOf eLock (fun _ => zLock)) (litRow eLock [⟨((l.Waits.w ((x9).toNat)).Tx), ⟨(((l.Waits.w ((x9).toNat)).R).From), (((l.Waits.w ((x9).toNat)).R).To), (((l.Waits.w ((x9).toNat)).R).End)⟩, ((l.Waits.w ((x9).toNat)).X)⟩] zLock)) (wi64 (x9 + 1)) 1 1 x8n n3 κ
  else (bif decide (((0 + b2_0n) + 1) ≤ n4) then
    (bif decide (((0 + x8n) + 1) ≤ n3) then
     r22_Withdraw_h4 k j1 l tx (putRow (0 + x8n) ((0 + x8n) + 1) (litRow (eI .u64) [((l.Waits.w ((x9).toNat)).Tx)] 0) (rowOf (eI .u64) w3_1)) (putRow (0 + b2_0n) ((0 + b2_0n) + 1) (litRow eLock [⟨((l.Waits.w ((x9).toNat)).Tx), ⟨(((l.Waits.w ((x9).toNat)).R).From), (((l.Waits.w ((x9).toNat)).R).To), (((l.Waits.w ((x9).toNat)).R).End)⟩, ((l.Waits.w ((x9).toNat)).X)⟩] zLock) (rowOf eLock w4)) (b2_0n + 1) n4 (wi64 (x9 + 1)) (x8n + 1) n3 κ
    else (bif ((decide (x8n = n3)) && (roomOf (x8n + 1) 8)) then
      r22_Withdraw_h4 k j1 l tx (catRow x8n (rowOf (eI .u64) w3_1) (litRow (eI .u64) [((l.Waits.w ((x9).toNat)).Tx)] 0)) (putRow (0 + b2_0n) ((0 + b2_0n) + 1) (litRow eLock [⟨((l.Waits.w ((x9).toNat)).Tx), ⟨(((l.Waits.w ((x9).toNat)).R).From), (((l.Waits.w ((x9).toNat)).R).To), (((l.Waits.w ((x9).toNat)).R).End)⟩, ((l.Waits.w ((x9).toNat)).X)⟩] zLock) (rowOf eLock w4)) (b2_0n + 1) n4 (wi64 (x9 + 1)) (x8n + 1) (x8n + 1) κ
     else none))
   else (bif ((decide (b2_0n = n4)) && (roomOf (b2_0n + 1) 56)) then
     (bif decide (((0 + x8n) + 1) ≤ n3) then
      r22_Withdraw_h4 k j1 l tx (putRow (0 + x8n) ((0 + x8n) + 1) (litRow (eI .u64) [((l.Waits.w ((x9).toNat)).Tx)] 0) (rowOf (eI .u64) w3_1)) (catRow b2_0n (rowOf eLock w4) (litRow eLock [⟨((l.Waits.w ((x9).toNat)).Tx), ⟨(((l.Waits.w ((x9).toNat)).R).From), (((l.Waits.w ((x9).toNat)).R).To), (((l.Waits.w ((x9).toNat)).R).End)⟩, ((l.Waits.w ((x9).toNat)).X)⟩] zLock)) (b2_0n + 1) (b2_0n + 1) (wi64 (x9 + 1)) (x8n + 1) n3 κ
     else (bif ((decide (x8n = n3)) && (roomOf (x8n + 1) 8)) then
       r22_Withdraw_h4 k j1 l tx (catRow x8n (rowOf (eI .u64) w3_1) (litRow (eI .u64) [((l.Waits.w ((x9).toNat)).Tx)] 0)) (catRow b2_0n (rowOf eLock w4) (litRow eLock [⟨((l.Waits.w ((x9).toNat)).Tx), ⟨(((l.Waits.w ((x9).toNat)).R).From), (((l.Waits.w ((x9).toNat)).R).To), (((l.Waits.w ((x9).toNat)).R).End)⟩, ((l.Waits.w ((x9).toNat)).X)⟩] zLock)) (b2_0n + 1) (b2_0n + 1) (wi64 (x9 + 1)) (x8n + 1) (x8n + 1) κ
      else none))
    else none))) := by kernel_rfl
theorem r22_Withdraw_r13_s (k j1 : Nat) (l : TLocks) (tx : Int) (x9 : Int) (w4 : Nat → TLock) (w3_1 : Nat → Int) (b2_0n : Nat) (n4 : Nat) (r6 : Bool) (b2_1n : Nat) (n3 : Nat) (w5 : Nat → TLock) (x8n : Nat) (n5 : Nat) (r13 : Bool) (κ : AV → Heap → Option ρ) : r22_Withdraw_r13 k j1 l tx x9 w4 w3_1 b2_0n n4 r6 b2_1n n3 w5 x8n n5 κ (.bool r13) =
  (bif r13 then
   (bif decide (((0 + b2_1n) + 1) ≤ n5) then
    r22_Withdraw_h5 k j1 l tx (rowOf (eI .u64) w3_1) (rowOf eLock w4) b2_0n n4 (putRow (0 + b2_1n) ((0 + b2_1n) + 1) (litRow eLock [⟨((l.Waits.w ((x9).toNat)).Tx), ⟨(((l.Waits.w ((x9).toNat)).R).From), (((l.Waits.w ((x9).toNat)).R).To), (((l.Waits.w ((x9).toNat)).R).End)⟩, ((l.Waits.w ((x9).toNat)).X)⟩] zLock) (rowOf eLock w5)) (wi64 (x9 + 1)) (b2_1n + 1) n5 x8n n3 κ
   else (bif ((decide (b2_1n = n5)) && (roomOf (b2_1n + 1) 56)) then
     r22_Withdraw_h5 k j1 l tx (rowOf (eI .u64) w3_1) (rowOf eLock w4) b2_0n n4 (catRow b2_1n (rowOf eLock w5) (litRow eLock [⟨((l.Waits.w ((x9).toNat)).Tx), ⟨(((l.Waits.w ((x9).toNat)).R).From), (((l.Waits.w ((x9).toNat)).R).To), (((l.Waits.w ((x9).toNat)).R).End)⟩, ((l.Waits.w ((x9).toNat)).X)⟩] zLock)) (wi64 (x9 + 1)) (b2_1n + 1) (b2_1n + 1) x8n n3 κ
    else none))
  else (bif decide (((0 + b2_0n) + 1) ≤ n4) then
    (bif decide (((0 + x8n) + 1) ≤ n3) then
     r22_Withdraw_h5 k j1 l tx (putRow (0 + x8n) ((0 + x8n) + 1) (litRow (eI .u64) [((l.Waits.w ((x9).toNat)).Tx)] 0) (rowOf (eI .u64) w3_1)) (putRow (0 + b2_0n) ((0 + b2_0n) + 1) (litRow eLock [⟨((l.Waits.w ((x9).toNat)).Tx), ⟨(((l.Waits.w ((x9).toNat)).R).From), (((l.Waits.w ((x9).toNat)).R).To), (((l.Waits.w ((x9).toNat)).R).End)⟩, ((l.Waits.w ((x9).toNat)).X)⟩] zLock) (rowOf eLock w4)) (b2_0n + 1) n4 (rowOf eLock w5) (wi64 (x9 + 1)) b2_1n n5 (x8n + 1) n3 κ
    else (bif ((decide (x8n = n3)) && (roomOf (x8n + 1) 8)) then
      r22_Withdraw_h5 k j1 l tx (catRow x8n (rowOf (eI .u64) w3_1) (litRow (eI .u64) [((l.Waits.w ((x9).toNat)).Tx)] 0)) (putRow (0 + b2_0n) ((0 + b2_0n) + 1) (litRow eLock [⟨((l.Waits.w ((x9).toNat)).Tx), ⟨(((l.Waits.w ((x9).toNat)).R).From), (((l.Waits.w ((x9).toNat)).R).To), (((l.Waits.w ((x9).toNat)).R).End)⟩, ((l.Waits.w ((x9).toNat)).X)⟩] zLock) (rowOf eLock w4)) (b2_0n + 1) n4 (rowOf eLock w5) (wi64 (x9 + 1)) b2_1n n5 (x8n + 1) (x8n + 1) κ
     else none))
   else (bif ((decide (b2_0n = n4)) && (roomOf (b2_0n + 1) 56)) then
     (bif decide (((0 + x8n) + 1) ≤ n3) then
      r22_Withdraw_h5 k j1 l tx (putRow (0 + x8n) ((0 + x8n) + 1) (litRow (eI .u64) [((l.Waits.w ((x9).toNat)).Tx)] 0) (rowOf (eI .u64) w3_1)) (catRow b2_0n (rowOf eLock w4) (litRow eLock [⟨((l.Waits.w ((x9).toNat)).Tx), ⟨(((l.Waits.w ((x9).toNat)).R).From), (((l.Waits.w ((x9).toNat)).R).To), (((l.Waits.w ((x9).toNat)).R).End)⟩, ((l.Waits.w ((x9).toNat)).X)⟩] zLock)) (b2_0n + 1) (b2_0n + 1) (rowOf eLock w5) (wi64 (x9 + 1)) b2_1n n5 (x8n + 1) n3 κ
     else (bif ((decide (x8n = n3)) && (roomOf (x8n + 1) 8)) then
       r22_Withdraw_h5 k j1 l tx (catRow x8n (rowOf (eI .u64) w3_1) (litRow (eI .u64) [((l.Waits.w ((x9).toNat)).Tx)] 0)) (catRow b2_0n (rowOf eLock w4) (litRow eLock [⟨((l.Waits.w ((x9).toNat)).Tx), ⟨(((l.Waits.w ((x9).toNat)).R).From), (((l.Waits.w ((x9).toNat)).R).To), (((l.Waits.w ((x9).toNat)).R).End)⟩, ((l.Waits.w ((x9).toNat)).X)⟩] zLock)) (b2_0n + 1) (b2_0n + 1) (rowOf eLock w5) (wi64 (x9 + 1)) b2_1n n5 (x8n + 1) (x8n + 1) κ
      else none))
    else none))) := by kernel_rfl
theorem r22_Withdraw_e (k : Nat) (l : TLocks) (tx : Int) (κ : AV → Heap → Option ρ) : evalF ctx (k + 1) n_r22_Withdraw [.agg (eLocks l), .int .u64 tx] [] κ =
  callP ctx k n_r22_Check [.agg (eLocks l)] (r22_Withdraw_r0 k l tx κ) := by kernel_rfl
end Go.Proofs.YticcbbcgboddpaaC

set_option linter.unusedVariables false
set_option linter.unusedSimpArgs false
set_option maxRecDepth 20000
namespace Go.Proofs.YticcbbcgboddpaaC
open Go Go.Ev Go.Proofs
variable {ρ : Type}
/-- a row that was own, as_ the caller has it -/
def zW (n : Nat) (v : Nat → TLock) : Nat → TLock := if n = 0 then fun _ => zLock else v
theorem lst_zW (n : Nat) (v : Nat → TLock) : lst n (zW n v) = lst n v := by
  unfold zW
  split
  · rename_i h; subst h; rfl
  · rfl
theorem pk_endA (κ : AV → Option ρ) (n : Nat) (v : Nat → TLock) (m : Nat) (w : Nat → TLock) (b : Bool) (e : Int) : endA n v m w b e (pk κ) = κ (.tup [.agg (eLocks ⟨⟨n, zW n v, false⟩, ⟨m, zW m w, false⟩⟩), .bool b, .int .i64 e]) := by
  by_cases h1 : n = 0
  · by_cases h2 : m = 0
    · rw [endA_00 h1 h2]; subst h1; subst h2; rfl
    · rw [endA_01 h1 h2]
      subst h1
      show κ (.tup [.agg [.sl 5 0 (rowOf eLock (fun _ => zLock)) false, .sl 5 m (fun i => rowOf eLock w (0 + i)) false], .bool b, .int .i64 e]) = _
      unfold zW
      rw [zrow, if_pos rfl, if_neg h2]; rfl
  · by_cases h2 : m = 0
    · rw [endA_10 h1 h2]
      subst h2
      show κ (.tup [.agg [.sl 5 n (fun i => rowOf eLock v (0 + i)) false, .sl 5 0 (rowOf eLock (fun _ => zLock)) false], .bool b, .int .i64 e]) = _
      unfold zW
      rw [zrow, if_pos rfl, if_neg h1]; rfl
    · rw [endA_11 h1 h2]
      show κ (.tup [.agg [.sl 5 n (fun i => rowOf eLock v (0 + i)) false, .sl 5 m (fun i => rowOf eLock w (0 + i)) false], .bool b, .int .i64 e]) = _
      unfold zW
      rw [zrow, zrow, if_neg h1, if_neg h2]; rfl
/-- the document's copy, with rows of own -/
theorem Copy_own (k : Nat) (s : TLocks) (hn : s.Held.n ≤ 10000) (hm : s.Waits.n ≤ 10000) (hk : 1 ≤ k) (κ : AV → Heap → Option ρ) : evalF ctx k n_r22_Copy [.agg (eLocks s)] [] κ =
    if s.Held.n = 0 then (if s.Waits.n = 0 then κ (.agg (eLocks zLocks)) [some (.box [nilL, nilL])]
      else κ (.agg [nilL, .osl 5 1 0 s.Waits.n false]) [some (.box [nilL, .osl 5 1 0 s.Waits.n false]), some (.arr 5 s.Waits.n (rowOf eLock s.Waits.w))])
    else if s.Waits.n = 0 then κ (.agg [.osl 5 1 0 s.Held.n false, nilL]) [some (.box [.osl 5 1 0 s.Held.n false, nilL]), some (.arr 5 s.Held.n (rowOf eLock s.Held.w))]
      else κ (.agg [.osl 5 1 0 s.Held.n false, .osl 5 2 0 s.Waits.n false]) [some (.box [.osl 5 1 0 s.Held.n false, .osl 5 2 0 s.Waits.n false]), some (.arr 5 s.Held.n (rowOf eLock s.Held.w)), some (.arr 5 s.Waits.n (rowOf eLock s.Waits.w))] := by
  obtain ⟨k, rfl⟩ : ∃ k', k = k' + 1 := ⟨k - 1, by omega⟩
  refine (r22_Copy_e k s κ).trans ?_
  by_cases h1 : s.Held.n = 0
  · rw [dec_t h1, cond_true, if_pos h1]
    by_cases h2 : s.Waits.n = 0
    · rw [dec_t h2, cond_true, if_pos h2]
    · rw [dec_f h2, cond_false, room56 (by omega), cond_true, cat0, if_neg h2, Nat.zero_add]
  · rw [dec_f h1, cond_false, room56 (by omega), cond_true, if_neg h1]
    by_cases h2 : s.Waits.n = 0
    · rw [dec_t h2, cond_true, cat0, if_pos h2, Nat.zero_add]
    · rw [dec_f h2, cond_false, room56 (by omega), cond_true, cat0, cat0, if_neg h2, Nat.zero_add, Nat.zero_add]
theorem r22_Ask_own (k : Nat) (s : TLocks) (a : TLock) (hT : Tx0 s) (ha : 0 ≤ a.Tx) (hn : s.Held.n ≤ 10000) (hm : s.Waits.n ≤ 10000) (hk : s.Held.n + s.Waits.n + 80 ≤ k) :
    ∃ n v m w, lst n v = askH s a ∧ lst m w = askW s a ∧ ∀ κ : AV → Heap → Option ρ, evalF ctx k n_r22_Ask [.agg (eLocks s), .agg (eLock a)] [] κ = endA n v m w (askG s a) (askE s a) κ := by
  obtain ⟨k, rfl⟩ : ∃ k', k = k' + 1 := ⟨k - 1, by omega⟩
  have hsz : checkB s = true → s.Held.n + s.Waits.n ≤ 200 := fun hc => by
    unfold checkB at hc
    simp only [Bool.and_eq_true, decide_eq_true_eq] at hc
    exact hc.1
  have err : ∀ c : Int, c ≠ 0 → askE s a = c → (∀ κ : AV → Heap → Option ρ, evalF ctx (k + 1) n_r22_Ask [.agg (eLocks s), .agg (eLock a)] [] κ = endA 0 (fun _ => zLock) 0 (fun _ => zLock) false c κ) →
      ∃ n v m w, lst n v = askH s a ∧ lst m w = askW s a ∧ ∀ κ : AV → Heap → Option ρ, evalF ctx (k + 1) n_r22_Ask [.agg (eLocks s), .agg (eLock a)] [] κ = endA n v m w (askG s a) (askE s a) κ := by
    intro c hc he h
    refine ⟨0, fun _ => zLock, 0, fun _ => zLock, ?_, ?_, fun κ => ?_⟩
    · unfold askH; rw [he, if_pos hc]; rfl
    · unfold askW; rw [he, if_pos hc]; rfl
    · unfold askG
      rw [h, he, decide_eq_false hc, Bool.false_and]
  have start : ∀ κ : AV → Heap → Option ρ, evalF ctx (k + 1) n_r22_Ask [.agg (eLocks s), .agg (eLock a)] [] κ = callP ctx k n_r22_Check [.agg (eLocks s)] (r22_Ask_r0 k s a κ) := fun κ => by
    exact r22_Ask_e k s a κ
  have st1 : ∀ κ : AV → Heap → Option ρ, evalF ctx (k + 1) n_r22_Ask [.agg (eLocks s), .agg (eLock a)] [] κ = r22_Ask_r0 k s a κ (.int .i64 (checkE' s)) := fun κ => by
    rw [start, r22_Check_ok k s hT hn hm (by omega)]
  cases hc : checkB s with
  | false =>
    refine err 220 (by decide) (by unfold askE; rw [hc, if_pos rfl]) fun κ => ?_
    rw [st1]
    unfold checkE'
    rw [hc, r22_Ask_r0_s]; rfl
  | true =>
    have st2 : ∀ κ : AV → Heap → Option ρ, evalF ctx (k + 1) n_r22_Ask [.agg (eLocks s), .agg (eLock a)] [] κ = r22_Ask_r1 k s a 0 κ (.bool (mayB a)) := fun κ => by
      rw [st1]
      unfold checkE'
      rw [hc, if_pos rfl, r22_Ask_r0_s, dec_int, Bool.not_true, cond_false, r22_May_ok k a ha (by omega)]
    cases hmay : mayB a with
    | false =>
      refine err 2 (by decide) (by unfold askE; rw [hc, hmay, if_neg (by decide), if_pos rfl]) fun κ => ?_
      rw [st2, hmay, r22_Ask_r1_s]; rfl
    | true =>
      have st3 : ∀ κ : AV → Heap → Option ρ, evalF ctx (k + 1) n_r22_Ask [.agg (eLocks s), .agg (eLock a)] [] κ = r22_Ask_r2 k s a true κ (.int .i64 (firstI s.Waits.n fun i => decide ((s.Waits.w i).Tx = a.Tx))) := fun κ => by
        rw [st2, hmay, r22_Ask_r1_s, Bool.not_true, cond_false, r22_waits_ok k s a.Tx hm (by omega)]
      cases hany : anyN s.Waits.n fun i => decide ((s.Waits.w i).Tx = a.Tx) with
      | true =>
        refine err 9 (by decide) (by unfold askE; rw [hc, hmay, hany, if_neg (by decide), if_neg (by decide), if_pos rfl]) fun κ => ?_
        rw [st3, r22_Ask_r2_s, first_any, hany]; rfl
      | false =>
        have st4 : ∀ κ : AV → Heap → Option ρ, evalF ctx (k + 1) n_r22_Ask [.agg (eLocks s), .agg (eLock a)] [] κ = evalF ctx k n_r22_Copy [.agg (eLocks s)] [] (r22_Ask_r3 k s a (firstI s.Waits.n fun i => decide ((s.Waits.w i).Tx = a.Tx)) κ) := fun κ => by
          rw [st3, r22_Ask_r2_s, first_any, hany, cond_false]
        have hE : askE s a = if coveredB s a = true then 0 else if s.Held.n + s.Waits.n = 200 then 6 else 0 := by
          unfold askE
          rw [hc, hmay, hany, if_neg (by decide), if_neg (by decide), if_neg (by decide)]
        have hsum : wi64 ((s.Held.n : Int) + (s.Waits.n : Int)) = ((s.Held.n + s.Waits.n : Nat) : Int) := by rw [wi64_in (by omega) (by omega)]; omega
        have cov := r22_covered_ok (ρ := ρ) k s a hn (by omega)
        have an1 := r22_any_ok (ρ := ρ) k s.Held.n s.Held.w s.Held.u a hn (by omega)
        have an2 := r22_any_ok (ρ := ρ) k s.Waits.n s.Waits.w s.Waits.u a hm (by omega)
        by_cases h6 : ¬ coveredB s a = true ∧ s.Held.n + s.Waits.n = 200
        · refine err 6 (by decide) (by rw [hE, if_neg h6.1, if_pos h6.2]) fun κ => ?_
          have hcf : coveredB s a = false := by simpa using h6.1
          rw [st4, Copy_own k s hn hm (by omega)]
          have d : decide (200 ≤ wi64 ((s.Held.n : Int) + (s.Waits.n : Int))) = true := decide_eq_true (by rw [hsum]; omega)
          by_cases q1 : s.Held.n = 0
          · rw [if_pos q1]
            by_cases q2 : s.Waits.n = 0
            · rw [if_pos q2, r22_Ask_r3_s, cov, hcf, r22_Ask_r4_s, d]; rfl
            · rw [if_neg q2, r22_Ask_r3_s1, cov, hcf, r22_Ask_r5_s, d]; rfl
          · rw [if_neg q1]
            by_cases q2 : s.Waits.n = 0
            · rw [if_pos q2, r22_Ask_r3_s2, cov, hcf, r22_Ask_r6_s, d]; rfl
            · rw [if_neg q2, r22_Ask_r3_s3, cov, hcf, r22_Ask_r7_s, d]; rfl
        · have hE0 : askE s a = 0 := by
            rw [hE]
            by_cases q : coveredB s a = true
            · rw [if_pos q]
            · rw [if_neg q, if_neg (fun h => h6 ⟨q, h⟩)]
          unfold askH askW askG
          rw [hE0, if_neg (show ¬ ((0 : Int) ≠ 0) by decide), if_neg (show ¬ ((0 : Int) ≠ 0) by decide), dec_int, Bool.true_and]
          cases hcv : coveredB s a with
          | true =>
            refine ⟨s.Held.n, if s.Held.n = 0 then fun _ => zLock else s.Held.w, s.Waits.n, if s.Waits.n = 0 then fun _ => zLock else s.Waits.w, ?_, ?_, fun κ => ?_⟩
            · rw [Bool.not_true, Bool.false_and, if_neg (show ¬ (false = true) by decide)]
              by_cases q1 : s.Held.n = 0
              · unfold Sl.l; rw [q1]; rfl
              · rw [if_neg q1]
            · rw [Bool.true_or, if_pos rfl]
              by_cases q1 : s.Waits.n = 0
              · unfold Sl.l; rw [q1]; rfl
              · rw [if_neg q1]
            · rw [st4, Copy_own k s hn hm (by omega), Bool.true_or]
              by_cases q1 : s.Held.n = 0
              · rw [if_pos q1, if_pos q1]
                by_cases q2 : s.Waits.n = 0
                · rw [if_pos q2, if_pos q2, r22_Ask_r3_s, cov, hcv, r22_Ask_r4_s, endA_00 q1 q2]; rfl
                · rw [if_neg q2, if_neg q2, r22_Ask_r3_s1, cov, hcv, r22_Ask_r5_s]
                  rw [endA_01 q1 q2]; rfl
              · rw [if_neg q1, if_neg q1]
                by_cases q2 : s.Waits.n = 0
                · rw [if_pos q2, if_pos q2, r22_Ask_r3_s2, cov, hcv, r22_Ask_r6_s]
                  rw [endA_10 q1 q2]; rfl
                · rw [if_neg q2, if_neg q2, r22_Ask_r3_s3, cov, hcv, r22_Ask_r7_s]
                  rw [endA_11 q1 q2]; rfl
          | false =>
            have d : decide (200 ≤ wi64 ((s.Held.n : Int) + (s.Waits.n : Int))) = false := decide_eq_false (by rw [hsum]; intro h; exact h6 ⟨by rw [hcv]; simp, by have := hsz hc; omega⟩)
            have hn1 : roomOf (s.Held.n + 1) 56 = true := room_of (by omega) (by omega)
            have hm1 : roomOf (s.Waits.n + 1) 56 = true := room_of (by omega) (by omega)
            have c1 : cutOK s.Held.n 0 (s.Held.n : Int) (s.Held.n : Int) = true := cut_ok (by omega) (by omega) (by omega) (by omega)
            have dm : decide (((0 + s.Waits.n) + 1) ≤ s.Waits.n) = false := decide_eq_false (by omega)
            have dn : decide (s.Waits.n = s.Waits.n) = true := decide_eq_true rfl
            have hok' : okB s a = (!(anyN s.Held.n fun i => againstB a (s.Held.w i)) && !(anyN s.Waits.n fun i => againstB a (s.Waits.w i))) := rfl
            cases hok : okB s a with
            | true =>
              rw [hok, eq_comm, Bool.and_eq_true, Bool.not_eq_true', Bool.not_eq_true'] at hok'
              obtain ⟨y1, y2⟩ := hok'
              refine ⟨s.Held.n + 1, if s.Held.n = 0 then addW s.Held.n (fun _ => zLock) a else addW s.Held.n s.Held.w a, s.Waits.n, if s.Waits.n = 0 then fun _ => zLock else s.Waits.w, ?_, ?_, fun κ => ?_⟩
              · rw [Bool.not_false, Bool.true_and, if_pos rfl]
                by_cases q1 : s.Held.n = 0
                · rw [if_pos q1, lst_add]; unfold Sl.l; rw [q1]; rfl
                · rw [if_neg q1, lst_add]
              · rw [Bool.or_true, if_pos rfl]
                by_cases q1 : s.Waits.n = 0
                · unfold Sl.l; rw [q1]; rfl
                · rw [if_neg q1]
              · rw [st4, Copy_own k s hn hm (by omega), Bool.or_true]
                by_cases q1 : s.Held.n = 0
                · have c0 : cutOK 0 0 (s.Held.n : Int) (s.Held.n : Int) = true := by rw [q1]; rfl
                  rw [if_pos q1, if_pos q1]
                  by_cases q2 : s.Waits.n = 0
                  · rw [if_pos q2, if_pos q2, r22_Ask_r3_s, cov, hcv, r22_Ask_r4_s, cond_false, d, cond_false, an1, y1, r22_Ask_r8_s, cond_false, an2, y2, r22_Ask_r12_s, cond_false, lit_row, cat_row]
                    rw [endA_10 (Nat.succ_ne_zero _) q2, q1]; rfl
                  · rw [if_neg q2, if_neg q2, r22_Ask_r3_s1, cov, hcv, r22_Ask_r5_s, cond_false, d, cond_false, an1, y1, r22_Ask_r9_s, cond_false, an2, y2, r22_Ask_r13_s, cond_false, lit_row, cat_row]
                    rw [endA_11 (Nat.succ_ne_zero _) q2, q1]; rfl
                · rw [if_neg q1, if_neg q1]
                  by_cases q2 : s.Waits.n = 0
                  · rw [if_pos q2, if_pos q2, r22_Ask_r3_s2, cov, hcv, r22_Ask_r6_s, cond_false, d, cond_false, an1, y1, r22_Ask_r10_s, cond_false, an2, y2, r22_Ask_r14_s, cond_false, more_sz 56 _ _ _ _ rfl (by omega) (by omega) (by omega), lit_row, cat_row]
                    rw [endA_10 (Nat.succ_ne_zero _) q2]; rfl
                  · rw [if_neg q2, if_neg q2, r22_Ask_r3_s3, cov, hcv, r22_Ask_r7_s, cond_false, d, cond_false, an1, y1, r22_Ask_r11_s, cond_false, an2, y2, r22_Ask_r15_s, cond_false, more_sz 56 _ _ _ _ rfl (by omega) (by omega) (by omega), lit_row, cat_row]
                    rw [endA_11 (Nat.succ_ne_zero _) q2]; rfl
            | false =>
              rw [hok, eq_comm, Bool.and_eq_false_iff, Bool.not_eq_false', Bool.not_eq_false'] at hok'
              refine ⟨s.Held.n, if s.Held.n = 0 then fun _ => zLock else s.Held.w, s.Waits.n + 1, if s.Waits.n = 0 then addW 0 (fun _ => zLock) a else addW s.Waits.n s.Waits.w a, ?_, ?_, fun κ => ?_⟩
              · rw [Bool.and_false, if_neg (show ¬ (false = true) by decide)]
                by_cases q1 : s.Held.n = 0
                · unfold Sl.l; rw [q1]; rfl
                · rw [if_neg q1]
              · rw [Bool.or_false, if_neg (show ¬ (false = true) by decide)]
                by_cases q1 : s.Waits.n = 0
                · rw [if_pos q1, q1, lst_add]; unfold Sl.l; rw [q1]; rfl
                · rw [if_neg q1, lst_add]
              · rw [st4, Copy_own k s hn hm (by omega), Bool.or_false]
                by_cases q1 : s.Held.n = 0
                · rw [if_pos q1, if_pos q1]
                  by_cases q2 : s.Waits.n = 0
                  · rw [if_pos q2, if_pos q2, r22_Ask_r3_s, cov, hcv, r22_Ask_r4_s, cond_false, d, cond_false, an1]
                    cases y1 : (anyN s.Held.n fun i => againstB a (s.Held.w i)) with
                    | true =>
                      rw [r22_Ask_r8_s, cond_true, lit_row, cat_row]
                      rw [endA_01 q1 (Nat.succ_ne_zero _), q2]; rfl
                    | false =>
                      have y2 : (anyN s.Waits.n fun i => againstB a (s.Waits.w i)) = true := hok'.resolve_left (by rw [y1]; decide)
                      rw [r22_Ask_r8_s, cond_false, an2, y2, r22_Ask_r12_s, cond_true, lit_row, cat_row]
                      rw [endA_01 q1 (Nat.succ_ne_zero _), q2]; rfl
                  · rw [if_neg q2, if_neg q2, r22_Ask_r3_s1, cov, hcv, r22_Ask_r5_s, cond_false, d, cond_false, an1]
                    cases y1 : (anyN s.Held.n fun i => againstB a (s.Held.w i)) with
                    | true =>
                      rw [r22_Ask_r9_s, cond_true, more_sz 56 _ _ _ _ rfl (by omega) (by omega) (by omega), lit_row, cat_row]
                      rw [endA_01 q1 (Nat.succ_ne_zero _)]; rfl
                    | false =>
                      have y2 : (anyN s.Waits.n fun i => againstB a (s.Waits.w i)) = true := hok'.resolve_left (by rw [y1]; decide)
                      rw [r22_Ask_r9_s, cond_false, an2, y2, r22_Ask_r13_s, cond_true, more_sz 56 _ _ _ _ rfl (by omega) (by omega) (by omega), lit_row, cat_row]
                      rw [endA_01 q1 (Nat.succ_ne_zero _)]; rfl
                · rw [if_neg q1, if_neg q1]
                  by_cases q2 : s.Waits.n = 0
                  · rw [if_pos q2, if_pos q2, r22_Ask_r3_s2, cov, hcv, r22_Ask_r6_s, cond_false, d, cond_false, an1]
                    cases y1 : (anyN s.Held.n fun i => againstB a (s.Held.w i)) with
                    | true =>
                      rw [r22_Ask_r10_s, cond_true, lit_row, cat_row]
                      rw [endA_11 q1 (Nat.succ_ne_zero _), q2]; rfl
                    | false =>
                      have y2 : (anyN s.Waits.n fun i => againstB a (s.Waits.w i)) = true := hok'.resolve_left (by rw [y1]; decide)
                      rw [r22_Ask_r10_s, cond_false, an2, y2, r22_Ask_r14_s, cond_true, lit_row, cat_row]
                      rw [endA_11 q1 (Nat.succ_ne_zero _), q2]; rfl
                  · rw [if_neg q2, if_neg q2, r22_Ask_r3_s3, cov, hcv, r22_Ask_r7_s, cond_false, d, cond_false, an1]
                    cases y1 : (anyN s.Held.n fun i => againstB a (s.Held.w i)) with
                    | true =>
                      rw [r22_Ask_r11_s, cond_true, more_sz 56 _ _ _ _ rfl (by omega) (by omega) (by omega), lit_row, cat_row]
                      rw [endA_11 q1 (Nat.succ_ne_zero _)]; rfl
                    | false =>
                      have y2 : (anyN s.Waits.n fun i => againstB a (s.Waits.w i)) = true := hok'.resolve_left (by rw [y1]; decide)
                      rw [r22_Ask_r11_s, cond_false, an2, y2, r22_Ask_r15_s, cond_true, more_sz 56 _ _ _ _ rfl (by omega) (by omega) (by omega), lit_row, cat_row]
                      rw [endA_11 q1 (Nat.succ_ne_zero _)]; rfl
theorem r22_Ask_ok (k : Nat) (s : TLocks) (a : TLock) (hT : Tx0 s) (ha : 0 ≤ a.Tx) (hn : s.Held.n ≤ 10000) (hm : s.Waits.n ≤ 10000) (hk : s.Held.n + s.Waits.n + 80 ≤ k) :
    ∃ n v m w, lst n v = askH s a ∧ lst m w = askW s a ∧ ∀ κ : AV → Option ρ, callP ctx k n_r22_Ask [.agg (eLocks s), .agg (eLock a)] κ = κ (.tup [.agg (eLocks ⟨⟨n, v, false⟩, ⟨m, w, false⟩⟩), .bool (askG s a), .int .i64 (askE s a)]) := by
  obtain ⟨n, v, m, w, h1, h2, h3⟩ := r22_Ask_own (ρ := ρ) k s a hT ha hn hm hk
  refine ⟨n, zW n v, m, zW m w, by rw [lst_zW]; exact h1, by rw [lst_zW]; exact h2, fun κ => ?_⟩
  rw [callP_eq, h3, pk_endA]
end Go.Proofs.YticcbbcgboddpaaC
