/- For every table and every lock Ask, Release and Withdraw tell the document's table, answer and error, and what they hand back shares nothing with what they were handed: the law's function hands back true and leaves what it was handed. No conditions. -/
import Derived.Test.YticcbbcgboddpaaBLocksTurns5
import Derived.Test.YticcbbcgboddpaaRows
import Derived.WalkKit
import Derived.ProofKit
import Derived.OpenShut
import Derived.ShutString
import Derived.ChangeOld
import Derived.Below
import Derived.SizedLaws
import Derived.Carry
set_option linter.unusedVariables false
set_option linter.unusedSimpArgs false
set_option linter.unusedSectionVars false
set_option maxRecDepth 20000
namespace Go.Proofs.YticcbbcgboddpaaC
open Go Go.Ev Go.Proofs
def zI (n : Nat) (v : Nat → Int) : Nat → Int := if n = 0 then fun _ => 0 else v
theorem lst_zI (n : Nat) (v : Nat → Int) : lst n (zI n v) = lst n v := by
  unfold zI
  split
  · rename_i h; subst h; rfl
  · rfl
theorem pk_endK (κ : AV → Option Bool) (tn : Nat) (tw : Nat → Int) (n : Nat) (v : Nat → TLock) (m : Nat) (w : Nat → TLock) (e : Int) (ht : tn ≠ 0 → n ≠ 0) : endK tn tw n v m w e (pk κ) = κ (.tup [.agg (eLocks ⟨⟨n, zW n v, false⟩, ⟨m, zW m w, false⟩⟩), .sl 1 tn (rowOf (eI .u64) (zI tn tw)) false, .int .i64 e]) := by
  by_cases h0 : tn = 0
  · by_cases h1 : n = 0
    · by_cases h2 : m = 0
      · rw [endK_000 h0 h1 h2]; subst h0; subst h1; subst h2; rfl
      · rw [endK_001 h0 h1 h2]; subst h0; subst h1
        show κ (.tup [.agg [.sl 5 0 (rowOf eLock (fun _ => zLock)) false, .sl 5 m (fun i => rowOf eLock w (0 + i)) false], .sl 1 0 (rowOf (eI .u64) (fun _ => 0)) false, .int .i64 e]) = _
        unfold zW zI
        rw [zrow, if_pos rfl, if_pos rfl, if_neg h2]; rfl
    · by_cases h2 : m = 0
      · rw [endK_010 h0 h1 h2]; subst h0; subst h2
        show κ (.tup [.agg [.sl 5 n (fun i => rowOf eLock v (0 + i)) false, .sl 5 0 (rowOf eLock (fun _ => zLock)) false], .sl 1 0 (rowOf (eI .u64) (fun _ => 0)) false, .int .i64 e]) = _
        unfold zW zI
        rw [zrow, if_pos rfl, if_pos rfl, if_neg h1]; rfl
      · rw [endK_011 h0 h1 h2]; subst h0
        show κ (.tup [.agg [.sl 5 n (fun i => rowOf eLock v (0 + i)) false, .sl 5 m (fun i => rowOf eLock w (0 + i)) false], .sl 1 0 (rowOf (eI .u64) (fun _ => 0)) false, .int .i64 e]) = _
        unfold zW zI
        rw [zrow, zrow, if_pos rfl, if_neg h1, if_neg h2]; rfl
  · have h1 := ht h0
    by_cases h2 : m = 0
    · rw [endK_110 h0 h1 h2]; subst h2
      show κ (.tup [.agg [.sl 5 n (fun i => rowOf eLock v (0 + i)) false, .sl 5 0 (rowOf eLock (fun _ => zLock)) false], .sl 1 tn (rowOf (eI .u64) fun i => tw (0 + i)) false, .int .i64 e]) = _
      unfold zW zI
      rw [zrow, zrowI, if_pos rfl, if_neg h1, if_neg h0]; rfl
    · rw [endK_111 h0 h1 h2]
      show κ (.tup [.agg [.sl 5 n (fun i => rowOf eLock v (0 + i)) false, .sl 5 m (fun i => rowOf eLock w (0 + i)) false], .sl 1 tn (rowOf (eI .u64) fun i => tw (0 + i)) false, .int .i64 e]) = _
      unfold zW zI
      rw [zrow, zrow, zrowI, if_neg h1, if_neg h2, if_neg h0]; rfl
def Both (f g : Nat) (K : Nat) (s l : TLocks) (tx : Int) : Prop := ∃ (tn : Nat) (tw : Nat → Int) (n : Nat) (v : Nat → TLock) (m : Nat) (w : Nat → TLock) (tn' : Nat) (tw' : Nat → Int) (n' : Nat) (v' : Nat → TLock) (m' : Nat) (w' : Nat → TLock) (e : Int),
  lst tn tw = lst tn' tw' ∧ lst n v = lst n' v' ∧ lst m w = lst m' w' ∧ (tn ≠ 0 → n ≠ 0) ∧ tn ≤ 1000 ∧ n ≤ 1000 ∧ m ≤ 1000 ∧ (∀ κ : AV → Heap → Option Bool, evalF ctx K f [.agg (eLocks s), .int .u64 tx] [] κ = endK tn tw n v m w e κ) ∧
  ∀ κ : AV → Option Bool, callP ctx K g [.agg (eLocks l), .int .u64 tx] κ = κ (.tup [.agg (eLocks ⟨⟨n', v', false⟩, ⟨m', w', false⟩⟩), .sl 1 tn' (rowOf (eI .u64) tw') false, .int .i64 e])
theorem both_bad {f g K : Nat} {s l : TLocks} {tx : Int} (h1 : ∀ κ : AV → Heap → Option Bool, evalF ctx K f [.agg (eLocks s), .int .u64 tx] [] κ = endK 0 (fun _ => 0) 0 (fun _ => zLock) 0 (fun _ => zLock) 220 κ) (h2 : ∀ κ : AV → Heap → Option Bool, evalF ctx K g [.agg (eLocks l), .int .u64 tx] [] κ = endK 0 (fun _ => 0) 0 (fun _ => zLock) 0 (fun _ => zLock) 220 κ) : Both f g K s l tx :=
  ⟨0, fun _ => 0, 0, fun _ => zLock, 0, fun _ => zLock, 0, fun _ => 0, 0, fun _ => zLock, 0, fun _ => zLock, 220, rfl, rfl, rfl, fun h => absurd rfl h, by omega, by omega, by omega, h1, fun κ => by rw [callP_eq, h2]; exact endK_000 rfl rfl rfl⟩
theorem both_ok {f g K : Nat} {s l : TLocks} {tx : Int} {A B : List TLock} (hA : A.length + B.length ≤ 500) (h1 : OwnR f A B K s tx Bool) (h2 : OwnR g A B K l tx Bool) : Both f g K s l tx := by
  obtain ⟨tn, tw, n, v, m, w, a1, a2, a3, a4⟩ := h1
  obtain ⟨tn', tw', n', v', m', w', b1, b2, b3, b4⟩ := h2
  have hl := serveF_len A B [] []
  have l1 := congrArg List.length a1
  have l2 := congrArg List.length a2
  have l3 := congrArg List.length a3
  have k1 := congrArg List.length b1
  have k2 := congrArg List.length b2
  rw [lst_len, len_tx] at l1 k1
  rw [lst_len, List.length_append] at l2 k2
  rw [lst_len] at l3
  simp only [List.length_nil] at hl
  refine ⟨tn, tw, n, v, m, w, tn', zI tn' tw', n', zW n' v', m', zW m' w', 0, by rw [lst_zI, a1, b1], by rw [lst_zW, a2, b2], by rw [lst_zW, a3, b3], by omega, by omega, by omega, by omega, a4, fun κ => ?_⟩
  rw [callP_eq, b4, pk_endK κ tn' tw' n' v' m' w' 0 (by omega)]
theorem lst_same {α : Type} {n : Nat} {v w : Nat → α} (h : ∀ i, i < n → v i = w i) : lst n v = lst n w := by
  unfold lst
  exact List.map_congr_left fun i hi => h i (List.mem_range.1 hi)
theorem lst0i {n : Nat} {v : Nat → Int} {L : List Int} (h : lst n v = L) : lst n (fun i => v (0 + i)) = L := by rw [show (fun i => v (0 + i)) = v from funext fun i => by rw [Nat.zero_add]]; exact h
theorem and_t {a b : Bool} (h1 : a = true) (h2 : b = true) : (a && b) = true := by rw [h1, h2]; rfl
section
variable (K : Nat) (hK : 3000 ≤ K) (l : TLocks) (o : TLock) (h w : Sl TLock) (κ : AV → Heap → Option Bool) (hκ : ∀ b H, κ (.bool b) H = some b)
  (hh : ∀ κ : AV → Option Bool, callP ctx K n_law22_head [] κ = κ (.bool true)) (hsame : ∀ κ : AV → Option Bool, callP ctx K n_r22_Same [.agg (eLocks ⟨⟨h.n, h.w, false⟩, ⟨w.n, w.w, false⟩⟩), .agg (eLocks l)] κ = κ (.bool true))
  (wb : Both n_locks_Withdraw n_r22_Withdraw K ⟨⟨h.n, h.w, false⟩, ⟨w.n, w.w, false⟩⟩ l o.Tx) (rb : Both n_locks_Release n_r22_Release K ⟨⟨h.n, h.w, false⟩, ⟨w.n, w.w, false⟩⟩ l o.Tx)
include hK hκ hh hsame wb rb
theorem st27 (b3 b4 : Sl TLock) (e1 e2 : Int) : evalF ctx K n_locks_Withdraw [.agg (eLocks ⟨⟨h.n, h.w, false⟩, ⟨w.n, w.w, false⟩⟩), .int .u64 o.Tx] [] (law22_LocksTurns_r27 K l o b3 ⟨⟨h.n, h.w, false⟩, ⟨w.n, w.w, false⟩⟩ b4 e1 e2 κ) = some true := by
  obtain ⟨tn, tw, n, v, m, w0, tn', tw', n', v', m', w', e, f1, f2, f3, ht, z1, z2, z3, q, p⟩ := wb
  by_cases hn0 : n = 0
  · have ht0 : tn = 0 := by
      by_cases hx : tn = 0
      · exact hx
      · exact absurd hn0 (ht hx)
    by_cases hm0 : m = 0
    ·
      rw [q, endK_000 ht0 hn0 hm0]
      refine (law22_LocksTurns_r27_s ..).trans ?_
      rw [p]
      refine (law22_LocksTurns_r31_s (r31a := ⟨⟨n', v', false⟩, ⟨m', w', false⟩⟩) (r31b := ⟨tn', tw', false⟩) ..).trans ?_
      refine (r22_Same_ok K _ _ (by dsimp only; omega) (by dsimp only; omega) (by dsimp only; omega) _).trans ?_
      refine Eq.trans (congrArg _ (congrArg AV.bool (and_t (sameB_of (by rw [← f2, hn0]; rfl)) (sameB_of (by rw [← f3, hm0]; rfl))))) ?_
      refine (law22_LocksTurns_r39_s ..).trans ?_
      rw [Bool.not_true, cond_false]
      refine (SameIds_ok K _ _ _ _ _ _ (by first | omega | (dsimp only; omega)) (by first | omega | (dsimp only; omega)) _).trans ?_
      refine Eq.trans (congrArg _ (congrArg AV.bool (sameI_of (by rw [← f1, ht0]; rfl)))) ?_
      refine (law22_LocksTurns_r47_s ..).trans ?_
      rw [Bool.not_true, cond_false, dec_int, Bool.not_true, cond_false]
      exact F0 K hK l h w κ hκ hh hsame _ _ _ 
    ·
      rw [q, endK_001 ht0 hn0 hm0]
      refine (law22_LocksTurns_r27_s3 ..).trans ?_
      rw [p]
      refine (law22_LocksTurns_r31_s (r31a := ⟨⟨n', v', false⟩, ⟨m', w', false⟩⟩) (r31b := ⟨tn', tw', false⟩) ..).trans ?_
      refine (r22_Same_ok K _ _ (by dsimp only; omega) (by dsimp only; omega) (by dsimp only; omega) _).trans ?_
      refine Eq.trans (congrArg _ (congrArg AV.bool (and_t (sameB_of (by rw [← f2, hn0]; rfl)) (sameB_of (lst0z f3))))) ?_
      refine (law22_LocksTurns_r39_s ..).trans ?_
      rw [Bool.not_true, cond_false]
      refine (SameIds_ok K _ _ _ _ _ _ (by first | omega | (dsimp only; omega)) (by first | omega | (dsimp only; omega)) _).trans ?_
      refine Eq.trans (congrArg _ (congrArg AV.bool (sameI_of (by rw [← f1, ht0]; rfl)))) ?_
      refine (law22_LocksTurns_r47_s ..).trans ?_
      rw [Bool.not_true, cond_false, dec_int, Bool.not_true, cond_false]
      exact F0 K hK l h w κ hκ hh hsame _ _ _ 
  · by_cases ht0 : tn = 0
    · by_cases hm0 : m = 0
      ·
        rw [q, endK_010 ht0 hn0 hm0]
        refine (law22_LocksTurns_r27_s1 ..).trans ?_
        rw [p]
        refine (law22_LocksTurns_r32_s (r32a := ⟨⟨n', v', false⟩, ⟨m', w', false⟩⟩) (r32b := ⟨tn', tw', false⟩) ..).trans ?_
        refine (r22_Same_ok K _ _ (by dsimp only; omega) (by dsimp only; omega) (by dsimp only; omega) _).trans ?_
        refine Eq.trans (congrArg _ (congrArg AV.bool (and_t (sameB_of (lst0z f2)) (sameB_of (by rw [← f3, hm0]; rfl))))) ?_
        refine (law22_LocksTurns_r40_s ..).trans ?_
        rw [Bool.not_true, cond_false]
        refine (SameIds_ok K _ _ _ _ _ _ (by first | omega | (dsimp only; omega)) (by first | omega | (dsimp only; omega)) _).trans ?_
        refine Eq.trans (congrArg _ (congrArg AV.bool (sameI_of (by rw [← f1, ht0]; rfl)))) ?_
        refine (law22_LocksTurns_r48_s ..).trans ?_
        rw [Bool.not_true, cond_false, dec_int, Bool.not_true, cond_false]
        exact F1 K hK l h w κ hκ hh hsame _ _ _ _ _ z2
      ·
        rw [q, endK_011 ht0 hn0 hm0]
        refine (law22_LocksTurns_r27_s2 ..).trans ?_
        rw [p]
        refine (law22_LocksTurns_r32_s (r32a := ⟨⟨n', v', false⟩, ⟨m', w', false⟩⟩) (r32b := ⟨tn', tw', false⟩) ..).trans ?_
        refine (r22_Same_ok K _ _ (by dsimp only; omega) (by dsimp only; omega) (by dsimp only; omega) _).trans ?_
        refine Eq.trans (congrArg _ (congrArg AV.bool (and_t (sameB_of (lst0z f2)) (sameB_of (lst0z f3))))) ?_
        refine (law22_LocksTurns_r40_s ..).trans ?_
        rw [Bool.not_true, cond_false]
        refine (SameIds_ok K _ _ _ _ _ _ (by first | omega | (dsimp only; omega)) (by first | omega | (dsimp only; omega)) _).trans ?_
        refine Eq.trans (congrArg _ (congrArg AV.bool (sameI_of (by rw [← f1, ht0]; rfl)))) ?_
        refine (law22_LocksTurns_r48_s ..).trans ?_
        rw [Bool.not_true, cond_false, dec_int, Bool.not_true, cond_false]
        exact F1 K hK l h w κ hκ hh hsame _ _ _ _ _ z2
    · by_cases hm0 : m = 0
      ·
        rw [q, endK_110 ht0 hn0 hm0]
        refine (law22_LocksTurns_r27_s4 ..).trans ?_
        rw [p]
        refine (law22_LocksTurns_r32_s (r32a := ⟨⟨n', v', false⟩, ⟨m', w', false⟩⟩) (r32b := ⟨tn', tw', false⟩) ..).trans ?_
        refine (r22_Same_ok K _ _ (by dsimp only; omega) (by dsimp only; omega) (by dsimp only; omega) _).trans ?_
        refine Eq.trans (congrArg _ (congrArg AV.bool (and_t (sameB_of (lst0z f2)) (sameB_of (by rw [← f3, hm0]; rfl))))) ?_
        refine (law22_LocksTurns_r40_s ..).trans ?_
        rw [Bool.not_true, cond_false]
        refine (SameIds_ok K _ _ _ _ _ _ (by first | omega | (dsimp only; omega)) (by first | omega | (dsimp only; omega)) _).trans ?_
        refine Eq.trans (congrArg _ (congrArg AV.bool (sameI_of (lst0i f1)))) ?_
        refine (law22_LocksTurns_r48_s ..).trans ?_
        rw [Bool.not_true, cond_false, dec_int, Bool.not_true, cond_false]
        exact F1 K hK l h w κ hκ hh hsame _ _ _ _ _ z2
      ·
        rw [q, endK_111 ht0 hn0 hm0]
        refine (law22_LocksTurns_r27_s5 ..).trans ?_
        rw [p]
        refine (law22_LocksTurns_r32_s (r32a := ⟨⟨n', v', false⟩, ⟨m', w', false⟩⟩) (r32b := ⟨tn', tw', false⟩) ..).trans ?_
        refine (r22_Same_ok K _ _ (by dsimp only; omega) (by dsimp only; omega) (by dsimp only; omega) _).trans ?_
        refine Eq.trans (congrArg _ (congrArg AV.bool (and_t (sameB_of (lst0z f2)) (sameB_of (lst0z f3))))) ?_
        refine (law22_LocksTurns_r40_s ..).trans ?_
        rw [Bool.not_true, cond_false]
        refine (SameIds_ok K _ _ _ _ _ _ (by first | omega | (dsimp only; omega)) (by first | omega | (dsimp only; omega)) _).trans ?_
        refine Eq.trans (congrArg _ (congrArg AV.bool (sameI_of (lst0i f1)))) ?_
        refine (law22_LocksTurns_r48_s ..).trans ?_
        rw [Bool.not_true, cond_false, dec_int, Bool.not_true, cond_false]
        exact F1 K hK l h w κ hκ hh hsame _ _ _ _ _ z2
theorem st28 (b3 b4 : Sl TLock) (e1 e2 : Int) (n2 : Nat) (v2 : Nat → TLock) (g2 : n2 ≤ 1000) : evalF ctx K n_locks_Withdraw [.agg (eLocks ⟨⟨h.n, h.w, false⟩, ⟨w.n, w.w, false⟩⟩), .int .u64 o.Tx] [] (law22_LocksTurns_r28 K l o b3 ⟨⟨h.n, h.w, false⟩, ⟨w.n, w.w, false⟩⟩ b4 e1 n2 v2 e2 κ) = some true := by
  obtain ⟨tn, tw, n, v, m, w0, tn', tw', n', v', m', w', e, f1, f2, f3, ht, z1, z2, z3, q, p⟩ := wb
  by_cases hn0 : n = 0
  · have ht0 : tn = 0 := by
      by_cases hx : tn = 0
      · exact hx
      · exact absurd hn0 (ht hx)
    by_cases hm0 : m = 0
    ·
      rw [q, endK_000 ht0 hn0 hm0]
      refine (law22_LocksTurns_r28_s ..).trans ?_
      rw [p]
      refine (law22_LocksTurns_r33_s (r33a := ⟨⟨n', v', false⟩, ⟨m', w', false⟩⟩) (r33b := ⟨tn', tw', false⟩) ..).trans ?_
      refine (r22_Same_ok K _ _ (by dsimp only; omega) (by dsimp only; omega) (by dsimp only; omega) _).trans ?_
      refine Eq.trans (congrArg _ (congrArg AV.bool (and_t (sameB_of (by rw [← f2, hn0]; rfl)) (sameB_of (by rw [← f3, hm0]; rfl))))) ?_
      refine (law22_LocksTurns_r41_s ..).trans ?_
      rw [Bool.not_true, cond_false]
      refine (SameIds_ok K _ _ _ _ _ _ (by first | omega | (dsimp only; omega)) (by first | omega | (dsimp only; omega)) _).trans ?_
      refine Eq.trans (congrArg _ (congrArg AV.bool (sameI_of (by rw [← f1, ht0]; rfl)))) ?_
      refine (law22_LocksTurns_r49_s ..).trans ?_
      rw [Bool.not_true, cond_false, dec_int, Bool.not_true, cond_false]
      exact F2 K hK l h w κ hκ hh hsame _ _ _ _ _ g2
    ·
      rw [q, endK_001 ht0 hn0 hm0]
      refine (law22_LocksTurns_r28_s3 ..).trans ?_
      rw [p]
      refine (law22_LocksTurns_r33_s (r33a := ⟨⟨n', v', false⟩, ⟨m', w', false⟩⟩) (r33b := ⟨tn', tw', false⟩) ..).trans ?_
      refine (r22_Same_ok K _ _ (by dsimp only; omega) (by dsimp only; omega) (by dsimp only; omega) _).trans ?_
      refine Eq.trans (congrArg _ (congrArg AV.bool (and_t (sameB_of (by rw [← f2, hn0]; rfl)) (sameB_of (lst0z f3))))) ?_
      refine (law22_LocksTurns_r41_s ..).trans ?_
      rw [Bool.not_true, cond_false]
      refine (SameIds_ok K _ _ _ _ _ _ (by first | omega | (dsimp only; omega)) (by first | omega | (dsimp only; omega)) _).trans ?_
      refine Eq.trans (congrArg _ (congrArg AV.bool (sameI_of (by rw [← f1, ht0]; rfl)))) ?_
      refine (law22_LocksTurns_r49_s ..).trans ?_
      rw [Bool.not_true, cond_false, dec_int, Bool.not_true, cond_false]
      exact F2 K hK l h w κ hκ hh hsame _ _ _ _ _ g2
  · by_cases ht0 : tn = 0
    · by_cases hm0 : m = 0
      ·
        rw [q, endK_010 ht0 hn0 hm0]
        refine (law22_LocksTurns_r28_s1 ..).trans ?_
        rw [p]
        refine (law22_LocksTurns_r34_s (r34a := ⟨⟨n', v', false⟩, ⟨m', w', false⟩⟩) (r34b := ⟨tn', tw', false⟩) ..).trans ?_
        refine (r22_Same_ok K _ _ (by dsimp only; omega) (by dsimp only; omega) (by dsimp only; omega) _).trans ?_
        refine Eq.trans (congrArg _ (congrArg AV.bool (and_t (sameB_of (lst0z f2)) (sameB_of (by rw [← f3, hm0]; rfl))))) ?_
        refine (law22_LocksTurns_r42_s ..).trans ?_
        rw [Bool.not_true, cond_false]
        refine (SameIds_ok K _ _ _ _ _ _ (by first | omega | (dsimp only; omega)) (by first | omega | (dsimp only; omega)) _).trans ?_
        refine Eq.trans (congrArg _ (congrArg AV.bool (sameI_of (by rw [← f1, ht0]; rfl)))) ?_
        refine (law22_LocksTurns_r50_s ..).trans ?_
        rw [Bool.not_true, cond_false, dec_int, Bool.not_true, cond_false]
        exact F3 K hK l h w κ hκ hh hsame _ _ _ _ _ g2 _ _ z2
      ·
        rw [q, endK_011 ht0 hn0 hm0]
        refine (law22_LocksTurns_r28_s2 ..).trans ?_
        rw [p]
        refine (law22_LocksTurns_r34_s (r34a := ⟨⟨n', v', false⟩, ⟨m', w', false⟩⟩) (r34b := ⟨tn', tw', false⟩) ..).trans ?_
        refine (r22_Same_ok K _ _ (by dsimp only; omega) (by dsimp only; omega) (by dsimp only; omega) _).trans ?_
        refine Eq.trans (congrArg _ (congrArg AV.bool (and_t (sameB_of (lst0z f2)) (sameB_of (lst0z f3))))) ?_
        refine (law22_LocksTurns_r42_s ..).trans ?_
        rw [Bool.not_true, cond_false]
        refine (SameIds_ok K _ _ _ _ _ _ (by first | omega | (dsimp only; omega)) (by first | omega | (dsimp only; omega)) _).trans ?_
        refine Eq.trans (congrArg _ (congrArg AV.bool (sameI_of (by rw [← f1, ht0]; rfl)))) ?_
        refine (law22_LocksTurns_r50_s ..).trans ?_
        rw [Bool.not_true, cond_false, dec_int, Bool.not_true, cond_false]
        exact F3 K hK l h w κ hκ hh hsame _ _ _ _ _ g2 _ _ z2
    · by_cases hm0 : m = 0
      ·
        rw [q, endK_110 ht0 hn0 hm0]
        refine (law22_LocksTurns_r28_s4 ..).trans ?_
        rw [p]
        refine (law22_LocksTurns_r34_s (r34a := ⟨⟨n', v', false⟩, ⟨m', w', false⟩⟩) (r34b := ⟨tn', tw', false⟩) ..).trans ?_
        refine (r22_Same_ok K _ _ (by dsimp only; omega) (by dsimp only; omega) (by dsimp only; omega) _).trans ?_
        refine Eq.trans (congrArg _ (congrArg AV.bool (and_t (sameB_of (lst0z f2)) (sameB_of (by rw [← f3, hm0]; rfl))))) ?_
        refine (law22_LocksTurns_r42_s ..).trans ?_
        rw [Bool.not_true, cond_false]
        refine (SameIds_ok K _ _ _ _ _ _ (by first | omega | (dsimp only; omega)) (by first | omega | (dsimp only; omega)) _).trans ?_
        refine Eq.trans (congrArg _ (congrArg AV.bool (sameI_of (lst0i f1)))) ?_
        refine (law22_LocksTurns_r50_s ..).trans ?_
        rw [Bool.not_true, cond_false, dec_int, Bool.not_true, cond_false]
        exact F3 K hK l h w κ hκ hh hsame _ _ _ _ _ g2 _ _ z2
      ·
        rw [q, endK_111 ht0 hn0 hm0]
        refine (law22_LocksTurns_r28_s5 ..).trans ?_
        rw [p]
        refine (law22_LocksTurns_r34_s (r34a := ⟨⟨n', v', false⟩, ⟨m', w', false⟩⟩) (r34b := ⟨tn', tw', false⟩) ..).trans ?_
        refine (r22_Same_ok K _ _ (by dsimp only; omega) (by dsimp only; omega) (by dsimp only; omega) _).trans ?_
        refine Eq.trans (congrArg _ (congrArg AV.bool (and_t (sameB_of (lst0z f2)) (sameB_of (lst0z f3))))) ?_
        refine (law22_LocksTurns_r42_s ..).trans ?_
        rw [Bool.not_true, cond_false]
        refine (SameIds_ok K _ _ _ _ _ _ (by first | omega | (dsimp only; omega)) (by first | omega | (dsimp only; omega)) _).trans ?_
        refine Eq.trans (congrArg _ (congrArg AV.bool (sameI_of (lst0i f1)))) ?_
        refine (law22_LocksTurns_r50_s ..).trans ?_
        rw [Bool.not_true, cond_false, dec_int, Bool.not_true, cond_false]
        exact F3 K hK l h w κ hκ hh hsame _ _ _ _ _ g2 _ _ z2
theorem st29 (b3 b4 : Sl TLock) (e1 e2 : Int) (n1 : Nat) (v1 : Nat → TLock) (g1 : n1 ≤ 1000) : evalF ctx K n_locks_Withdraw [.agg (eLocks ⟨⟨h.n, h.w, false⟩, ⟨w.n, w.w, false⟩⟩), .int .u64 o.Tx] [] (law22_LocksTurns_r29 K l o b3 ⟨⟨h.n, h.w, false⟩, ⟨w.n, w.w, false⟩⟩ b4 n1 v1 e1 e2 κ) = some true := by
  obtain ⟨tn, tw, n, v, m, w0, tn', tw', n', v', m', w', e, f1, f2, f3, ht, z1, z2, z3, q, p⟩ := wb
  by_cases hn0 : n = 0
  · have ht0 : tn = 0 := by
      by_cases hx : tn = 0
      · exact hx
      · exact absurd hn0 (ht hx)
    by_cases hm0 : m = 0
    ·
      rw [q, endK_000 ht0 hn0 hm0]
      refine (law22_LocksTurns_r29_s ..).trans ?_
      rw [p]
      refine (law22_LocksTurns_r35_s (r35a := ⟨⟨n', v', false⟩, ⟨m', w', false⟩⟩) (r35b := ⟨tn', tw', false⟩) ..).trans ?_
      refine (r22_Same_ok K _ _ (by dsimp only; omega) (by dsimp only; omega) (by dsimp only; omega) _).trans ?_
      refine Eq.trans (congrArg _ (congrArg AV.bool (and_t (sameB_of (by rw [← f2, hn0]; rfl)) (sameB_of (by rw [← f3, hm0]; rfl))))) ?_
      refine (law22_LocksTurns_r43_s ..).trans ?_
      rw [Bool.not_true, cond_false]
      refine (SameIds_ok K _ _ _ _ _ _ (by first | omega | (dsimp only; omega)) (by first | omega | (dsimp only; omega)) _).trans ?_
      refine Eq.trans (congrArg _ (congrArg AV.bool (sameI_of (by rw [← f1, ht0]; rfl)))) ?_
      refine (law22_LocksTurns_r51_s ..).trans ?_
      rw [Bool.not_true, cond_false, dec_int, Bool.not_true, cond_false]
      exact F4 K hK l h w κ hκ hh hsame _ _ _ _ _ g1
    ·
      rw [q, endK_001 ht0 hn0 hm0]
      refine (law22_LocksTurns_r29_s3 ..).trans ?_
      rw [p]
      refine (law22_LocksTurns_r35_s (r35a := ⟨⟨n', v', false⟩, ⟨m', w', false⟩⟩) (r35b := ⟨tn', tw', false⟩) ..).trans ?_
      refine (r22_Same_ok K _ _ (by dsimp only; omega) (by dsimp only; omega) (by dsimp only; omega) _).trans ?_
      refine Eq.trans (congrArg _ (congrArg AV.bool (and_t (sameB_of (by rw [← f2, hn0]; rfl)) (sameB_of (lst0z f3))))) ?_
      refine (law22_LocksTurns_r43_s ..).trans ?_
      rw [Bool.not_true, cond_false]
      refine (SameIds_ok K _ _ _ _ _ _ (by first | omega | (dsimp only; omega)) (by first | omega | (dsimp only; omega)) _).trans ?_
      refine Eq.trans (congrArg _ (congrArg AV.bool (sameI_of (by rw [← f1, ht0]; rfl)))) ?_
      refine (law22_LocksTurns_r51_s ..).trans ?_
      rw [Bool.not_true, cond_false, dec_int, Bool.not_true, cond_false]
      exact F4 K hK l h w κ hκ hh hsame _ _ _ _ _ g1
  · by_cases ht0 : tn = 0
    · by_cases hm0 : m = 0
      ·
        rw [q, endK_010 ht0 hn0 hm0]
        refine (law22_LocksTurns_r29_s1 ..).trans ?_
        rw [p]
        refine (law22_LocksTurns_r36_s (r36a := ⟨⟨n', v', false⟩, ⟨m', w', false⟩⟩) (r36b := ⟨tn', tw', false⟩) ..).trans ?_
        refine (r22_Same_ok K _ _ (by dsimp only; omega) (by dsimp only; omega) (by dsimp only; omega) _).trans ?_
        refine Eq.trans (congrArg _ (congrArg AV.bool (and_t (sameB_of (lst0z f2)) (sameB_of (by rw [← f3, hm0]; rfl))))) ?_
        refine (law22_LocksTurns_r44_s ..).trans ?_
        rw [Bool.not_true, cond_false]
        refine (SameIds_ok K _ _ _ _ _ _ (by first | omega | (dsimp only; omega)) (by first | omega | (dsimp only; omega)) _).trans ?_
        refine Eq.trans (congrArg _ (congrArg AV.bool (sameI_of (by rw [← f1, ht0]; rfl)))) ?_
        refine (law22_LocksTurns_r52_s ..).trans ?_
        rw [Bool.not_true, cond_false, dec_int, Bool.not_true, cond_false]
        exact F5 K hK l h w κ hκ hh hsame _ _ _ _ _ g1 _ _ z2
      ·
        rw [q, endK_011 ht0 hn0 hm0]
        refine (law22_LocksTurns_r29_s2 ..).trans ?_
        rw [p]
        refine (law22_LocksTurns_r36_s (r36a := ⟨⟨n', v', false⟩, ⟨m', w', false⟩⟩) (r36b := ⟨tn', tw', false⟩) ..).trans ?_
        refine (r22_Same_ok K _ _ (by dsimp only; omega) (by dsimp only; omega) (by dsimp only; omega) _).trans ?_
        refine Eq.trans (congrArg _ (congrArg AV.bool (and_t (sameB_of (lst0z f2)) (sameB_of (lst0z f3))))) ?_
        refine (law22_LocksTurns_r44_s ..).trans ?_
        rw [Bool.not_true, cond_false]
        refine (SameIds_ok K _ _ _ _ _ _ (by first | omega | (dsimp only; omega)) (by first | omega | (dsimp only; omega)) _).trans ?_
        refine Eq.trans (congrArg _ (congrArg AV.bool (sameI_of (by rw [← f1, ht0]; rfl)))) ?_
        refine (law22_LocksTurns_r52_s ..).trans ?_
        rw [Bool.not_true, cond_false, dec_int, Bool.not_true, cond_false]
        exact F5 K hK l h w κ hκ hh hsame _ _ _ _ _ g1 _ _ z2
    · by_cases hm0 : m = 0
      ·
        rw [q, endK_110 ht0 hn0 hm0]
        refine (law22_LocksTurns_r29_s4 ..).trans ?_
        rw [p]
        refine (law22_LocksTurns_r36_s (r36a := ⟨⟨n', v', false⟩, ⟨m', w', false⟩⟩) (r36b := ⟨tn', tw', false⟩) ..).trans ?_
        refine (r22_Same_ok K _ _ (by dsimp only; omega) (by dsimp only; omega) (by dsimp only; omega) _).trans ?_
        refine Eq.trans (congrArg _ (congrArg AV.bool (and_t (sameB_of (lst0z f2)) (sameB_of (by rw [← f3, hm0]; rfl))))) ?_
        refine (law22_LocksTurns_r44_s ..).trans ?_
        rw [Bool.not_true, cond_false]
        refine (SameIds_ok K _ _ _ _ _ _ (by first | omega | (dsimp only; omega)) (by first | omega | (dsimp only; omega)) _).trans ?_
        refine Eq.trans (congrArg _ (congrArg AV.bool (sameI_of (lst0i f1)))) ?_
        refine (law22_LocksTurns_r52_s ..).trans ?_
        rw [Bool.not_true, cond_false, dec_int, Bool.not_true, cond_false]
        exact F5 K hK l h w κ hκ hh hsame _ _ _ _ _ g1 _ _ z2
      ·
        rw [q, endK_111 ht0 hn0 hm0]
        refine (law22_LocksTurns_r29_s5 ..).trans ?_
        rw [p]
        refine (law22_LocksTurns_r36_s (r36a := ⟨⟨n', v', false⟩, ⟨m', w', false⟩⟩) (r36b := ⟨tn', tw', false⟩) ..).trans ?_
        refine (r22_Same_ok K _ _ (by dsimp only; omega) (by dsimp only; omega) (by dsimp only; omega) _).trans ?_
        refine Eq.trans (congrArg _ (congrArg AV.bool (and_t (sameB_of (lst0z f2)) (sameB_of (lst0z f3))))) ?_
        refine (law22_LocksTurns_r44_s ..).trans ?_
        rw [Bool.not_true, cond_false]
        refine (SameIds_ok K _ _ _ _ _ _ (by first | omega | (dsimp only; omega)) (by first | omega | (dsimp only; omega)) _).trans ?_
        refine Eq.trans (congrArg _ (congrArg AV.bool (sameI_of (lst0i f1)))) ?_
        refine (law22_LocksTurns_r52_s ..).trans ?_
        rw [Bool.not_true, cond_false, dec_int, Bool.not_true, cond_false]
        exact F5 K hK l h w κ hκ hh hsame _ _ _ _ _ g1 _ _ z2
theorem st30 (b3 b4 : Sl TLock) (e1 e2 : Int) (n1 : Nat) (v1 : Nat → TLock) (g1 : n1 ≤ 1000) (n2 : Nat) (v2 : Nat → TLock) (g2 : n2 ≤ 1000) : evalF ctx K n_locks_Withdraw [.agg (eLocks ⟨⟨h.n, h.w, false⟩, ⟨w.n, w.w, false⟩⟩), .int .u64 o.Tx] [] (law22_LocksTurns_r30 K l o b3 ⟨⟨h.n, h.w, false⟩, ⟨w.n, w.w, false⟩⟩ b4 n1 v1 e1 n2 v2 e2 κ) = some true := by
  obtain ⟨tn, tw, n, v, m, w0, tn', tw', n', v', m', w', e, f1, f2, f3, ht, z1, z2, z3, q, p⟩ := wb
  by_cases hn0 : n = 0
  · have ht0 : tn = 0 := by
      by_cases hx : tn = 0
      · exact hx
      · exact absurd hn0 (ht hx)
    by_cases hm0 : m = 0
    ·
      rw [q, endK_000 ht0 hn0 hm0]
      refine (law22_LocksTurns_r30_s ..).trans ?_
      rw [p]
      refine (law22_LocksTurns_r37_s (r37a := ⟨⟨n', v', false⟩, ⟨m', w', false⟩⟩) (r37b := ⟨tn', tw', false⟩) ..).trans ?_
      refine (r22_Same_ok K _ _ (by dsimp only; omega) (by dsimp only; omega) (by dsimp only; omega) _).trans ?_
      refine Eq.trans (congrArg _ (congrArg AV.bool (and_t (sameB_of (by rw [← f2, hn0]; rfl)) (sameB_of (by rw [← f3, hm0]; rfl))))) ?_
      refine (law22_LocksTurns_r45_s ..).trans ?_
      rw [Bool.not_true, cond_false]
      refine (SameIds_ok K _ _ _ _ _ _ (by first | omega | (dsimp only; omega)) (by first | omega | (dsimp only; omega)) _).trans ?_
      refine Eq.trans (congrArg _ (congrArg AV.bool (sameI_of (by rw [← f1, ht0]; rfl)))) ?_
      refine (law22_LocksTurns_r53_s ..).trans ?_
      rw [Bool.not_true, cond_false, dec_int, Bool.not_true, cond_false]
      exact F6 K hK l h w κ hκ hh hsame _ _ _ _ _ g1 _ _ g2
    ·
      rw [q, endK_001 ht0 hn0 hm0]
      refine (law22_LocksTurns_r30_s3 ..).trans ?_
      rw [p]
      refine (law22_LocksTurns_r37_s (r37a := ⟨⟨n', v', false⟩, ⟨m', w', false⟩⟩) (r37b := ⟨tn', tw', false⟩) ..).trans ?_
      refine (r22_Same_ok K _ _ (by dsimp only; omega) (by dsimp only; omega) (by dsimp only; omega) _).trans ?_
      refine Eq.trans (congrArg _ (congrArg AV.bool (and_t (sameB_of (by rw [← f2, hn0]; rfl)) (sameB_of (lst0z f3))))) ?_
      refine (law22_LocksTurns_r45_s ..).trans ?_
      rw [Bool.not_true, cond_false]
      refine (SameIds_ok K _ _ _ _ _ _ (by first | omega | (dsimp only; omega)) (by first | omega | (dsimp only; omega)) _).trans ?_
      refine Eq.trans (congrArg _ (congrArg AV.bool (sameI_of (by rw [← f1, ht0]; rfl)))) ?_
      refine (law22_LocksTurns_r53_s ..).trans ?_
      rw [Bool.not_true, cond_false, dec_int, Bool.not_true, cond_false]
      exact F6 K hK l h w κ hκ hh hsame _ _ _ _ _ g1 _ _ g2
  · by_cases ht0 : tn = 0
    · by_cases hm0 : m = 0
      ·
        rw [q, endK_010 ht0 hn0 hm0]
        refine (law22_LocksTurns_r30_s1 ..).trans ?_
        rw [p]
        refine (law22_LocksTurns_r38_s (r38a := ⟨⟨n', v', false⟩, ⟨m', w', false⟩⟩) (r38b := ⟨tn', tw', false⟩) ..).trans ?_
        refine (r22_Same_ok K _ _ (by dsimp only; omega) (by dsimp only; omega) (by dsimp only; omega) _).trans ?_
        refine Eq.trans (congrArg _ (congrArg AV.bool (and_t (sameB_of (lst0z f2)) (sameB_of (by rw [← f3, hm0]; rfl))))) ?_
        refine (law22_LocksTurns_r46_s ..).trans ?_
        rw [Bool.not_true, cond_false]
        refine (SameIds_ok K _ _ _ _ _ _ (by first | omega | (dsimp only; omega)) (by first | omega | (dsimp only; omega)) _).trans ?_
        refine Eq.trans (congrArg _ (congrArg AV.bool (sameI_of (by rw [← f1, ht0]; rfl)))) ?_
        refine (law22_LocksTurns_r54_s ..).trans ?_
        rw [Bool.not_true, cond_false, dec_int, Bool.not_true, cond_false]
        exact F7 K hK l h w κ hκ hh hsame _ _ _ _ _ g1 _ _ g2 _ _ z2
      ·
        rw [q, endK_011 ht0 hn0 hm0]
        refine (law22_LocksTurns_r30_s2 ..).trans ?_
        rw [p]
        refine (law22_LocksTurns_r38_s (r38a := ⟨⟨n', v', false⟩, ⟨m', w', false⟩⟩) (r38b := ⟨tn', tw', false⟩) ..).trans ?_
        refine (r22_Same_ok K _ _ (by dsimp only; omega) (by dsimp only; omega) (by dsimp only; omega) _).trans ?_
        refine Eq.trans (congrArg _ (congrArg AV.bool (and_t (sameB_of (lst0z f2)) (sameB_of (lst0z f3))))) ?_
        refine (law22_LocksTurns_r46_s ..).trans ?_
        rw [Bool.not_true, cond_false]
        refine (SameIds_ok K _ _ _ _ _ _ (by first | omega | (dsimp only; omega)) (by first | omega | (dsimp only; omega)) _).trans ?_
        refine Eq.trans (congrArg _ (congrArg AV.bool (sameI_of (by rw [← f1, ht0]; rfl)))) ?_
        refine (law22_LocksTurns_r54_s ..).trans ?_
        rw [Bool.not_true, cond_false, dec_int, Bool.not_true, cond_false]
        exact F7 K hK l h w κ hκ hh hsame _ _ _ _ _ g1 _ _ g2 _ _ z2
    · by_cases hm0 : m = 0
      ·
        rw [q, endK_110 ht0 hn0 hm0]
        refine (law22_LocksTurns_r30_s4 ..).trans ?_
        rw [p]
        refine (law22_LocksTurns_r38_s (r38a := ⟨⟨n', v', false⟩, ⟨m', w', false⟩⟩) (r38b := ⟨tn', tw', false⟩) ..).trans ?_
        refine (r22_Same_ok K _ _ (by dsimp only; omega) (by dsimp only; omega) (by dsimp only; omega) _).trans ?_
        refine Eq.trans (congrArg _ (congrArg AV.bool (and_t (sameB_of (lst0z f2)) (sameB_of (by rw [← f3, hm0]; rfl))))) ?_
        refine (law22_LocksTurns_r46_s ..).trans ?_
        rw [Bool.not_true, cond_false]
        refine (SameIds_ok K _ _ _ _ _ _ (by first | omega | (dsimp only; omega)) (by first | omega | (dsimp only; omega)) _).trans ?_
        refine Eq.trans (congrArg _ (congrArg AV.bool (sameI_of (lst0i f1)))) ?_
        refine (law22_LocksTurns_r54_s ..).trans ?_
        rw [Bool.not_true, cond_false, dec_int, Bool.not_true, cond_false]
        exact F7 K hK l h w κ hκ hh hsame _ _ _ _ _ g1 _ _ g2 _ _ z2
      ·
        rw [q, endK_111 ht0 hn0 hm0]
        refine (law22_LocksTurns_r30_s5 ..).trans ?_
        rw [p]
        refine (law22_LocksTurns_r38_s (r38a := ⟨⟨n', v', false⟩, ⟨m', w', false⟩⟩) (r38b := ⟨tn', tw', false⟩) ..).trans ?_
        refine (r22_Same_ok K _ _ (by dsimp only; omega) (by dsimp only; omega) (by dsimp only; omega) _).trans ?_
        refine Eq.trans (congrArg _ (congrArg AV.bool (and_t (sameB_of (lst0z f2)) (sameB_of (lst0z f3))))) ?_
        refine (law22_LocksTurns_r46_s ..).trans ?_
        rw [Bool.not_true, cond_false]
        refine (SameIds_ok K _ _ _ _ _ _ (by first | omega | (dsimp only; omega)) (by first | omega | (dsimp only; omega)) _).trans ?_
        refine Eq.trans (congrArg _ (congrArg AV.bool (sameI_of (lst0i f1)))) ?_
        refine (law22_LocksTurns_r54_s ..).trans ?_
        rw [Bool.not_true, cond_false, dec_int, Bool.not_true, cond_false]
        exact F7 K hK l h w κ hκ hh hsame _ _ _ _ _ g1 _ _ g2 _ _ z2
theorem st13 (b3 : Sl TLock) (e1 e2 : Int) : evalF ctx K n_locks_Release [.agg (eLocks ⟨⟨h.n, h.w, false⟩, ⟨w.n, w.w, false⟩⟩), .int .u64 o.Tx] [] (law22_LocksTurns_r13 K l o b3 ⟨⟨h.n, h.w, false⟩, ⟨w.n, w.w, false⟩⟩ e1 e2 κ) = some true := by
  obtain ⟨tn, tw, n, v, m, w0, tn', tw', n', v', m', w', e, f1, f2, f3, ht, z1, z2, z3, q, p⟩ := rb
  by_cases hn0 : n = 0
  · have ht0 : tn = 0 := by
      by_cases hx : tn = 0
      · exact hx
      · exact absurd hn0 (ht hx)
    by_cases hm0 : m = 0
    ·
      rw [q, endK_000 ht0 hn0 hm0]
      refine (law22_LocksTurns_r13_s ..).trans ?_
      rw [p]
      refine (law22_LocksTurns_r15_s (r15a := ⟨⟨n', v', false⟩, ⟨m', w', false⟩⟩) (r15b := ⟨tn', tw', false⟩) ..).trans ?_
      refine (r22_Same_ok K _ _ (by dsimp only; omega) (by dsimp only; omega) (by dsimp only; omega) _).trans ?_
      refine Eq.trans (congrArg _ (congrArg AV.bool (and_t (sameB_of (by rw [← f2, hn0]; rfl)) (sameB_of (by rw [← f3, hm0]; rfl))))) ?_
      refine (law22_LocksTurns_r19_s ..).trans ?_
      rw [Bool.not_true, cond_false]
      refine (SameIds_ok K _ _ _ _ _ _ (by first | omega | (dsimp only; omega)) (by first | omega | (dsimp only; omega)) _).trans ?_
      refine Eq.trans (congrArg _ (congrArg AV.bool (sameI_of (by rw [← f1, ht0]; rfl)))) ?_
      refine (law22_LocksTurns_r23_s ..).trans ?_
      rw [Bool.not_true, cond_false, dec_int, Bool.not_true, cond_false]
      exact st27 K hK l o h w κ hκ hh hsame wb ⟨tn, tw, n, v, m, w0, tn', tw', n', v', m', w', e, f1, f2, f3, ht, z1, z2, z3, q, p⟩ _ _ _ _
    ·
      rw [q, endK_001 ht0 hn0 hm0]
      refine (law22_LocksTurns_r13_s3 ..).trans ?_
      rw [p]
      refine (law22_LocksTurns_r15_s (r15a := ⟨⟨n', v', false⟩, ⟨m', w', false⟩⟩) (r15b := ⟨tn', tw', false⟩) ..).trans ?_
      refine (r22_Same_ok K _ _ (by dsimp only; omega) (by dsimp only; omega) (by dsimp only; omega) _).trans ?_
      refine Eq.trans (congrArg _ (congrArg AV.bool (and_t (sameB_of (by rw [← f2, hn0]; rfl)) (sameB_of (lst0z f3))))) ?_
      refine (law22_LocksTurns_r19_s ..).trans ?_
      rw [Bool.not_true, cond_false]
      refine (SameIds_ok K _ _ _ _ _ _ (by first | omega | (dsimp only; omega)) (by first | omega | (dsimp only; omega)) _).trans ?_
      refine Eq.trans (congrArg _ (congrArg AV.bool (sameI_of (by rw [← f1, ht0]; rfl)))) ?_
      refine (law22_LocksTurns_r23_s ..).trans ?_
      rw [Bool.not_true, cond_false, dec_int, Bool.not_true, cond_false]
      exact st27 K hK l o h w κ hκ hh hsame wb ⟨tn, tw, n, v, m, w0, tn', tw', n', v', m', w', e, f1, f2, f3, ht, z1, z2, z3, q, p⟩ _ _ _ _
  · by_cases ht0 : tn = 0
    · by_cases hm0 : m = 0
      ·
        rw [q, endK_010 ht0 hn0 hm0]
        refine (law22_LocksTurns_r13_s1 ..).trans ?_
        rw [p]
        refine (law22_LocksTurns_r16_s (r16a := ⟨⟨n', v', false⟩, ⟨m', w', false⟩⟩) (r16b := ⟨tn', tw', false⟩) ..).trans ?_
        refine (r22_Same_ok K _ _ (by dsimp only; omega) (by dsimp only; omega) (by dsimp only; omega) _).trans ?_
        refine Eq.trans (congrArg _ (congrArg AV.bool (and_t (sameB_of (lst0z f2)) (sameB_of (by rw [← f3, hm0]; rfl))))) ?_
        refine (law22_LocksTurns_r20_s ..).trans ?_
        rw [Bool.not_true, cond_false]
        refine (SameIds_ok K _ _ _ _ _ _ (by first | omega | (dsimp only; omega)) (by first | omega | (dsimp only; omega)) _).trans ?_
        refine Eq.trans (congrArg _ (congrArg AV.bool (sameI_of (by rw [← f1, ht0]; rfl)))) ?_
        refine (law22_LocksTurns_r24_s ..).trans ?_
        rw [Bool.not_true, cond_false, dec_int, Bool.not_true, cond_false]
        exact st28 K hK l o h w κ hκ hh hsame wb ⟨tn, tw, n, v, m, w0, tn', tw', n', v', m', w', e, f1, f2, f3, ht, z1, z2, z3, q, p⟩ _ _ _ _ _ _ z2
      ·
        rw [q, endK_011 ht0 hn0 hm0]
        refine (law22_LocksTurns_r13_s2 ..).trans ?_
        rw [p]
        refine (law22_LocksTurns_r16_s (r16a := ⟨⟨n', v', false⟩, ⟨m', w', false⟩⟩) (r16b := ⟨tn', tw', false⟩) ..).trans ?_
        refine (r22_Same_ok K _ _ (by dsimp only; omega) (by dsimp only; omega) (by dsimp only; omega) _).trans ?_
        refine Eq.trans (congrArg _ (congrArg AV.bool (and_t (sameB_of (lst0z f2)) (sameB_of (lst0z f3))))) ?_
        refine (law22_LocksTurns_r20_s ..).trans ?_
        rw [Bool.not_true, cond_false]
        refine (SameIds_ok K _ _ _ _ _ _ (by first | omega | (dsimp only; omega)) (by first | omega | (dsimp only; omega)) _).trans ?_
        refine Eq.trans (congrArg _ (congrArg AV.bool (sameI_of (by rw [← f1, ht0]; rfl)))) ?_
        refine (law22_LocksTurns_r24_s ..).trans ?_
        rw [Bool.not_true, cond_false, dec_int, Bool.not_true, cond_false]
        exact st28 K hK l o h w κ hκ hh hsame wb ⟨tn, tw, n, v, m, w0, tn', tw', n', v', m', w', e, f1, f2, f3, ht, z1, z2, z3, q, p⟩ _ _ _ _ _ _ z2
    · by_cases hm0 : m = 0
      ·
        rw [q, endK_110 ht0 hn0 hm0]
        refine (law22_LocksTurns_r13_s4 ..).trans ?_
        rw [p]
        refine (law22_LocksTurns_r16_s (r16a := ⟨⟨n', v', false⟩, ⟨m', w', false⟩⟩) (r16b := ⟨tn', tw', false⟩) ..).trans ?_
        refine (r22_Same_ok K _ _ (by dsimp only; omega) (by dsimp only; omega) (by dsimp only; omega) _).trans ?_
        refine Eq.trans (congrArg _ (congrArg AV.bool (and_t (sameB_of (lst0z f2)) (sameB_of (by rw [← f3, hm0]; rfl))))) ?_
        refine (law22_LocksTurns_r20_s ..).trans ?_
        rw [Bool.not_true, cond_false]
        refine (SameIds_ok K _ _ _ _ _ _ (by first | omega | (dsimp only; omega)) (by first | omega | (dsimp only; omega)) _).trans ?_
        refine Eq.trans (congrArg _ (congrArg AV.bool (sameI_of (lst0i f1)))) ?_
        refine (law22_LocksTurns_r24_s ..).trans ?_
        rw [Bool.not_true, cond_false, dec_int, Bool.not_true, cond_false]
        exact st28 K hK l o h w κ hκ hh hsame wb ⟨tn, tw, n, v, m, w0, tn', tw', n', v', m', w', e, f1, f2, f3, ht, z1, z2, z3, q, p⟩ _ _ _ _ _ _ z2
      ·
        rw [q, endK_111 ht0 hn0 hm0]
        refine (law22_LocksTurns_r13_s5 ..).trans ?_
        rw [p]
        refine (law22_LocksTurns_r16_s (r16a := ⟨⟨n', v', false⟩, ⟨m', w', false⟩⟩) (r16b := ⟨tn', tw', false⟩) ..).trans ?_
        refine (r22_Same_ok K _ _ (by dsimp only; omega) (by dsimp only; omega) (by dsimp only; omega) _).trans ?_
        refine Eq.trans (congrArg _ (congrArg AV.bool (and_t (sameB_of (lst0z f2)) (sameB_of (lst0z f3))))) ?_
        refine (law22_LocksTurns_r20_s ..).trans ?_
        rw [Bool.not_true, cond_false]
        refine (SameIds_ok K _ _ _ _ _ _ (by first | omega | (dsimp only; omega)) (by first | omega | (dsimp only; omega)) _).trans ?_
        refine Eq.trans (congrArg _ (congrArg AV.bool (sameI_of (lst0i f1)))) ?_
        refine (law22_LocksTurns_r24_s ..).trans ?_
        rw [Bool.not_true, cond_false, dec_int, Bool.not_true, cond_false]
        exact st28 K hK l o h w κ hκ hh hsame wb ⟨tn, tw, n, v, m, w0, tn', tw', n', v', m', w', e, f1, f2, f3, ht, z1, z2, z3, q, p⟩ _ _ _ _ _ _ z2
theorem st14 (b3 : Sl TLock) (e1 e2 : Int) (n1 : Nat) (v1 : Nat → TLock) (g1 : n1 ≤ 1000) : evalF ctx K n_locks_Release [.agg (eLocks ⟨⟨h.n, h.w, false⟩, ⟨w.n, w.w, false⟩⟩), .int .u64 o.Tx] [] (law22_LocksTurns_r14 K l o b3 ⟨⟨h.n, h.w, false⟩, ⟨w.n, w.w, false⟩⟩ e1 n1 v1 e2 κ) = some true := by
  obtain ⟨tn, tw, n, v, m, w0, tn', tw', n', v', m', w', e, f1, f2, f3, ht, z1, z2, z3, q, p⟩ := rb
  by_cases hn0 : n = 0
  · have ht0 : tn = 0 := by
      by_cases hx : tn = 0
      · exact hx
      · exact absurd hn0 (ht hx)
    by_cases hm0 : m = 0
    ·
      rw [q, endK_000 ht0 hn0 hm0]
      refine (law22_LocksTurns_r14_s ..).trans ?_
      rw [p]
      refine (law22_LocksTurns_r17_s (r17a := ⟨⟨n', v', false⟩, ⟨m', w', false⟩⟩) (r17b := ⟨tn', tw', false⟩) ..).trans ?_
      refine (r22_Same_ok K _ _ (by dsimp only; omega) (by dsimp only; omega) (by dsimp only; omega) _).trans ?_
      refine Eq.trans (congrArg _ (congrArg AV.bool (and_t (sameB_of (by rw [← f2, hn0]; rfl)) (sameB_of (by rw [← f3, hm0]; rfl))))) ?_
      refine (law22_LocksTurns_r21_s ..).trans ?_
      rw [Bool.not_true, cond_false]
      refine (SameIds_ok K _ _ _ _ _ _ (by first | omega | (dsimp only; omega)) (by first | omega | (dsimp only; omega)) _).trans ?_
      refine Eq.trans (congrArg _ (congrArg AV.bool (sameI_of (by rw [← f1, ht0]; rfl)))) ?_
      refine (law22_LocksTurns_r25_s ..).trans ?_
      rw [Bool.not_true, cond_false, dec_int, Bool.not_true, cond_false]
      exact st29 K hK l o h w κ hκ hh hsame wb ⟨tn, tw, n, v, m, w0, tn', tw', n', v', m', w', e, f1, f2, f3, ht, z1, z2, z3, q, p⟩ _ _ _ _ _ _ g1
    ·
      rw [q, endK_001 ht0 hn0 hm0]
      refine (law22_LocksTurns_r14_s3 ..).trans ?_
      rw [p]
      refine (law22_LocksTurns_r17_s (r17a := ⟨⟨n', v', false⟩, ⟨m', w', false⟩⟩) (r17b := ⟨tn', tw', false⟩) ..).trans ?_
      refine (r22_Same_ok K _ _ (by dsimp only; omega) (by dsimp only; omega) (by dsimp only; omega) _).trans ?_
      refine Eq.trans (congrArg _ (congrArg AV.bool (and_t (sameB_of (by rw [← f2, hn0]; rfl)) (sameB_of (lst0z f3))))) ?_
      refine (law22_LocksTurns_r21_s ..).trans ?_
      rw [Bool.not_true, cond_false]
      refine (SameIds_ok K _ _ _ _ _ _ (by first | omega | (dsimp only; omega)) (by first | omega | (dsimp only; omega)) _).trans ?_
      refine Eq.trans (congrArg _ (congrArg AV.bool (sameI_of (by rw [← f1, ht0]; rfl)))) ?_
      refine (law22_LocksTurns_r25_s ..).trans ?_
      rw [Bool.not_true, cond_false, dec_int, Bool.not_true, cond_false]
      exact st29 K hK l o h w κ hκ hh hsame wb ⟨tn, tw, n, v, m, w0, tn', tw', n', v', m', w', e, f1, f2, f3, ht, z1, z2, z3, q, p⟩ _ _ _ _ _ _ g1
  · by_cases ht0 : tn = 0
    · by_cases hm0 : m = 0
      ·
        rw [q, endK_010 ht0 hn0 hm0]
        refine (law22_LocksTurns_r14_s1 ..).trans ?_
        rw [p]
        refine (law22_LocksTurns_r18_s (r18a := ⟨⟨n', v', false⟩, ⟨m', w', false⟩⟩) (r18b := ⟨tn', tw', false⟩) ..).trans ?_
        refine (r22_Same_ok K _ _ (by dsimp only; omega) (by dsimp only; omega) (by dsimp only; omega) _).trans ?_
        refine Eq.trans (congrArg _ (congrArg AV.bool (and_t (sameB_of (lst0z f2)) (sameB_of (by rw [← f3, hm0]; rfl))))) ?_
        refine (law22_LocksTurns_r22_s ..).trans ?_
        rw [Bool.not_true, cond_false]
        refine (SameIds_ok K _ _ _ _ _ _ (by first | omega | (dsimp only; omega)) (by first | omega | (dsimp only; omega)) _).trans ?_
        refine Eq.trans (congrArg _ (congrArg AV.bool (sameI_of (by rw [← f1, ht0]; rfl)))) ?_
        refine (law22_LocksTurns_r26_s ..).trans ?_
        rw [Bool.not_true, cond_false, dec_int, Bool.not_true, cond_false]
        exact st30 K hK l o h w κ hκ hh hsame wb ⟨tn, tw, n, v, m, w0, tn', tw', n', v', m', w', e, f1, f2, f3, ht, z1, z2, z3, q, p⟩ _ _ _ _ _ _ g1 _ _ z2
      ·
        rw [q, endK_011 ht0 hn0 hm0]
        refine (law22_LocksTurns_r14_s2 ..).trans ?_
        rw [p]
        refine (law22_LocksTurns_r18_s (r18a := ⟨⟨n', v', false⟩, ⟨m', w', false⟩⟩) (r18b := ⟨tn', tw', false⟩) ..).trans ?_
        refine (r22_Same_ok K _ _ (by dsimp only; omega) (by dsimp only; omega) (by dsimp only; omega) _).trans ?_
        refine Eq.trans (congrArg _ (congrArg AV.bool (and_t (sameB_of (lst0z f2)) (sameB_of (lst0z f3))))) ?_
        refine (law22_LocksTurns_r22_s ..).trans ?_
        rw [Bool.not_true, cond_false]
        refine (SameIds_ok K _ _ _ _ _ _ (by first | omega | (dsimp only; omega)) (by first | omega | (dsimp only; omega)) _).trans ?_
        refine Eq.trans (congrArg _ (congrArg AV.bool (sameI_of (by rw [← f1, ht0]; rfl)))) ?_
        refine (law22_LocksTurns_r26_s ..).trans ?_
        rw [Bool.not_true, cond_false, dec_int, Bool.not_true, cond_false]
        exact st30 K hK l o h w κ hκ hh hsame wb ⟨tn, tw, n, v, m, w0, tn', tw', n', v', m', w', e, f1, f2, f3, ht, z1, z2, z3, q, p⟩ _ _ _ _ _ _ g1 _ _ z2
    · by_cases hm0 : m = 0
      ·
        rw [q, endK_110 ht0 hn0 hm0]
        refine (law22_LocksTurns_r14_s4 ..).trans ?_
        rw [p]
        refine (law22_LocksTurns_r18_s (r18a := ⟨⟨n', v', false⟩, ⟨m', w', false⟩⟩) (r18b := ⟨tn', tw', false⟩) ..).trans ?_
        refine (r22_Same_ok K _ _ (by dsimp only; omega) (by dsimp only; omega) (by dsimp only; omega) _).trans ?_
        refine Eq.trans (congrArg _ (congrArg AV.bool (and_t (sameB_of (lst0z f2)) (sameB_of (by rw [← f3, hm0]; rfl))))) ?_
        refine (law22_LocksTurns_r22_s ..).trans ?_
        rw [Bool.not_true, cond_false]
        refine (SameIds_ok K _ _ _ _ _ _ (by first | omega | (dsimp only; omega)) (by first | omega | (dsimp only; omega)) _).trans ?_
        refine Eq.trans (congrArg _ (congrArg AV.bool (sameI_of (lst0i f1)))) ?_
        refine (law22_LocksTurns_r26_s ..).trans ?_
        rw [Bool.not_true, cond_false, dec_int, Bool.not_true, cond_false]
        exact st30 K hK l o h w κ hκ hh hsame wb ⟨tn, tw, n, v, m, w0, tn', tw', n', v', m', w', e, f1, f2, f3, ht, z1, z2, z3, q, p⟩ _ _ _ _ _ _ g1 _ _ z2
      ·
        rw [q, endK_111 ht0 hn0 hm0]
        refine (law22_LocksTurns_r14_s5 ..).trans ?_
        rw [p]
        refine (law22_LocksTurns_r18_s (r18a := ⟨⟨n', v', false⟩, ⟨m', w', false⟩⟩) (r18b := ⟨tn', tw', false⟩) ..).trans ?_
        refine (r22_Same_ok K _ _ (by dsimp only; omega) (by dsimp only; omega) (by dsimp only; omega) _).trans ?_
        refine Eq.trans (congrArg _ (congrArg AV.bool (and_t (sameB_of (lst0z f2)) (sameB_of (lst0z f3))))) ?_
        refine (law22_LocksTurns_r22_s ..).trans ?_
        rw [Bool.not_true, cond_false]
        refine (SameIds_ok K _ _ _ _ _ _ (by first | omega | (dsimp only; omega)) (by first | omega | (dsimp only; omega)) _).trans ?_
        refine Eq.trans (congrArg _ (congrArg AV.bool (sameI_of (lst0i f1)))) ?_
        refine (law22_LocksTurns_r26_s ..).trans ?_
        rw [Bool.not_true, cond_false, dec_int, Bool.not_true, cond_false]
        exact st30 K hK l o h w κ hκ hh hsame wb ⟨tn, tw, n, v, m, w0, tn', tw', n', v', m', w', e, f1, f2, f3, ht, z1, z2, z3, q, p⟩ _ _ _ _ _ _ g1 _ _ z2
end
theorem great_t (k : Nat) (a : TLock) (hk : 1 ≤ k) {ρ : Type} (κ : AV → Option ρ) : callP ctx k n_law22_great [.agg (eLock a)] κ = κ (.bool (decide (2000 < a.R.From.size) || decide (2000 < a.R.To.size))) := by
  obtain ⟨k, rfl⟩ : ∃ k', k = k' + 1 := ⟨k - 1, by omega⟩
  rw [callP_eq, law22_great_e]
  rw [show decide (2000 < (a.R.From.size : Int)) = decide (2000 < a.R.From.size) from decide_eq_decide.2 (by omega), show decide (2000 < (a.R.To.size : Int)) = decide (2000 < a.R.To.size) from decide_eq_decide.2 (by omega)]
  cases decide (2000 < a.R.From.size) <;> rfl
theorem told_t {c : Ctx} {K f : Nat} {xs : List AV} (h : ∀ (κ : AV → Heap → Option Bool), (∀ b H, κ (.bool b) H = some b) → evalF c K f xs [] κ = some true) : evalF c K f xs [] (fun v _ => some v) = some (.bool true) := by
  have h := h (fun v _ => match v with | .bool b => some b | _ => none) (fun _ _ => rfl)
  rw [evalF_bind] at h ⊢
  obtain ⟨r, H1, hr, hk⟩ := on_some h
  unfold Call1.on
  rw [hr]
  cases r <;> first | (cases hk; rfl) | cases hk
theorem tx0' {x : TLock} (h : SLock x) : 0 ≤ x.Tx := h.1.1
theorem tx0s' {s : TLocks} (h : SLocks s) : Tx0 s := ⟨fun i hi => tx0' (h.1.2 i hi), fun i hi => tx0' (h.2.2 i hi)⟩
theorem askH_len (s : TLocks) (a : TLock) : (askH s a).length ≤ s.Held.n + 1 := by
  have hl : s.Held.l.length = s.Held.n := lst_len _ _
  unfold askH
  split
  · simp
  · split
    · rw [List.length_append, hl]; simp
    · omega
theorem askW_len (s : TLocks) (a : TLock) : (askW s a).length ≤ s.Waits.n + 1 := by
  have hl : s.Waits.l.length = s.Waits.n := lst_len _ _
  unfold askW
  split
  · simp
  · split
    · omega
    · rw [List.length_append, hl]; simp
theorem locksTurns_pure (l : TLocks) (o : TLock) (h0 : SLocks l) (h1 : SLock o) : ∃ k, evalF ctx k n_law22_LocksTurns [.agg (eLocks l), .agg (eLock o)] [] (fun v _ => some v) = some (.bool true) := by
  suffices h : ∀ K, 3000 ≤ K → ∀ (κ : AV → Heap → Option Bool), (∀ b H, κ (.bool b) H = some b) → evalF ctx (K + 1) n_law22_LocksTurns [.agg (eLocks l), .agg (eLock o)] [] κ = some true by
    exact ⟨3000 + 1, told_t (h 3000 (Nat.le_refl _))⟩
  intro K hK κ hκ
  have hh : ∀ κ : AV → Option Bool, callP ctx K n_law22_head [] κ = κ (.bool true) := by
    intro κ
    obtain ⟨K0, rfl⟩ : ∃ K0, K = K0 + 300 := ⟨K - 300, by omega⟩
    exact head_ok K0 κ
  have hT := tx0s' h0
  have ho := tx0' h1
  obtain ⟨b, sb, sm⟩ := r22_Small_ok (ρ := Bool) K l (by omega)
  refine (law22_LocksTurns_e K l o κ).trans ?_
  rw [sm, law22_LocksTurns_r0_s]
  cases b with
  | false => rw [Bool.not_false, cond_true, hh, law22_LocksTurns_r3_s, hκ]
  | true =>
  obtain ⟨hn, hm⟩ := sb rfl
  rw [Bool.not_true, cond_false, great_t K o (by omega), law22_LocksTurns_r4_s]
  cases (decide (2000 < o.R.From.size) || decide (2000 < o.R.To.size)) with
  | true => rw [cond_true, hh, law22_LocksTurns_r3_s, hκ]
  | false =>
  rw [cond_false]
  obtain ⟨v, w, c1, c2, c3⟩ := r22_Copy_ok (ρ := Bool) K l (by omega) (by omega) (by omega)
  rw [c3]
  refine (law22_LocksTurns_r7_s K l o false ⟨⟨l.Held.n, v, false⟩, ⟨l.Waits.n, w, false⟩⟩ κ).trans ?_
  have e1 : lst l.Held.n v = l.Held.l := lst_same c1
  have e2 : lst l.Waits.n w = l.Waits.l := lst_same c2
  have hsame : ∀ κ : AV → Option Bool, callP ctx K n_r22_Same [.agg (eLocks ⟨⟨l.Held.n, v, false⟩, ⟨l.Waits.n, w, false⟩⟩), .agg (eLocks l)] κ = κ (.bool true) := by
    intro κ
    refine (r22_Same_ok K _ _ (by dsimp only; omega) (by dsimp only; omega) (by dsimp only; omega) _).trans ?_
    exact congrArg _ (congrArg AV.bool (and_t (sameB_of e1) (sameB_of e2)))
  have hlh : (othL l.Held.l o.Tx).length ≤ 210 := Nat.le_trans (List.length_filter_le ..) (by show (lst _ _).length ≤ _; rw [lst_len]; exact hn)
  have hlw : (othL l.Waits.l o.Tx).length ≤ 210 := Nat.le_trans (List.length_filter_le ..) (by show (lst _ _).length ≤ _; rw [lst_len]; exact hm)
  have hl0 : l.Held.l.length ≤ 210 := by show (lst _ _).length ≤ _; rw [lst_len]; exact hn
  have hcs : checkB ⟨⟨l.Held.n, v, false⟩, ⟨l.Waits.n, w, false⟩⟩ = checkB l := same_check (s := ⟨⟨l.Held.n, v, false⟩, ⟨l.Waits.n, w, false⟩⟩) e1 e2
  have rb : Both n_locks_Release n_r22_Release K ⟨⟨l.Held.n, v, false⟩, ⟨l.Waits.n, w, false⟩⟩ l o.Tx := by
    cases hc : checkB l with
    | false => exact both_bad (fun κ => rel_obad K _ o.Tx (by dsimp only; omega) (by dsimp only; omega) (hcs.trans hc) (by dsimp only; omega) κ) (fun κ => r22_Release_obad K l o.Tx hT (by omega) (by omega) hc (by omega) κ)
    | true =>
      have r1 := rel_own (ρ := Bool) K ⟨⟨l.Held.n, v, false⟩, ⟨l.Waits.n, w, false⟩⟩ o.Tx (hcs.trans hc) (by dsimp only; omega)
      have r2 := r22_Release_own (ρ := Bool) K l o.Tx hT hc (by omega)
      have r1' : OwnR n_locks_Release (othL l.Held.l o.Tx) (othL l.Waits.l o.Tx) K ⟨⟨l.Held.n, v, false⟩, ⟨l.Waits.n, w, false⟩⟩ o.Tx Bool := by
        rw [← e1, ← e2]; exact r1
      exact both_ok (by omega) r1' r2
  have wb : Both n_locks_Withdraw n_r22_Withdraw K ⟨⟨l.Held.n, v, false⟩, ⟨l.Waits.n, w, false⟩⟩ l o.Tx := by
    cases hc : checkB l with
    | false => exact both_bad (fun κ => wit_obad K _ o.Tx (by dsimp only; omega) (by dsimp only; omega) (hcs.trans hc) (by dsimp only; omega) κ) (fun κ => r22_Withdraw_obad K l o.Tx hT (by omega) (by omega) hc (by omega) κ)
    | true =>
      have r1 := wit_own (ρ := Bool) K ⟨⟨l.Held.n, v, false⟩, ⟨l.Waits.n, w, false⟩⟩ o.Tx (hcs.trans hc) (by dsimp only; omega)
      have r2 := r22_Withdraw_own (ρ := Bool) K l o.Tx hT hc (by omega)
      have r1' : OwnR n_locks_Withdraw l.Held.l (othL l.Waits.l o.Tx) K ⟨⟨l.Held.n, v, false⟩, ⟨l.Waits.n, w, false⟩⟩ o.Tx Bool := by
        rw [← e1, ← e2]; exact r1
      exact both_ok (by omega) r1' r2
  obtain ⟨n, v1, m, w1, q1, q2, q3⟩ := Ask_own (ρ := Bool) K ⟨⟨l.Held.n, v, false⟩, ⟨l.Waits.n, w, false⟩⟩ o (by dsimp only; omega) (by dsimp only; omega) (by dsimp only; omega)
  obtain ⟨n', v', m', w', p1, p2, p3⟩ := r22_Ask_ok (ρ := Bool) K l o hT ho (by omega) (by omega) (by omega)
  obtain ⟨a1, a2, a3⟩ := same_ask (s := ⟨⟨l.Held.n, v, false⟩, ⟨l.Waits.n, w, false⟩⟩) (l := l) o e1 e2 rfl rfl
  have a0 := same_askE (s := ⟨⟨l.Held.n, v, false⟩, ⟨l.Waits.n, w, false⟩⟩) (l := l) o e1 e2 rfl rfl
  have f2 : lst n v1 = lst n' v' := by rw [q1, a2, p1]
  have f3 : lst m w1 = lst m' w' := by rw [q2, a3, p2]
  have z2 : n ≤ 1000 := by
    have x1 := congrArg List.length (q1.trans a2)
    have x2 := askH_len l o
    rw [lst_len] at x1; omega
  have z3 : m ≤ 1000 := by
    have x1 := congrArg List.length (q2.trans a3)
    have x2 := askW_len l o
    rw [lst_len] at x1; omega
  rw [q3, a1, a0]
  by_cases hn0 : n = 0
  · by_cases hm0 : m = 0
    ·
      rw [endA_00 hn0 hm0]
      refine (law22_LocksTurns_r8_s ..).trans ?_
      rw [p3]
      refine (law22_LocksTurns_r9_s (r9a := ⟨⟨n', v', false⟩, ⟨m', w', false⟩⟩) ..).trans ?_
      refine (r22_Same_ok K _ _ (by dsimp only; omega) (by dsimp only; omega) (by dsimp only; omega) _).trans ?_
      refine Eq.trans (congrArg _ (congrArg AV.bool (and_t (sameB_of (by rw [← f2, hn0]; rfl)) (sameB_of (by rw [← f3, hm0]; rfl))))) ?_
      refine (law22_LocksTurns_r11_s ..).trans ?_
      rw [Bool.not_true, cond_false, beq_b, Bool.not_true, cond_false, dec_int, Bool.not_true, cond_false]
      exact st13 K hK l o ⟨l.Held.n, v, false⟩ ⟨l.Waits.n, w, false⟩ κ hκ hh hsame wb rb _ _ _
    ·
      rw [endA_01 hn0 hm0]
      refine (law22_LocksTurns_r8_s1 ..).trans ?_
      rw [p3]
      refine (law22_LocksTurns_r9_s (r9a := ⟨⟨n', v', false⟩, ⟨m', w', false⟩⟩) ..).trans ?_
      refine (r22_Same_ok K _ _ (by dsimp only; omega) (by dsimp only; omega) (by dsimp only; omega) _).trans ?_
      refine Eq.trans (congrArg _ (congrArg AV.bool (and_t (sameB_of (by rw [← f2, hn0]; rfl)) (sameB_of (lst0z f3))))) ?_
      refine (law22_LocksTurns_r11_s ..).trans ?_
      rw [Bool.not_true, cond_false, beq_b, Bool.not_true, cond_false, dec_int, Bool.not_true, cond_false]
      exact st13 K hK l o ⟨l.Held.n, v, false⟩ ⟨l.Waits.n, w, false⟩ κ hκ hh hsame wb rb _ _ _
  · by_cases hm0 : m = 0
    ·
      rw [endA_10 hn0 hm0]
      refine (law22_LocksTurns_r8_s2 ..).trans ?_
      rw [p3]
      refine (law22_LocksTurns_r10_s (r10a := ⟨⟨n', v', false⟩, ⟨m', w', false⟩⟩) ..).trans ?_
      refine (r22_Same_ok K _ _ (by dsimp only; omega) (by dsimp only; omega) (by dsimp only; omega) _).trans ?_
      refine Eq.trans (congrArg _ (congrArg AV.bool (and_t (sameB_of (lst0z f2)) (sameB_of (by rw [← f3, hm0]; rfl))))) ?_
      refine (law22_LocksTurns_r12_s ..).trans ?_
      rw [Bool.not_true, cond_false, beq_b, Bool.not_true, cond_false, dec_int, Bool.not_true, cond_false]
      exact st14 K hK l o ⟨l.Held.n, v, false⟩ ⟨l.Waits.n, w, false⟩ κ hκ hh hsame wb rb _ _ _ _ _ z2
    ·
      rw [endA_11 hn0 hm0]
      refine (law22_LocksTurns_r8_s3 ..).trans ?_
      rw [p3]
      refine (law22_LocksTurns_r10_s (r10a := ⟨⟨n', v', false⟩, ⟨m', w', false⟩⟩) ..).trans ?_
      refine (r22_Same_ok K _ _ (by dsimp only; omega) (by dsimp only; omega) (by dsimp only; omega) _).trans ?_
      refine Eq.trans (congrArg _ (congrArg AV.bool (and_t (sameB_of (lst0z f2)) (sameB_of (lst0z f3))))) ?_
      refine (law22_LocksTurns_r12_s ..).trans ?_
      rw [Bool.not_true, cond_false, beq_b, Bool.not_true, cond_false, dec_int, Bool.not_true, cond_false]
      exact st14 K hK l o ⟨l.Held.n, v, false⟩ ⟨l.Waits.n, w, false⟩ κ hκ hh hsame wb rb _ _ _ _ _ z2
end Go.Proofs.YticcbbcgboddpaaC

namespace Go.Proofs.Yticcbbcgboddpaa.locksTurns
open Go Go.ChangeShapes Go.WideShapes Go.ChangeAt Go.RowKit Go.Ev Go.Proofs.YticcbbcgboddpaaC
open Go.ChangeMaps (open_string shut_string)
set_option linter.unusedVariables false
theorem own : ownKnob Try.prog.godebug = none := by kernel_rfl
theorem laidOut : laidOutB Try.prog = true := by kernel_rfl
set_option maxRecDepth 100000 in
theorem lifted (os : Os) (started : os.Started) (H : Type) (enc : TypeId × Value → H) :
    ReturnsInHanded {} Try.checked os 6 .any (Rows.locksTurnsSpec.pre6 enc Try.prog Try.f6 Rows.locksTurnsRow.domain false) (Rows.locksTurnsSpec.post enc Try.prog Try.f6 false true false false) := by
  refine returnsInHanded_of_change_sized (C := Try.checked) own started (by kernel_rfl) Try.func6
    (ChangeSpec.witness6 (enc := enc) (C := Try.checked) false ⟨#[], #[.agg #[.slice none 0 0, .slice none 0 0], .agg #[.int .u64 0, .string ByteArray.empty, .string ByteArray.empty, .bool false, .bool false]], []⟩ 8 (by kernel_rfl) (by kernel_rfl) (by kernel_rfl) (by kernel_rfl)) ?_
  intro W base args ds gs before hval0 hW hcnd hsz0 _
  have hsz : (DataW.weightsEach Try.prog (Try.f6.params.toList ++ Rows.locksTurnsSpec.plain.varTypes Try.prog) (ds ++ gs)).all (· ≤ reachBytes) = true := hsz0
  have hval : ∀ (j : Nat) t v, Try.f6.params[j]? = some t → args[j]? = some v → Value.okWide Try.prog W .any base t v := hval0
  have hW' := hW
  obtain ⟨p, q, hA0, hV, rfl, hfz, hnd⟩ := hW
  have hA : DataW.TrodAll enc Try.prog W 0 (fun _ => true) true Try.f6.params.toList args.toList ds p := hA0
  rw [Try.params6] at hA hval hsz
  obtain ⟨v0, vs0, d0, ds0, p0, q0, hargs, rfl, rfl, h0, r0⟩ := trodAll_cons hA
  obtain ⟨v1, vs1, d1, ds1, p1, q1, rfl, rfl, rfl, h1, r1⟩ := trodAll_cons r0
  obtain ⟨rfl, rfl, rfl⟩ := trodAll_nil r1
  obtain rfl : args = #[v0, v1] := by cases args; simp_all
  obtain ⟨rfl, rfl⟩ := trodVars_none hV
  have k0 := h0
  have lt0 : ∀ x ∈ p0, x.block < W.heap.size := by obtain ⟨m, hm⟩ := k0; exact DataW.trod_lt m _ _ _ hm
  obtain ⟨a0, hK0, hS0⟩ := opened (j := 0) (t := 28) opens28 hsz rfl rfl h0
  have k1 := h1
  have lt1 : ∀ x ∈ p1, x.block < W.heap.size := by obtain ⟨m, hm⟩ := k1; exact DataW.trod_lt m _ _ _ hm
  obtain ⟨a1, hK1, hS1⟩ := opened (j := 1) (t := 34) opens34 hsz rfl rfl h1
  clear hA0 hval0 hsz0
  obtain ⟨k, h⟩ := locksTurns_pure a0 a1 hS0 hS1
  refine (top ((arg_agg Try.underlying28 (hval 0 28 v0 rfl rfl) opens28.2.1 hK0).append ((arg_agg Try.underlying34 (hval 1 34 v1 rfl rfl) opens34.2.1 hK1))) h).mono fun e W' ⟨he, bel⟩ => ?_
  subst he
  exact ⟨_, rfl, _, _, _, [], _, [], hW', trodAll_mk1 (shut_bool Try.underlying4 _), (trodAll_cons_mk (Below.trod laidOut (by kernel_rfl) (of_decide_eq_true (by kernel_rfl)) k0 bel lt0) (trodAll_cons_mk (Below.trod laidOut (by kernel_rfl) (of_decide_eq_true (by kernel_rfl)) k1 bel lt1) trodAll_mk0)), rfl, bel.frame _, fun h => by cases h⟩
theorem over : Rows.locksTurnsRow.holds Try.pinned (OpenSpec.ofChange Rows.locksTurnsSpec) :=
  OpenClaim.holds_of_wide 6 Try.f6 rfl rfl rfl rfl rfl rfl rfl ⟨rfl, rfl, rfl, rfl, rfl⟩ rfl rfl rfl rfl rfl (by kernel_rfl) Try.func6 (by kernel_rfl)
    (of_decide_eq_true (by kernel_rfl)) (by unfold Func.isWrapper; first | (rw [if_pos (by decide +kernel)]; kernel_rfl) | (rw [if_neg (by decide +kernel)]; exact ⟨rfl, rfl⟩))
    (fun os started H enc _ => lifted os started H enc)
theorem proved : Rows.LocksTurnsSaid := over
end Go.Proofs.Yticcbbcgboddpaa.locksTurns
namespace Go.Proofs.Yticcbbcgboddpaa
/-- The row, under a short name, for the claim. -/
theorem locksTurns_holds : Rows.LocksTurnsSaid := locksTurns.proved
#print axioms locksTurns_holds
end Go.Proofs.Yticcbbcgboddpaa
