/- For all rows of cells, every cell and every range Put, Delete and Part tell the document's cells or error, and share nothing with what they were handed: the law's function hands back true and leaves what it was handed. No conditions. -/
import Derived.Test.YtpbiclnkbkghaaaBCellsTurns3
import Derived.Test.YtpbiclnkbkghaaaRows
import Derived.WalkKit
import Derived.ProofKit
import Derived.OpenShut
import Derived.ShutString
import Derived.ChangeOld
import Derived.Below
import Derived.SizedLaws
import Derived.Carry
set_option linter.unusedVariables false
set_option linter.unusedSimpArgs false
set_option maxRecDepth 20000
namespace Go.Proofs.YtpbiclnkbkghaaaC
open Go Go.Ev Go.Proofs
variable {ρ : Type}
/-- from an answer told for any rest to the answer -/
theorem told_true {c : Ctx} {K f : Nat} {xs : List AV} (h : ∀ (κ : AV → Heap → Option Bool), (∀ b H, κ (.bool b) H = some b) → evalF c K f xs [] κ = some true) : evalF c K f xs [] (fun v _ => some v) = some (.bool true) := by
  have h := h (fun v _ => match v with | .bool b => some b | _ => none) (fun _ _ => rfl)
  rw [evalF_bind] at h ⊢
  obtain ⟨r, H1, hr, hk⟩ := on_some h
  unfold Call1.on
  rw [hr]
  cases r <;> first | (cases hk; rfl) | cases hk
theorem same_tell (k n m : Nat) (v w : Nat → TCell) (u u' : Bool) (hn : n ≤ 10000) (hk : n + 3 ≤ k) (h : lst n v = lst m w) (κ : AV → Option ρ) : callP ctx k n_r10_Same [.sl 2 n (rowOf eCell v) u, .sl 2 m (rowOf eCell w) u'] κ = κ (.bool true) := by
  rw [r10_Same_ok k n m v w u u' (by omega) hk, sameB_iff.2 h]
def goodP (n : Nat) (w : Nat → TCell) (c : TCell) : Bool := rightB n w && fitB c
theorem right_of {n : Nat} {v w : Nat → TCell} (h : lst n v = lst n w) : rightB n v = rightB n w := by
  rw [Bool.eq_iff_iff, right_list, right_list, h]
theorem put_fail (k n : Nat) (w : Nat → TCell) (u : Bool) (c : TCell) (hn : n ≤ 10000) (hk : n + 10 ≤ k) (hg : goodP n w c = false) (κ : AV → Heap → Option ρ) :
    evalF ctx k n_cells_Put [.sl 2 n (rowOf eCell w) u, .agg (eCell c)] [] κ = κ (.tup [.sl 2 0 (rowOf eCell (fun _ => zCell)) true, .int .i64 100]) [some (.box [.str c.Key, .str c.Value])] := by
  obtain ⟨k, rfl⟩ : ∃ k', k = k' + 2 := ⟨k - 2, by omega⟩
  refine (cells_Put_e (k + 1) ⟨n, w, u⟩ c κ).trans ?_
  simp only
  rw [cells_Right_ok (k + 1) n w u (by omega) (by omega), cells_Put_r0_s]
  unfold goodP fitB at hg
  rw [show decide (c.Key.size ≤ 513) = decide ((c.Key.size : Int) ≤ 513) from decide_eq_decide.2 (by omega), show decide (c.Value.size ≤ 2048) = decide ((c.Value.size : Int) ≤ 2048) from decide_eq_decide.2 (by omega)] at hg
  revert hg
  cases rightB n w <;> cases decide ((c.Key.size : Int) ≤ 513) <;> cases decide ((c.Value.size : Int) ≤ 2048) <;> intro hg <;> first | rfl | cases hg
theorem r10_put_fail (k n : Nat) (w : Nat → TCell) (u : Bool) (c : TCell) (hn : n ≤ 10000) (hk : n + 10 ≤ k) (hg : goodP n w c = false) (κ : AV → Option ρ) :
    callP ctx k n_r10_Put [.sl 2 n (rowOf eCell w) u, .agg (eCell c)] κ = κ (.tup [.sl 2 ([] : List TCell).length (rowOf eCell (gd zCell [])) false, .int .i64 100]) := by
  obtain ⟨k, rfl⟩ : ∃ k', k = k' + 2 := ⟨k - 2, by omega⟩
  rw [callP_eq]
  refine (r10_Put_e (k + 1) ⟨n, w, u⟩ c (pk κ)).trans ?_
  simp only
  rw [r10_Right_ok (k + 1) n w u (by omega) (by omega), r10_Put_r0_s]
  unfold goodP fitB at hg
  rw [show decide (c.Key.size ≤ 513) = decide ((c.Key.size : Int) ≤ 513) from decide_eq_decide.2 (by omega), show decide (c.Value.size ≤ 2048) = decide ((c.Value.size : Int) ≤ 2048) from decide_eq_decide.2 (by omega)] at hg
  revert hg
  cases rightB n w <;> cases decide ((c.Key.size : Int) ≤ 513) <;> cases decide ((c.Value.size : Int) ≤ 2048) <;> intro hg <;> first | rfl | cases hg
/-- a row handed back, or nil -/
def rowK (e : AV → AV) (κ : AV → Heap → Option ρ) : List TCell → Option ρ
  | [] => κ (e (.sl 2 0 (rowOf eCell (fun _ => zCell)) true)) []
  | x :: L => κ (e (.osl 2 0 0 (L.length + 1) false)) [some (.arr 2 (L.length + 1) (rowOf eCell (gd zCell (x :: L))))]
theorem del_tell (k n : Nat) (w : Nat → TCell) (u : Bool) (key : ByteArray) (hn : n ≤ 10000) (hk : n + 5 ≤ k) (κ : AV → Heap → Option ρ) :
    evalF ctx k n_cells_Delete [.sl 2 n (rowOf eCell w) u, .str key] [] κ = if rightB n w = true then rowK (fun v => .tup [v, .int .i64 0]) κ ((lst n w).filter fun c => !decide (c.Key = key)) else κ (.tup [.sl 2 0 (rowOf eCell (fun _ => zCell)) true, .int .i64 100]) [some (.box [.str key])] := by
  obtain ⟨k, rfl⟩ : ∃ k', k = k' + 1 := ⟨k - 1, by omega⟩
  refine (cells_Delete_e k ⟨n, w, u⟩ key κ).trans ?_
  simp only
  rw [cells_Right_ok k n w u (by omega) (by omega), cells_Delete_r0_s]
  cases h : rightB n w with
  | false => rfl
  | true =>
    simp only [Bool.not_true, cond_false, if_true]
    refine (kept_Delete_ok k ⟨n, w, u⟩ key hn (by simp only; omega) _).trans ?_
    simp only [Sl.l]
    generalize (lst n w).filter (fun c => !decide (c.Key = key)) = L
    cases L with
    | nil => exact cells_Delete_r1_s k ⟨n, w, u⟩ key true κ
    | cons x L => exact cells_Delete_r1_s1 k ⟨n, w, u⟩ key true (L.length + 1) (gd zCell (x :: L)) κ
theorem part_tell (k n : Nat) (w : Nat → TCell) (u : Bool) (r : TRange) (hn : n ≤ 10000) (hk : n + 20 ≤ k) (κ : AV → Heap → Option ρ) :
    evalF ctx k n_cells_Part [.sl 2 n (rowOf eCell w) u, .agg (eRange r)] [] κ = if rightB n w = true then rowK (fun v => v) κ ((lst n w).filter fun c => rHas r c.Key) else κ (.sl 2 0 (rowOf eCell (fun _ => zCell)) true) [some (.box [.str r.From, .str r.To, .bool r.End])] := by
  obtain ⟨k, rfl⟩ : ∃ k', k = k' + 1 := ⟨k - 1, by omega⟩
  refine (cells_Part_e k ⟨n, w, u⟩ r κ).trans ?_
  simp only
  rw [cells_Right_ok k n w u (by omega) (by omega), cells_Part_r0_s]
  cases h : rightB n w with
  | false => rfl
  | true =>
    simp only [Bool.not_true, cond_false, if_true]
    refine (kept_Part_ok k ⟨n, w, u⟩ r hn (by simp only; omega) _).trans ?_
    simp only [Sl.l]
    generalize (lst n w).filter (fun c => rHas r c.Key) = L
    cases L with
    | nil => exact cells_Part_r1_s k ⟨n, w, u⟩ r true κ
    | cons x L => exact cells_Part_r1_s1 k ⟨n, w, u⟩ r true (L.length + 1) (gd zCell (x :: L)) κ
noncomputable def hdRP (k : Nat) (l : Sl TCell) (r : TRange) (κ : AV → Heap → Option ρ) (j i : Nat) : List TCell → Option ρ
  | [] => r10_Part_h0 k j l r (i : Int) κ
  | x :: L => r10_Part_h1 k j l r (L.length + 1) (i : Int) (L.length + 1) (rowOf eCell (gd zCell (x :: L))) κ
theorem r10_Part_ok (k n : Nat) (w : Nat → TCell) (u : Bool) (r : TRange) (hn : n ≤ 10000) (hk : n + 20 ≤ k) (κ : AV → Option ρ) :
    callP ctx k n_r10_Part [.sl 2 n (rowOf eCell w) u, .agg (eRange r)] κ = κ (.sl 2 (partL n w r).length (rowOf eCell (gd zCell (partL n w r))) false) := by
  obtain ⟨k, rfl⟩ : ∃ k', k = k' + 1 := ⟨k - 1, by omega⟩
  rw [callP_eq]
  refine (r10_Part_e k ⟨n, w, u⟩ r (pk κ)).trans ?_
  obtain ⟨k, rfl⟩ : ∃ k', k = k' + 1 := ⟨k - 1, by omega⟩
  unfold partL
  cases h : rightB n w with
  | false =>
    rw [r10_Part_h0_s]
    dsimp only
    by_cases h0 : 0 < n
    · rw [dec_t (show (0 : Int) < (n : Int) by omega), cond_true, r10_Right_ok (k + 1) n w u (by omega) (by omega), h, r10_Part_r0_s, cond_false]; rfl
    · rw [dec_f (show ¬ (0 : Int) < (n : Int) by omega), cond_false]; rfl
  | true =>
    rw [if_pos rfl]
    have fin : ∀ L : List TCell, pk κ (oV 2 eCell zCell 1 L) (some (.box [.str r.From, .str r.To, .bool r.End]) :: oH 2 eCell zCell L) = κ (.sl 2 L.length (rowOf eCell (gd zCell L)) false) := by
      intro L
      cases L with
      | nil => rfl
      | cons x L =>
        show κ (.sl 2 (L.length + 1) (rowOf eCell fun i => gd zCell (x :: L) (0 + i)) false) = _
        rw [zrow]; rfl
    have h := filter_loop (n := n) (P := fun i => rHas r (w i).Key) (w := w) (hd := hdRP (k + 1) ⟨n, w, u⟩ r (pk κ))
      (fin := fun L => κ (.sl 2 L.length (rowOf eCell (gd zCell L)) false)) (fun j i L hi hL => ?_) (fun j L => ?_) (k + 1) 0 [] (by omega) (by omega) (by simp)
    · rw [List.nil_append, filter_lst n w (fun c => rHas r c.Key)] at h
      exact h
    · cases L with
      | nil =>
        unfold hdRP
        rw [r10_Part_h0_s]
        dsimp only
        rw [dec_t (show (i : Int) < (n : Int) by omega), cond_true, r10_Right_ok (k + 1) n w u (by omega) (by omega), h, r10_Part_r0_s, cond_true]
        dsimp only
        rw [idx_ok (by omega) (by omega), cond_true, Int.toNat_natCast, r03_Has_ok (k + 1) r _ (by omega), r10_Part_r2_s]
        dsimp only
        rw [idx_ok (by omega) (by omega), cond_true, Int.toNat_natCast, row_first, wi64_succ (by omega)]
        cases rHas r (w i).Key <;> rfl
      | cons x L =>
        simp only [hdRP, List.cons_append, List.length_append, List.length_cons, List.length_nil]
        simp only [List.length_cons] at hL
        rw [r10_Part_h1_s]
        dsimp only
        rw [dec_t (show (i : Int) < (n : Int) by omega), cond_true, r10_Right_ok (k + 1) n w u (by omega) (by omega), h, r10_Part_r1_s, cond_true]
        dsimp only
        rw [idx_ok (by omega) (by omega), cond_true, Int.toNat_natCast, r03_Has_ok (k + 1) r _ (by omega), r10_Part_r3_s]
        dsimp only
        rw [idx_ok (by omega) (by omega), cond_true, Int.toNat_natCast, more_ok _ _ _ _ rfl (by omega), wi64_succ (by omega)]
        rw [row_next eCell (x :: L) _ zCell _ (by simp)]
        cases rHas r (w i).Key <;> rfl
    · cases L with
      | nil =>
        simp only [hdRP]
        rw [r10_Part_h0_s]
        dsimp only
        rw [dec_f (by omega), cond_false]; exact fin []
      | cons x L =>
        simp only [hdRP]
        rw [r10_Part_h1_s]
        dsimp only
        rw [dec_f (by omega), cond_false]; exact fin (x :: L)
theorem turns_run (a : Sl TCell) (c : TCell) (r : TRange) (X : Nat → TCell) (K' K : Nat) (hK : 20000 ≤ K) (hK3 : K = K' + 4) (hn : a.n ≤ 50) (hl : lst a.n X = lst a.n a.w) {κ : AV → Heap → Option Bool} (hκ : ∀ H, κ (.bool true) H = some true)
    (hS : ∀ κ' : AV → Option Bool, callP ctx K n_r10_Same [.sl 2 a.n (rowOf eCell X) false, .sl 2 a.n (rowOf eCell a.w) a.u] κ' = κ' (.bool true)) (hH : ∀ κ' : AV → Option Bool, callP ctx K n_law10_head [] κ' = κ' (.bool true)) :
    evalF ctx K n_cells_Put [.sl 2 a.n (rowOf eCell X) false, .agg (eCell c)] [] (law10_CellsTurns_r19 K a c r ⟨a.n, X, false⟩ κ) = some true := by
  have hrx : rightB a.n X = rightB a.n a.w := right_of hl
  have hgx : goodP a.n X c = goodP a.n a.w c := by unfold goodP; rw [hrx]
  subst hK3
  cases hg : goodP a.n a.w c with
  | false =>
    rw [put_fail (K' + 4) a.n X false c (by omega) (by omega) (by rw [hgx]; exact hg)]
    refine (law10_CellsTurns_r19_s (K' + 4) a c r ⟨a.n, X, false⟩ 100 κ).trans ?_
    rw [r10_put_fail (K' + 4) a.n a.w a.u c (by omega) (by omega) hg]
    refine (law10_CellsTurns_r20_s (K' + 4) a c r ⟨a.n, X, false⟩ 100 ⟨([] : List TCell).length, gd zCell [], false⟩ 100 κ).trans ?_
    refine (same_tell (K' + 4) _ _ _ _ _ _ (by omega) (by omega) (rfl) _).trans ?_
    refine (law10_CellsTurns_r22_s (K' + 4) a c r ⟨a.n, X, false⟩ 100 ⟨([] : List TCell).length, gd zCell [], false⟩ 100 true κ).trans ?_
    rw [Bool.not_true, cond_false, dec_int, Bool.not_true, cond_false]
    rw [del_tell (K' + 4) a.n X false c.Key (by omega) (by omega), hrx, hl]
    cases hr : rightB a.n a.w with
    | false =>
      rw [if_neg (by simp)]
      refine (law10_CellsTurns_r24_s (K' + 4) a c r ⟨a.n, X, false⟩ 100 100 100 κ).trans ?_
      rw [r10_Delete_ok (K' + 4) a.n a.w a.u c.Key (by omega) (by omega), show delE a.n a.w = 100 by unfold delE; rw [hr]; rfl]
      refine (law10_CellsTurns_r26_s (K' + 4) a c r ⟨a.n, X, false⟩ 100 ⟨(delL a.n a.w c.Key).length, gd zCell (delL a.n a.w c.Key), false⟩ 100 κ).trans ?_
      refine (same_tell (K' + 4) _ _ _ _ _ _ (by omega) (by omega) (by rw [show delL a.n a.w c.Key = [] by unfold delL; rw [hr]; rfl]; rfl) _).trans ?_
      refine (law10_CellsTurns_r30_s (K' + 4) a r ⟨a.n, X, false⟩ 100 ⟨(delL a.n a.w c.Key).length, gd zCell (delL a.n a.w c.Key), false⟩ 100 true κ).trans ?_
      rw [Bool.not_true, cond_false, dec_int, Bool.not_true, cond_false]
      clear hr
      rw [part_tell (K' + 4) a.n X false r (by omega) (by omega), hrx, hl]
      cases hr : rightB a.n a.w with
      | false =>
        rw [if_neg (by simp)]
        refine (law10_CellsTurns_r34_s (K' + 4) a r ⟨a.n, X, false⟩ 100 100 κ).trans ?_
        rw [r10_Part_ok (K' + 4) a.n a.w a.u r (by omega) (by omega)]
        refine (law10_CellsTurns_r38_s (K' + 4) a r ⟨a.n, X, false⟩ 100 100 ⟨(partL a.n a.w r).length, gd zCell (partL a.n a.w r), false⟩ κ).trans ?_
        refine (same_tell (K' + 4) _ _ _ _ _ _ (by omega) (by omega) (by rw [show partL a.n a.w r = [] by unfold partL; rw [hr]; rfl]; rfl) _).trans ?_
        refine (law10_CellsTurns_r46_s (K' + 4) a ⟨(partL a.n a.w r).length, gd zCell (partL a.n a.w r), false⟩ ⟨a.n, X, false⟩ true κ).trans ?_
        rw [Bool.not_true, cond_false]
        exact tailh0 hκ hS hH  hK K'
      | true =>
        rw [if_pos rfl]
        have hPl : partL a.n a.w r = (lst a.n a.w).filter fun c => rHas r c.Key := by unfold partL; rw [hr, if_pos rfl]
        have hPn : ((lst a.n a.w).filter fun c => rHas r c.Key).length ≤ a.n := Nat.le_trans (List.length_filter_le ..) (by rw [lst_len]; omega)
        generalize ((lst a.n a.w).filter fun c => rHas r c.Key) = L3 at hPl hPn ⊢
        cases L3 with
        | nil =>
          refine (law10_CellsTurns_r34_s1 (K' + 4) a r ⟨a.n, X, false⟩ 100 100 κ).trans ?_
          rw [r10_Part_ok (K' + 4) a.n a.w a.u r (by omega) (by omega)]
          refine (law10_CellsTurns_r38_s (K' + 4) a r ⟨a.n, X, false⟩ 100 100 ⟨(partL a.n a.w r).length, gd zCell (partL a.n a.w r), false⟩ κ).trans ?_
          refine (same_tell (K' + 4) _ _ _ _ _ _ (by omega) (by omega) (by rw [hPl]; rfl) _).trans ?_
          refine (law10_CellsTurns_r46_s (K' + 4) a ⟨(partL a.n a.w r).length, gd zCell (partL a.n a.w r), false⟩ ⟨a.n, X, false⟩ true κ).trans ?_
          rw [Bool.not_true, cond_false]
          exact tailh0 hκ hS hH  hK K'
        | cons x3 L3 =>
          simp only [List.length_cons] at hPn
          refine (law10_CellsTurns_r34_s2 (K' + 4) a r ⟨a.n, X, false⟩ 100 100 (L3.length + 1) (gd zCell (x3 :: L3)) κ).trans ?_
          rw [r10_Part_ok (K' + 4) a.n a.w a.u r (by omega) (by omega)]
          refine (law10_CellsTurns_r39_s (K' + 4) a r ⟨a.n, X, false⟩ 100 100 (L3.length + 1) (gd zCell (x3 :: L3)) ⟨(partL a.n a.w r).length, gd zCell (partL a.n a.w r), false⟩ κ).trans ?_
          refine (same_tell (K' + 4) _ _ _ _ _ _ (by omega) (by omega) (by rw [hPl, zrow]; rfl) _).trans ?_
          refine (law10_CellsTurns_r47_s (K' + 4) a ⟨(partL a.n a.w r).length, gd zCell (partL a.n a.w r), false⟩ ⟨a.n, X, false⟩ (L3.length + 1) (gd zCell (x3 :: L3)) true κ).trans ?_
          rw [Bool.not_true, cond_false]
          exact tailh1 hκ hS hH (L3.length + 1) (gd zCell (x3 :: L3)) (by omega) hK K'
    | true =>
      rw [if_pos rfl]
      have hDl : delL a.n a.w c.Key = (lst a.n a.w).filter fun x => !decide (x.Key = c.Key) := by unfold delL; rw [hr, if_pos rfl]
      have hDn : ((lst a.n a.w).filter fun x => !decide (x.Key = c.Key)).length ≤ a.n := Nat.le_trans (List.length_filter_le ..) (by rw [lst_len]; omega)
      generalize ((lst a.n a.w).filter fun x => !decide (x.Key = c.Key)) = L2 at hDl hDn ⊢
      cases L2 with
      | nil =>
        refine (law10_CellsTurns_r24_s1 (K' + 4) a c r ⟨a.n, X, false⟩ 100 100 0 κ).trans ?_
        rw [r10_Delete_ok (K' + 4) a.n a.w a.u c.Key (by omega) (by omega), show delE a.n a.w = 0 by unfold delE; rw [hr]; rfl]
        refine (law10_CellsTurns_r26_s (K' + 4) a c r ⟨a.n, X, false⟩ 0 ⟨(delL a.n a.w c.Key).length, gd zCell (delL a.n a.w c.Key), false⟩ 0 κ).trans ?_
        refine (same_tell (K' + 4) _ _ _ _ _ _ (by omega) (by omega) (by rw [hDl]; rfl) _).trans ?_
        refine (law10_CellsTurns_r30_s (K' + 4) a r ⟨a.n, X, false⟩ 0 ⟨(delL a.n a.w c.Key).length, gd zCell (delL a.n a.w c.Key), false⟩ 0 true κ).trans ?_
        rw [Bool.not_true, cond_false, dec_int, Bool.not_true, cond_false]
        clear hr
        rw [part_tell (K' + 4) a.n X false r (by omega) (by omega), hrx, hl]
        cases hr : rightB a.n a.w with
        | false =>
          rw [if_neg (by simp)]
          refine (law10_CellsTurns_r34_s (K' + 4) a r ⟨a.n, X, false⟩ 0 0 κ).trans ?_
          rw [r10_Part_ok (K' + 4) a.n a.w a.u r (by omega) (by omega)]
          refine (law10_CellsTurns_r38_s (K' + 4) a r ⟨a.n, X, false⟩ 0 0 ⟨(partL a.n a.w r).length, gd zCell (partL a.n a.w r), false⟩ κ).trans ?_
          refine (same_tell (K' + 4) _ _ _ _ _ _ (by omega) (by omega) (by rw [show partL a.n a.w r = [] by unfold partL; rw [hr]; rfl]; rfl) _).trans ?_
          refine (law10_CellsTurns_r46_s (K' + 4) a ⟨(partL a.n a.w r).length, gd zCell (partL a.n a.w r), false⟩ ⟨a.n, X, false⟩ true κ).trans ?_
          rw [Bool.not_true, cond_false]
          exact tailh0 hκ hS hH  hK K'
        | true =>
          rw [if_pos rfl]
          have hPl : partL a.n a.w r = (lst a.n a.w).filter fun c => rHas r c.Key := by unfold partL; rw [hr, if_pos rfl]
          have hPn : ((lst a.n a.w).filter fun c => rHas r c.Key).length ≤ a.n := Nat.le_trans (List.length_filter_le ..) (by rw [lst_len]; omega)
          generalize ((lst a.n a.w).filter fun c => rHas r c.Key) = L3 at hPl hPn ⊢
          cases L3 with
          | nil =>
            refine (law10_CellsTurns_r34_s1 (K' + 4) a r ⟨a.n, X, false⟩ 0 0 κ).trans ?_
            rw [r10_Part_ok (K' + 4) a.n a.w a.u r (by omega) (by omega)]
            refine (law10_CellsTurns_r38_s (K' + 4) a r ⟨a.n, X, false⟩ 0 0 ⟨(partL a.n a.w r).length, gd zCell (partL a.n a.w r), false⟩ κ).trans ?_
            refine (same_tell (K' + 4) _ _ _ _ _ _ (by omega) (by omega) (by rw [hPl]; rfl) _).trans ?_
            refine (law10_CellsTurns_r46_s (K' + 4) a ⟨(partL a.n a.w r).length, gd zCell (partL a.n a.w r), false⟩ ⟨a.n, X, false⟩ true κ).trans ?_
            rw [Bool.not_true, cond_false]
            exact tailh0 hκ hS hH  hK K'
          | cons x3 L3 =>
            simp only [List.length_cons] at hPn
            refine (law10_CellsTurns_r34_s2 (K' + 4) a r ⟨a.n, X, false⟩ 0 0 (L3.length + 1) (gd zCell (x3 :: L3)) κ).trans ?_
            rw [r10_Part_ok (K' + 4) a.n a.w a.u r (by omega) (by omega)]
            refine (law10_CellsTurns_r39_s (K' + 4) a r ⟨a.n, X, false⟩ 0 0 (L3.length + 1) (gd zCell (x3 :: L3)) ⟨(partL a.n a.w r).length, gd zCell (partL a.n a.w r), false⟩ κ).trans ?_
            refine (same_tell (K' + 4) _ _ _ _ _ _ (by omega) (by omega) (by rw [hPl, zrow]; rfl) _).trans ?_
            refine (law10_CellsTurns_r47_s (K' + 4) a ⟨(partL a.n a.w r).length, gd zCell (partL a.n a.w r), false⟩ ⟨a.n, X, false⟩ (L3.length + 1) (gd zCell (x3 :: L3)) true κ).trans ?_
            rw [Bool.not_true, cond_false]
            exact tailh1 hκ hS hH (L3.length + 1) (gd zCell (x3 :: L3)) (by omega) hK K'
      | cons x2 L2 =>
        simp only [List.length_cons] at hDn
        refine (law10_CellsTurns_r24_s2 (K' + 4) a c r ⟨a.n, X, false⟩ 100 100 (L2.length + 1) (gd zCell (x2 :: L2)) κ).trans ?_
        rw [r10_Delete_ok (K' + 4) a.n a.w a.u c.Key (by omega) (by omega), show delE a.n a.w = 0 by unfold delE; rw [hr]; rfl]
        refine (law10_CellsTurns_r27_s (K' + 4) a c r ⟨a.n, X, false⟩ (L2.length + 1) (gd zCell (x2 :: L2)) ⟨(delL a.n a.w c.Key).length, gd zCell (delL a.n a.w c.Key), false⟩ 0 κ).trans ?_
        refine (same_tell (K' + 4) _ _ _ _ _ _ (by omega) (by omega) (by rw [hDl, zrow]; rfl) _).trans ?_
        refine (law10_CellsTurns_r31_s (K' + 4) a r ⟨a.n, X, false⟩ (L2.length + 1) (gd zCell (x2 :: L2)) ⟨(delL a.n a.w c.Key).length, gd zCell (delL a.n a.w c.Key), false⟩ 0 true κ).trans ?_
        rw [Bool.not_true, cond_false, dec_int, Bool.not_true, cond_false]
        clear hr
        rw [part_tell (K' + 4) a.n X false r (by omega) (by omega), hrx, hl]
        cases hr : rightB a.n a.w with
        | false =>
          rw [if_neg (by simp)]
          refine (law10_CellsTurns_r35_s (K' + 4) a r ⟨a.n, X, false⟩ (L2.length + 1) (gd zCell (x2 :: L2)) 0 κ).trans ?_
          rw [r10_Part_ok (K' + 4) a.n a.w a.u r (by omega) (by omega)]
          refine (law10_CellsTurns_r40_s (K' + 4) a r ⟨a.n, X, false⟩ (L2.length + 1) (gd zCell (x2 :: L2)) 0 ⟨(partL a.n a.w r).length, gd zCell (partL a.n a.w r), false⟩ κ).trans ?_
          refine (same_tell (K' + 4) _ _ _ _ _ _ (by omega) (by omega) (by rw [show partL a.n a.w r = [] by unfold partL; rw [hr]; rfl]; rfl) _).trans ?_
          refine (law10_CellsTurns_r48_s (K' + 4) a ⟨(partL a.n a.w r).length, gd zCell (partL a.n a.w r), false⟩ ⟨a.n, X, false⟩ (L2.length + 1) (gd zCell (x2 :: L2)) true κ).trans ?_
          rw [Bool.not_true, cond_false]
          exact tailh2 hκ hS hH (L2.length + 1) (gd zCell (x2 :: L2)) (by omega) hK K'
        | true =>
          rw [if_pos rfl]
          have hPl : partL a.n a.w r = (lst a.n a.w).filter fun c => rHas r c.Key := by unfold partL; rw [hr, if_pos rfl]
          have hPn : ((lst a.n a.w).filter fun c => rHas r c.Key).length ≤ a.n := Nat.le_trans (List.length_filter_le ..) (by rw [lst_len]; omega)
          generalize ((lst a.n a.w).filter fun c => rHas r c.Key) = L3 at hPl hPn ⊢
          cases L3 with
          | nil =>
            refine (law10_CellsTurns_r35_s1 (K' + 4) a r ⟨a.n, X, false⟩ (L2.length + 1) (gd zCell (x2 :: L2)) 0 κ).trans ?_
            rw [r10_Part_ok (K' + 4) a.n a.w a.u r (by omega) (by omega)]
            refine (law10_CellsTurns_r40_s (K' + 4) a r ⟨a.n, X, false⟩ (L2.length + 1) (gd zCell (x2 :: L2)) 0 ⟨(partL a.n a.w r).length, gd zCell (partL a.n a.w r), false⟩ κ).trans ?_
            refine (same_tell (K' + 4) _ _ _ _ _ _ (by omega) (by omega) (by rw [hPl]; rfl) _).trans ?_
            refine (law10_CellsTurns_r48_s (K' + 4) a ⟨(partL a.n a.w r).length, gd zCell (partL a.n a.w r), false⟩ ⟨a.n, X, false⟩ (L2.length + 1) (gd zCell (x2 :: L2)) true κ).trans ?_
            rw [Bool.not_true, cond_false]
            exact tailh2 hκ hS hH (L2.length + 1) (gd zCell (x2 :: L2)) (by omega) hK K'
          | cons x3 L3 =>
            simp only [List.length_cons] at hPn
            refine (law10_CellsTurns_r35_s2 (K' + 4) a r ⟨a.n, X, false⟩ (L2.length + 1) (gd zCell (x2 :: L2)) 0 (L3.length + 1) (gd zCell (x3 :: L3)) κ).trans ?_
            rw [r10_Part_ok (K' + 4) a.n a.w a.u r (by omega) (by omega)]
            refine (law10_CellsTurns_r41_s (K' + 4) a r ⟨a.n, X, false⟩ (L2.length + 1) (gd zCell (x2 :: L2)) 0 (L3.length + 1) (gd zCell (x3 :: L3)) ⟨(partL a.n a.w r).length, gd zCell (partL a.n a.w r), false⟩ κ).trans ?_
            refine (same_tell (K' + 4) _ _ _ _ _ _ (by omega) (by omega) (by rw [hPl, zrow]; rfl) _).trans ?_
            refine (law10_CellsTurns_r49_s (K' + 4) a ⟨(partL a.n a.w r).length, gd zCell (partL a.n a.w r), false⟩ ⟨a.n, X, false⟩ (L2.length + 1) (gd zCell (x2 :: L2)) (L3.length + 1) (gd zCell (x3 :: L3)) true κ).trans ?_
            rw [Bool.not_true, cond_false]
            exact tailh3 hκ hS hH (L2.length + 1) (L3.length + 1) (gd zCell (x2 :: L2)) (gd zCell (x3 :: L3)) (by omega) (by omega) hK K'
  | true =>
    have hg2 := hg
    unfold goodP at hg2
    rw [Bool.and_eq_true] at hg2
    obtain ⟨m1, v1, hm1, hv1⟩ := cells_Put_ev (ρ := Bool) (K' + 4) a.n X false c (by omega) (by omega) (by rw [hrx]; exact hg2.1) hg2.2
    rw [hl] at hm1
    have hm1n : m1 ≤ a.n + 1 := by have h1 := congrArg List.length hm1; rw [lst_len] at h1; have h2 := put_len (lst a.n a.w) c; rw [lst_len] at h2; omega
    rw [hv1]
    refine (law10_CellsTurns_r19_s1 (K' + 4) a c r ⟨a.n, X, false⟩ m1 v1 κ).trans ?_
    rw [r10_Put_ok (K' + 4) a.n a.w a.u c (by omega) (by omega) hg2.1 hg2.2]
    refine (law10_CellsTurns_r21_s (K' + 4) a c r m1 v1 ⟨a.n, X, false⟩ ⟨(putL (lst a.n a.w) c).length, gd zCell (putL (lst a.n a.w) c), false⟩ 0 κ).trans ?_
    refine (same_tell (K' + 4) _ _ _ _ _ _ (by omega) (by omega) (by rw [zrow, hm1, gd_lst]) _).trans ?_
    refine (law10_CellsTurns_r23_s (K' + 4) a c r m1 v1 ⟨a.n, X, false⟩ ⟨(putL (lst a.n a.w) c).length, gd zCell (putL (lst a.n a.w) c), false⟩ 0 true κ).trans ?_
    rw [Bool.not_true, cond_false, dec_int, Bool.not_true, cond_false]
    rw [del_tell (K' + 4) a.n X false c.Key (by omega) (by omega), hrx, hl]
    cases hr : rightB a.n a.w with
    | false =>
      rw [if_neg (by simp)]
      refine (law10_CellsTurns_r25_s (K' + 4) a c r m1 v1 ⟨a.n, X, false⟩ 0 100 κ).trans ?_
      rw [r10_Delete_ok (K' + 4) a.n a.w a.u c.Key (by omega) (by omega), show delE a.n a.w = 100 by unfold delE; rw [hr]; rfl]
      refine (law10_CellsTurns_r28_s (K' + 4) a c r m1 v1 ⟨a.n, X, false⟩ 100 ⟨(delL a.n a.w c.Key).length, gd zCell (delL a.n a.w c.Key), false⟩ 100 κ).trans ?_
      refine (same_tell (K' + 4) _ _ _ _ _ _ (by omega) (by omega) (by rw [show delL a.n a.w c.Key = [] by unfold delL; rw [hr]; rfl]; rfl) _).trans ?_
      refine (law10_CellsTurns_r32_s (K' + 4) a r m1 v1 ⟨a.n, X, false⟩ 100 ⟨(delL a.n a.w c.Key).length, gd zCell (delL a.n a.w c.Key), false⟩ 100 true κ).trans ?_
      rw [Bool.not_true, cond_false, dec_int, Bool.not_true, cond_false]
      clear hr
      rw [part_tell (K' + 4) a.n X false r (by omega) (by omega), hrx, hl]
      cases hr : rightB a.n a.w with
      | false =>
        rw [if_neg (by simp)]
        refine (law10_CellsTurns_r36_s (K' + 4) a r m1 v1 ⟨a.n, X, false⟩ 100 100 κ).trans ?_
        rw [r10_Part_ok (K' + 4) a.n a.w a.u r (by omega) (by omega)]
        refine (law10_CellsTurns_r42_s (K' + 4) a r m1 v1 ⟨a.n, X, false⟩ 100 100 ⟨(partL a.n a.w r).length, gd zCell (partL a.n a.w r), false⟩ κ).trans ?_
        refine (same_tell (K' + 4) _ _ _ _ _ _ (by omega) (by omega) (by rw [show partL a.n a.w r = [] by unfold partL; rw [hr]; rfl]; rfl) _).trans ?_
        refine (law10_CellsTurns_r50_s (K' + 4) a m1 v1 ⟨(partL a.n a.w r).length, gd zCell (partL a.n a.w r), false⟩ ⟨a.n, X, false⟩ true κ).trans ?_
        rw [Bool.not_true, cond_false]
        exact tailh4 hκ hS hH m1 v1 (by omega) hK K'
      | true =>
        rw [if_pos rfl]
        have hPl : partL a.n a.w r = (lst a.n a.w).filter fun c => rHas r c.Key := by unfold partL; rw [hr, if_pos rfl]
        have hPn : ((lst a.n a.w).filter fun c => rHas r c.Key).length ≤ a.n := Nat.le_trans (List.length_filter_le ..) (by rw [lst_len]; omega)
        generalize ((lst a.n a.w).filter fun c => rHas r c.Key) = L3 at hPl hPn ⊢
        cases L3 with
        | nil =>
          refine (law10_CellsTurns_r36_s1 (K' + 4) a r m1 v1 ⟨a.n, X, false⟩ 100 100 κ).trans ?_
          rw [r10_Part_ok (K' + 4) a.n a.w a.u r (by omega) (by omega)]
          refine (law10_CellsTurns_r42_s (K' + 4) a r m1 v1 ⟨a.n, X, false⟩ 100 100 ⟨(partL a.n a.w r).length, gd zCell (partL a.n a.w r), false⟩ κ).trans ?_
          refine (same_tell (K' + 4) _ _ _ _ _ _ (by omega) (by omega) (by rw [hPl]; rfl) _).trans ?_
          refine (law10_CellsTurns_r50_s (K' + 4) a m1 v1 ⟨(partL a.n a.w r).length, gd zCell (partL a.n a.w r), false⟩ ⟨a.n, X, false⟩ true κ).trans ?_
          rw [Bool.not_true, cond_false]
          exact tailh4 hκ hS hH m1 v1 (by omega) hK K'
        | cons x3 L3 =>
          simp only [List.length_cons] at hPn
          refine (law10_CellsTurns_r36_s2 (K' + 4) a r m1 v1 ⟨a.n, X, false⟩ 100 100 (L3.length + 1) (gd zCell (x3 :: L3)) κ).trans ?_
          rw [r10_Part_ok (K' + 4) a.n a.w a.u r (by omega) (by omega)]
          refine (law10_CellsTurns_r43_s (K' + 4) a r m1 v1 ⟨a.n, X, false⟩ 100 100 (L3.length + 1) (gd zCell (x3 :: L3)) ⟨(partL a.n a.w r).length, gd zCell (partL a.n a.w r), false⟩ κ).trans ?_
          refine (same_tell (K' + 4) _ _ _ _ _ _ (by omega) (by omega) (by rw [hPl, zrow]; rfl) _).trans ?_
          refine (law10_CellsTurns_r51_s (K' + 4) a m1 v1 ⟨(partL a.n a.w r).length, gd zCell (partL a.n a.w r), false⟩ ⟨a.n, X, false⟩ (L3.length + 1) (gd zCell (x3 :: L3)) true κ).trans ?_
          rw [Bool.not_true, cond_false]
          exact tailh5 hκ hS hH m1 (L3.length + 1) v1 (gd zCell (x3 :: L3)) (by omega) (by omega) hK K'
    | true =>
      rw [if_pos rfl]
      have hDl : delL a.n a.w c.Key = (lst a.n a.w).filter fun x => !decide (x.Key = c.Key) := by unfold delL; rw [hr, if_pos rfl]
      have hDn : ((lst a.n a.w).filter fun x => !decide (x.Key = c.Key)).length ≤ a.n := Nat.le_trans (List.length_filter_le ..) (by rw [lst_len]; omega)
      generalize ((lst a.n a.w).filter fun x => !decide (x.Key = c.Key)) = L2 at hDl hDn ⊢
      cases L2 with
      | nil =>
        refine (law10_CellsTurns_r25_s1 (K' + 4) a c r m1 v1 ⟨a.n, X, false⟩ 0 0 κ).trans ?_
        rw [r10_Delete_ok (K' + 4) a.n a.w a.u c.Key (by omega) (by omega), show delE a.n a.w = 0 by unfold delE; rw [hr]; rfl]
        refine (law10_CellsTurns_r28_s (K' + 4) a c r m1 v1 ⟨a.n, X, false⟩ 0 ⟨(delL a.n a.w c.Key).length, gd zCell (delL a.n a.w c.Key), false⟩ 0 κ).trans ?_
        refine (same_tell (K' + 4) _ _ _ _ _ _ (by omega) (by omega) (by rw [hDl]; rfl) _).trans ?_
        refine (law10_CellsTurns_r32_s (K' + 4) a r m1 v1 ⟨a.n, X, false⟩ 0 ⟨(delL a.n a.w c.Key).length, gd zCell (delL a.n a.w c.Key), false⟩ 0 true κ).trans ?_
        rw [Bool.not_true, cond_false, dec_int, Bool.not_true, cond_false]
        clear hr
        rw [part_tell (K' + 4) a.n X false r (by omega) (by omega), hrx, hl]
        cases hr : rightB a.n a.w with
        | false =>
          rw [if_neg (by simp)]
          refine (law10_CellsTurns_r36_s (K' + 4) a r m1 v1 ⟨a.n, X, false⟩ 0 0 κ).trans ?_
          rw [r10_Part_ok (K' + 4) a.n a.w a.u r (by omega) (by omega)]
          refine (law10_CellsTurns_r42_s (K' + 4) a r m1 v1 ⟨a.n, X, false⟩ 0 0 ⟨(partL a.n a.w r).length, gd zCell (partL a.n a.w r), false⟩ κ).trans ?_
          refine (same_tell (K' + 4) _ _ _ _ _ _ (by omega) (by omega) (by rw [show partL a.n a.w r = [] by unfold partL; rw [hr]; rfl]; rfl) _).trans ?_
          refine (law10_CellsTurns_r50_s (K' + 4) a m1 v1 ⟨(partL a.n a.w r).length, gd zCell (partL a.n a.w r), false⟩ ⟨a.n, X, false⟩ true κ).trans ?_
          rw [Bool.not_true, cond_false]
          exact tailh4 hκ hS hH m1 v1 (by omega) hK K'
        | true =>
          rw [if_pos rfl]
          have hPl : partL a.n a.w r = (lst a.n a.w).filter fun c => rHas r c.Key := by unfold partL; rw [hr, if_pos rfl]
          have hPn : ((lst a.n a.w).filter fun c => rHas r c.Key).length ≤ a.n := Nat.le_trans (List.length_filter_le ..) (by rw [lst_len]; omega)
          generalize ((lst a.n a.w).filter fun c => rHas r c.Key) = L3 at hPl hPn ⊢
          cases L3 with
          | nil =>
            refine (law10_CellsTurns_r36_s1 (K' + 4) a r m1 v1 ⟨a.n, X, false⟩ 0 0 κ).trans ?_
            rw [r10_Part_ok (K' + 4) a.n a.w a.u r (by omega) (by omega)]
            refine (law10_CellsTurns_r42_s (K' + 4) a r m1 v1 ⟨a.n, X, false⟩ 0 0 ⟨(partL a.n a.w r).length, gd zCell (partL a.n a.w r), false⟩ κ).trans ?_
            refine (same_tell (K' + 4) _ _ _ _ _ _ (by omega) (by omega) (by rw [hPl]; rfl) _).trans ?_
            refine (law10_CellsTurns_r50_s (K' + 4) a m1 v1 ⟨(partL a.n a.w r).length, gd zCell (partL a.n a.w r), false⟩ ⟨a.n, X, false⟩ true κ).trans ?_
            rw [Bool.not_true, cond_false]
            exact tailh4 hκ hS hH m1 v1 (by omega) hK K'
          | cons x3 L3 =>
            simp only [List.length_cons] at hPn
            refine (law10_CellsTurns_r36_s2 (K' + 4) a r m1 v1 ⟨a.n, X, false⟩ 0 0 (L3.length + 1) (gd zCell (x3 :: L3)) κ).trans ?_
            rw [r10_Part_ok (K' + 4) a.n a.w a.u r (by omega) (by omega)]
            refine (law10_CellsTurns_r43_s (K' + 4) a r m1 v1 ⟨a.n, X, false⟩ 0 0 (L3.length + 1) (gd zCell (x3 :: L3)) ⟨(partL a.n a.w r).length, gd zCell (partL a.n a.w r), false⟩ κ).trans ?_
            refine (same_tell (K' + 4) _ _ _ _ _ _ (by omega) (by omega) (by rw [hPl, zrow]; rfl) _).trans ?_
            refine (law10_CellsTurns_r51_s (K' + 4) a m1 v1 ⟨(partL a.n a.w r).length, gd zCell (partL a.n a.w r), false⟩ ⟨a.n, X, false⟩ (L3.length + 1) (gd zCell (x3 :: L3)) true κ).trans ?_
            rw [Bool.not_true, cond_false]
            exact tailh5 hκ hS hH m1 (L3.length + 1) v1 (gd zCell (x3 :: L3)) (by omega) (by omega) hK K'
      | cons x2 L2 =>
        simp only [List.length_cons] at hDn
        refine (law10_CellsTurns_r25_s2 (K' + 4) a c r m1 v1 ⟨a.n, X, false⟩ 0 (L2.length + 1) (gd zCell (x2 :: L2)) κ).trans ?_
        rw [r10_Delete_ok (K' + 4) a.n a.w a.u c.Key (by omega) (by omega), show delE a.n a.w = 0 by unfold delE; rw [hr]; rfl]
        refine (law10_CellsTurns_r29_s (K' + 4) a c r m1 v1 ⟨a.n, X, false⟩ (L2.length + 1) (gd zCell (x2 :: L2)) ⟨(delL a.n a.w c.Key).length, gd zCell (delL a.n a.w c.Key), false⟩ 0 κ).trans ?_
        refine (same_tell (K' + 4) _ _ _ _ _ _ (by omega) (by omega) (by rw [hDl, zrow]; rfl) _).trans ?_
        refine (law10_CellsTurns_r33_s (K' + 4) a r m1 v1 ⟨a.n, X, false⟩ (L2.length + 1) (gd zCell (x2 :: L2)) ⟨(delL a.n a.w c.Key).length, gd zCell (delL a.n a.w c.Key), false⟩ 0 true κ).trans ?_
        rw [Bool.not_true, cond_false, dec_int, Bool.not_true, cond_false]
        clear hr
        rw [part_tell (K' + 4) a.n X false r (by omega) (by omega), hrx, hl]
        cases hr : rightB a.n a.w with
        | false =>
          rw [if_neg (by simp)]
          refine (law10_CellsTurns_r37_s (K' + 4) a r m1 v1 ⟨a.n, X, false⟩ (L2.length + 1) (gd zCell (x2 :: L2)) 0 κ).trans ?_
          rw [r10_Part_ok (K' + 4) a.n a.w a.u r (by omega) (by omega)]
          refine (law10_CellsTurns_r44_s (K' + 4) a r m1 v1 ⟨a.n, X, false⟩ (L2.length + 1) (gd zCell (x2 :: L2)) 0 ⟨(partL a.n a.w r).length, gd zCell (partL a.n a.w r), false⟩ κ).trans ?_
          refine (same_tell (K' + 4) _ _ _ _ _ _ (by omega) (by omega) (by rw [show partL a.n a.w r = [] by unfold partL; rw [hr]; rfl]; rfl) _).trans ?_
          refine (law10_CellsTurns_r52_s (K' + 4) a m1 v1 ⟨(partL a.n a.w r).length, gd zCell (partL a.n a.w r), false⟩ ⟨a.n, X, false⟩ (L2.length + 1) (gd zCell (x2 :: L2)) true κ).trans ?_
          rw [Bool.not_true, cond_false]
          exact tailh6 hκ hS hH m1 (L2.length + 1) v1 (gd zCell (x2 :: L2)) (by omega) (by omega) hK K'
        | true =>
          rw [if_pos rfl]
          have hPl : partL a.n a.w r = (lst a.n a.w).filter fun c => rHas r c.Key := by unfold partL; rw [hr, if_pos rfl]
          have hPn : ((lst a.n a.w).filter fun c => rHas r c.Key).length ≤ a.n := Nat.le_trans (List.length_filter_le ..) (by rw [lst_len]; omega)
          generalize ((lst a.n a.w).filter fun c => rHas r c.Key) = L3 at hPl hPn ⊢
          cases L3 with
          | nil =>
            refine (law10_CellsTurns_r37_s1 (K' + 4) a r m1 v1 ⟨a.n, X, false⟩ (L2.length + 1) (gd zCell (x2 :: L2)) 0 κ).trans ?_
            rw [r10_Part_ok (K' + 4) a.n a.w a.u r (by omega) (by omega)]
            refine (law10_CellsTurns_r44_s (K' + 4) a r m1 v1 ⟨a.n, X, false⟩ (L2.length + 1) (gd zCell (x2 :: L2)) 0 ⟨(partL a.n a.w r).length, gd zCell (partL a.n a.w r), false⟩ κ).trans ?_
            refine (same_tell (K' + 4) _ _ _ _ _ _ (by omega) (by omega) (by rw [hPl]; rfl) _).trans ?_
            refine (law10_CellsTurns_r52_s (K' + 4) a m1 v1 ⟨(partL a.n a.w r).length, gd zCell (partL a.n a.w r), false⟩ ⟨a.n, X, false⟩ (L2.length + 1) (gd zCell (x2 :: L2)) true κ).trans ?_
            rw [Bool.not_true, cond_false]
            exact tailh6 hκ hS hH m1 (L2.length + 1) v1 (gd zCell (x2 :: L2)) (by omega) (by omega) hK K'
          | cons x3 L3 =>
            simp only [List.length_cons] at hPn
            refine (law10_CellsTurns_r37_s2 (K' + 4) a r m1 v1 ⟨a.n, X, false⟩ (L2.length + 1) (gd zCell (x2 :: L2)) 0 (L3.length + 1) (gd zCell (x3 :: L3)) κ).trans ?_
            rw [r10_Part_ok (K' + 4) a.n a.w a.u r (by omega) (by omega)]
            refine (law10_CellsTurns_r45_s (K' + 4) a r m1 v1 ⟨a.n, X, false⟩ (L2.length + 1) (gd zCell (x2 :: L2)) 0 (L3.length + 1) (gd zCell (x3 :: L3)) ⟨(partL a.n a.w r).length, gd zCell (partL a.n a.w r), false⟩ κ).trans ?_
            refine (same_tell (K' + 4) _ _ _ _ _ _ (by omega) (by omega) (by rw [hPl, zrow]; rfl) _).trans ?_
            refine (law10_CellsTurns_r53_s (K' + 4) a m1 v1 ⟨(partL a.n a.w r).length, gd zCell (partL a.n a.w r), false⟩ ⟨a.n, X, false⟩ (L2.length + 1) (gd zCell (x2 :: L2)) (L3.length + 1) (gd zCell (x3 :: L3)) true κ).trans ?_
            rw [Bool.not_true, cond_false]
            exact tailh7 hκ hS hH m1 (L2.length + 1) (L3.length + 1) v1 (gd zCell (x2 :: L2)) (gd zCell (x3 :: L3)) (by omega) (by omega) (by omega) hK K'

theorem cellsTurns_pure (a : Sl TCell) (c : TCell) (r : TRange) (ha : SSl 32 SCell a) (hc : SCell c) (hr : SRange r) :
    ∃ k, evalF ctx k n_law10_CellsTurns [.sl 2 a.n (rowOf eCell a.w) a.u, .agg (eCell c), .agg (eRange r)] [] (fun v _ => some v) = some (.bool true) := by
  suffices h : ∀ (κ : AV → Heap → Option Bool), (∀ b H, κ (.bool b) H = some b) → evalF ctx (20100 + 1) n_law10_CellsTurns [.sl 2 a.n (rowOf eCell a.w) a.u, .agg (eCell c), .agg (eRange r)] [] κ = some true by
    exact ⟨_, told_true h⟩
  intro κ hκ
  have hh : ∀ κ : AV → Option Bool, callP ctx 20100 n_law10_head [] κ = κ (.bool true) := fun κ => head_ok 20040 κ
  rw [law10_CellsTurns_e, great_ok 20100 a (fine_of ha) (by omega), law10_CellsTurns_r0_s]
  cases hg : greatB a.n a.w with
  | true => rw [cond_true, hh, law10_CellsTurns_r9_s, hκ]
  | false =>
    obtain ⟨hn, _⟩ := greatB_false hg
    obtain ⟨X, hX, hcp⟩ := r10_Copy_ok (ρ := Bool) 20100 a.n a.w a.u (by omega) (by omega)
    have hl : lst a.n X = lst a.n a.w := by
      unfold lst
      apply List.map_congr_left
      intro i hi
      exact hX i (List.mem_range.1 hi)
    rw [cond_false, hcp]
    refine (law10_CellsTurns_r10_s 20100 a c r false ⟨a.n, X, false⟩ κ).trans ?_
    exact turns_run a c r X 20096 20100 (by omega) rfl hn hl (fun H => hκ true H) (fun κ' => same_tell 20100 _ _ _ _ _ _ (by omega) (by omega) hl κ') hh
end Go.Proofs.YtpbiclnkbkghaaaC

namespace Go.Proofs.Ytpbiclnkbkghaaa.cellsTurns
open Go Go.ChangeShapes Go.WideShapes Go.ChangeAt Go.RowKit Go.Ev Go.Proofs.YtpbiclnkbkghaaaC
open Go.ChangeMaps (open_string shut_string)
set_option linter.unusedVariables false
theorem own : ownKnob Try.prog.godebug = none := by kernel_rfl
theorem laidOut : laidOutB Try.prog = true := by kernel_rfl
set_option maxRecDepth 100000 in
theorem lifted (os : Os) (started : os.Started) (H : Type) (enc : TypeId × Value → H) :
    ReturnsInHanded {} Try.checked os 6 .any (Rows.cellsTurnsSpec.pre6 enc Try.prog Try.f6 Rows.cellsTurnsRow.domain false) (Rows.cellsTurnsSpec.post enc Try.prog Try.f6 false true false false) := by
  refine returnsInHanded_of_change_sized (C := Try.checked) own started (by kernel_rfl) Try.func6
    (ChangeSpec.witness6 (enc := enc) (C := Try.checked) false ⟨#[], #[.slice none 0 0, .agg #[.string ByteArray.empty, .string ByteArray.empty], .agg #[.string ByteArray.empty, .string ByteArray.empty, .bool false]], []⟩ 8 (by kernel_rfl) (by kernel_rfl) (by kernel_rfl) (by kernel_rfl)) ?_
  intro W base args ds gs before hval0 hW hcnd hsz0 _
  have hsz : (DataW.weightsEach Try.prog (Try.f6.params.toList ++ Rows.cellsTurnsSpec.plain.varTypes Try.prog) (ds ++ gs)).all (· ≤ reachBytes) = true := hsz0
  have hval : ∀ (j : Nat) t v, Try.f6.params[j]? = some t → args[j]? = some v → Value.okWide Try.prog W .any base t v := hval0
  have hW' := hW
  obtain ⟨p, q, hA0, hV, rfl, hfz, hnd⟩ := hW
  have hA : DataW.TrodAll enc Try.prog W 0 (fun _ => true) true Try.f6.params.toList args.toList ds p := hA0
  rw [Try.params6] at hA hval hsz
  obtain ⟨v0, vs0, d0, ds0, p0, q0, hargs, rfl, rfl, h0, r0⟩ := trodAll_cons hA
  obtain ⟨v1, vs1, d1, ds1, p1, q1, rfl, rfl, rfl, h1, r1⟩ := trodAll_cons r0
  obtain ⟨v2, vs2, d2, ds2, p2, q2, rfl, rfl, rfl, h2, r2⟩ := trodAll_cons r1
  obtain ⟨rfl, rfl, rfl⟩ := trodAll_nil r2
  obtain rfl : args = #[v0, v1, v2] := by cases args; simp_all
  obtain ⟨rfl, rfl⟩ := trodVars_none hV
  have k0 := h0
  have lt0 : ∀ x ∈ p0, x.block < W.heap.size := by obtain ⟨m, hm⟩ := k0; exact DataW.trod_lt m _ _ _ hm
  obtain ⟨a0, hK0, hS0⟩ := opened (j := 0) (t := 22) (Opens.eL Try.underlying22 rfl rfl (by decide) opens38) hsz rfl rfl h0
  have k1 := h1
  have lt1 : ∀ x ∈ p1, x.block < W.heap.size := by obtain ⟨m, hm⟩ := k1; exact DataW.trod_lt m _ _ _ hm
  obtain ⟨a1, hK1, hS1⟩ := opened (j := 1) (t := 38) opens38 hsz rfl rfl h1
  have k2 := h2
  have lt2 : ∀ x ∈ p2, x.block < W.heap.size := by obtain ⟨m, hm⟩ := k2; exact DataW.trod_lt m _ _ _ hm
  obtain ⟨a2, hK2, hS2⟩ := opened (j := 2) (t := 45) opens45 hsz rfl rfl h2
  clear hA0 hval0 hsz0
  obtain ⟨k, h⟩ := cellsTurns_pure a0 a1 a2 hS0 hS1 hS2
  refine (top ((arg_slice Try.underlying22 (hval 0 22 v0 rfl rfl) hK0).append ((arg_agg Try.underlying38 (hval 1 38 v1 rfl rfl) opens38.2.1 hK1).append ((arg_agg Try.underlying45 (hval 2 45 v2 rfl rfl) opens45.2.1 hK2)))) h).mono fun e W' ⟨he, bel⟩ => ?_
  subst he
  exact ⟨_, rfl, _, _, _, [], _, [], hW', trodAll_mk1 (shut_bool Try.underlying4 _), (trodAll_cons_mk (Below.trod laidOut (by kernel_rfl) (of_decide_eq_true (by kernel_rfl)) k0 bel lt0) (trodAll_cons_mk (Below.trod laidOut (by kernel_rfl) (of_decide_eq_true (by kernel_rfl)) k1 bel lt1) (trodAll_cons_mk (Below.trod laidOut (by kernel_rfl) (of_decide_eq_true (by kernel_rfl)) k2 bel lt2) trodAll_mk0))), rfl, bel.frame _, fun h => by cases h⟩
theorem over : Rows.cellsTurnsRow.holds Try.pinned (OpenSpec.ofChange Rows.cellsTurnsSpec) :=
  OpenClaim.holds_of_wide 6 Try.f6 rfl rfl rfl rfl rfl rfl rfl ⟨rfl, rfl, rfl, rfl, rfl⟩ rfl rfl rfl rfl rfl (by kernel_rfl) Try.func6 (by kernel_rfl)
    (of_decide_eq_true (by kernel_rfl)) (by unfold Func.isWrapper; first | (rw [if_pos (by decide +kernel)]; kernel_rfl) | (rw [if_neg (by decide +kernel)]; exact ⟨rfl, rfl⟩))
    (fun os started H enc _ => lifted os started H enc)
theorem proved : Rows.CellsTurnsSaid := over
end Go.Proofs.Ytpbiclnkbkghaaa.cellsTurns
namespace Go.Proofs.Ytpbiclnkbkghaaa
/-- The row, under a short name, for the claim. -/
theorem cellsTurns_holds : Rows.CellsTurnsSaid := cellsTurns.proved
#print axioms cellsTurns_holds
end Go.Proofs.Ytpbiclnkbkghaaa
