/- Cells: Delete and Part. No conditions. -/
import Derived.Test.YtpbiclnkbkghaaaC1
import Derived.Test.YtpbiclnkbkghaaaG2
set_option linter.unusedVariables false
set_option linter.unusedSimpArgs false
namespace Go.Proofs.YtpbiclnkbkghaaaC
open Go Go.Ev Go.Proofs
variable {ρ : Type}

/-! ### ranges -/
def rRight (r : TRange) : Bool := !decide (513 < r.From.size) && (!decide (513 < r.To.size) && (bif r.End then bl r.From r.To else decide (r.To = (⟨#[]⟩ : ByteArray))))
def hasB (r : TRange) (key : ByteArray) : Bool := !bl key r.From && (!r.End || bl key r.To)
def rHas (r : TRange) (key : ByteArray) : Bool := rRight r && hasB r key
theorem span_Has_ok (k : Nat) (r : TRange) (key : ByteArray) (hk : 5 ≤ k) (κ : AV → Option ρ) : callP ctx k n_span_Has [.agg (eRange r), .str key] κ = κ (.bool (rHas r key)) := by
  obtain ⟨k, rfl⟩ : ∃ k', k = k' + 3 := ⟨k - 3, by omega⟩
  rw [callP_eq, span_Has_e]
  unfold rHas rRight hasB
  rw [show decide (513 < (r.From.size : Int)) = decide (513 < r.From.size) from decide_eq_decide.2 (by omega), show decide (513 < (r.To.size : Int)) = decide (513 < r.To.size) from decide_eq_decide.2 (by omega)]
  cases decide (513 < r.From.size) <;> cases decide (513 < r.To.size) <;> cases r.End <;> cases bl r.From r.To <;> cases decide (r.To = (⟨#[]⟩ : ByteArray)) <;> cases bl key r.From <;> cases bl key r.To <;> rfl
theorem r03_Has_ok (k : Nat) (r : TRange) (key : ByteArray) (hk : 5 ≤ k) (κ : AV → Option ρ) : callP ctx k n_r03_Has [.agg (eRange r), .str key] κ = κ (.bool (rHas r key)) := by
  obtain ⟨k, rfl⟩ : ∃ k', k = k' + 2 := ⟨k - 2, by omega⟩
  rw [callP_eq, r03_Has_e]
  unfold rHas rRight hasB
  rw [show decide (513 < (r.From.size : Int)) = decide (513 < r.From.size) from decide_eq_decide.2 (by omega), show decide (513 < (r.To.size : Int)) = decide (513 < r.To.size) from decide_eq_decide.2 (by omega)]
  cases decide (513 < r.From.size) <;> cases decide (513 < r.To.size) <;> cases r.End <;> cases bl r.From r.To <;> cases decide (r.To = (⟨#[]⟩ : ByteArray)) <;> cases bl key r.From <;> cases bl key r.To <;> rfl

/-! ### rows that are built -/
theorem more_ok (m n1 : Nat) (A B : Option ρ) (h : m = n1) (hb : (m + 1) * 32 ≤ 70368744177664) : (bif decide (((0 + m) + 1) ≤ n1) then A else (bif ((decide (m = n1)) && (roomOf (m + 1) 32)) then B else none)) = B := by
  rw [decide_eq_false (by omega), decide_eq_true h, room_of hb (by omega)]; rfl
noncomputable def hdD (k : Nat) (l : Sl TCell) (key : ByteArray) (κ : AV → Heap → Option ρ) (j i : Nat) : List TCell → Option ρ
  | [] => kept_Delete_h0 (k + 1) j l key (i : Int) κ
  | x :: L => kept_Delete_h1 (k + 1) j l key (L.length + 1) (i : Int) (L.length + 1) (rowOf eCell (gd zCell (x :: L))) κ
theorem kept_Delete_ok (k : Nat) (l : Sl TCell) (key : ByteArray) (hn : l.n ≤ 10000) (hk : l.n + 3 ≤ k) (κ : AV → Heap → Option ρ) :
    evalF ctx k n_cells_kept_Cell [.sl 2 l.n (rowOf eCell l.w) l.u, .fn n_cells_Delete_1 [] [.ref 0 0]] [some (.box [.str key])] κ =
      κ (oV 2 eCell zCell 1 (l.l.filter fun c => !decide (c.Key = key))) (some (.box [.str key]) :: oH 2 eCell zCell (l.l.filter fun c => !decide (c.Key = key))) := by
  obtain ⟨k, rfl⟩ : ∃ k', k = k' + 2 := ⟨k - 2, by omega⟩
  rw [kept_Delete_e]
  have h := filter_loop (n := l.n) (P := fun i => !decide ((l.w i).Key = key)) (w := l.w) (hd := hdD k l key κ)
    (fin := fun L => κ (oV 2 eCell zCell 1 L) (some (.box [.str key]) :: oH 2 eCell zCell L)) (fun j i L hi hL => ?_) (fun j L => ?_) (k + 1) 0 [] (by omega) (by omega) (by simp)
  · rw [List.nil_append, filter_lst l.n l.w (fun c => !decide (c.Key = key))] at h
    exact h
  · have e0 : decide ((i : Int) < (l.n : Int)) = true := decide_eq_true (by omega)
    have e1 : decide (i < l.n) = true := decide_eq_true hi
    cases L with
    | nil =>
      unfold hdD
      rw [kept_Delete_h0_s]
      simp only [e0, e1, idx_nat, Int.toNat_natCast, cond_true, row_first, wi64_succ (show i < 9223372036854775807 by omega)]
      cases (!decide ((l.w i).Key = key)) <;> rfl
    | cons x L =>
      simp only [hdD, List.cons_append, List.length_append, List.length_cons, List.length_nil]
      simp only [List.length_cons] at hL
      rw [kept_Delete_h1_s, more_ok _ _ _ _ rfl (by omega)]
      simp only [e0, e1, idx_nat, Int.toNat_natCast, cond_true, wi64_succ (show i < 9223372036854775807 by omega)]
      rw [row_next eCell (x :: L) _ zCell _ (by simp)]
      cases (!decide ((l.w i).Key = key)) <;> rfl
  · have e0 : decide ((l.n : Int) < (l.n : Int)) = false := decide_eq_false (by omega)
    cases L with
    | nil => simp only [hdD]; rw [kept_Delete_h0_s, e0]; rfl
    | cons x L => simp only [hdD]; rw [kept_Delete_h1_s, e0]; rfl
/-- the cells of other keys -/
def delL (n : Nat) (w : Nat → TCell) (key : ByteArray) : List TCell := if rightB n w = true then (lst n w).filter (fun c => !decide (c.Key = key)) else []
def delE (n : Nat) (w : Nat → TCell) : Int := if rightB n w = true then 0 else 100
theorem cells_Delete_ok (k n : Nat) (w : Nat → TCell) (u : Bool) (key : ByteArray) (hn : n ≤ 10000) (hk : n + 5 ≤ k) (κ : AV → Option ρ) :
    callP ctx k n_cells_Delete [.sl 2 n (rowOf eCell w) u, .str key] κ = κ (.tup [.sl 2 (delL n w key).length (rowOf eCell (gd zCell (delL n w key))) false, .int .i64 (delE n w)]) := by
  obtain ⟨k, rfl⟩ : ∃ k', k = k' + 1 := ⟨k - 1, by omega⟩
  rw [callP_eq]
  refine (cells_Delete_e k ⟨n, w, u⟩ key (pk κ)).trans ?_
  simp only
  rw [cells_Right_ok k n w u (by omega) (by omega), cells_Delete_r0_s]
  unfold delL delE
  cases h : rightB n w with
  | false => exact pk_oVi κ 2 eCell zCell .i64 100 []
  | true =>
    simp only [Bool.not_true, cond_false, if_true]
    refine (kept_Delete_ok k ⟨n, w, u⟩ key hn (by simp only; omega) _).trans ?_
    simp only [Sl.l]
    rw [← pk_oVi κ 2 eCell zCell .i64 0]
    generalize (lst n w).filter (fun c => !decide (c.Key = key)) = L
    cases L with
    | nil => exact cells_Delete_r1_s k ⟨n, w, u⟩ key true (pk κ)
    | cons x L => exact cells_Delete_r1_s1 k ⟨n, w, u⟩ key true (L.length + 1) (gd zCell (x :: L)) (pk κ)
noncomputable def hdR (k : Nat) (l : Sl TCell) (key : ByteArray) (κ : AV → Heap → Option ρ) (j i : Nat) : List TCell → Option ρ
  | [] => r10_Delete_h0 k j l key (i : Int) κ
  | x :: L => r10_Delete_h1 k j l key (L.length + 1) (i : Int) (L.length + 1) (rowOf eCell (gd zCell (x :: L))) κ
theorem r10_Delete_ok (k n : Nat) (w : Nat → TCell) (u : Bool) (key : ByteArray) (hn : n ≤ 10000) (hk : n + 5 ≤ k) (κ : AV → Option ρ) :
    callP ctx k n_r10_Delete [.sl 2 n (rowOf eCell w) u, .str key] κ = κ (.tup [.sl 2 (delL n w key).length (rowOf eCell (gd zCell (delL n w key))) false, .int .i64 (delE n w)]) := by
  obtain ⟨k, rfl⟩ : ∃ k', k = k' + 1 := ⟨k - 1, by omega⟩
  rw [callP_eq]
  refine (r10_Delete_e k ⟨n, w, u⟩ key (pk κ)).trans ?_
  simp only
  rw [r10_Right_ok k n w u (by omega) (by omega), r10_Delete_r0_s]
  unfold delL delE
  cases h : rightB n w with
  | false => exact pk_oVi κ 2 eCell zCell .i64 100 []
  | true =>
    simp only [Bool.not_true, cond_false, if_true]
    rw [← pk_oVi κ 2 eCell zCell .i64 0]
    have h := filter_loop (n := n) (P := fun i => !decide ((w i).Key = key)) (w := w) (hd := hdR k ⟨n, w, u⟩ key (pk κ))
      (fin := fun L => pk κ (.tup [oV 2 eCell zCell 0 L, .int .i64 0]) (oH 2 eCell zCell L)) (fun j i L hi hL => ?_) (fun j L => ?_) k 0 [] (by omega) (by omega) (by simp)
    · rw [List.nil_append, filter_lst n w (fun c => !decide (c.Key = key))] at h
      exact h
    · have e0 : decide ((i : Int) < (n : Int)) = true := decide_eq_true (by omega)
      have e1 : decide (i < n) = true := decide_eq_true hi
      cases L with
      | nil =>
        unfold hdR
        rw [r10_Delete_h0_s]
        simp only [e0, e1, idx_nat, Int.toNat_natCast, cond_true, row_first, wi64_succ (show i < 9223372036854775807 by omega)]
        cases (!decide ((w i).Key = key)) <;> rfl
      | cons x L =>
        simp only [hdR, List.cons_append, List.length_append, List.length_cons, List.length_nil]
        simp only [List.length_cons] at hL
        rw [r10_Delete_h1_s, more_ok _ _ _ _ rfl (by omega)]
        simp only [e0, e1, idx_nat, Int.toNat_natCast, cond_true, wi64_succ (show i < 9223372036854775807 by omega)]
        rw [row_next eCell (x :: L) _ zCell _ (by simp)]
        cases (!decide ((w i).Key = key)) <;> rfl
    · have e0 : decide ((n : Int) < (n : Int)) = false := decide_eq_false (by omega)
      cases L with
      | nil => simp only [hdR]; rw [r10_Delete_h0_s]; simp only [e0]; rfl
      | cons x L => simp only [hdR]; rw [r10_Delete_h1_s]; simp only [e0]; rfl
/-! ### Part -/
noncomputable def hdP (k : Nat) (l : Sl TCell) (r : TRange) (κ : AV → Heap → Option ρ) (j i : Nat) : List TCell → Option ρ
  | [] => kept_Part_h0 k j l r (i : Int) κ
  | x :: L => kept_Part_h1 k j l r (L.length + 1) (i : Int) (L.length + 1) (rowOf eCell (gd zCell (x :: L))) κ
theorem cells_Part_1_ok (k : Nat) (c : TCell) (r : TRange) (hk : 8 ≤ k) (κ : AV → Heap → Option ρ) : evalF ctx k n_cells_Part_1 [.agg (eCell c), .ref 0 0] [some (.box [.str r.From, .str r.To, .bool r.End])] κ = κ (.bool (rHas r c.Key)) [some (.box [.str r.From, .str r.To, .bool r.End])] := by
  obtain ⟨k, rfl⟩ : ∃ k', k = k' + 1 := ⟨k - 1, by omega⟩
  rw [cells_Part_1_e, span_Has_ok k r c.Key (by omega), cells_Part_1_r0_s]
theorem kept_Part_ok (k : Nat) (l : Sl TCell) (r : TRange) (hn : l.n ≤ 10000) (hk : l.n + 12 ≤ k) (κ : AV → Heap → Option ρ) :
    evalF ctx k n_cells_kept_Cell [.sl 2 l.n (rowOf eCell l.w) l.u, .fn n_cells_Part_1 [] [.ref 0 0]] [some (.box [.str r.From, .str r.To, .bool r.End])] κ =
      κ (oV 2 eCell zCell 1 (l.l.filter fun c => rHas r c.Key)) (some (.box [.str r.From, .str r.To, .bool r.End]) :: oH 2 eCell zCell (l.l.filter fun c => rHas r c.Key)) := by
  obtain ⟨k, rfl⟩ : ∃ k', k = k' + 1 := ⟨k - 1, by omega⟩
  rw [kept_Part_e]
  have h := filter_loop (n := l.n) (P := fun i => rHas r (l.w i).Key) (w := l.w) (hd := hdP k l r κ)
    (fin := fun L => κ (oV 2 eCell zCell 1 L) (some (.box [.str r.From, .str r.To, .bool r.End]) :: oH 2 eCell zCell L)) (fun j i L hi hL => ?_) (fun j L => ?_) k 0 [] (by omega) (by omega) (by simp)
  · rw [List.nil_append, filter_lst l.n l.w (fun c => rHas r c.Key)] at h
    exact h
  · have e0 : decide ((i : Int) < (l.n : Int)) = true := decide_eq_true (by omega)
    have e1 : decide (i < l.n) = true := decide_eq_true hi
    have ha := cells_Part_1_ok (ρ := ρ) k (l.w i) r (by omega)
    cases L with
    | nil =>
      unfold hdP
      rw [kept_Part_h0_s]
      simp only [e0, e1, idx_nat, Int.toNat_natCast, cond_true]
      refine (ha _).trans ?_
      rw [kept_Part_r0_s]
      simp only [Int.toNat_natCast, row_first, wi64_succ (show i < 9223372036854775807 by omega)]
      cases rHas r (l.w i).Key <;> rfl
    | cons x L =>
      simp only [hdP, List.cons_append, List.length_append, List.length_cons, List.length_nil]
      simp only [List.length_cons] at hL
      rw [kept_Part_h1_s]
      simp only [e0, e1, idx_nat, Int.toNat_natCast, cond_true]
      refine (ha _).trans ?_
      rw [kept_Part_r1_s, more_ok _ _ _ _ rfl (by omega)]
      simp only [Int.toNat_natCast, wi64_succ (show i < 9223372036854775807 by omega)]
      rw [row_next eCell (x :: L) _ zCell _ (by simp)]
      cases rHas r (l.w i).Key <;> rfl
  · have e0 : decide ((l.n : Int) < (l.n : Int)) = false := decide_eq_false (by omega)
    cases L with
    | nil => simp only [hdP]; rw [kept_Part_h0_s, e0]; rfl
    | cons x L => simp only [hdP]; rw [kept_Part_h1_s, e0]; rfl
def partL (n : Nat) (w : Nat → TCell) (r : TRange) : List TCell := if rightB n w = true then (lst n w).filter (fun c => rHas r c.Key) else []
theorem cells_Part_ok (k n : Nat) (w : Nat → TCell) (u : Bool) (r : TRange) (hn : n ≤ 10000) (hk : n + 20 ≤ k) (κ : AV → Option ρ) :
    callP ctx k n_cells_Part [.sl 2 n (rowOf eCell w) u, .agg (eRange r)] κ = κ (.sl 2 (partL n w r).length (rowOf eCell (gd zCell (partL n w r))) false) := by
  obtain ⟨k, rfl⟩ : ∃ k', k = k' + 1 := ⟨k - 1, by omega⟩
  rw [callP_eq]
  refine (cells_Part_e k ⟨n, w, u⟩ r (pk κ)).trans ?_
  simp only
  rw [cells_Right_ok k n w u (by omega) (by omega), cells_Part_r0_s]
  unfold partL
  cases h : rightB n w with
  | false => exact pk_oV κ 2 eCell zCell []
  | true =>
    simp only [Bool.not_true, cond_false, if_true]
    refine (kept_Part_ok k ⟨n, w, u⟩ r hn (by simp only; omega) _).trans ?_
    simp only [Sl.l]
    rw [← pk_oV κ 2 eCell zCell]
    generalize (lst n w).filter (fun c => rHas r c.Key) = L
    cases L with
    | nil => exact cells_Part_r1_s k ⟨n, w, u⟩ r true (pk κ)
    | cons x L => exact cells_Part_r1_s1 k ⟨n, w, u⟩ r true (L.length + 1) (gd zCell (x :: L)) (pk κ)

end Go.Proofs.YtpbiclnkbkghaaaC
