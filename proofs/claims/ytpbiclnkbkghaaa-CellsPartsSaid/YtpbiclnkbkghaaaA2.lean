/- CellsParts: what the law's function comes to. No conditions. -/
import Derived.Test.YtpbiclnkbkghaaaP1
import Derived.Test.YtpbiclnkbkghaaaH
import Derived.Test.YtpbiclnkbkghaaaG4
set_option linter.unusedVariables false
set_option linter.unusedSimpArgs false
set_option maxRecDepth 20000
namespace Go.Proofs.YtpbiclnkbkghaaaC
open Go Go.Ev Go.Proofs
variable {ρ : Type}
theorem parts_tail (x : TCuts) (ha : Fine x.A.n x.A.w) (hn : x.A.n ≤ 50) (hr : rightB x.A.n x.A.w = true) (k : Nat) (hh : ∀ κ : AV → Option ρ, callP ctx (k + 199) n_law10_head [] κ = κ (.bool true)) (κ : AV → Heap → Option ρ) :
    callP ctx (k + 199) n_cells_Half [.sl 2 x.A.n (rowOf eCell x.A.w) x.A.u] (law10_CellsParts_r10 (k + 199) x false κ) = κ (.bool true) [] := by
  rw [cells_Half_ok _ _ _ _ ha (by omega) (by omega), law10_CellsParts_r10_s]
  unfold halfI
  rw [if_pos hr]
  by_cases h2 : x.A.n < 2
  · rw [if_pos h2]
    have e : decide ((x.A.n : Int) < 2) = true := decide_eq_true (by omega)
    show (bif decide ((x.A.n : Int) < 2) then _ else _) = _
    rw [e, cond_true, hh, law10_CellsParts_r11_s, law10_CellsParts_e1_s]
  · rw [if_neg h2]
    obtain ⟨a1, a2, a3, a4⟩ := halfN_ok x.A.w (show 2 ≤ x.A.n by omega)
    generalize halfN x.A.n x.A.w = m at *
    have hb := sizeN_le ha x.A.n (Nat.le_refl _)
    have hm := sizeN_mono (w := x.A.w) (show m ≤ x.A.n by omega)
    have hm1 := sizeN_mono (w := x.A.w) (show m - 1 ≤ x.A.n by omega)
    have e1 : decide ((m : Int) < 1) = false := decide_eq_false (by omega)
    have e2 : decide ((x.A.n : Int) ≤ (m : Int)) = false := decide_eq_false (by omega)
    have ec := cut_nat (n := x.A.n) (l := 0) (h := m) (m := x.A.n) (by omega) (by omega) (by omega)
    have ec1 := cut_nat (n := x.A.n) (l := 0) (h := m - 1) (m := x.A.n) (by omega) (by omega) (by omega)
    simp only [Int.natCast_zero] at ec ec1
    have ew : wi64 ((x.A.n : Int) - 1) = ((x.A.n - 1 : Nat) : Int) := wi64_pred (by omega) (by omega)
    have ep : wi64 ((m : Int) - 1) = ((m - 1 : Nat) : Int) := wi64_pred (by omega) (by omega)
    have t1 := wi64_in (n := 2 * (sizeN m x.A.w : Int)) (by omega) (by omega)
    have t2 := wi64_in (n := 2 * (sizeN (m - 1) x.A.w : Int)) (by omega) (by omega)
    show (bif decide ((m : Int) < 1) then _ else _) = _
    rw [e1, cond_false, e2, law10_CellsParts_e2_s, cond_false, cells_Size_ok _ _ _ _ ha (by omega) (by omega), law10_CellsParts_r12_s]
    have hS := cells_Size_ok (ρ := ρ) (k + 199) m x.A.w (x.A.u && decide ((m : Int) = (x.A.n : Int))) (ha.le (by omega)) (by omega) (by omega)
    have hS1 := cells_Size_ok (ρ := ρ) (k + 199) (m - 1) x.A.w (x.A.u && decide (((m - 1 : Nat) : Int) = (x.A.n : Int))) (ha.le (by omega)) (by omega) (by omega)
    have last : m ≠ x.A.n - 1 → decide ((sizeN x.A.n x.A.w : Int) ≤ wi64 (2 * (sizeN m x.A.w : Int))) = true := fun h => by rw [t1]; exact decide_eq_true (by omega)
    by_cases h1 : m = 1
    · have f1 : decide ((m : Int) = 1) = true := decide_eq_true (by omega)
      rw [f1, cond_true]
      by_cases h3 : m = x.A.n - 1
      · have f3 : decide ((m : Int) = wi64 ((x.A.n : Int) - 1)) = true := by rw [ew]; exact decide_eq_true (by omega)
        rw [f3, cond_true, hh, law10_CellsParts_r13_s, law10_CellsParts_e3_s]
      · have f3 : decide ((m : Int) = wi64 ((x.A.n : Int) - 1)) = false := by rw [ew]; exact decide_eq_false (by omega)
        rw [f3, cond_false, ec, cond_true, zrow, Int.toNat_natCast, hS, law10_CellsParts_r14_s, last h3, cond_true, hh, law10_CellsParts_r16_s, law10_CellsParts_e3_s]
    · have f1 : decide ((m : Int) = 1) = false := decide_eq_false (by omega)
      have f2 : decide (wi64 (2 * (sizeN (m - 1) x.A.w : Int)) < (sizeN x.A.n x.A.w : Int)) = true := by
        rw [t2]; exact decide_eq_true (by have := a4 (m - 1) (by omega) (by omega); omega)
      simp only [f1, cond_false, ep, ec1, cond_true, zrow, Int.toNat_natCast]
      rw [hS1, law10_CellsParts_r15_s, f2, cond_true]
      by_cases h3 : m = x.A.n - 1
      · have f3 : decide ((m : Int) = wi64 ((x.A.n : Int) - 1)) = true := by rw [ew]; exact decide_eq_true (by omega)
        rw [f3, cond_true, hh, law10_CellsParts_r17_s, law10_CellsParts_e3_s]
      · have f3 : decide ((m : Int) = wi64 ((x.A.n : Int) - 1)) = false := by rw [ew]; exact decide_eq_false (by omega)
        rw [f3, cond_false, ec, cond_true, zrow, Int.toNat_natCast, hS, law10_CellsParts_r18_s, last h3, cond_true, hh, law10_CellsParts_r19_s, law10_CellsParts_e3_s]
theorem parts_ok (x : TCuts) (ha : Fine x.A.n x.A.w) (k : Nat) (κ : AV → Heap → Option ρ) : evalF ctx (k + 200) n_law10_CellsParts [.agg (eCuts x)] [] κ = κ (.bool true) [] := by
  have hh : ∀ κ : AV → Option ρ, callP ctx (k + 199) n_law10_head [] κ = κ (.bool true) := fun κ => head_ok (k + 139) κ
  have h0 : law10_CellsParts_e0 (k + 199) x true κ = κ (.bool true) [] := by rw [law10_CellsParts_e0_s, cond_true, hh, law10_CellsParts_r2_s]
  rw [law10_CellsParts_e, great_ok (k + 199) x.A ha (by omega), law10_CellsParts_r0_s]
  cases hg : greatB x.A.n x.A.w with
  | true => rw [cond_true, h0]
  | false =>
    obtain ⟨hn, ht⟩ := greatB_false hg
    have hPart : ∀ (r : TRange) (κ : AV → Option ρ), callP ctx (k + 199) n_cells_Part [.sl 2 x.A.n (rowOf eCell x.A.w) x.A.u, .agg (eRange r)] κ = κ (.sl 2 (partL x.A.n x.A.w r).length (rowOf eCell (gd zCell (partL x.A.n x.A.w r))) false) := fun r κ => cells_Part_ok (k + 199) x.A.n x.A.w x.A.u r (by omega) (by omega) κ
    rw [cond_false, cells_Right_ok _ _ _ _ (by omega) (by omega), law10_CellsParts_r1_s]
    cases hr : rightB x.A.n x.A.w with
    | false => rw [Bool.not_false, cond_true, h0]
    | true =>
      rw [Bool.not_true, cond_false]
      have f1 : decide (500 < (x.Low.size : Int)) = decide (500 < x.Low.size) := decide_eq_decide.2 (by omega)
      have f2 : decide (500 < (x.Mid.size : Int)) = decide (500 < x.Mid.size) := decide_eq_decide.2 (by omega)
      have f3 : decide (500 < (x.High.size : Int)) = decide (500 < x.High.size) := decide_eq_decide.2 (by omega)
      rw [f1, f2, f3]
      cases hl : decide (500 < x.Low.size) with
      | true => rw [cond_true, h0]
      | false =>
      rw [cond_false]
      cases hm : decide (500 < x.Mid.size) with
      | true => rw [cond_true, h0]
      | false =>
      rw [cond_false]
      cases hi : decide (500 < x.High.size) with
      | true => rw [cond_true, h0]
      | false =>
      rw [cond_false]
      replace hl := of_decide_eq_false hl
      replace hm := of_decide_eq_false hm
      replace hi := of_decide_eq_false hi
      cases h1 : bl x.Low x.Mid with
      | false => rw [Bool.not_false, cond_true, h0]
      | true =>
        rw [Bool.not_true, cond_false]
        cases h2 : bl x.Mid x.High with
        | false => rw [Bool.not_false, h0]
        | true =>
          have hp := parts_meet (right_list.1 hr).2 h1 h2 (by omega) (by omega) (by omega)
          have tail := parts_tail x ha hn hr k hh κ
          rw [Bool.not_true, law10_CellsParts_e0_s, cond_false, hPart]
          have e3 : partL x.A.n x.A.w ⟨x.Low, x.Mid, true⟩ = (lst x.A.n x.A.w).filter fun c => rHas ⟨x.Low, x.Mid, true⟩ c.Key := by unfold partL; rw [if_pos hr]
          have e4 : partL x.A.n x.A.w ⟨x.Mid, x.High, true⟩ = (lst x.A.n x.A.w).filter fun c => rHas ⟨x.Mid, x.High, true⟩ c.Key := by unfold partL; rw [if_pos hr]
          have e5 : partL x.A.n x.A.w ⟨x.Low, x.High, true⟩ = (lst x.A.n x.A.w).filter fun c => rHas ⟨x.Low, x.High, true⟩ c.Key := by unfold partL; rw [if_pos hr]
          have l3 : (partL x.A.n x.A.w ⟨x.Low, x.Mid, true⟩).length ≤ 50 := by rw [e3]; have := List.length_filter_le (fun c : TCell => rHas ⟨x.Low, x.Mid, true⟩ c.Key) (lst x.A.n x.A.w); rw [lst_len] at this; omega
          have l4 : (partL x.A.n x.A.w ⟨x.Mid, x.High, true⟩).length ≤ 50 := by rw [e4]; have := List.length_filter_le (fun c : TCell => rHas ⟨x.Mid, x.High, true⟩ c.Key) (lst x.A.n x.A.w); rw [lst_len] at this; omega
          rw [← e3, ← e4, ← e5] at hp
          refine (law10_CellsParts_r3_s (k + 199) x false ⟨_, gd zCell (partL x.A.n x.A.w ⟨x.Low, x.Mid, true⟩), false⟩ κ).trans ?_
          rw [hPart]
          refine (law10_CellsParts_r4_s (k + 199) x ⟨_, gd zCell (partL x.A.n x.A.w ⟨x.Low, x.Mid, true⟩), false⟩ ⟨_, gd zCell (partL x.A.n x.A.w ⟨x.Mid, x.High, true⟩), false⟩ κ).trans ?_
          rw [hPart]
          refine (law10_CellsParts_r5_s (k + 199) x ⟨_, gd zCell (partL x.A.n x.A.w ⟨x.Low, x.Mid, true⟩), false⟩ ⟨_, gd zCell (partL x.A.n x.A.w ⟨x.Mid, x.High, true⟩), false⟩ ⟨_, gd zCell (partL x.A.n x.A.w ⟨x.Low, x.High, true⟩), false⟩ κ).trans ?_
          clear hPart e3 e4 e5
          generalize partL x.A.n x.A.w ⟨x.Low, x.Mid, true⟩ = L3 at *
          generalize partL x.A.n x.A.w ⟨x.Mid, x.High, true⟩ = L4 at *
          generalize partL x.A.n x.A.w ⟨x.Low, x.High, true⟩ = L5 at *
          have hsame : ∀ (m : Nat) (v : Nat → TCell) (u : Bool) (κ : AV → Option ρ), m ≤ 100 → lst m v = L3 ++ L4 → callP ctx (k + 199) n_cells_Same [.sl 2 m (rowOf eCell v) u, .sl 2 L5.length (rowOf eCell (gd zCell L5)) false] κ = κ (.bool true) := by
            intro m v u κ hm hv
            rw [cells_Same_ok _ _ _ _ _ _ _ (by omega) (by omega), sameB_iff.2 (by rw [hv, hp, gd_lst])]
          simp only [cat_row, sh0_row, Nat.zero_add]
          have r0 : ∀ m, m ≤ 100 → roomOf m 32 = true := fun m hm => room_of (by omega) (by omega)
          have c1 : ∀ (w : Nat → TCell) (n : Nat), lst n (catW 0 (fun _ => zCell) w) = lst n w := fun w n => by
            apply List.map_congr_left; intro i _; simp [catW]
          have c2 : ∀ (v w : Nat → TCell) (n m : Nat), lst (n + m) (catW n v w) = lst n v ++ lst m w := fun v w n m => l_cat n m v w false
          by_cases h3 : L3.length = 0
          · rw [decide_eq_true h3, cond_true]
            have : L3 = [] := List.length_eq_zero_iff.1 h3
            subst this
            by_cases h4 : L4.length = 0
            · rw [decide_eq_true h4, cond_true]
              have : L4 = [] := List.length_eq_zero_iff.1 h4
              subst this
              rw [hsame 0 _ _ _ (by omega) rfl]
              refine (law10_CellsParts_r6_s (k + 199) x _ _ _ true κ).trans ?_
              exact tail
            · rw [decide_eq_false h4, cond_false, r0 _ (by omega), cond_true, hsame _ _ _ _ (by omega) (by rw [c1, gd_lst]; rfl)]
              refine (law10_CellsParts_r7_s (k + 199) x _ _ _ true κ).trans ?_
              exact tail
          · rw [decide_eq_false h3, cond_false, r0 _ (by omega), cond_true]
            by_cases h4 : L4.length = 0
            · rw [decide_eq_true h4, cond_true]
              have : L4 = [] := List.length_eq_zero_iff.1 h4
              subst this
              rw [hsame _ _ _ _ (by omega) (by rw [c1, gd_lst, List.append_nil])]
              refine (law10_CellsParts_r8_s (k + 199) x _ _ _ _ _ _ true κ).trans ?_
              exact tail
            · have d1 : decide (L3.length + L4.length ≤ L3.length) = false := decide_eq_false (by omega)
              rw [decide_eq_false h4, cond_false, d1, cond_false, decide_true, r0 _ (by omega), Bool.and_self, cond_true, hsame _ _ _ _ (by omega) (by rw [c2, c1, gd_lst, gd_lst])]
              refine (law10_CellsParts_r9_s (k + 199) x _ _ _ true κ).trans ?_
              exact tail
theorem cellsParts_pure (x : TCuts) (h : SCuts x) : ∃ k, evalF ctx k n_law10_CellsParts [.agg (eCuts x)] [] (fun v _ => some v) = some (.bool true) :=
  ⟨_, parts_ok x (fine_of h.1) 0 _⟩
end Go.Proofs.YtpbiclnkbkghaaaC
