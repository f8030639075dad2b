/- CellsAsks: what the law's function comes to. No conditions. -/
import Derived.Test.YtpbiclnkbkghaaaC1
import Derived.Test.YtpbiclnkbkghaaaG3
import Derived.Test.YtpbiclnkbkghaaaR0
set_option linter.unusedVariables false
set_option linter.unusedSimpArgs false
set_option maxRecDepth 20000
namespace Go.Proofs.YtpbiclnkbkghaaaC
open Go Go.Ev Go.Proofs
variable {ρ : Type}
theorem head_ok (k : Nat) (κ : AV → Option ρ) : callP ctx (k + 60) n_law10_head [] κ = κ (.bool true) := by kernel_rfl
theorem sameB_refl {n : Nat} {v w : Nat → TCell} (h : ∀ i, i < n → w i = v i) : sameB n v n w = true := by
  unfold sameB
  rw [decide_eq_true rfl, Bool.true_and, allN_true]
  intro i hi
  simp [sameP, h i hi]
theorem asks_ok (a b : Sl TCell) (key : ByteArray) (ha : Fine a.n a.w) (hb : Fine b.n b.w) (k : Nat) (κ : AV → Heap → Option ρ) :
    evalF ctx (k + 200) n_law10_CellsAsks [.sl 2 a.n (rowOf eCell a.w) a.u, .sl 2 b.n (rowOf eCell b.w) b.u, .str key] [] κ = κ (.bool true) [] := by
  have hh : ∀ κ : AV → Option ρ, callP ctx (k + 199) n_law10_head [] κ = κ (.bool true) := fun κ => head_ok (k + 139) κ
  rw [law10_CellsAsks_e, great_ok (k + 199) a ha (by omega), law10_CellsAsks_r0_s]
  cases hga : greatB a.n a.w with
  | true =>
    rw [cond_true, law10_CellsAsks_e0_s, cond_true, hh, law10_CellsAsks_r2_s]
  | false =>
    rw [cond_false, great_ok (k + 199) b hb (by omega), law10_CellsAsks_r1_s]
    cases hgb : greatB b.n b.w with
    | true => rw [law10_CellsAsks_e0_s, cond_true, hh, law10_CellsAsks_r2_s]
    | false =>
      obtain ⟨hn, ht⟩ := greatB_false hga
      obtain ⟨hm, hs⟩ := greatB_false hgb
      rw [law10_CellsAsks_e0_s, cond_false, cells_Find_ok _ _ _ _ _ (by omega) (by omega), law10_CellsAsks_r3_s, r10_Find_ok _ _ _ _ _ (by omega) (by omega), law10_CellsAsks_r4_s,
        cells_Half_ok _ _ _ _ ha (by omega) (by omega), law10_CellsAsks_r5_s, r10_Half_ok _ _ _ _ ha (by omega) (by omega), law10_CellsAsks_r6_s,
        cells_Right_ok _ _ _ _ (by omega) (by omega), law10_CellsAsks_r7_s, r10_Right_ok _ _ _ _ (by omega) (by omega), law10_CellsAsks_r8_s]
      rw [beq_b, cond_true]
      rw [cells_Size_ok _ _ _ _ ha (by omega) (by omega), law10_CellsAsks_r9_s, r10_Size_ok _ _ _ _ ha (by omega) (by omega), law10_CellsAsks_r10_s]
      rw [dec_int, cond_true]
      rw [cells_Same_ok _ _ _ _ _ _ _ (by omega) (by omega), law10_CellsAsks_r11_s, r10_Same_ok _ _ _ _ _ _ _ (by omega) (by omega), law10_CellsAsks_r12_s]
      rw [beq_b, cond_true]
      obtain ⟨w', hw, hc⟩ := r10_Copy_ok (ρ := ρ) (k + 199) a.n a.w a.u (by omega) (by omega)
      rw [hc]
      refine (law10_CellsAsks_r13_s _ _ _ _ _ _ _ _ _ _ _ _ _ _ _ _ _ _ ⟨a.n, w', false⟩ κ).trans ?_
      simp only
      rw [cells_Same_ok _ _ _ _ _ _ _ (by omega) (by omega), sameB_refl hw, law10_CellsAsks_r14_s]
      rw [cond_true, dec_str, cond_true, beq_b, cond_true]
      rw [cells_At_ok _ _ _ _ _ (by omega) (by omega), law10_CellsAsks_r15_s, r10_At_ok _ _ _ _ _ (by omega) (by omega), law10_CellsAsks_r16_s]
      rw [dec_int, cond_true, dec_int, cond_true, dec_int, cond_true]
      rw [hh, law10_CellsAsks_r17_s, law10_CellsAsks_e1_s]
theorem fine_of {a : Sl TCell} (h : SSl 32 SCell a) : Fine a.n a.w := fun i hi => h.2 i hi
theorem cellsAsks_pure (a b : Sl TCell) (key : ByteArray) (ha : SSl 32 SCell a) (hb : SSl 32 SCell b) (hk : SStr key) :
    ∃ k, evalF ctx k n_law10_CellsAsks [.sl 2 a.n (rowOf eCell a.w) a.u, .sl 2 b.n (rowOf eCell b.w) b.u, .str key] [] (fun v _ => some v) = some (.bool true) :=
  ⟨_, asks_ok a b key (fine_of ha) (fine_of hb) 0 _⟩
end Go.Proofs.YtpbiclnkbkghaaaC
