/- CellsMeans: what the law's function comes to. No conditions. -/
import Derived.Test.YtpbiclnkbkghaaaC3
import Derived.Test.YtpbiclnkbkghaaaH
import Derived.Test.YtpbiclnkbkghaaaG7
set_option linter.unusedVariables false
set_option linter.unusedSimpArgs false
set_option maxRecDepth 20000
namespace Go.Proofs.YtpbiclnkbkghaaaC
open Go Go.Ev Go.Proofs
abbrev kap : AV → Heap → Option AV := fun v _ => some v
theorem means_ok (a : Sl TCell) (c : TCell) (key : ByteArray) (ha : Fine a.n a.w) (k : Nat) : evalF ctx (k + 200) n_law10_CellsMeans [.sl 2 a.n (rowOf eCell a.w) a.u, .agg (eCell c), .str key] [] kap = some (.bool true) := by
  have hh : ∀ κ : AV → Option AV, callP ctx (k + 199) n_law10_head [] κ = κ (.bool true) := fun κ => head_ok (k + 139) κ
  have h0 : law10_CellsMeans_e0 (k + 199) a c key true kap = some (.bool true) := by rw [law10_CellsMeans_e0_s, cond_true, hh, law10_CellsMeans_r2_s]
  rw [law10_CellsMeans_e, great_ok (k + 199) a ha (by omega), law10_CellsMeans_r0_s]
  cases hg : greatB a.n a.w with
  | true => rw [cond_true, h0]
  | false =>
    obtain ⟨hn, ht⟩ := greatB_false hg
    rw [cond_false, cells_Right_ok _ _ _ _ (by omega) (by omega), law10_CellsMeans_r1_s]
    cases hr : rightB a.n a.w with
    | false => rw [Bool.not_false, cond_true, h0]
    | true =>
      rw [Bool.not_true, cond_false]
      have f1 : decide (513 < (c.Key.size : Int)) = decide (513 < c.Key.size) := decide_eq_decide.2 (by omega)
      have f2 : decide (2048 < (c.Value.size : Int)) = decide (2048 < c.Value.size) := decide_eq_decide.2 (by omega)
      rw [f1, f2]
      cases hl : decide (513 < c.Key.size) with
      | true => rw [cond_true, h0]
      | false =>
      rw [cond_false]
      cases hm : decide (2048 < c.Value.size) with
      | true => rw [h0]
      | false =>
      replace hl := of_decide_eq_false hl
      replace hm := of_decide_eq_false hm
      have hf : fitB c = true := by simp only [fitB, Bool.and_eq_true, decide_eq_true_eq]; omega
      rw [law10_CellsMeans_e0_s, cond_false, cells_Find_ok _ _ _ _ _ (by omega) (by omega), law10_CellsMeans_r3_s]
      obtain ⟨m, p, hp, hput⟩ := cells_Put_ok (ρ := AV) (k + 199) a.n a.w a.u c (by omega) (by omega) hr hf
      have hlen : m ≤ 51 := by
        have h1 := congrArg List.length hp
        have h2 := put_len (lst a.n a.w) c
        rw [lst_len] at h1 h2
        omega
      have hpr := put_right hr hf hp
      have hfp : Fine m p := by
        intro i hi
        have : p i ∈ lst m p := lst_mem.2 ⟨i, hi, rfl⟩
        rw [hp] at this
        rcases put_mem.1 this with e | ⟨hx, _⟩
        · rw [e]; omega
        · obtain ⟨j, hj, hj'⟩ := lst_mem.1 hx
          rw [← hj']; exact ha j hj
      -- what Find tells behind Put
      have hfind1 : key = c.Key → findV m p key = (c.Value, true) := fun e => by
        rw [e]; exact find_in hpr (by rw [hp]; exact put_mem.2 (.inl rfl))
      have hfind2 : key ≠ c.Key → findV m p key = findV a.n a.w key := fun e => find_same hpr hr fun x hx => by
        rw [hp, put_mem]
        constructor
        · rintro (rfl | ⟨h, _⟩)
          · exact absurd hx.symm e
          · exact h
        · exact fun h => .inr ⟨h, by rw [hx]; exact e⟩
      -- and behind Delete
      have hD : delL m p c.Key = ((lst a.n a.w).filter fun x => bl x.Key c.Key) ++ (lst a.n a.w).filter fun x => bl c.Key x.Key := by
        unfold delL
        rw [if_pos hpr, hp, put_del]
      have hdE : delE m p = 0 := by unfold delE; rw [if_pos hpr]
      have hdl : delL m p c.Key = (lst m p).filter fun x => !decide (x.Key = c.Key) := by unfold delL; rw [if_pos hpr]
      have hDl : (delL m p c.Key).length + 1 = m := by
        have h1 := congrArg List.length hp
        rw [lst_len] at h1
        unfold putL at h1
        rw [hD, h1, List.length_append, List.length_append, List.length_cons]; omega
      have hdr : rightB (delL m p c.Key).length (gd zCell (delL m p c.Key)) = true := del_right hpr (by rw [gd_lst]; exact hdl)
      have hdf : Fine (delL m p c.Key).length (gd zCell (delL m p c.Key)) := by
        intro i hi
        have hsub : ∀ x ∈ delL m p c.Key, x ∈ lst m p := fun x hx => by rw [hdl] at hx; exact (List.mem_filter.1 hx).1
        have : (delL m p c.Key)[i] ∈ lst m p := hsub _ (List.getElem_mem hi)
        obtain ⟨j, hj, hj'⟩ := lst_mem.1 this
        have e : gd zCell (delL m p c.Key) i = (delL m p c.Key)[i] := by simp [gd, hi]
        rw [e, ← hj']; exact hfp j hj
      have hfind3 : key = c.Key → (findV (delL m p c.Key).length (gd zCell (delL m p c.Key)) key) = (nilB, false) := fun e => find_out fun x hx => by
        rw [gd_lst, hdl] at hx
        have := (List.mem_filter.1 hx).2
        simp only [Bool.not_eq_true', decide_eq_false_iff_not] at this
        rw [e]; exact this
      have hfind4 : key ≠ c.Key → findV (delL m p c.Key).length (gd zCell (delL m p c.Key)) key = findV a.n a.w key := fun e => find_same hdr hr fun x hx => by
        rw [gd_lst, hdl, List.mem_filter, hp, put_mem]
        constructor
        · rintro ⟨rfl | ⟨h, _⟩, _⟩
          · exact absurd hx.symm e
          · exact h
        · intro h
          have e' : x.Key ≠ c.Key := by rw [hx]; exact e
          exact ⟨.inr ⟨h, e'⟩, by simp [e']⟩
      have hsize : sizeN m p = sizeN (delL m p c.Key).length (gd zCell (delL m p c.Key)) + (4 + c.Key.size + c.Value.size) := by
        unfold sizeN
        rw [gd_lst, hD, hp]
        unfold putL
        simp only [List.map_append, List.map_cons, List.sum_append, List.sum_cons, cszS]
        omega
      have hsb := sizeN_le hfp m (Nat.le_refl _)
      have hDel : ∀ κ : AV → Option AV, callP ctx (k + 199) n_cells_Delete [.sl 2 m (rowOf eCell p) false, .str c.Key] κ = κ (.tup [.sl 2 (delL m p c.Key).length (rowOf eCell (gd zCell (delL m p c.Key))) false, .int .i64 (delE m p)]) := fun κ => cells_Delete_ok (k + 199) m p false c.Key (by omega) (by omega) κ
      have hFp : ∀ κ : AV → Option AV, callP ctx (k + 199) n_cells_Find [.sl 2 m (rowOf eCell p) false, .str key] κ = κ (.tup [.str (findV m p key).1, .bool (findV m p key).2]) := fun κ => cells_Find_ok (k + 199) m p false key (by omega) (by omega) κ
      have hRp : ∀ κ : AV → Option AV, callP ctx (k + 199) n_cells_Right [.sl 2 m (rowOf eCell p) false] κ = κ (.bool (rightB m p)) := fun κ => cells_Right_ok (k + 199) m p false (by omega) (by omega) κ
      have hSp : ∀ κ : AV → Option AV, callP ctx (k + 199) n_cells_Size [.sl 2 m (rowOf eCell p) false] κ = κ (.int .i64 (sizeN m p : Int)) := fun κ => cells_Size_ok (k + 199) m p false hfp (by omega) (by omega) κ
      rw [hdE] at hDel
      have hsz : decide ((sizeN m p : Int) = wi64 (wi64 (wi64 ((sizeN (delL m p c.Key).length (gd zCell (delL m p c.Key)) : Int) + 4) + (c.Key.size : Int)) + (c.Value.size : Int))) = true := by
        have e1 := wi64_in (n := (sizeN (delL m p c.Key).length (gd zCell (delL m p c.Key)) : Int) + 4) (by omega) (by omega)
        have e2 := wi64_in (n := (sizeN (delL m p c.Key).length (gd zCell (delL m p c.Key)) : Int) + 4 + (c.Key.size : Int)) (by omega) (by omega)
        have e3 := wi64_in (n := (sizeN (delL m p c.Key).length (gd zCell (delL m p c.Key)) : Int) + 4 + (c.Key.size : Int) + (c.Value.size : Int)) (by omega) (by omega)
        rw [e1, e2, e3]; exact decide_eq_true (by omega)
      have hln : decide ((m : Int) = wi64 (((delL m p c.Key).length : Int) + 1)) = true := by
        rw [wi64_in (by omega) (by omega)]; exact decide_eq_true (by omega)
      have hFd : ∀ κ : AV → Option AV, callP ctx (k + 199) n_cells_Find [.sl 2 (delL m p c.Key).length (rowOf eCell (gd zCell (delL m p c.Key))) false, .str key] κ = κ (.tup [.str (findV (delL m p c.Key).length (gd zCell (delL m p c.Key)) key).1, .bool (findV (delL m p c.Key).length (gd zCell (delL m p c.Key)) key).2]) := fun κ => cells_Find_ok (k + 199) _ _ false key (by omega) (by omega) κ
      have hRd : ∀ κ : AV → Option AV, callP ctx (k + 199) n_cells_Right [.sl 2 (delL m p c.Key).length (rowOf eCell (gd zCell (delL m p c.Key))) false] κ = κ (.bool true) := fun κ => by rw [cells_Right_ok (k + 199) _ _ false (by omega) (by omega) κ, hdr]
      have hSd : ∀ κ : AV → Option AV, callP ctx (k + 199) n_cells_Size [.sl 2 (delL m p c.Key).length (rowOf eCell (gd zCell (delL m p c.Key))) false] κ = κ (.int .i64 (sizeN (delL m p c.Key).length (gd zCell (delL m p c.Key)) : Int)) := fun κ => cells_Size_ok (k + 199) _ _ false hdf (by omega) (by omega) κ
      rw [hpr] at hRp
      clear hD hdl hdr hdf hdE hsize hsb hDl hp hfp
      generalize sizeN m p = s1 at *
      generalize sizeN (delL m p c.Key).length (gd zCell (delL m p c.Key)) = s2 at *
      generalize findV (delL m p c.Key).length (gd zCell (delL m p c.Key)) key = f3 at *
      generalize delL m p c.Key = D at *
      generalize findV m p key = f2 at *
      generalize findV a.n a.w key = f1 at *
      -- the way through the law
      rw [hput, law10_CellsMeans_r4_s _ _ _ _ _ _ ⟨m, p, false⟩]
      dsimp only
      rw [hFp, law10_CellsMeans_r5_s]
      have z0 : decide ((0 : Int) = 0) = true := rfl
      rw [z0, Bool.not_true, cond_false]
      dsimp only
      rw [hRp, law10_CellsMeans_r6_s, Bool.not_true, cond_false]
      have step1 : (bif decide (key = c.Key) then
    (bif !f2.2 then
     law10_CellsMeans_e1 (k + 199) c key f1.1 f1.2 ⟨m, p, false⟩ true kap
    else (bif !decide (f2.1 = c.Value) then
      law10_CellsMeans_e1 (k + 199) c key f1.1 f1.2 ⟨m, p, false⟩ true kap
     else (bif !decide (key = c.Key) then
       (bif !decide (f2.1 = f1.1) then
        law10_CellsMeans_e1 (k + 199) c key f1.1 f1.2 ⟨m, p, false⟩ true kap
       else law10_CellsMeans_e1 (k + 199) c key f1.1 f1.2 ⟨m, p, false⟩ (!(f2.2 == f1.2)) kap)
      else law10_CellsMeans_e1 (k + 199) c key f1.1 f1.2 ⟨m, p, false⟩ false kap)))
   else (bif !decide (key = c.Key) then
     (bif !decide (f2.1 = f1.1) then
      law10_CellsMeans_e1 (k + 199) c key f1.1 f1.2 ⟨m, p, false⟩ true kap
     else law10_CellsMeans_e1 (k + 199) c key f1.1 f1.2 ⟨m, p, false⟩ (!(f2.2 == f1.2)) kap)
    else law10_CellsMeans_e1 (k + 199) c key f1.1 f1.2 ⟨m, p, false⟩ false kap)) = law10_CellsMeans_e1 (k + 199) c key f1.1 f1.2 ⟨m, p, false⟩ false kap := by
        by_cases e : key = c.Key
        · rw [decide_eq_true e, hfind1 e, dec_str]; simp only [cond_true, cond_false, Bool.not_true]
        · rw [decide_eq_false e, hfind2 e, dec_str, beq_b]; simp only [cond_true, cond_false, Bool.not_true, Bool.not_false]
      rw [step1, law10_CellsMeans_e1_s, cond_false]
      dsimp only
      rw [hDel, law10_CellsMeans_r7_s _ _ _ _ _ _ _ ⟨D.length, gd zCell D, false⟩]
      dsimp only
      rw [hFd, law10_CellsMeans_r8_s, z0, Bool.not_true, cond_false]
      dsimp only
      rw [hRd, law10_CellsMeans_r9_s, Bool.not_true, cond_false]
      have step2 : (bif decide (key = c.Key) then
    (bif f3.2 then
     law10_CellsMeans_e2 (k + 199) c ⟨m, p, false⟩ ⟨D.length, gd zCell D, false⟩ true kap
    else (bif !decide (key = c.Key) then
      (bif !decide (f3.1 = f1.1) then
       law10_CellsMeans_e2 (k + 199) c ⟨m, p, false⟩ ⟨D.length, gd zCell D, false⟩ true kap
      else law10_CellsMeans_e2 (k + 199) c ⟨m, p, false⟩ ⟨D.length, gd zCell D, false⟩ (!(f3.2 == f1.2)) kap)
     else law10_CellsMeans_e2 (k + 199) c ⟨m, p, false⟩ ⟨D.length, gd zCell D, false⟩ false kap))
   else (bif !decide (key = c.Key) then
     (bif !decide (f3.1 = f1.1) then
      law10_CellsMeans_e2 (k + 199) c ⟨m, p, false⟩ ⟨D.length, gd zCell D, false⟩ true kap
     else law10_CellsMeans_e2 (k + 199) c ⟨m, p, false⟩ ⟨D.length, gd zCell D, false⟩ (!(f3.2 == f1.2)) kap)
    else law10_CellsMeans_e2 (k + 199) c ⟨m, p, false⟩ ⟨D.length, gd zCell D, false⟩ false kap)) = law10_CellsMeans_e2 (k + 199) c ⟨m, p, false⟩ ⟨D.length, gd zCell D, false⟩ false kap := by
        by_cases e : key = c.Key
        · rw [decide_eq_true e, hfind3 e]; simp only [cond_true, cond_false, Bool.not_true]
        · rw [decide_eq_false e, hfind4 e, dec_str, beq_b]; simp only [cond_true, cond_false, Bool.not_true, Bool.not_false]
      rw [step2, law10_CellsMeans_e2_s, cond_false]
      dsimp only
      rw [hSp, law10_CellsMeans_r10_s]
      dsimp only
      rw [hSd, law10_CellsMeans_r11_s]
      dsimp only
      rw [hsz, cond_true, hln, cond_true, hh, law10_CellsMeans_r12_s, law10_CellsMeans_e3_s]
theorem cellsMeans_pure (a : Sl TCell) (c : TCell) (key : ByteArray) (h : SSl 32 SCell a) (hc : SCell c) (hk : SStr key) : ∃ k, evalF ctx k n_law10_CellsMeans [.sl 2 a.n (rowOf eCell a.w) a.u, .agg (eCell c), .str key] [] (fun v _ => some v) = some (.bool true) :=
  ⟨_, means_ok a c key (fine_of h) 0⟩
end Go.Proofs.YtpbiclnkbkghaaaC
