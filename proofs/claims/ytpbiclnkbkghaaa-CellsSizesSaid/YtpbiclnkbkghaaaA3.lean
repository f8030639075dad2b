/- CellsSizes: what the law's function comes to. No conditions. -/
import Derived.Test.YtpbiclnkbkghaaaP1
import Derived.Test.YtpbiclnkbkghaaaH
import Derived.Test.YtpbiclnkbkghaaaG5
set_option linter.unusedVariables false
set_option linter.unusedSimpArgs false
set_option maxRecDepth 20000
namespace Go.Proofs.YtpbiclnkbkghaaaC
open Go Go.Ev Go.Proofs
variable {ρ : Type}
theorem low_has {key c : ByteArray} (h0 : 0 < key.size) (h1 : key.size ≤ 513) : rHas ⟨⟨#[]⟩, key, true⟩ c = bl c key := by
  simp only [rHas, rRight, hasB, cond_true, bl_of_empty h0, bl_empty, Bool.and_true, Bool.not_true, Bool.false_or, Bool.not_false, Bool.true_and]
  rw [decide_eq_false (show ¬ 513 < key.size by omega), decide_eq_false (show ¬ 513 < (⟨#[]⟩ : ByteArray).size by decide)]; rfl
theorem high_has {key c : ByteArray} (h1 : key.size ≤ 513) : rHas ⟨key, ⟨#[]⟩, false⟩ c = !bl c key := by
  simp only [rHas, rRight, hasB, cond_false, Bool.not_false, Bool.true_or, Bool.and_true]
  rw [decide_eq_false (show ¬ 513 < key.size by omega), decide_eq_false (show ¬ 513 < (⟨#[]⟩ : ByteArray).size by decide), decide_true]; rfl
theorem cut_two {L : List TCell} (h : Srt L) (key : ByteArray) : (L.filter fun c => bl c.Key key) ++ (L.filter fun c => !bl c.Key key) = L := by
  have := filter_two h (fun c => bl c.Key key) (fun c => !bl c.Key key) (fun _ => true) (fun a b hab hq => ?_) (fun c => ?_) (fun c hp => ?_)
  · rw [this]; exact List.filter_eq_self.2 fun _ _ => rfl
  · simp only [Bool.not_eq_true'] at hq
    exact bl_le_trans hq (bl_asymm hab)
  · cases bl c.Key key <;> rfl
  · simp only [hp, Bool.not_true]
/-- how many are below a key -/
theorem below_len {n : Nat} {w : Nat → TCell} (h : rightB n w = true) (key : ByteArray) : ((lst n w).filter fun c => bl c.Key key).length = cutN n w key - (if (findV n w key).2 = true then 1 else 0) := by
  have hc := cutN_cut h key n (Nat.le_refl _)
  have hl := cutN_le w key n
  have main : ∀ d, d ≤ n → (∀ i, i < d → bl (w i).Key key = true) → (∀ i, d ≤ i → i < n → bl (w i).Key key = false) → ((lst n w).filter fun c => bl c.Key key).length = d := by
    intro d hd h1 h2
    have : lst n w = lst d w ++ lst (n - d) (fun i => w (d + i)) := by
      have := l_cat d (n - d) w (fun i => w (d + i)) false
      rw [show d + (n - d) = n by omega] at this
      rw [← this]
      apply List.map_congr_left
      intro i hi
      show w i = catW d w (fun i => w (d + i)) i
      unfold catW
      split
      · rfl
      · rename_i hh; show w i = w (d + (i - d)); rw [show d + (i - d) = i by omega]
    rw [this, List.filter_append, List.length_append]
    have e1 : (lst d w).filter (fun c => bl c.Key key) = lst d w := by
      rw [List.filter_eq_self]; intro c hc
      obtain ⟨i, hi, rfl⟩ := lst_mem.1 hc
      exact h1 i hi
    have e2 : (lst (n - d) (fun i => w (d + i))).filter (fun c => bl c.Key key) = [] := by
      rw [List.filter_eq_nil_iff]; intro c hc
      obtain ⟨i, hi, rfl⟩ := lst_mem.1 hc
      rw [h2 (d + i) (by omega) (by omega)]; simp
    rw [e1, e2, lst_len]; rfl
  unfold findV
  by_cases hf : rightB n w = true ∧ 0 < cutN n w key ∧ (w (cutN n w key - 1)).Key = key
  · rw [if_pos hf]
    simp only [if_true]
    refine main _ (by omega) (fun i hi => ?_) fun i hi hi' => ?_
    · have := right_lt h (show i < cutN n w key - 1 by omega) (by omega)
      rwa [hf.2.2] at this
    · rcases Nat.lt_or_ge i (cutN n w key) with h' | h'
      · rw [show i = cutN n w key - 1 by omega, hf.2.2]; exact bl_irrefl _
      · exact bl_asymm (hc.2.2 i h' hi')
  · rw [if_neg hf]
    simp only [Bool.false_eq_true, if_false, Nat.sub_zero]
    refine main _ hl (fun i hi => ?_) fun i hi hi' => bl_asymm (hc.2.2 i hi hi')
    have h1 := hc.2.1 i hi
    cases h2 : bl (w i).Key key with
    | true => rfl
    | false =>
      exfalso
      have he := bl_tri h2 h1
      rcases Nat.lt_or_ge i (cutN n w key - 1) with h' | h'
      · have := right_lt h h' (by omega)
        rw [he] at this
        rw [hc.2.1 (cutN n w key - 1) (by omega)] at this; cases this
      · exact hf ⟨h, by omega, by rw [show cutN n w key - 1 = i by omega]; exact he⟩
theorem size_app (n m : Nat) (v w x : Nat → TCell) (k : Nat) (h : lst n v ++ lst m w = lst k x) : sizeN n v + sizeN m w = sizeN k x := by
  unfold sizeN
  rw [← h, List.map_append, List.sum_append]
theorem sizes_ok (l : Sl TCell) (key : ByteArray) (ha : Fine l.n l.w) (k : Nat) (κ : AV → Heap → Option ρ) : evalF ctx (k + 200) n_law10_CellsSizes [.sl 2 l.n (rowOf eCell l.w) l.u, .str key] [] κ = κ (.bool true) [] := by
  have hh : ∀ κ : AV → Option ρ, callP ctx (k + 199) n_law10_head [] κ = κ (.bool true) := fun κ => head_ok (k + 139) κ
  have h0 : law10_CellsSizes_e0 (k + 199) l key true κ = κ (.bool true) [] := by rw [law10_CellsSizes_e0_s, cond_true, hh, law10_CellsSizes_r2_s]
  rw [law10_CellsSizes_e, great_ok (k + 199) l ha (by omega), law10_CellsSizes_r0_s]
  cases hg : greatB l.n l.w with
  | true => rw [cond_true, h0]
  | false =>
    obtain ⟨hn, ht⟩ := greatB_false hg
    have hPart : ∀ (r : TRange) (κ : AV → Option ρ), callP ctx (k + 199) n_cells_Part [.sl 2 l.n (rowOf eCell l.w) l.u, .agg (eRange r)] κ = κ (.sl 2 (partL l.n l.w r).length (rowOf eCell (gd zCell (partL l.n l.w r))) false) := fun r κ => cells_Part_ok (k + 199) l.n l.w l.u r (by omega) (by omega) κ
    have hSize : ∀ κ : AV → Option ρ, callP ctx (k + 199) n_cells_Size [.sl 2 l.n (rowOf eCell l.w) l.u] κ = κ (.int .i64 (sizeN l.n l.w : Int)) := fun κ => cells_Size_ok (k + 199) l.n l.w l.u ha (by omega) (by omega) κ
    rw [cond_false, cells_Right_ok _ _ _ _ (by omega) (by omega), law10_CellsSizes_r1_s]
    cases hr : rightB l.n l.w with
    | false => rw [Bool.not_false, cond_true, h0]
    | true =>
      rw [Bool.not_true, cond_false]
      have f1 : decide ((key.size : Int) < 1) = decide (key.size < 1) := decide_eq_decide.2 (by omega)
      have f2 : decide (513 < (key.size : Int)) = decide (513 < key.size) := decide_eq_decide.2 (by omega)
      rw [f1, f2]
      cases hl : decide (key.size < 1) with
      | true => rw [cond_true, h0]
      | false =>
      rw [cond_false]
      cases hm : decide (513 < key.size) with
      | true => rw [h0]
      | false =>
      replace hl := of_decide_eq_false hl
      replace hm := of_decide_eq_false hm
      have hAt : ∀ κ : AV → Option ρ, callP ctx (k + 199) n_cells_At [.sl 2 l.n (rowOf eCell l.w) l.u, .str key] κ = κ (.int .i64 (atI l.n l.w key)) := fun κ => cells_At_ok (k + 199) l.n l.w l.u key (by omega) (by omega) κ
      have hFind : ∀ κ : AV → Option ρ, callP ctx (k + 199) n_cells_Find [.sl 2 l.n (rowOf eCell l.w) l.u, .str key] κ = κ (.tup [.str (findV l.n l.w key).1, .bool (findV l.n l.w key).2]) := fun κ => cells_Find_ok (k + 199) l.n l.w l.u key (by omega) (by omega) κ
      rw [law10_CellsSizes_e0_s, cond_false, hPart]
      have e3 : partL l.n l.w ⟨⟨#[]⟩, key, true⟩ = (lst l.n l.w).filter fun c => bl c.Key key := by
        unfold partL; rw [if_pos hr]
        congr 1; funext c; exact low_has (by omega) (by omega)
      have e4 : partL l.n l.w ⟨key, ⟨#[]⟩, false⟩ = (lst l.n l.w).filter fun c => !bl c.Key key := by
        unfold partL; rw [if_pos hr]
        congr 1; funext c; exact high_has (by omega)
      have hp := cut_two (right_list.1 hr).2 key
      have hlen := below_len hr key
      rw [← e3] at hp hlen
      rw [← e4] at hp
      refine (law10_CellsSizes_r3_s (k + 199) l key false ⟨_, gd zCell (partL l.n l.w ⟨⟨#[]⟩, key, true⟩), false⟩ κ).trans ?_
      rw [hPart]
      refine (law10_CellsSizes_r4_s (k + 199) l key false ⟨_, gd zCell (partL l.n l.w ⟨⟨#[]⟩, key, true⟩), false⟩ ⟨_, gd zCell (partL l.n l.w ⟨key, ⟨#[]⟩, false⟩), false⟩ κ).trans ?_
      rw [hAt, law10_CellsSizes_r5_s, hFind]
      refine (law10_CellsSizes_r6_s (k + 199) l key ⟨_, gd zCell (partL l.n l.w ⟨⟨#[]⟩, key, true⟩), false⟩ ⟨_, gd zCell (partL l.n l.w ⟨key, ⟨#[]⟩, false⟩), false⟩ _ _ _ κ).trans ?_
      have hatI : atI l.n l.w key = (cutN l.n l.w key : Int) - 1 := by unfold atI; rw [if_pos hr]
      have hcl := cutN_le l.w key l.n
      clear hPart e3 e4 hAt hFind
      generalize partL l.n l.w ⟨⟨#[]⟩, key, true⟩ = L3 at *
      generalize partL l.n l.w ⟨key, ⟨#[]⟩, false⟩ = L4 at *
      have hlens : L3.length + L4.length = l.n := by have := congrArg List.length hp; rw [List.length_append, lst_len] at this; exact this
      have hf3 : Fine L3.length (gd zCell L3) := by
        intro i hi
        have : L3[i] ∈ lst l.n l.w := by rw [← hp]; exact List.mem_append_left _ (List.getElem_mem hi)
        obtain ⟨j, hj, hj'⟩ := lst_mem.1 this
        have e : gd zCell L3 i = L3[i] := by simp [gd, hi]
        rw [e, ← hj']; exact ha j hj
      have hf4 : Fine L4.length (gd zCell L4) := by
        intro i hi
        have : L4[i] ∈ lst l.n l.w := by rw [← hp]; exact List.mem_append_right _ (List.getElem_mem hi)
        obtain ⟨j, hj, hj'⟩ := lst_mem.1 this
        have e : gd zCell L4 i = L4[i] := by simp [gd, hi]
        rw [e, ← hj']; exact ha j hj
      have hS3 : ∀ κ : AV → Option ρ, callP ctx (k + 199) n_cells_Size [.sl 2 L3.length (rowOf eCell (gd zCell L3)) false] κ = κ (.int .i64 (sizeN L3.length (gd zCell L3) : Int)) := fun κ => cells_Size_ok (k + 199) _ _ _ hf3 (by omega) (by omega) κ
      have hS4 : ∀ κ : AV → Option ρ, callP ctx (k + 199) n_cells_Size [.sl 2 L4.length (rowOf eCell (gd zCell L4)) false] κ = κ (.int .i64 (sizeN L4.length (gd zCell L4) : Int)) := fun κ => cells_Size_ok (k + 199) _ _ _ hf4 (by omega) (by omega) κ
      have hadd := size_app L3.length L4.length (gd zCell L3) (gd zCell L4) l.w l.n (by rw [gd_lst, gd_lst, hp])
      have hb := sizeN_le ha l.n (Nat.le_refl _)
      have hsum : decide (wi64 ((sizeN L3.length (gd zCell L3) : Int) + (sizeN L4.length (gd zCell L4) : Int)) = (sizeN l.n l.w : Int)) = true := by
        rw [wi64_in (by omega) (by omega)]; exact decide_eq_true (by omega)
      have hsame : ∀ (m : Nat) (v : Nat → TCell) (u : Bool) (κ : AV → Option ρ), m ≤ 100 → lst m v = L3 ++ L4 → callP ctx (k + 199) n_cells_Same [.sl 2 m (rowOf eCell v) u, .sl 2 l.n (rowOf eCell l.w) l.u] κ = κ (.bool true) := by
        intro m v u κ hm hv
        rw [cells_Same_ok _ _ _ _ _ _ _ (by omega) (by omega), sameB_iff.2 (by rw [hv, hp])]
      simp only [cat_row, sh0_row, Nat.zero_add]
      have r0 : ∀ m, m ≤ 100 → roomOf m 32 = true := fun m hm => room_of (by omega) (by omega)
      have c1 : ∀ (w : Nat → TCell) (n : Nat), lst n (catW 0 (fun _ => zCell) w) = lst n w := fun w n => by
        apply List.map_congr_left; intro i _; simp [catW]
      have c2 : ∀ (v w : Nat → TCell) (n m : Nat), lst (n + m) (catW n v w) = lst n v ++ lst m w := fun v w n m => l_cat n m v w false
      rw [hatI] at *
      have hlast : decide ((L3.length : Int) = wi64 ((bif (findV l.n l.w key).2 then wi64 ((cutN l.n l.w key : Int) - 1 - 1) else (cutN l.n l.w key : Int) - 1) + 1)) = true := by
        cases hfd : (findV l.n l.w key).2 with
        | true =>
          rw [hfd] at hlen
          simp only [if_true] at hlen
          have hc0 : 0 < cutN l.n l.w key := by
            rcases Nat.eq_zero_or_pos (cutN l.n l.w key) with h | h
            · exfalso; unfold findV at hfd; rw [h] at hfd; simp at hfd
            · exact h
          rw [cond_true, wi64_in (n := (cutN l.n l.w key : Int) - 1 - 1) (by omega) (by omega), wi64_in (by omega) (by omega)]; exact decide_eq_true (by omega)
        | false =>
          rw [hfd] at hlen
          simp only [Bool.false_eq_true, if_false, Nat.sub_zero] at hlen
          rw [cond_false, wi64_in (by omega) (by omega)]; exact decide_eq_true (by omega)
      have d1 : decide (L3.length + L4.length ≤ L3.length) = decide (L4.length = 0) := decide_eq_decide.2 (by omega)
      have n3 : L3.length = 0 → L3 = [] := List.length_eq_zero_iff.1
      have n4 : L4.length = 0 → L4 = [] := List.length_eq_zero_iff.1
      clear hr hg ht hl hm f1 f2 h0
      generalize (cutN l.n l.w key : Int) - 1 = c5 at *
      generalize (findV l.n l.w key).1 = s6 at *
      generalize (findV l.n l.w key).2 = b6 at *
      simp only [d1]
      cases b6 <;> simp only [cond_true, cond_false] at hlast ⊢ <;> cases h3 : decide (L3.length = 0) <;> cases h4 : decide (L4.length = 0)
      all_goals simp only [cond_true, cond_false, r0 _ (show L3.length ≤ 100 by omega), r0 _ (show L4.length ≤ 100 by omega), r0 _ (show L3.length + L4.length ≤ 100 by omega), decide_true, Bool.and_self]
      all_goals first
        | rw [hsame 0 _ _ _ (by omega) (by rw [n3 (of_decide_eq_true h3), n4 (of_decide_eq_true h4)]; rfl)]
        | rw [hsame L4.length _ _ _ (by omega) (by rw [c1, gd_lst, n3 (of_decide_eq_true h3)]; rfl)]
        | rw [hsame L3.length _ _ _ (by omega) (by rw [c1, gd_lst, n4 (of_decide_eq_true h4), List.append_nil])]
        | rw [hsame (L3.length + L4.length) _ _ _ (by omega) (by rw [c2, c1, gd_lst, gd_lst])]
      all_goals ((first | rw [law10_CellsSizes_r7_s] | rw [law10_CellsSizes_r8_s] | rw [law10_CellsSizes_r9_s] | rw [law10_CellsSizes_r10_s] | rw [law10_CellsSizes_r11_s] | rw [law10_CellsSizes_r12_s] | rw [law10_CellsSizes_r13_s] | rw [law10_CellsSizes_r14_s]); rw [cond_true]; (try dsimp only); rw [hS3]; (first | rw [law10_CellsSizes_r15_s] | rw [law10_CellsSizes_r16_s] | rw [law10_CellsSizes_r17_s] | rw [law10_CellsSizes_r18_s] | rw [law10_CellsSizes_r19_s] | rw [law10_CellsSizes_r20_s] | rw [law10_CellsSizes_r21_s] | rw [law10_CellsSizes_r22_s]); (try dsimp only); rw [hS4]; (first | rw [law10_CellsSizes_r23_s] | rw [law10_CellsSizes_r24_s] | rw [law10_CellsSizes_r25_s] | rw [law10_CellsSizes_r26_s] | rw [law10_CellsSizes_r27_s] | rw [law10_CellsSizes_r28_s] | rw [law10_CellsSizes_r29_s] | rw [law10_CellsSizes_r30_s]); (try dsimp only); rw [hSize]; (first | rw [law10_CellsSizes_r31_s] | rw [law10_CellsSizes_r32_s] | rw [law10_CellsSizes_r33_s] | rw [law10_CellsSizes_r34_s] | rw [law10_CellsSizes_r35_s] | rw [law10_CellsSizes_r36_s] | rw [law10_CellsSizes_r37_s] | rw [law10_CellsSizes_r38_s]); (try dsimp only); rw [hsum, cond_true, hlast, cond_true, hh]; (first | rw [law10_CellsSizes_r39_s] | rw [law10_CellsSizes_r40_s] | rw [law10_CellsSizes_r41_s] | rw [law10_CellsSizes_r42_s] | rw [law10_CellsSizes_r43_s] | rw [law10_CellsSizes_r44_s] | rw [law10_CellsSizes_r45_s] | rw [law10_CellsSizes_r46_s]); rw [law10_CellsSizes_e1_s])
theorem cellsSizes_pure (l : Sl TCell) (key : ByteArray) (h : SSl 32 SCell l) (hk : SStr key) : ∃ k, evalF ctx k n_law10_CellsSizes [.sl 2 l.n (rowOf eCell l.w) l.u, .str key] [] (fun v _ => some v) = some (.bool true) :=
  ⟨_, sizes_ok l key (fine_of h) 0 _⟩
end Go.Proofs.YtpbiclnkbkghaaaC
