/- CellsOrder: what the law's function comes to. No conditions. -/
import Derived.Test.YtpbiclnkbkghaaaC3
import Derived.Test.YtpbiclnkbkghaaaH
import Derived.Test.YtpbiclnkbkghaaaG8
set_option linter.unusedVariables false
set_option linter.unusedSimpArgs false
set_option maxRecDepth 20000
namespace Go.Proofs.YtpbiclnkbkghaaaC
open Go Go.Ev Go.Proofs
abbrev kapO : AV → Heap → Option AV := fun v _ => some v
theorem srt_ext : ∀ {L M : List TCell}, Srt L → Srt M → (∀ x, x ∈ L ↔ x ∈ M) → L = M
  | [], [], _, _, _ => rfl
  | [], b :: M, _, _, h => absurd ((h b).2 List.mem_cons_self) (by simp)
  | a :: L, [], _, _, h => absurd ((h a).1 List.mem_cons_self) (by simp)
  | a :: L, b :: M, h1, h2, h => by
    have s1 := List.pairwise_cons.1 h1
    have s2 := List.pairwise_cons.1 h2
    have hab : a = b := by
      rcases List.mem_cons.1 ((h a).1 List.mem_cons_self) with e | e
      · exact e
      · rcases List.mem_cons.1 ((h b).2 List.mem_cons_self) with e' | e'
        · exact e'.symm
        · have := bl_trans (s1.1 b e') (s2.1 a e); rw [bl_irrefl] at this; cases this
    subst hab
    rw [srt_ext s1.2 s2.2 fun x => ?_]
    constructor
    · intro hx
      rcases List.mem_cons.1 ((h x).1 (List.mem_cons_of_mem _ hx)) with e | e
      · have := s1.1 x hx; rw [e, bl_irrefl] at this; cases this
      · exact e
    · intro hx
      rcases List.mem_cons.1 ((h x).2 (List.mem_cons_of_mem _ hx)) with e | e
      · have := s2.1 x hx; rw [e, bl_irrefl] at this; cases this
      · exact e
theorem put_same {L : List TCell} {a b : TCell} (h : Srt L) (hk : a.Key = b.Key) : putL (putL L a) b = putL L b := by
  refine srt_ext (put_srt (put_srt h)) (put_srt h) fun x => ?_
  rw [put_mem, put_mem, put_mem]
  constructor
  · rintro (h1 | ⟨h1 | ⟨h1, h2⟩, h3⟩)
    · exact .inl h1
    · rw [h1] at h3; exact absurd hk h3
    · exact .inr ⟨h1, h3⟩
  · rintro (h1 | ⟨h1, h2⟩)
    · exact .inl h1
    · exact .inr ⟨.inr ⟨h1, by rw [hk]; exact h2⟩, h2⟩
theorem put_comm {L : List TCell} {a b : TCell} (h : Srt L) (hk : a.Key ≠ b.Key) : putL (putL L a) b = putL (putL L b) a := by
  refine srt_ext (put_srt (put_srt h)) (put_srt (put_srt h)) fun x => ?_
  rw [put_mem, put_mem, put_mem, put_mem]
  constructor
  · rintro (h1 | ⟨h1 | ⟨h1, h2⟩, h3⟩)
    · exact .inr ⟨.inl h1, by rw [h1]; exact Ne.symm hk⟩
    · exact .inl h1
    · exact .inr ⟨.inr ⟨h1, h3⟩, h2⟩
  · rintro (h1 | ⟨h1 | ⟨h1, h2⟩, h3⟩)
    · exact .inr ⟨.inl h1, by rw [h1]; exact hk⟩
    · exact .inl h1
    · exact .inr ⟨.inr ⟨h1, h3⟩, h2⟩
theorem put_facts {n m : Nat} {v w : Nat → TCell} {c : TCell} (h : rightB n w = true) (hf : fitB c = true) (hv : lst m v = putL (lst n w) c) : rightB m v = true ∧ m ≤ n + 1 := by
  refine ⟨put_right h hf hv, ?_⟩
  have h1 := congrArg List.length hv
  have h2 := put_len (lst n w) c
  rw [lst_len] at h1 h2
  omega
theorem order_ok (l : Sl TCell) (a b : TCell) (ha : Fine l.n l.w) (k : Nat) : evalF ctx (k + 200) n_law10_CellsOrder [.sl 2 l.n (rowOf eCell l.w) l.u, .agg (eCell a), .agg (eCell b)] [] kapO = some (.bool true) := by
  have hh : ∀ κ : AV → Option AV, callP ctx (k + 199) n_law10_head [] κ = κ (.bool true) := fun κ => head_ok (k + 139) κ
  have h0 : law10_CellsOrder_e0 (k + 199) l a b true kapO = some (.bool true) := by rw [law10_CellsOrder_e0_s, cond_true, hh, law10_CellsOrder_r2_s]
  rw [law10_CellsOrder_e, great_ok (k + 199) l ha (by omega), law10_CellsOrder_r0_s]
  cases hg : greatB l.n l.w with
  | true => rw [cond_true, h0]
  | false =>
    obtain ⟨hn, ht⟩ := greatB_false hg
    rw [cond_false, cells_Right_ok _ _ _ _ (by omega) (by omega), law10_CellsOrder_r1_s]
    cases hr : rightB l.n l.w with
    | false => rw [Bool.not_false, cond_true, h0]
    | true =>
      rw [Bool.not_true, cond_false]
      have f1 : decide (513 < (a.Key.size : Int)) = decide (513 < a.Key.size) := decide_eq_decide.2 (by omega)
      have f2 : decide (513 < (b.Key.size : Int)) = decide (513 < b.Key.size) := decide_eq_decide.2 (by omega)
      have f3 : decide (2048 < (a.Value.size : Int)) = decide (2048 < a.Value.size) := decide_eq_decide.2 (by omega)
      have f4 : decide (2048 < (b.Value.size : Int)) = decide (2048 < b.Value.size) := decide_eq_decide.2 (by omega)
      rw [f1, f2, f3, f4]
      cases h1 : decide (513 < a.Key.size) with
      | true => rw [cond_true, h0]
      | false =>
      rw [cond_false]
      cases h2 : decide (513 < b.Key.size) with
      | true => rw [cond_true, h0]
      | false =>
      rw [cond_false]
      cases h3 : decide (2048 < a.Value.size) with
      | true => rw [cond_true, h0]
      | false =>
      rw [cond_false]
      cases h4 : decide (2048 < b.Value.size) with
      | true => rw [h0]
      | false =>
      replace h1 := of_decide_eq_false h1
      replace h2 := of_decide_eq_false h2
      replace h3 := of_decide_eq_false h3
      replace h4 := of_decide_eq_false h4
      have hfa : fitB a = true := by simp only [fitB, Bool.and_eq_true, decide_eq_true_eq]; omega
      have hfb : fitB b = true := by simp only [fitB, Bool.and_eq_true, decide_eq_true_eq]; omega
      have hsrt := (right_list.1 hr).2
      obtain ⟨m1, p1, hp1, put1⟩ := cells_Put_ok (ρ := AV) (k + 199) l.n l.w l.u a (by omega) (by omega) hr hfa
      obtain ⟨r1, b1⟩ := put_facts hr hfa hp1
      obtain ⟨m2, p2, hp2, put2⟩ := cells_Put_ok (ρ := AV) (k + 199) m1 p1 false b (by omega) (by omega) r1 hfb
      obtain ⟨r2, b2⟩ := put_facts r1 hfb hp2
      obtain ⟨m3, p3, hp3, put3⟩ := cells_Put_ok (ρ := AV) (k + 199) l.n l.w l.u b (by omega) (by omega) hr hfb
      obtain ⟨r3, b3⟩ := put_facts hr hfb hp3
      obtain ⟨m4, p4, hp4, put4⟩ := cells_Put_ok (ρ := AV) (k + 199) m3 p3 false a (by omega) (by omega) r3 hfa
      obtain ⟨r4, b4⟩ := put_facts r3 hfa hp4
      rw [hp1] at hp2
      rw [hp3] at hp4
      have hsame : ∀ (n m : Nat) (v w : Nat → TCell) (κ : AV → Option AV), n ≤ 60 → lst n v = lst m w → callP ctx (k + 199) n_cells_Same [.sl 2 n (rowOf eCell v) false, .sl 2 m (rowOf eCell w) false] κ = κ (.bool true) := by
        intro n m v w κ hn hv
        rw [cells_Same_ok _ _ _ _ _ _ _ (by omega) (by omega), sameB_iff.2 hv]
      have z0 : decide ((0 : Int) = 0) = true := rfl
      rw [law10_CellsOrder_e0_s, cond_false, put1, law10_CellsOrder_r3_s _ _ _ _ _ ⟨m1, p1, false⟩]
      try dsimp only
      rw [put2, law10_CellsOrder_r4_s _ _ _ _ _ _ ⟨m2, p2, false⟩]
      try dsimp only
      rw [put3, law10_CellsOrder_r5_s _ _ _ _ _ _ _ _ ⟨m3, p3, false⟩]
      try dsimp only
      rw [put4, law10_CellsOrder_r6_s _ _ _ _ _ _ _ _ _ _ ⟨m4, p4, false⟩]
      rw [z0, Bool.not_true, cond_false, cond_false, cond_false, law10_CellsOrder_e1_s, cond_false]
      try dsimp only
      by_cases hk : a.Key = b.Key
      · rw [decide_eq_true hk, cond_true, hsame m2 m3 p2 p3 _ (by omega) (by rw [hp2, hp3, put_same hsrt hk]), law10_CellsOrder_r7_s, cond_true]
        try dsimp only
        rw [hsame m4 m1 p4 p1 _ (by omega) (by rw [hp4, hp1, put_same hsrt hk.symm]), law10_CellsOrder_r9_s, cond_true, hh, law10_CellsOrder_r11_s, law10_CellsOrder_e2_s]
      · have hd1 : delL l.n l.w a.Key = (lst l.n l.w).filter fun x => !decide (x.Key = a.Key) := by unfold delL; rw [if_pos hr]
        have he1 : delE l.n l.w = 0 := by unfold delE; rw [if_pos hr]
        have hr1 : rightB (delL l.n l.w a.Key).length (gd zCell (delL l.n l.w a.Key)) = true := del_right hr (by rw [gd_lst]; exact hd1)
        have hl1 : (delL l.n l.w a.Key).length ≤ 50 := by
          rw [hd1]
          have := List.length_filter_le (fun x : TCell => !decide (x.Key = a.Key)) (lst l.n l.w)
          rw [lst_len] at this; omega
        have hd2 : delL (delL l.n l.w a.Key).length (gd zCell (delL l.n l.w a.Key)) a.Key = delL l.n l.w a.Key := by
          unfold delL at hr1 ⊢
          rw [if_pos hr] at hr1 ⊢
          rw [if_pos hr1, gd_lst, List.filter_filter]
          congr 1; funext x; rw [Bool.and_self]
        have he2 : delE (delL l.n l.w a.Key).length (gd zCell (delL l.n l.w a.Key)) = 0 := by unfold delE; rw [if_pos hr1]
        have hD1 : ∀ κ : AV → Option AV, callP ctx (k + 199) n_cells_Delete [.sl 2 l.n (rowOf eCell l.w) l.u, .str a.Key] κ = κ (.tup [.sl 2 (delL l.n l.w a.Key).length (rowOf eCell (gd zCell (delL l.n l.w a.Key))) false, .int .i64 0]) := fun κ => by
          rw [cells_Delete_ok (k + 199) l.n l.w l.u a.Key (by omega) (by omega) κ, he1]
        have hD2 : ∀ κ : AV → Option AV, callP ctx (k + 199) n_cells_Delete [.sl 2 (delL l.n l.w a.Key).length (rowOf eCell (gd zCell (delL l.n l.w a.Key))) false, .str a.Key] κ = κ (.tup [.sl 2 (delL l.n l.w a.Key).length (rowOf eCell (gd zCell (delL l.n l.w a.Key))) false, .int .i64 0]) := fun κ => by
          rw [cells_Delete_ok (k + 199) _ _ false a.Key (by omega) (by omega) κ, he2, hd2]
        clear hd1 hd2 he1 he2 hr1
        generalize delL l.n l.w a.Key = D at *
        rw [decide_eq_false hk, cond_false, hD1, law10_CellsOrder_r8_s _ _ _ _ _ _ _ _ ⟨D.length, gd zCell D, false⟩]
        try dsimp only
        rw [hD2, law10_CellsOrder_r10_s _ _ _ _ _ _ ⟨D.length, gd zCell D, false⟩]
        try dsimp only
        rw [hsame m2 m4 p2 p4 _ (by omega) (by rw [hp2, hp4, put_comm hsrt hk]), law10_CellsOrder_r12_s, cond_true, z0, cond_true, cond_true]
        try dsimp only
        rw [hsame D.length D.length _ _ _ (by omega) rfl, law10_CellsOrder_r13_s, cond_true, hh, law10_CellsOrder_r14_s, law10_CellsOrder_e3_s]
theorem cellsOrder_pure (l : Sl TCell) (a b : TCell) (h : SSl 32 SCell l) (ha : SCell a) (hb : SCell b) : ∃ k, evalF ctx k n_law10_CellsOrder [.sl 2 l.n (rowOf eCell l.w) l.u, .agg (eCell a), .agg (eCell b)] [] (fun v _ => some v) = some (.bool true) :=
  ⟨_, order_ok l a b (fine_of h) 0⟩
end Go.Proofs.YtpbiclnkbkghaaaC
