/- Cells: Put; what Find tells of rows that have the same cells. No conditions. -/
import Derived.Test.YtpbiclnkbkghaaaP1
import Derived.Test.YtpbiclnkbkghaaaG6
import Derived.Test.YtpbiclnkbkghaaaEvCl
set_option linter.unusedVariables false
set_option linter.unusedSimpArgs false
namespace Go.Proofs.YtpbiclnkbkghaaaC
open Go Go.Ev Go.Proofs
variable {ρ : Type}

theorem lst_split {α : Type} (w : Nat → α) {d n : Nat} (hd : d ≤ n) : lst n w = lst d w ++ lst (n - d) (fun i => w (d + i)) := by
  have := l_cat d (n - d) w (fun i => w (d + i)) false
  rw [show d + (n - d) = n by omega] at this
  rw [← this]
  apply List.map_congr_left
  intro i hi
  show w i = catW d w (fun i => w (d + i)) i
  unfold catW
  split
  · rfl
  · show w i = w (d + (i - d)); rw [show d + (i - d) = i by omega]
theorem filter_head {α : Type} {n d : Nat} {w : Nat → α} {p : α → Bool} (hd : d ≤ n) (h1 : ∀ i, i < d → p (w i) = true) (h2 : ∀ i, d ≤ i → i < n → p (w i) = false) : (lst n w).filter p = lst d w := by
  rw [lst_split w hd, List.filter_append]
  have e1 : (lst d w).filter p = lst d w := by
    rw [List.filter_eq_self]; intro c hc
    obtain ⟨i, hi, rfl⟩ := lst_mem.1 hc
    exact h1 i hi
  have e2 : (lst (n - d) (fun i => w (d + i))).filter p = [] := by
    rw [List.filter_eq_nil_iff]; intro c hc
    obtain ⟨i, hi, rfl⟩ := lst_mem.1 hc
    rw [h2 (d + i) (by omega) (by omega)]; simp
  rw [e1, e2, List.append_nil]
theorem filter_tail {α : Type} {n d : Nat} {w : Nat → α} {p : α → Bool} (hd : d ≤ n) (h1 : ∀ i, i < d → p (w i) = false) (h2 : ∀ i, d ≤ i → i < n → p (w i) = true) : (lst n w).filter p = lst (n - d) (fun i => w (d + i)) := by
  rw [lst_split w hd, List.filter_append]
  have e1 : (lst d w).filter p = [] := by
    rw [List.filter_eq_nil_iff]; intro c hc
    obtain ⟨i, hi, rfl⟩ := lst_mem.1 hc
    rw [h1 i hi]; simp
  have e2 : (lst (n - d) (fun i => w (d + i))).filter p = lst (n - d) (fun i => w (d + i)) := by
    rw [List.filter_eq_self]; intro c hc
    obtain ⟨i, hi, rfl⟩ := lst_mem.1 hc
    exact h2 (d + i) (by omega) (by omega)
  rw [e1, e2, List.nil_append]
/-- those below, it, those above -/
def putL (L : List TCell) (c : TCell) : List TCell := (L.filter fun x => bl x.Key c.Key) ++ c :: L.filter fun x => bl c.Key x.Key
theorem above_cut {n : Nat} {w : Nat → TCell} (h : rightB n w = true) (key : ByteArray) : ((lst n w).filter fun x => bl key x.Key) = lst (n - cutN n w key) (fun i => w (cutN n w key + i)) := by
  have hc := cutN_cut h key n (Nat.le_refl _)
  exact filter_tail hc.1 hc.2.1 hc.2.2
theorem below_found {n : Nat} {w : Nat → TCell} (h : rightB n w = true) (key : ByteArray) (h0 : 0 < cutN n w key) (hk : (w (cutN n w key - 1)).Key = key) : ((lst n w).filter fun x => bl x.Key key) = lst (cutN n w key - 1) w := by
  have hc := cutN_cut h key n (Nat.le_refl _)
  have hl := cutN_le w key n
  refine filter_head (by omega) (fun i hi => ?_) fun i hi hi' => ?_
  · have := right_lt h (show i < cutN n w key - 1 by omega) (by omega)
    rwa [hk] at this
  · rcases Nat.lt_or_ge i (cutN n w key) with h' | h'
    · rw [show i = cutN n w key - 1 by omega, hk]; exact bl_irrefl _
    · exact bl_asymm (hc.2.2 i h' hi')
theorem below_not {n : Nat} {w : Nat → TCell} (h : rightB n w = true) (key : ByteArray) (hk : ¬ (0 < cutN n w key ∧ (w (cutN n w key - 1)).Key = key)) : ((lst n w).filter fun x => bl x.Key key) = lst (cutN n w key) w := by
  have hc := cutN_cut h key n (Nat.le_refl _)
  have hl := cutN_le w key n
  refine filter_head hl (fun i hi => ?_) fun i hi hi' => bl_asymm (hc.2.2 i hi hi')
  have h1 := hc.2.1 i hi
  cases h2 : bl (w i).Key key with
  | true => rfl
  | false =>
    exfalso
    have he := bl_tri h2 h1
    rcases Nat.lt_or_ge i (cutN n w key - 1) with h' | h'
    · have := right_lt h h' (by omega)
      rw [he] at this
      rw [hc.2.1 (cutN n w key - 1) (by omega)] at this; cases this
    · exact hk ⟨by omega, by rw [show cutN n w key - 1 = i by omega]; exact he⟩
/-- the cases in which a cell goes between others -/
theorem put_between (n q : Nat) (w : Nat → TCell) (c : TCell) (hq : q ≤ n) (hn : n ≤ 10000) :
    ∃ w' : Nat → TCell, lst (n + 1) w' = lst q w ++ c :: lst (n - q) (fun i => w (q + i)) ∧ ∀ κ : AV → Option ρ,
      (bif cutOK n 0 (q : Int) (q : Int) then
        (bif ((decide ((q : Int) = (q : Int))) && (roomOf (q + 1) 32)) then
         (bif cutOK n (q : Int) (n : Int) (n : Int) then
          (bif decide ((n - q) = 0) then
           pk κ (.tup [.osl 2 0 0 (q + 1) false, .int .i64 0]) [some (.arr 2 (q + 1) (catRow q (rowOf eCell (fun i => w (0 + i))) (litRow eCell [c] zCell)))]
          else (bif decide (((0 + (q + 1)) + (n - q)) ≤ (q + 1)) then
            pk κ (.tup [.osl 2 0 0 ((q + 1) + (n - q)) false, .int .i64 0]) [some (.arr 2 (q + 1) (putRow (0 + (q + 1)) ((0 + (q + 1)) + (n - q)) (rowOf eCell (fun i => w (q + i))) (catRow q (rowOf eCell (fun i => w (0 + i))) (litRow eCell [c] zCell))))]
           else (bif ((decide ((q + 1) = (q + 1))) && (roomOf ((q + 1) + (n - q)) 32)) then
             pk κ (.tup [.osl 2 0 0 ((q + 1) + (n - q)) false, .int .i64 0]) [some (.arr 2 ((q + 1) + (n - q)) (catRow (q + 1) (catRow q (rowOf eCell (fun i => w (0 + i))) (litRow eCell [c] zCell)) (rowOf eCell (fun i => w (q + i)))))]
            else none)))
         else none)
        else none)
       else none) = κ (.tup [.sl 2 (n + 1) (rowOf eCell w') false, .int .i64 0]) := by
  have c1 := cut_nat (n := n) (l := 0) (h := q) (m := q) (by omega) (by omega) (by omega)
  have c2 := cut_nat (n := n) (l := q) (h := n) (m := n) (by omega) (by omega) (by omega)
  simp only [Int.natCast_zero] at c1
  have r1 : roomOf (q + 1) 32 = true := room_of (by omega) (by omega)
  have r2 : roomOf (q + 1 + (n - q)) 32 = true := room_of (by omega) (by omega)
  have d1 : decide ((q : Int) = (q : Int)) = true := dec_int _
  have d2 : decide ((q + 1) = (q + 1)) = true := decide_eq_true rfl
  have inner : lst (q + 1) (catW q w (fun i => [c].getD i zCell)) = lst q w ++ [c] := by
    have := l_cat q 1 w (fun i => [c].getD i zCell) false
    exact this
  by_cases h0 : n - q = 0
  · have hqn : q = n := by omega
    subst hqn
    refine ⟨catW q w (fun i => [c].getD i zCell), ?_, fun κ => ?_⟩
    · rw [inner, h0]; rfl
    · rw [c1, c2, r1, d1, decide_eq_true h0]
      simp only [Bool.and_self, cond_true, zrow, lit_row, cat_row]
      show κ (.tup [.sl 2 (q + 1) (fun i => rowOf eCell (catW q w (fun i => [c].getD i zCell)) (0 + i)) false, .int .i64 0]) = _
      rw [zrow]
  · refine ⟨catW (q + 1) (catW q w (fun i => [c].getD i zCell)) (fun i => w (q + i)), ?_, fun κ => ?_⟩
    · have := l_cat (q + 1) (n - q) (catW q w (fun i => [c].getD i zCell)) (fun i => w (q + i)) false
      simp only [Sl.l] at this
      rw [show n + 1 = q + 1 + (n - q) by omega, this, inner, List.append_assoc]; rfl
    · have d3 : decide (((0 + (q + 1)) + (n - q)) ≤ (q + 1)) = false := decide_eq_false (by omega)
      rw [c1, c2, r1, r2, d1, d2, d3, decide_eq_false h0]
      simp only [Bool.and_self, cond_true, cond_false, zrow, lit_row, cat_row]
      show κ (.tup [.sl 2 (q + 1 + (n - q)) (fun i => rowOf eCell (catW (q + 1) (catW q w (fun i => [c].getD i zCell)) (fun i => w (q + i))) (0 + i)) false, .int .i64 0]) = _
      rw [zrow, show q + 1 + (n - q) = n + 1 by omega]
theorem cells_Put_ok (k n : Nat) (w : Nat → TCell) (u : Bool) (c : TCell) (hn : n ≤ 10000) (hk : n + 10 ≤ k) (hr : rightB n w = true) (hf : fitB c = true) :
    ∃ (m : Nat) (w' : Nat → TCell), lst m w' = putL (lst n w) c ∧ ∀ κ : AV → Option ρ, callP ctx k n_cells_Put [.sl 2 n (rowOf eCell w) u, .agg (eCell c)] κ = κ (.tup [.sl 2 m (rowOf eCell w') false, .int .i64 0]) := by
  obtain ⟨k, rfl⟩ : ∃ k', k = k' + 2 := ⟨k - 2, by omega⟩
  have hq := cutN_le w c.Key n
  have start : ∀ κ : AV → Option ρ, callP ctx (k + 2) n_cells_Put [.sl 2 n (rowOf eCell w) u, .agg (eCell c)] κ = cells_Put_r1 (k + 1) ⟨n, w, u⟩ c (pk κ) (.int .i64 ((cutN n w c.Key : Int) - 1)) := by
    intro κ
    rw [callP_eq]
    refine (cells_Put_e (k + 1) ⟨n, w, u⟩ c (pk κ)).trans ?_
    simp only
    rw [cells_Right_ok (k + 1) n w u (by omega) (by omega), cells_Put_r0_s, hr]
    simp only [fitB, Bool.and_eq_true, decide_eq_true_eq] at hf
    have f1 : decide ((c.Key.size : Int) ≤ 513) = true := decide_eq_true (by omega)
    have f2 : decide ((c.Value.size : Int) ≤ 2048) = true := decide_eq_true (by omega)
    rw [f1, f2]
    simp only [Bool.not_true, cond_false, cond_true]
    rw [cells_At_ok (k + 1) n w u c.Key (by omega) (by omega)]
    unfold atI
    rw [if_pos hr]
  have ew : wi64 (((cutN n w c.Key : Int) - 1) + 1) = (cutN n w c.Key : Int) := by rw [wi64_in (by omega) (by omega)]; omega
  have habove := above_cut hr c.Key
  by_cases hfd : 0 < cutN n w c.Key ∧ (w (cutN n w c.Key - 1)).Key = c.Key
  · have hbelow := below_found hr c.Key hfd.1 hfd.2
    generalize cutN n w c.Key = q at *
    refine ⟨n, fun j => if j = q - 1 then c else w j, ?_, fun κ => ?_⟩
    · unfold putL
      rw [hbelow, habove]
      have := lst_split (fun j => if j = q - 1 then c else w j) (show q - 1 ≤ n by omega)
      rw [this, show n - (q - 1) = (n - q) + 1 by omega]
      congr 1
      · apply List.map_congr_left; intro i hi
        have := List.mem_range.1 hi
        rw [if_neg (by omega)]
      · unfold lst
        rw [List.range_succ_eq_map, List.map_cons, List.map_map, if_pos (by omega)]
        congr 1
        apply List.map_congr_left; intro i hi
        simp only [Function.comp]
        rw [if_neg (by omega), show q - 1 + (i + 1) = q + i by omega]
    · rw [start, cells_Put_r1_s]
      have e : ((q : Int) - 1) = ((q - 1 : Nat) : Int) := by omega
      have e1 : decide (0 ≤ ((q - 1 : Nat) : Int)) = true := decide_eq_true (by omega)
      have e2 : decide (q - 1 < n) = true := decide_eq_true (by omega)
      have e3 : decide ((w (q - 1)).Key = c.Key) = true := decide_eq_true hfd.2
      rw [e]
      simp only [e1, idx_nat, e2, Int.toNat_natCast, e3, cond_true]
      refine (clone_ev ctx (by kernel_rfl : find1 n_slices_Clone_Cell ctx.ext = some (cloneE 2 32 (eCell zCell))) k n (rowOf eCell w) u _).trans ?_
      rw [if_neg (by omega), if_pos (room_of (by omega) (by omega))]
      refine (cells_Put_r2_s1 (k + 1) ⟨n, w, u⟩ c _ (pk κ)).trans ?_
      have e4 : decide (0 + (q - 1) < n) = true := decide_eq_true (by omega)
      simp only [idx_nat, e2, Int.toNat_natCast, e4, cond_true]
      rw [upd_row eCell (0 + (q - 1)) 0 (eCell c) w c rfl]
      show κ (.tup [.sl 2 n (fun i => rowOf eCell (fun j => if j = 0 + (q - 1) then c else w j) (0 + i)) false, .int .i64 0]) = _
      rw [zrow, Nat.zero_add]
  · have hbelow := below_not hr c.Key hfd
    generalize cutN n w c.Key = q at *
    obtain ⟨w', hw', hput⟩ := put_between (ρ := ρ) n q w c hq hn
    refine ⟨n + 1, w', ?_, fun κ => ?_⟩
    · unfold putL
      rw [hw', hbelow, habove]
    · rw [start, cells_Put_r1_s, ew]
      have hp := hput κ
      by_cases h0 : 0 < q
      · have e : ((q : Int) - 1) = ((q - 1 : Nat) : Int) := by omega
        have e1 : decide (0 ≤ ((q - 1 : Nat) : Int)) = true := decide_eq_true (by omega)
        have e2 : decide (q - 1 < n) = true := decide_eq_true (by omega)
        have e3 : decide ((w (q - 1)).Key = c.Key) = false := decide_eq_false fun h => hfd ⟨h0, h⟩
        rw [e]
        simp only [e1, idx_nat, e2, e3, cond_true, cond_false, Int.toNat_natCast]
        simpa only [decide_true] using hp
      · have e1 : decide (0 ≤ (q : Int) - 1) = false := decide_eq_false (by omega)
        simp only [e1, cond_false, Int.toNat_natCast]
        simpa only [decide_true] using hp
theorem put_mem {L : List TCell} {c x : TCell} : x ∈ putL L c ↔ x = c ∨ (x ∈ L ∧ x.Key ≠ c.Key) := by
  unfold putL
  simp only [List.mem_append, List.mem_cons, List.mem_filter]
  constructor
  · rintro (⟨h1, h2⟩ | rfl | ⟨h1, h2⟩)
    · exact .inr ⟨h1, fun e => by rw [e, bl_irrefl] at h2; cases h2⟩
    · exact .inl rfl
    · exact .inr ⟨h1, fun e => by rw [e, bl_irrefl] at h2; cases h2⟩
  · rintro (rfl | ⟨h1, h2⟩)
    · exact .inr (.inl rfl)
    · cases h3 : bl x.Key c.Key with
      | true => exact .inl ⟨h1, rfl⟩
      | false =>
        cases h4 : bl c.Key x.Key with
        | true => exact .inr (.inr ⟨h1, rfl⟩)
        | false => exact absurd (bl_tri h3 h4) h2
theorem two_filters {α : Type} (p q : α → Bool) (h : ∀ x, p x = true → q x = false) : ∀ L : List α, (L.filter p).length + (L.filter q).length ≤ L.length
  | [] => by simp
  | a :: L => by
    have := two_filters p q h L
    cases hp : p a with
    | true => rw [List.filter_cons_of_pos hp, List.filter_cons_of_neg (by rw [h a hp]; simp)]; simp only [List.length_cons]; omega
    | false =>
      rw [List.filter_cons_of_neg (by rw [hp]; simp)]
      cases hq : q a with
      | true => rw [List.filter_cons_of_pos hq]; simp only [List.length_cons]; omega
      | false => rw [List.filter_cons_of_neg (by rw [hq]; simp)]; simp only [List.length_cons]; omega
theorem put_len (L : List TCell) (c : TCell) : (putL L c).length ≤ L.length + 1 := by
  have := two_filters (fun x : TCell => bl x.Key c.Key) (fun x => bl c.Key x.Key) (fun x hx => bl_asymm hx) L
  unfold putL
  rw [List.length_append, List.length_cons]; omega
theorem put_srt {L : List TCell} {c : TCell} (h : Srt L) : Srt (putL L c) := by
  unfold putL Srt
  rw [List.pairwise_append]
  refine ⟨List.Pairwise.filter _ h, ?_, fun a ha b hb => ?_⟩
  · rw [List.pairwise_cons]
    exact ⟨fun a ha => (List.mem_filter.1 ha).2, List.Pairwise.filter _ h⟩
  · have h1 := (List.mem_filter.1 ha).2
    rcases List.mem_cons.1 hb with rfl | hb
    · exact h1
    · exact bl_trans h1 (List.mem_filter.1 hb).2
theorem srt_one {L : List TCell} (h : Srt L) {x y : TCell} (hx : x ∈ L) (hy : y ∈ L) (hk : x.Key = y.Key) : x = y := by
  induction L with
  | nil => cases hx
  | cons a L ih =>
    have hs := List.pairwise_cons.1 h
    rcases List.mem_cons.1 hx with rfl | hx' <;> rcases List.mem_cons.1 hy with rfl | hy'
    · rfl
    · have := hs.1 y hy'; rw [hk, bl_irrefl] at this; cases this
    · have := hs.1 x hx'; rw [hk, bl_irrefl] at this; cases this
    · exact ih hs.2 hx' hy'
theorem find_in {n : Nat} {w : Nat → TCell} (h : rightB n w = true) {x : TCell} (hx : x ∈ lst n w) : findV n w x.Key = (x.Value, true) := by
  obtain ⟨i, hi, rfl⟩ := lst_mem.1 hx
  have hc := find_cut h hi rfl
  unfold findV
  rw [hc, Nat.add_sub_cancel, if_pos ⟨h, by omega, rfl⟩]
theorem find_out {n : Nat} {w : Nat → TCell} {key : ByteArray} (hx : ∀ x ∈ lst n w, x.Key ≠ key) : findV n w key = (nilB, false) := by
  unfold findV
  rw [if_neg]
  rintro ⟨_, h1, h2⟩
  have hc := cutN_le w key n
  exact hx (w (cutN n w key - 1)) (lst_mem.2 ⟨_, by omega, rfl⟩) h2
/-- what Find tells hangs on the cells with the key alone -/
theorem find_same {n m : Nat} {v w : Nat → TCell} {key : ByteArray} (h1 : rightB n v = true) (h2 : rightB m w = true) (h : ∀ x : TCell, x.Key = key → (x ∈ lst n v ↔ x ∈ lst m w)) : findV n v key = findV m w key := by
  by_cases hx : ∃ x ∈ lst n v, x.Key = key
  · obtain ⟨x, hx, hk⟩ := hx
    have e1 := find_in h1 hx
    have e2 := find_in h2 ((h x hk).1 hx)
    rw [hk] at e1 e2
    rw [e1, e2]
  · have hx' : ∀ x ∈ lst n v, x.Key ≠ key := fun x hm hk => hx ⟨x, hm, hk⟩
    rw [find_out hx', find_out fun x hm hk => hx' x ((h x hk).2 hm) hk]
theorem put_right {n m : Nat} {v w : Nat → TCell} {c : TCell} (h : rightB n w = true) (hf : fitB c = true) (hv : lst m v = putL (lst n w) c) : rightB m v = true := by
  obtain ⟨h1, h2⟩ := right_list.1 h
  refine right_list.2 ⟨fun x hx => ?_, by rw [hv]; exact put_srt h2⟩
  rw [hv] at hx
  rcases put_mem.1 hx with rfl | ⟨hx, _⟩
  · simp only [fitB, Bool.and_eq_true, decide_eq_true_eq] at hf; exact hf
  · exact h1 x hx
theorem del_right {n m : Nat} {v w : Nat → TCell} {p : TCell → Bool} (h : rightB n w = true) (hv : lst m v = (lst n w).filter p) : rightB m v = true := by
  obtain ⟨h1, h2⟩ := right_list.1 h
  refine right_list.2 ⟨fun x hx => ?_, by rw [hv]; exact List.Pairwise.filter _ h2⟩
  rw [hv] at hx
  exact h1 x (List.mem_filter.1 hx).1
theorem put_del (L : List TCell) (c : TCell) : (putL L c).filter (fun x => !decide (x.Key = c.Key)) = (L.filter fun x => bl x.Key c.Key) ++ L.filter fun x => bl c.Key x.Key := by
  unfold putL
  rw [List.filter_append, List.filter_cons_of_neg (by simp)]
  congr 1
  · rw [List.filter_eq_self]; intro x hx
    have := (List.mem_filter.1 hx).2
    simp only [Bool.not_eq_true', decide_eq_false_iff_not]
    intro e; rw [e, bl_irrefl] at this; cases this
  · rw [List.filter_eq_self]; intro x hx
    have := (List.mem_filter.1 hx).2
    simp only [Bool.not_eq_true', decide_eq_false_iff_not]
    intro e; rw [e, bl_irrefl] at this; cases this

end Go.Proofs.YtpbiclnkbkghaaaC
