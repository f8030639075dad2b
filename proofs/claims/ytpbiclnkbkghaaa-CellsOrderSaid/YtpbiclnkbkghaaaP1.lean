/- Cells: plain facts of rows of cells in order. No conditions. -/
import Derived.Test.YtpbiclnkbkghaaaC2
set_option linter.unusedVariables false
set_option linter.unusedSimpArgs false
namespace Go.Proofs.YtpbiclnkbkghaaaC
open Go Go.Ev Go.Proofs

theorem cell_ext {x y : TCell} (h1 : x.Key = y.Key) (h2 : x.Value = y.Value) : x = y := by cases x; cases y; simp_all
theorem sameB_iff {n m : Nat} {v w : Nat → TCell} : sameB n v m w = true ↔ lst n v = lst m w := by
  unfold sameB
  rw [Bool.and_eq_true, decide_eq_true_eq, allN_true]
  constructor
  · rintro ⟨rfl, h⟩
    apply List.map_congr_left
    intro i hi
    have := h i (List.mem_range.1 hi)
    simp only [sameP, Bool.and_eq_true, decide_eq_true_eq] at this
    exact cell_ext this.1 this.2.1
  · intro h
    have hn : n = m := by have := congrArg List.length h; rwa [lst_len, lst_len] at this
    subst hn
    refine ⟨rfl, fun i hi => ?_⟩
    have h1 : (lst n v)[i]? = (lst n w)[i]? := by rw [h]
    rw [List.getElem?_eq_getElem (by rw [lst_len]; exact hi), List.getElem?_eq_getElem (by rw [lst_len]; exact hi), lst_get, lst_get] at h1
    have h1 := Option.some.inj h1
    simp [sameP, h1]
def Fit (c : TCell) : Prop := c.Key.size ≤ 513 ∧ c.Value.size ≤ 2048
def Srt (L : List TCell) : Prop := L.Pairwise fun a b => bl a.Key b.Key = true
theorem right_list {n : Nat} {w : Nat → TCell} : rightB n w = true ↔ (∀ c ∈ lst n w, Fit c) ∧ Srt (lst n w) := by
  constructor
  · intro h
    refine ⟨fun c hc => ?_, ?_⟩
    · obtain ⟨i, hi, rfl⟩ := lst_mem.1 hc
      have := allN_true.1 h i hi
      simp only [rightP, fitB, Bool.and_eq_true, decide_eq_true_eq] at this
      exact this.1
    · unfold Srt
      rw [List.pairwise_iff_getElem]
      intro i j hi hj hij
      rw [lst_get, lst_get]
      exact right_lt h hij (by rwa [lst_len] at hj)
  · rintro ⟨h1, h2⟩
    unfold rightB
    rw [allN_true]
    intro i hi
    have hf := h1 (w i) (lst_mem.2 ⟨i, hi, rfl⟩)
    simp only [rightP, fitB, Bool.and_eq_true, Bool.or_eq_true, decide_eq_true_eq]
    refine ⟨hf, ?_⟩
    by_cases h0 : i = 0
    · exact .inl h0
    · right
      unfold Srt at h2
      rw [List.pairwise_iff_getElem] at h2
      have := h2 (i - 1) i (by rw [lst_len]; omega) (by rw [lst_len]; exact hi) (by omega)
      rwa [lst_get, lst_get] at this
theorem filter_two {L : List TCell} (h : Srt L) (p q r : TCell → Bool) (h1 : ∀ a b, bl a.Key b.Key = true → q a = true → p b = false) (h2 : ∀ c, r c = (p c || q c)) (h3 : ∀ c, p c = true → q c = false) : L.filter p ++ L.filter q = L.filter r := by
  induction L with
  | nil => rfl
  | cons a L ih =>
    have hs := List.pairwise_cons.1 h
    have ih := ih hs.2
    cases hp : p a with
    | true =>
      have hq := h3 a hp
      rw [List.filter_cons_of_pos hp, List.filter_cons_of_neg (by rw [hq]; simp), List.filter_cons_of_pos (by rw [h2, hp]; rfl), List.cons_append, ih]
    | false =>
      cases hq : q a with
      | true =>
        have hn : L.filter p = [] := by
          rw [List.filter_eq_nil_iff]
          intro b hb
          rw [h1 a b (hs.1 b hb) hq]; simp
        rw [List.filter_cons_of_neg (by rw [hp]; simp), List.filter_cons_of_pos hq, List.filter_cons_of_pos (by rw [h2, hq]; simp), hn, List.nil_append, ← ih, hn, List.nil_append]
      | false => rw [List.filter_cons_of_neg (by rw [hp]; simp), List.filter_cons_of_neg (by rw [hq]; simp), List.filter_cons_of_neg (by rw [h2, hp, hq]; simp), ih]
theorem bl_empty (x : ByteArray) : bl x (⟨#[]⟩ : ByteArray) = false := by
  show Op.bytesLess x.toList (⟨#[]⟩ : ByteArray).toList = false
  rw [Go.ByteArray.toList_eq (⟨#[]⟩ : ByteArray)]
  exact bL_nil _
theorem bl_of_empty {x : ByteArray} (h : 0 < x.size) : bl (⟨#[]⟩ : ByteArray) x = true := by
  cases h' : bl (⟨#[]⟩ : ByteArray) x with
  | true => rfl
  | false =>
    have := bl_tri h' (bl_empty x)
    subst this
    exact absurd h (by decide)
theorem parts_meet {L : List TCell} (h : Srt L) {low mid high : ByteArray} (h1 : bl low mid = true) (h2 : bl mid high = true) (hl : low.size ≤ 500) (hm : mid.size ≤ 500) (hh : high.size ≤ 500) :
    (L.filter fun c => rHas ⟨low, mid, true⟩ c.Key) ++ (L.filter fun c => rHas ⟨mid, high, true⟩ c.Key) = L.filter fun c => rHas ⟨low, high, true⟩ c.Key := by
  have e : ∀ a b c : ByteArray, bl a b = true → a.size ≤ 500 → b.size ≤ 500 → rHas ⟨a, b, true⟩ c = (!bl c a && bl c b) := by
    intro a b c hab ha hb
    simp only [rHas, rRight, hasB, cond_true, hab, Bool.and_true, Bool.not_true, Bool.false_or]
    rw [decide_eq_false (by omega), decide_eq_false (by omega)]; rfl
  have h13 := bl_trans h1 h2
  refine filter_two h _ _ _ (fun a b hab hq => ?_) (fun c => ?_) fun c hp => ?_
  · simp only [e _ _ _ h2 hm hh, e _ _ _ h1 hl hm, Bool.and_eq_true, Bool.not_eq_true'] at hq ⊢
    have : bl b.Key mid = false := bl_le_trans hq.1 (bl_asymm hab)
    rw [this, Bool.and_false]
  · simp only [e _ _ _ h2 hm hh, e _ _ _ h1 hl hm, e _ _ _ h13 hl hh]
    cases ha : bl c.Key mid with
    | true => rw [bl_trans ha h2]; simp
    | false =>
      cases hb : bl c.Key low with
      | true => rw [bl_trans hb h1] at ha; cases ha
      | false => simp
  · simp only [e _ _ _ h2 hm hh, e _ _ _ h1 hl hm, Bool.and_eq_true] at hp ⊢
    rw [hp.2]; rfl
end Go.Proofs.YtpbiclnkbkghaaaC
