/- Keys of mine: texts as lists of bytes, in their order; ranks among finitely many of them. No conditions. -/
import Derived.Test.YtmekkbhgeijndaaXWords
namespace Go.Proofs.YtmekkbhgeijndaaW.Keys
open Go Go.Proofs.YtmekkbhgeijndaaW.XWords
abbrev bl (x y : List UInt8) : Bool := Op.bytesLess x y
theorem bl_irrefl : ∀ x : List UInt8, bl x x = false
  | [] => rfl
  | a :: x => by simp [bl, Op.bytesLess]; exact bl_irrefl x
theorem bl_nil (x : List UInt8) : bl x [] = false := by cases x <;> rfl
theorem bl_tri (x y : List UInt8) (h1 : bl x y = false) (h2 : bl y x = false) : x = y := by
  have := bl_or_eq x y
  unfold bl at h1 h2
  rw [h1, h2] at this
  simpa using this
theorem bl_asymm (x y : List UInt8) (h : bl x y = true) : bl y x = false := by
  have := bl_or_eq x y
  unfold bl at h ⊢
  rw [h] at this
  simpa using this.symm
theorem bl_trans : ∀ (x y z : List UInt8), bl x y = true → bl y z = true → bl x z = true
  | x, y, [], _, h2 => by rw [bl_nil] at h2; cases h2
  | x, [], _, h1, _ => by rw [bl_nil] at h1; cases h1
  | [], b :: y, c :: z, _, _ => rfl
  | a :: x, b :: y, c :: z, h1, h2 => by
    simp only [bl, Op.bytesLess, Bool.or_eq_true, Bool.and_eq_true, decide_eq_true_eq, beq_iff_eq] at *
    rcases h1 with h1 | ⟨rfl, h1⟩ <;> rcases h2 with h2 | ⟨rfl, h2⟩
    · left; rw [UInt8.lt_iff_toNat_lt] at *; omega
    · left; exact h1
    · left; exact h2
    · right; exact ⟨rfl, bl_trans x y z h1 h2⟩
def rank (S : List (List UInt8)) (x : List UInt8) : Nat := (S.filter fun s => bl s x).length
theorem rank_le (S : List (List UInt8)) (x y : List UInt8) (h : bl y x = false) : rank S x ≤ rank S y := by
  unfold rank
  induction S with
  | nil => simp
  | cons s S ih =>
    have : bl s x = true → bl s y = true := by
      intro hs
      cases hy : bl s y with
      | true => rfl
      | false =>
        cases hys : bl y s with
        | true => rw [bl_trans y s x hys hs] at h; cases h
        | false => rw [bl_tri s y hy hys] at hs; rw [hs] at h; cases h
    by_cases hs : bl s x = true
    · rw [List.filter_cons_of_pos (by exact hs), List.filter_cons_of_pos (by exact this hs)]; simpa using ih
    · rw [List.filter_cons_of_neg (by exact hs)]
      by_cases hy : bl s y = true
      · rw [List.filter_cons_of_pos (by exact hy)]; simp only [List.length_cons]; omega
      · rw [List.filter_cons_of_neg (by exact hy)]; exact ih
theorem rank_lt (S : List (List UInt8)) (x y : List UInt8) (hx : x ∈ S) (h : bl x y = true) : rank S x < rank S y := by
  unfold rank
  induction S with
  | nil => simp at hx
  | cons s S ih =>
    have key := rank_le S x y (bl_asymm x y h)
    unfold rank at key
    rcases List.mem_cons.1 hx with rfl | hx
    · rw [List.filter_cons_of_neg (by simp [bl_irrefl]), List.filter_cons_of_pos (by exact h)]
      simp only [List.length_cons]; omega
    · have ih' := ih hx
      by_cases hs : bl s x = true
      · have hy := bl_trans s x y hs h
        rw [List.filter_cons_of_pos (by exact hs), List.filter_cons_of_pos (by exact hy)]; simpa using ih'
      · rw [List.filter_cons_of_neg (by exact hs)]
        by_cases hy : bl s y = true
        · rw [List.filter_cons_of_pos (by exact hy)]; simp only [List.length_cons]; omega
        · rw [List.filter_cons_of_neg (by exact hy)]; exact ih'
theorem ranked (S : List (List UInt8)) : ∃ r : List UInt8 → Nat, (∀ x ∈ S, ∀ y ∈ S, (bl x y = decide (r x < r y)) ∧ (x = y ↔ r x = r y)) ∧ (∀ x, r [] ≤ r x) := by
  refine ⟨rank S, fun x hx y hy => ⟨?_, ?_⟩, fun x => rank_le S [] x (bl_nil x)⟩
  · cases h : bl x y with
    | true => exact (decide_eq_true (rank_lt S x y hx h)).symm
    | false => exact (decide_eq_false (by have := rank_le S y x h; omega)).symm
  · constructor
    · rintro rfl; rfl
    · intro e
      refine bl_tri x y ?_ ?_
      · cases h : bl x y with
        | true => have := rank_lt S x y hx h; omega
        | false => rfl
      · cases h : bl y x with
        | true => have := rank_lt S y x hy h; omega
        | false => rfl
theorem bl_succ : ∀ (x k : List UInt8), bl x (k ++ [0]) = !bl k x
  | [], [] => rfl
  | [], _ :: _ => rfl
  | a :: x, [] => by
    have h : ¬ a < 0 := by rw [UInt8.lt_iff_toNat_lt]; simp
    cases x with
    | nil => simp [bl, Op.bytesLess, h]
    | cons b x => simp [bl, Op.bytesLess, h]
  | a :: x, b :: k => by
    have ih := bl_succ x k
    simp only [bl, List.cons_append, Op.bytesLess] at *
    rw [ih]
    by_cases h : a < b
    · have h2 := u8_asymm a b h
      have h3 : ¬ b = a := fun e => by subst e; exact u8_lt_irrefl _ h
      simp [h, h2, h3]
    · by_cases he : a = b
      · subst he; simp
      · have h2 := u8_trich a b h he
        simp [h, he, h2]
theorem toList_data (s : ByteArray) : s.toList = s.data.toList := ByteArray.toList_eq s
theorem ba_ext {a b : ByteArray} (h : a.toList = b.toList) : a = b := by
  rw [toList_data, toList_data] at h
  rcases a with ⟨⟨a⟩⟩; rcases b with ⟨⟨b⟩⟩
  simpa using h
theorem ba_iff (a b : ByteArray) : a = b ↔ a.toList = b.toList := ⟨fun h => by rw [h], ba_ext⟩
theorem size_list (s : ByteArray) : s.size = s.toList.length := by rw [toList_data]; exact (Array.length_toList).symm
theorem toList_append (a b : ByteArray) : (a ++ b).toList = a.toList ++ b.toList := by
  simp [toList_data]
theorem toList_lit (l : List UInt8) : (⟨l.toArray⟩ : ByteArray).toList = l := by rw [toList_data]
theorem toList_empty : (⟨#[]⟩ : ByteArray).toList = [] := toList_lit []
theorem toList_take (s : ByteArray) (n : Nat) : (s.extract 0 n).toList = s.toList.take n := by
  simp [toList_data]
end Go.Proofs.YtmekkbhgeijndaaW.Keys
