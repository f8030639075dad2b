/- What Cut and the statements' known calls answer. No conditions. -/
import Derived.Test.YtmekkbhgeijndaaSpanLib
import Derived.Test.YtmekkbhgeijndaaZ2
import Derived.Test.YtmekkbhgeijndaaZ3
import Derived.Test.YtmekkbhgeijndaaZ6
namespace Go.Proofs.Ytmekkbhgeijndaa.SpanLib
open Go Go.RowKit Go.Proofs.Ytmekkbhgeijndaa.Z Go.Proofs.YtmekkbhgeijndaaW.Keys Go.Proofs.YtmekkbhgeijndaaW.XWords Go.Proofs.YtmekkbhgeijndaaW.PrintWords
set_option linter.unusedSimpArgs false
set_option linter.unusedVariables false
theorem w64 {i : Int} (h0 : -9223372036854775808 ≤ i) (h1 : i ≤ 9223372036854775807) : wrap64 i = i := by unfold wrap64; omega
theorem bl_take : ∀ (a b : List UInt8) (m n : Nat), m ≤ n → bl a (b.take m) = true → bl a (b.take n) = true
  | a, b, 0, n, _, h => by rw [List.take_zero, bl_nil] at h; cases h
  | a, [], m + 1, n, _, h => by simp [bl_nil] at h
  | [], b :: y, m + 1, n + 1, _, _ => rfl
  | a :: x, b :: y, m + 1, n + 1, hmn, h => by
    simp only [bl, List.take_succ_cons, Op.bytesLess, Bool.or_eq_true, Bool.and_eq_true] at *
    rcases h with h | ⟨h, h'⟩
    · exact .inl h
    · exact .inr ⟨h, bl_take x y m n (by omega) h'⟩
def CutAt (a b : ByteArray) (m : Nat) : Prop := 1 ≤ m ∧ m ≤ b.size ∧ bl a.toList (b.toList.take m) = true ∧ ∀ j, j < m → bl a.toList (b.toList.take j) = false
def CutIs (a b : ByteArray) (r : ByteArray × Int) : Prop := (bl a.toList b.toList = true ∧ ∃ m, CutAt a b m ∧ r = (b.extract 0 m, 0)) ∨ (bl a.toList b.toList = false ∧ r = (⟨#[]⟩, 30))
theorem CutAt.one {a b : ByteArray} {m m' : Nat} (h : CutAt a b m) (h' : CutAt a b m') : m = m' := by
  rcases Nat.lt_trichotomy m m' with hl | hl | hl
  · have := h'.2.2.2 m hl; rw [h.2.2.1] at this; cases this
  · exact hl
  · have := h.2.2.2 m' hl; rw [h'.2.2.1] at this; cases this
theorem CutIs.one {a b : ByteArray} {r r' : ByteArray × Int} (h : CutIs a b r) (h' : CutIs a b r') : r = r' := by
  rcases h with ⟨h1, m, hm, rfl⟩ | ⟨h1, rfl⟩ <;> rcases h' with ⟨h1', m', hm', rfl⟩ | ⟨h1', rfl⟩
  · rw [hm.one hm']
  · rw [h1] at h1'; cases h1'
  · rw [h1] at h1'; cases h1'
  · rfl
theorem cut_loop (a b : ByteArray) (hb : b.size ≤ 4000) (d : Nat) : ∀ (k : Nat) (i : Nat), i ≤ b.size → b.size - i = d → d < k → (∀ j, j < i + 1 → bl a.toList (b.toList.take j) = false) →
    ∃ r, span_Cut.l0 k a b (b.size : Int) (i : Int) = some r ∧ CutIs a b r := by
  induction d with
  | zero =>
    intro k i hi hd hk hlow
    obtain ⟨k, rfl⟩ : ∃ m, k = m + 1 := ⟨k - 1, by omega⟩
    have : i = b.size := by omega
    subst this
    refine ⟨_, by simp only [span_Cut.l0]; rw [if_neg (by omega)], .inr ⟨?_, rfl⟩⟩
    have := hlow b.size (by omega)
    rwa [List.take_of_length_le (by rw [size_list]; omega)] at this
  | succ d ih =>
    intro k i hi hd hk hlow
    obtain ⟨k, rfl⟩ : ∃ m, k = m + 1 := ⟨k - 1, by omega⟩
    have e : wrap64 ((i : Int) + 1) = ((i + 1 : Nat) : Int) := by rw [w64 (by omega) (by omega)]; omega
    simp only [span_Cut.l0, e]
    rw [if_pos (by omega), if_pos (by omega), if_pos (by omega)]
    simp only [Int.toNat_natCast]
    rw [toList_take]
    by_cases h : bl a.toList (b.toList.take (i + 1)) = true
    · rw [if_pos h]
      refine ⟨_, rfl, .inl ⟨?_, i + 1, ⟨by omega, by omega, h, fun j hj => hlow j hj⟩, rfl⟩⟩
      have := bl_take a.toList b.toList (i + 1) b.size (by omega) h
      rwa [List.take_of_length_le (by rw [size_list]; omega)] at this
    · rw [if_neg h]
      exact ih k (i + 1) (by omega) (by omega) (by omega) (fun j hj => by
        rcases Nat.lt_or_ge j (i + 1) with h' | h'
        · exact hlow j h'
        · obtain rfl : j = i + 1 := by omega
          simpa using h)
theorem cut_eval (a b : ByteArray) (hb : b.size ≤ 4000) (k : Nat) (hk : 4001 ≤ k) : ∃ r, span_Cut.f k a b = some r ∧ CutIs a b r := by
  obtain ⟨r, h, hc⟩ := cut_loop a b hb b.size k 0 (by omega) (by omega) (by omega) (fun j hj => by
    obtain rfl : j = 0 := by omega
    rw [List.take_zero, bl_nil])
  exact ⟨r, h, hc⟩
theorem rcut_loop (a b : ByteArray) (hb : b.size ≤ 4000) (hab : bl a.toList b.toList = true) (d : Nat) : ∀ (k : Nat) (i : Nat), i ≤ b.size → b.size - i = d → d < k → (∀ j, j < i → bl a.toList (b.toList.take j) = false) →
    ∃ r, r3_Cut.l0 k a b (i : Int) = some r ∧ CutIs a b r := by
  induction d with
  | zero =>
    intro k i hi hd hk hlow
    obtain ⟨k, rfl⟩ : ∃ m, k = m + 1 := ⟨k - 1, by omega⟩
    have : i = b.size := by omega
    subst this
    have h : bl a.toList (b.toList.take b.size) = true := by rwa [List.take_of_length_le (by rw [size_list]; omega)]
    have h1 : 1 ≤ b.size := by
      rcases Nat.eq_zero_or_pos b.size with h0 | h0
      · rw [h0, List.take_zero, bl_nil] at h; cases h
      · exact h0
    simp only [r3_Cut.l0]
    rw [if_pos (by omega), if_pos (by omega)]
    simp only [Int.toNat_natCast]
    rw [toList_take, if_pos h]
    exact ⟨_, rfl, .inl ⟨hab, b.size, ⟨h1, by omega, h, hlow⟩, rfl⟩⟩
  | succ d ih =>
    intro k i hi hd hk hlow
    obtain ⟨k, rfl⟩ : ∃ m, k = m + 1 := ⟨k - 1, by omega⟩
    have e : wrap64 ((i : Int) + 1) = ((i + 1 : Nat) : Int) := by rw [w64 (by omega) (by omega)]; omega
    simp only [r3_Cut.l0, e]
    rw [if_pos (by omega), if_pos (by omega)]
    simp only [Int.toNat_natCast]
    rw [toList_take]
    by_cases h : bl a.toList (b.toList.take i) = true
    · rw [if_pos h]
      refine ⟨_, rfl, .inl ⟨hab, i, ⟨?_, by omega, h, hlow⟩, rfl⟩⟩
      rcases Nat.eq_zero_or_pos i with h0 | h0
      · rw [h0, List.take_zero, bl_nil] at h; cases h
      · exact h0
    · rw [if_neg h]
      exact ih k (i + 1) (by omega) (by omega) (by omega) (fun j hj => by
        rcases Nat.lt_or_ge j i with h' | h'
        · exact hlow j h'
        · obtain rfl : j = i := by omega
          simpa using h)
theorem rcut_eval (a b : ByteArray) (hb : b.size ≤ 4000) (k : Nat) (hk : 4001 ≤ k) : ∃ r, r3_Cut.f k a b = some r ∧ CutIs a b r := by
  unfold r3_Cut.f
  by_cases h : bl a.toList b.toList = true
  · rw [if_pos h]
    exact rcut_loop a b hb h b.size k 0 (by omega) (by omega) (by omega) (fun j hj => by omega)
  · rw [if_neg h]
    exact ⟨_, rfl, .inr ⟨by simpa using h, rfl⟩⟩
theorem point_eval (a : ByteArray) (h : a.size ≤ 512) : span_Point.f a = some (a, a ++ (⟨#[0]⟩ : ByteArray), true) := by
  unfold span_Point.f
  rw [if_neg (by omega), if_pos (by omega)]
theorem rpoint_eval (a : ByteArray) (h : a.size ≤ 512) : r3_Point.f a = some (a, a ++ (⟨#[0]⟩ : ByteArray), true) := by
  unfold r3_Point.f
  rw [if_neg (by omega), if_pos (by omega)]
theorem point_long (a : ByteArray) (h : ¬ a.size ≤ 512) : span_Point.f a = some (⟨#[]⟩, ⟨#[]⟩, false) := by
  unfold span_Point.f
  rw [if_pos (by omega)]
theorem rpoint_long (a : ByteArray) (h : ¬ a.size ≤ 512) : r3_Point.f a = some (⟨#[]⟩, ⟨#[]⟩, false) := by
  unfold r3_Point.f
  rw [if_pos (by omega)]
theorem lit1 (x : UInt8) : (⟨#[x]⟩ : ByteArray).toList = [x] := toList_lit [x]
theorem head_eval (k : Nat) : k3_head.f (k + 8) = some true := by
  have s1 : (⟨#[97]⟩ : ByteArray).size = 1 := rfl
  have c1 : span_Cut.f (k + 8) (⟨#[97, 98, 99]⟩ : ByteArray) (⟨#[97, 98, 120]⟩ : ByteArray) = some ((⟨#[97, 98, 120]⟩ : ByteArray).extract 0 3, 0) := by
    have e0 : wrap64 1 = 1 := w64 (by omega) (by omega)
    have e1 : wrap64 2 = 2 := w64 (by omega) (by omega)
    have e2 : wrap64 3 = 3 := w64 (by omega) (by omega)
    have t1 : (⟨#[97, 98, 120]⟩ : ByteArray).toList = [97, 98, 120] := toList_lit _
    have t2 : (⟨#[97, 98, 99]⟩ : ByteArray).toList = [97, 98, 99] := toList_lit _
    have sz : (⟨#[97, 98, 120]⟩ : ByteArray).size = 3 := rfl
    simp [span_Cut.f, span_Cut.l0, sz, e0, e1, e2, toList_take, t1, t2, Op.bytesLess]
  have c2 : span_Cut.f (k + 8) (⟨#[]⟩ : ByteArray) (⟨#[113]⟩ : ByteArray) = some ((⟨#[113]⟩ : ByteArray).extract 0 1, 0) := by
    have e0 : wrap64 1 = 1 := w64 (by omega) (by omega)
    have sz : (⟨#[113]⟩ : ByteArray).size = 1 := rfl
    simp [span_Cut.f, span_Cut.l0, sz, e0, toList_take, lit1, toList_empty, Op.bytesLess]
  have c3 : span_Cut.f (k + 8) (⟨#[98]⟩ : ByteArray) (⟨#[97]⟩ : ByteArray) = some (⟨#[]⟩, 30) := by
    have e0 : wrap64 1 = 1 := w64 (by omega) (by omega)
    have sz : (⟨#[97]⟩ : ByteArray).size = 1 := rfl
    simp [span_Cut.f, span_Cut.l0, sz, e0, toList_take, lit1, Op.bytesLess]
  have sz2 : ∀ x : UInt8, (⟨#[x]⟩ : ByteArray).size = 1 := fun _ => rfl
  have sz0 : (⟨#[]⟩ : ByteArray).size = 0 := rfl
  have t3 : ((⟨#[97, 98, 120]⟩ : ByteArray).extract 0 3).toList = [97, 98, 120] := by rw [toList_take]; rw [show (⟨#[97, 98, 120]⟩ : ByteArray).toList = [97, 98, 120] from toList_lit _]; rfl
  have t4 : ((⟨#[113]⟩ : ByteArray).extract 0 1).toList = [113] := by rw [toList_take, lit1]; rfl
  have p : span_Point.f (⟨#[97]⟩ : ByteArray) = some (⟨#[97]⟩, (⟨#[97]⟩ : ByteArray) ++ ⟨#[0]⟩, true) := point_eval _ (by rw [sz2]; omega)
  simp [k3_head.f, c1, c2, c3, both_eval, has_eval, bothR, meetsB, rightB, hasB, bl, sz2, sz0, lit1, toList_empty, bothV, smx, smn, Op.bytesLess, t3, t4, p, toList_append]
end Go.Proofs.Ytmekkbhgeijndaa.SpanLib
