/- More of what Within, Both and Has have to do with one another. No conditions. -/
import Derived.Test.YtmekkbhgeijndaaSpanOrd
namespace Go.Proofs.Ytmekkbhgeijndaa.SpanLib
open Go Go.RowKit Go.Proofs.Ytmekkbhgeijndaa.Z Go.Proofs.YtmekkbhgeijndaaW.Keys Go.Proofs.YtmekkbhgeijndaaW.XWords Go.Proofs.YtmekkbhgeijndaaW.PrintWords
set_option linter.unusedSimpArgs false
set_option linter.unusedVariables false
theorem both_is (f t : ByteArray) (e : Bool) (f' t' : ByteArray) (e' : Bool) : (bothR f t e f' t' e').2.2.2 = meetsB f t e f' t' e' := by
  unfold bothR; cases meetsB f t e f' t' e' <;> rfl
theorem meets_comm (f t : ByteArray) (e : Bool) (f' t' : ByteArray) (e' : Bool) : meetsB f' t' e' f t e = meetsB f t e f' t' e' := by
  unfold meetsB; cases rightB f t e <;> cases rightB f' t' e' <;> simp [Bool.or_comm]
theorem smx_comm (x y : ByteArray) : smx x y = smx y x := by
  unfold smx
  cases h : Op.bytesLess x.toList y.toList <;> cases h' : Op.bytesLess y.toList x.toList <;> simp
  · exact ba_ext (bl_tri _ _ h h')
  · have := bl_asymm _ _ h; unfold bl at this; rw [h'] at this; cases this
theorem smn_comm (x y : ByteArray) : smn x y = smn y x := by
  unfold smn
  cases h : Op.bytesLess x.toList y.toList <;> cases h' : Op.bytesLess y.toList x.toList <;> simp
  · exact ba_ext (bl_tri _ _ h h')
  · have := bl_asymm _ _ h; unfold bl at this; rw [h'] at this; cases this
theorem both_comm (f t : ByteArray) (e : Bool) (f' t' : ByteArray) (e' : Bool) : bothR f t e f' t' e' = bothR f' t' e' f t e := by
  unfold bothR
  rw [meets_comm f t e f' t' e']
  unfold bothV
  rw [smx_comm f f', smn_comm t t', Bool.or_comm]
  cases meetsB f t e f' t' e' <;> cases e <;> cases e' <;> simp
theorem within_self (f t : ByteArray) (e : Bool) (h : rightB f t e = true) : withinB f t e f t e = true := by
  unfold withinB
  rw [h, bl_irrefl, bl_irrefl]; cases e <;> rfl
theorem within_right {f t : ByteArray} {e : Bool} {f' t' : ByteArray} {e' : Bool} (h : withinB f t e f' t' e' = true) : rightB f t e = true ∧ rightB f' t' e' = true := by
  simp only [withinB, Bool.and_eq_true] at h
  exact ⟨h.1, h.2.1⟩
theorem ble_trans (x y z : List UInt8) (h : bl y x = false) (h' : bl z y = false) : bl z x = false := by
  obtain ⟨r, hr, _⟩ := ranked [x, y, z]
  simp only [List.mem_cons, List.not_mem_nil, or_false, forall_eq_or_imp, forall_eq] at hr
  simp [hr] at *
  omega
theorem within_trans (f t : ByteArray) (e : Bool) (f' t' : ByteArray) (e' : Bool) (g u : ByteArray) (d : Bool) (h : withinB f t e f' t' e' = true) (h' : withinB f' t' e' g u d = true) : withinB f t e g u d = true := by
  simp only [withinB, Bool.and_eq_true, Bool.or_eq_true, Bool.not_eq_true'] at *
  obtain ⟨a1, a2, a3, a4⟩ := h
  obtain ⟨b1, b2, b3, b4⟩ := h'
  refine ⟨a1, b2, ble_trans _ _ _ b3 a3, ?_⟩
  rcases b4 with b4 | ⟨b4, b5⟩
  · exact .inl b4
  · rcases a4 with a4 | ⟨a4, a5⟩
    · rw [b4] at a4; cases a4
    · exact .inr ⟨a4, ble_trans _ _ _ a5 b5⟩
theorem has_from (f t : ByteArray) (e : Bool) (h : rightB f t e = true) : hasB f t e f = true := by
  cases e
  · simp [hasB, bl_irrefl]
  · simp [hasB, bl_irrefl, right_end h]
theorem bl_of_le {x y z : List UInt8} (h : bl y x = false) (h' : bl y z = true) : bl x z = true := by
  obtain ⟨r, hr, _⟩ := ranked [x, y, z]
  simp only [List.mem_cons, List.not_mem_nil, or_false, forall_eq_or_imp, forall_eq] at hr
  simp [hr] at *
  omega
theorem bl_of_le' {x y z : List UInt8} (h : bl x y = true) (h' : bl z y = false) : bl x z = true := by
  obtain ⟨r, hr, _⟩ := ranked [x, y, z]
  simp only [List.mem_cons, List.not_mem_nil, or_false, forall_eq_or_imp, forall_eq] at hr
  simp [hr] at *
  omega
theorem within_has {f t : ByteArray} {e : Bool} {f' t' : ByteArray} {e' : Bool} {x : ByteArray} (h : withinB f t e f' t' e' = true) (hx : hasB f t e x = true) : hasB f' t' e' x = true := by
  simp only [withinB, hasB, Bool.and_eq_true, Bool.or_eq_true, Bool.not_eq_true'] at *
  obtain ⟨a1, a2, a3, a4⟩ := h
  obtain ⟨x1, x2⟩ := hx
  refine ⟨ble_trans _ _ _ a3 x1, ?_⟩
  rcases a4 with a4 | ⟨a4, a5⟩
  · exact .inl a4
  · rcases x2 with x2 | x2
    · rw [x2] at a4; cases a4
    · exact .inr (bl_of_le' x2 a5)
theorem within_members (f t : ByteArray) (e : Bool) (f' t' : ByteArray) (e' : Bool) (x : ByteArray) (h : withinB f t e f' t' e' = true) :
    (rightB f' t' e' && hasB f' t' e' f) = true ∧ ((rightB f t e && hasB f t e x) = true → (rightB f' t' e' && hasB f' t' e' x) = true) := by
  obtain ⟨r1, r2⟩ := within_right h
  rw [r1, r2]
  exact ⟨by rw [within_has h (has_from f t e r1)]; rfl, fun hx => by simp only [Bool.true_and] at *; exact within_has h hx⟩
theorem smx_ge (x y : ByteArray) (k : List UInt8) : bl k (smx x y).toList = (bl k x.toList || bl k y.toList) := by
  obtain ⟨r, hr, _⟩ := ranked [k, x.toList, y.toList]
  simp only [List.mem_cons, List.not_mem_nil, or_false, forall_eq_or_imp, forall_eq] at hr
  rw [smx_toList]
  by_cases c1 : r x.toList < r y.toList <;> by_cases c2 : r k < r x.toList <;> by_cases c3 : r k < r y.toList <;> (try omega) <;> simp [hr, c1, c2, c3]
theorem smn_lt (x y : ByteArray) (k : List UInt8) : bl k (smn x y).toList = (bl k x.toList && bl k y.toList) := by
  obtain ⟨r, hr, _⟩ := ranked [k, x.toList, y.toList]
  simp only [List.mem_cons, List.not_mem_nil, or_false, forall_eq_or_imp, forall_eq] at hr
  rw [smn_toList]
  by_cases c1 : r y.toList < r x.toList <;> by_cases c2 : r k < r x.toList <;> by_cases c3 : r k < r y.toList <;> (try omega) <;> simp [hr, c1, c2, c3]
theorem smx_size_le (x y : ByteArray) (h : x.size ≤ 513) (h' : y.size ≤ 513) : (smx x y).size ≤ 513 := by unfold smx; split <;> assumption
theorem smn_size_le (x y : ByteArray) (h : x.size ≤ 513) (h' : y.size ≤ 513) : (smn x y).size ≤ 513 := by unfold smn; split <;> assumption
theorem both_has (f t : ByteArray) (e : Bool) (f' t' : ByteArray) (e' : Bool) (x : ByteArray) : hasB (bothV f t e f' t' e').1 (bothV f t e f' t' e').2.1 (bothV f t e f' t' e').2.2 x = (hasB f t e x && hasB f' t' e' x) := by
  cases e <;> cases e' <;> simp [hasB, bothV, smx_ge, smn_lt] <;> (try (cases bl x.toList f.toList <;> cases bl x.toList f'.toList <;> cases bl x.toList t.toList <;> cases bl x.toList t'.toList <;> rfl))
theorem both_right (f t : ByteArray) (e : Bool) (f' t' : ByteArray) (e' : Bool) (h : meetsB f t e f' t' e' = true) : rightB (bothV f t e f' t' e').1 (bothV f t e f' t' e').2.1 (bothV f t e f' t' e').2.2 = true := by
  have hm := h
  simp only [meetsB, Bool.and_eq_true, Bool.or_eq_true] at h
  obtain ⟨r1, r2, r3⟩ := h
  obtain ⟨s1, s2⟩ := right_sizes r1
  obtain ⟨s3, s4⟩ := right_sizes r2
  have z := smx_size_le f f' s1 s3
  have z' := smn_size_le t t' s2 s4
  have k : hasB (bothV f t e f' t' e').1 (bothV f t e f' t' e').2.1 (bothV f t e f' t' e').2.2 (bothV f t e f' t' e').1 = true := by
    rw [both_has]
    have k1 := has_from f t e r1
    have k2 := has_from f' t' e' r2
    show (hasB f t e (smx f f') && hasB f' t' e' (smx f f')) = true
    unfold smx
    rcases r3 with r3 | r3
    · cases h4 : Op.bytesLess f.toList f'.toList
      · have : f = f' := by
          refine ba_ext (bl_tri _ _ h4 ?_)
          simp only [hasB, Bool.and_eq_true, Bool.not_eq_true'] at r3
          exact r3.1
        subst this
        simp [r3, k2]
      · simp [r3, k2]
    · cases h4 : Op.bytesLess f.toList f'.toList
      · simp [r3, k1]
      · have : f = f' := by
          simp only [hasB, Bool.and_eq_true, Bool.not_eq_true'] at r3
          have := r3.1; unfold bl at this; rw [h4] at this; cases this
        subst this
        simp [r3, k1]
  cases e <;> cases e'
  · simp [rightB, bothV, z, toList_empty]; exact Nat.zero_le _
  all_goals (simp [hasB, bothV] at k; simp [rightB, bothV, z, z', s2, s4, k])
theorem both_members (f t : ByteArray) (e : Bool) (f' t' : ByteArray) (e' : Bool) (x : ByteArray) :
    ((bothR f t e f' t' e').2.2.2 && (rightB (bothR f t e f' t' e').1 (bothR f t e f' t' e').2.1 (bothR f t e f' t' e').2.2.1 && hasB (bothR f t e f' t' e').1 (bothR f t e f' t' e').2.1 (bothR f t e f' t' e').2.2.1 x)) =
      ((rightB f t e && hasB f t e x) && (rightB f' t' e' && hasB f' t' e' x)) := by
  cases hm : meetsB f t e f' t' e'
  · simp only [bothR, hm, Bool.false_eq_true, if_false, Bool.false_and]
    cases h : rightB f t e
    · simp
    cases h' : rightB f' t' e'
    · simp
    simp only [meetsB, h, h', Bool.true_and, Bool.or_eq_false_iff] at hm
    obtain ⟨m1, m2⟩ := hm
    cases x1 : hasB f t e x
    · simp
    cases x2 : hasB f' t' e' x
    · simp
    exfalso
    simp only [hasB, Bool.and_eq_true, Bool.or_eq_true, Bool.not_eq_true'] at x1 x2
    obtain ⟨a1, a2⟩ := x1
    obtain ⟨b1, b2⟩ := x2
    cases h4 : bl f'.toList f.toList
    · have : hasB f t e f' = true := by
        simp only [hasB, h4, Bool.not_false, Bool.true_and, Bool.or_eq_true, Bool.not_eq_true']
        rcases a2 with a2 | a2
        · exact .inl a2
        · exact .inr (bl_of_le b1 a2)
      rw [m1] at this; cases this
    · have : hasB f' t' e' f = true := by
        simp only [hasB, bl_asymm _ _ h4, Bool.not_false, Bool.true_and, Bool.or_eq_true, Bool.not_eq_true']
        rcases b2 with b2 | b2
        · exact .inl b2
        · exact .inr (bl_of_le a1 b2)
      rw [m2] at this; cases this
  · have r := both_right f t e f' t' e' hm
    have k := both_has f t e f' t' e' x
    have hm' := hm
    simp only [meetsB, Bool.and_eq_true] at hm'
    simp only [bothR, hm, if_true, Bool.true_and, r, k, hm'.1, hm'.2.1]
theorem both_within (f t : ByteArray) (e : Bool) (f' t' : ByteArray) (e' : Bool) (h : (bothR f t e f' t' e').2.2.2 = true) :
    withinB (bothR f t e f' t' e').1 (bothR f t e f' t' e').2.1 (bothR f t e f' t' e').2.2.1 f t e = true ∧ withinB (bothR f t e f' t' e').1 (bothR f t e f' t' e').2.1 (bothR f t e f' t' e').2.2.1 f' t' e' = true := by
  rw [both_is] at h
  have r := both_right f t e f' t' e' h
  have hm' := h
  simp only [meetsB, Bool.and_eq_true] at hm'
  simp only [bothR, h, if_true, withinB, r, hm'.1, hm'.2.1, Bool.true_and]
  have k1 : bl (smx f f').toList f.toList = false := by
    rw [smx_toList]; cases h : bl f.toList f'.toList
    · simp [bl_irrefl]
    · simp [bl_asymm _ _ h]
  have k2 : bl (smx f f').toList f'.toList = false := by rw [smx_comm, smx_toList]; cases h : bl f'.toList f.toList <;> simp [bl_irrefl]; exact bl_asymm _ _ h
  have k3 : bl t.toList (smn t t').toList = false := by rw [smn_lt, bl_irrefl]; rfl
  have k4 : bl t'.toList (smn t t').toList = false := by rw [smn_lt, bl_irrefl, Bool.and_false]
  cases e <;> cases e' <;> simp [bothV, k1, k2, k3, k4, bl_irrefl]
theorem point_facts (x : ByteArray) (hx : x.size ≤ 512) (f t : ByteArray) (e : Bool) :
    rightB x (x ++ (⟨#[0]⟩ : ByteArray)) true = true ∧ hasB x (x ++ (⟨#[0]⟩ : ByteArray)) true x = true ∧ hasB x (x ++ (⟨#[0]⟩ : ByteArray)) true (x ++ (⟨#[0]⟩ : ByteArray)) = false ∧
      withinB x (x ++ (⟨#[0]⟩ : ByteArray)) true f t e = (rightB f t e && hasB f t e x) := by
  have sz : (x ++ (⟨#[0]⟩ : ByteArray)).size = x.size + 1 := by rw [ByteArray.size_append]; rfl
  have tl : (x ++ (⟨#[0]⟩ : ByteArray)).toList = x.toList ++ [0] := by rw [toList_append, lit1]
  have r : rightB x (x ++ (⟨#[0]⟩ : ByteArray)) true = true := by
    simp only [rightB, sz, tl, bl_succ, bl_irrefl]
    simp; omega
  refine ⟨r, has_from _ _ _ r, ?_, ?_⟩
  · simp [hasB, bl_irrefl]
  · have k : bl t.toList (x.toList ++ [0]) = !bl x.toList t.toList := bl_succ _ _
    simp only [withinB, r, tl, k, hasB]
    cases rightB f t e <;> cases bl x.toList f.toList <;> cases e <;> simp
end Go.Proofs.Ytmekkbhgeijndaa.SpanLib
