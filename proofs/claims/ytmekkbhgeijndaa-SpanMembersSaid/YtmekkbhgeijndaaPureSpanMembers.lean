/- The pure statement of SpanMembers: whatever the texts, the law's function answers true. No conditions. -/
import Derived.Test.YtmekkbhgeijndaaSpanFacts
import Derived.Test.YtmekkbhgeijndaaZ2
import Derived.Test.YtmekkbhgeijndaaZ3
import Derived.Test.YtmekkbhgeijndaaZ4
import Derived.Test.YtmekkbhgeijndaaZ6
import Derived.Test.YtmekkbhgeijndaaZ8
namespace Go.Proofs.Ytmekkbhgeijndaa.Pure
open Go Go.RowKit Go.Proofs.Ytmekkbhgeijndaa.Z Go.Proofs.YtmekkbhgeijndaaW.Keys Go.Proofs.YtmekkbhgeijndaaW.XWords Go.Proofs.YtmekkbhgeijndaaW.PrintWords Go.Proofs.Ytmekkbhgeijndaa.SpanLib
set_option linter.unusedSimpArgs false
set_option linter.unusedVariables false
theorem SpanMembers : k3_SM.Pure := by
  intro f t e f' t' e' x _ _ _ _ _
  refine ⟨30, ?_⟩
  have hh : ∀ k, 8 ≤ k → k3_head.f k = some true := fun k hk => by
    obtain ⟨m, rfl⟩ : ∃ m, k = m + 8 := ⟨k - 8, by omega⟩
    exact head_eval m
  have R : ∀ k, 3 ≤ k → ∀ f t e, span_Right.f k f t e = some (rightB f t e) := fun k hk => by
    obtain ⟨m, rfl⟩ : ∃ m, k = m + 3 := ⟨k - 3, by omega⟩
    intros
    exact right_eval _ _ _ _
  have H : ∀ k, 3 ≤ k → ∀ f t e x, span_Has.f k f t e x = some (rightB f t e && hasB f t e x) := fun k hk => by
    obtain ⟨m, rfl⟩ : ∃ m, k = m + 3 := ⟨k - 3, by omega⟩
    intros
    exact has_eval _ _ _ _ _
  have M : ∀ k, 3 ≤ k → ∀ f t e f' t' e', span_Meets.f k f t e f' t' e' = some (meetsB f t e f' t' e') := fun k hk => by
    obtain ⟨m, rfl⟩ : ∃ m, k = m + 3 := ⟨k - 3, by omega⟩
    intros
    exact meets_eval _ _ _ _ _ _ _
  have W : ∀ k, 3 ≤ k → ∀ f t e f' t' e', span_Within.f k f t e f' t' e' = some (withinB f t e f' t' e') := fun k hk => by
    obtain ⟨m, rfl⟩ : ∃ m, k = m + 3 := ⟨k - 3, by omega⟩
    intros
    exact within_eval _ _ _ _ _ _ _
  have B : ∀ k, 3 ≤ k → ∀ f t e f' t' e', span_Both.f k f t e f' t' e' = some (bothR f t e f' t' e') := fun k hk => by
    obtain ⟨m, rfl⟩ : ∃ m, k = m + 3 := ⟨k - 3, by omega⟩
    intros
    exact both_eval _ _ _ _ _ _ _
  have g : ∃ b, k3_great.f f t e f' t' e' x = some b := by
    unfold k3_great.f
    split
    · exact ⟨_, rfl⟩
    split
    · exact ⟨_, rfl⟩
    split
    · exact ⟨_, rfl⟩
    split
    · exact ⟨_, rfl⟩
    exact ⟨_, rfl⟩
  obtain ⟨b, hb⟩ := g
  have T3 : ∀ k, 11 ≤ k → k3_SM.j3 k x false f t e = some true := by
    intro k hk
    obtain ⟨k, rfl⟩ : ∃ m, k = m + 1 := ⟨k - 1, by omega⟩
    simp only [k3_SM.j3, Bool.false_eq_true, if_false]
    rw [hh k (by omega)]
    by_cases hs : (x.size : Int) > 512
    · rw [if_pos hs]; rfl
    · rw [if_neg hs, point_eval x (by omega)]
      simp only [Option.bind_some, R k (by omega), H k (by omega), W k (by omega)]
      obtain ⟨p1, p2, p3, p4⟩ := point_facts x (by omega) f t e
      rw [p1, p2, p3]
      simp only [Bool.and_false, Bool.and_true, if_true, Bool.false_eq_true, if_false]
      rw [if_pos (by omega), p4]
      simp
  have T2 : ∀ k, 12 ≤ k → k3_SM.j2 k x false f t e f' t' e' = some true := by
    intro k hk
    obtain ⟨k, rfl⟩ : ∃ m, k = m + 1 := ⟨k - 1, by omega⟩
    simp only [k3_SM.j2, Bool.false_eq_true, if_false, W k (by omega), H k (by omega), Option.bind_some]
    cases hw : withinB f t e f' t' e' with
    | false => simp only [Bool.false_eq_true, if_false]; exact T3 k (by omega)
    | true =>
      obtain ⟨w1, w2⟩ := within_members f t e f' t' e' x hw
      rw [w1]
      simp only [if_true]
      cases hx : rightB f t e && hasB f t e x with
      | false => simp only [Bool.false_eq_true, if_false]; exact T3 k (by omega)
      | true => rw [w2 hx]; simp only [if_true, Bool.not_true]; exact T3 k (by omega)
  have T1 : ∀ k, 13 ≤ k → k3_SM.j1 k x (bothR f t e f' t' e').2.2.2 false f t e f' t' e' (bothR f t e f' t' e').1 (bothR f t e f' t' e').2.1 (bothR f t e f' t' e').2.2.1 = some true := by
    intro k hk
    obtain ⟨k, rfl⟩ : ∃ m, k = m + 1 := ⟨k - 1, by omega⟩
    simp only [k3_SM.j1, Bool.false_eq_true, if_false, H k (by omega), Option.bind_some]
    have key := both_members f t e f' t' e' x
    have tt := T2 k (by omega)
    generalize (bothR f t e f' t' e').2.2.2 = q1 at key ⊢
    generalize (rightB (bothR f t e f' t' e').1 (bothR f t e f' t' e').2.1 (bothR f t e f' t' e').2.2.1 && hasB (bothR f t e f' t' e').1 (bothR f t e f' t' e').2.1 (bothR f t e f' t' e').2.2.1 x) = q2 at key ⊢
    generalize (rightB f t e && hasB f t e x) = q3 at key ⊢
    generalize (rightB f' t' e' && hasB f' t' e' x) = q4 at key ⊢
    clear R H M W B T3 T2
    cases q1 <;> cases q2 <;> cases q3 <;> cases q4 <;> first | exact absurd key (by decide) | simpa using tt
  unfold k3_SM.f
  rw [hb, hh 30 (by omega)]
  simp only [Option.bind_some]
  cases b with
  | true => rw [if_pos rfl]
  | false =>
    rw [if_neg (by decide)]
    simp only [R 30 (by omega), Option.bind_some, k3_SM.j0, M 29 (by omega), W 29 (by omega), H 29 (by omega), B 29 (by omega), hh 29 (by omega)]
    have t1 := T1 29 (by omega)
    have Q : (bothR f t e f' t' e').2.2.2 = meetsB f t e f' t' e' := both_is f t e f' t' e'
    have S : meetsB f' t' e' f t e = meetsB f t e f' t' e' := meets_comm f t e f' t' e'
    cases h : rightB f t e
    · simp [meetsB, withinB, h]
    cases h' : rightB f' t' e'
    · simp [meetsB, withinB, h, h']
    rw [Q] at t1 ⊢
    rw [S]
    have D : meetsB f t e f' t' e' = (hasB f t e f' || hasB f' t' e' f) := by simp [meetsB, h, h']
    cases k1 : hasB f t e f' <;> cases k2 : hasB f' t' e' f <;> rw [k1, k2] at D <;> simp only [Bool.or_self, Bool.or_true, Bool.or_false, Bool.true_or] at D <;> rw [D] at t1 ⊢ <;> simpa using t1
end Go.Proofs.Ytmekkbhgeijndaa.Pure
