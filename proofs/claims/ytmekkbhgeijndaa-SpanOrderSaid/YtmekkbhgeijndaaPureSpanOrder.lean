/- The pure statement of SpanOrder: whatever the texts, the law's function answers true. No conditions. -/
import Derived.Test.YtmekkbhgeijndaaSpanFacts
import Derived.Test.YtmekkbhgeijndaaZ2
import Derived.Test.YtmekkbhgeijndaaZ3
import Derived.Test.YtmekkbhgeijndaaZ4
import Derived.Test.YtmekkbhgeijndaaZ6
import Derived.Test.YtmekkbhgeijndaaZ9
namespace Go.Proofs.Ytmekkbhgeijndaa.Pure
open Go Go.RowKit Go.Proofs.Ytmekkbhgeijndaa.Z Go.Proofs.YtmekkbhgeijndaaW.Keys Go.Proofs.YtmekkbhgeijndaaW.XWords Go.Proofs.YtmekkbhgeijndaaW.PrintWords Go.Proofs.Ytmekkbhgeijndaa.SpanLib
set_option linter.unusedSimpArgs false
set_option linter.unusedVariables false
theorem SpanOrder : lockkeeperlaw03_SpanOrder.Pure := by
  intro f t e f' t' e' g u d _ _ _ _ _ _
  refine ⟨30, ?_⟩
  have hh : ∀ k, 8 ≤ k → lockkeeperlaw03_head.f k = some true := fun k hk => by
    obtain ⟨m, rfl⟩ : ∃ m, k = m + 8 := ⟨k - 8, by omega⟩
    exact head_eval m
  have R : ∀ k, 3 ≤ k → ∀ f t e, span_Right.f k f t e = some (rightB f t e) := fun k hk => by
    obtain ⟨m, rfl⟩ : ∃ m, k = m + 3 := ⟨k - 3, by omega⟩
    intros
    exact right_eval _ _ _ _
  have W : ∀ k, 3 ≤ k → ∀ f t e f' t' e', span_Within.f k f t e f' t' e' = some (withinB f t e f' t' e') := fun k hk => by
    obtain ⟨m, rfl⟩ : ∃ m, k = m + 3 := ⟨k - 3, by omega⟩
    intros
    exact within_eval _ _ _ _ _ _ _
  have B : ∀ k, 3 ≤ k → ∀ f t e f' t' e', span_Both.f k f t e f' t' e' = some (bothR f t e f' t' e') := fun k hk => by
    obtain ⟨m, rfl⟩ : ∃ m, k = m + 3 := ⟨k - 3, by omega⟩
    intros
    exact both_eval _ _ _ _ _ _ _
  have g : ∃ b, lockkeeperlaw03_great.f f t e f' t' e' g = some b := by
    unfold lockkeeperlaw03_great.f
    split
    · exact ⟨_, rfl⟩
    split
    · exact ⟨_, rfl⟩
    split
    · exact ⟨_, rfl⟩
    split
    · exact ⟨_, rfl⟩
    exact ⟨_, rfl⟩
  obtain ⟨b, hb⟩ := g
  have fin : lockkeeperlaw03_SpanOrder.j0 30 true f t e f' t' e' g u d = some true := by
    simp only [lockkeeperlaw03_SpanOrder.j0, if_true]; rw [hh _ (by omega)]; rfl
  unfold lockkeeperlaw03_SpanOrder.f
  rw [hb]
  simp only [Option.bind_some]
  cases b with
  | true => rw [if_pos rfl]; exact fin
  | false =>
    rw [if_neg (by decide)]
    by_cases hu : (u.size : Int) > 2000
    · rw [decide_eq_true hu]; exact fin
    rw [decide_eq_false hu]
    have T2 : ∀ k, 10 ≤ k → lockkeeperlaw03_SpanOrder.j2 k (bothR f t e f' t' e').2.2.2 false f t e f' t' e' (bothR f t e f' t' e').1 (bothR f t e f' t' e').2.1 (bothR f t e f' t' e').2.2.1 = some true := by
      intro k hk
      obtain ⟨k, rfl⟩ : ∃ m, k = m + 1 := ⟨k - 1, by omega⟩
      have key := Go.Proofs.Ytmekkbhgeijndaa.SpanLib.within_iff f t e f' t' e'
      simp only [lockkeeperlaw03_SpanOrder.j2, Bool.false_eq_true, if_false, W k (by omega), hh k (by omega), Option.bind_some]
      cases h1 : (bothR f t e f' t' e').2.2.2 <;> rw [h1] at key
      · simp only [Bool.false_and] at key
        rw [← key]; simp
      · simp only [Bool.true_and] at key
        rw [key]; simp
    have T1 : ∀ k, 11 ≤ k → lockkeeperlaw03_SpanOrder.j1 k (bothR f t e f' t' e').2.2.2 false f t e f' t' e' g u d (bothR f t e f' t' e').1 (bothR f t e f' t' e').2.1 (bothR f t e f' t' e').2.2.1 = some true := by
      intro k hk
      obtain ⟨k, rfl⟩ : ∃ m, k = m + 1 := ⟨k - 1, by omega⟩
      have tt := T2 k (by omega)
      simp only [lockkeeperlaw03_SpanOrder.j1, Bool.false_eq_true, if_false, W k (by omega), Option.bind_some]
      cases w1 : withinB f t e f' t' e'
      · simpa using tt
      cases w2 : withinB f' t' e' g u d
      · simpa using tt
      rw [within_trans f t e f' t' e' g u d w1 w2]
      simpa using tt
    have t1 := T1 29 (by omega)
    simp only [lockkeeperlaw03_SpanOrder.j0, Bool.false_eq_true, if_false, R 29 (by omega), W 29 (by omega), B 29 (by omega), Option.bind_some]
    rw [both_comm f' t' e' f t e]
    simp only [bne_self_eq_false, BEq.rfl, Bool.not_true, Bool.or_self, Bool.false_eq_true, if_false]
    cases h1 : (bothR f t e f' t' e').2.2.2 <;> rw [h1] at t1
    · cases h : rightB f t e
      · simpa using t1
      · rw [within_self f t e h]; simpa using t1
    · obtain ⟨i1, i2⟩ := both_within f t e f' t' e' h1
      rw [i1, i2]
      cases h : rightB f t e
      · simpa using t1
      · rw [within_self f t e h]; simpa using t1
end Go.Proofs.Ytmekkbhgeijndaa.Pure
