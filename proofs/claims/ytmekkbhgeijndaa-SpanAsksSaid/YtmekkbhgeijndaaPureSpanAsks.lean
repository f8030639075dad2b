/- The pure statement of SpanAsks: whatever the texts, the law's function answers true. No conditions. -/
import Derived.Test.YtmekkbhgeijndaaSpanOrd
import Derived.Test.YtmekkbhgeijndaaZ4
import Derived.Test.YtmekkbhgeijndaaZ6
import Derived.Test.YtmekkbhgeijndaaZ7
namespace Go.Proofs.Ytmekkbhgeijndaa.Pure
open Go Go.RowKit Go.Proofs.Ytmekkbhgeijndaa.Z Go.Proofs.YtmekkbhgeijndaaW.Keys Go.Proofs.YtmekkbhgeijndaaW.XWords Go.Proofs.YtmekkbhgeijndaaW.PrintWords Go.Proofs.Ytmekkbhgeijndaa.SpanLib
set_option linter.unusedSimpArgs false
set_option linter.unusedVariables false
theorem SpanAsks : lockkeeperlaw03_SpanAsks.Pure := by
  intro f t e f' t' e' x _ _ _ _ _
  refine ⟨30, ?_⟩
  have hh := head_eval 22
  have g : ∃ b, lockkeeperlaw03_great.f f t e f' t' e' x = some b := by
    unfold lockkeeperlaw03_great.f
    split
    · exact ⟨_, rfl⟩
    split
    · exact ⟨_, rfl⟩
    split
    · exact ⟨_, rfl⟩
    split
    · exact ⟨_, rfl⟩
    exact ⟨_, rfl⟩
  obtain ⟨b, hb⟩ := g
  unfold lockkeeperlaw03_SpanAsks.f
  rw [hb, hh]
  simp only [Option.bind_some]
  cases b with
  | true => rw [if_pos rfl]
  | false =>
    rw [if_neg (by decide)]
    rw [both_eval f t e f' t' e' 27, rboth_eval f t e f' t' e' 25, right_eval f t e 27, rright_eval f t e 29, has_eval f t e x 27, rhas_eval f t e x 29, meets_eval f t e f' t' e' 27, within_eval f t e f' t' e' 27]
    have W : lockkeeperref03_Within.f 30 f t e f' t' e' = some (withinB f t e f' t' e') := by
      unfold lockkeeperref03_Within.f
      rw [rboth_eval f t e f' t' e' 25]
      simp only [Option.bind_some]
      exact rwithin_tells f t e f' t' e'
    rw [W]
    have Q : (bothR f t e f' t' e').2.2.2 = meetsB f t e f' t' e' := by
      unfold bothR; cases meetsB f t e f' t' e' <;> rfl
    simp only [Option.bind_some, Q, BEq.rfl, Bool.and_self, if_true]
    by_cases h : x.size ≤ 512
    · rw [point_eval x h, rpoint_eval x h]; simp
    · rw [point_long x h, rpoint_long x h]; simp
end Go.Proofs.Ytmekkbhgeijndaa.Pure
