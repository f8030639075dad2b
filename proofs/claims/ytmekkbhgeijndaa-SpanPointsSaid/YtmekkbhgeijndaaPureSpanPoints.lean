/- The pure statement of SpanPoints: whatever the texts, the law's function answers true. No conditions. -/
import Derived.Test.YtmekkbhgeijndaaSpanOrd
import Derived.Test.YtmekkbhgeijndaaZ2
import Derived.Test.YtmekkbhgeijndaaZ3
import Derived.Test.YtmekkbhgeijndaaZ4
namespace Go.Proofs.Ytmekkbhgeijndaa.Pure
open Go Go.RowKit Go.Proofs.Ytmekkbhgeijndaa.Z Go.Proofs.YtmekkbhgeijndaaW.Keys Go.Proofs.YtmekkbhgeijndaaW.XWords Go.Proofs.YtmekkbhgeijndaaW.PrintWords Go.Proofs.Ytmekkbhgeijndaa.SpanLib
set_option linter.unusedSimpArgs false
set_option linter.unusedVariables false
theorem SpanPoints : lockkeeperlaw03_SpanPoints.Pure := by
  intro a b _ _
  refine ⟨4030, ?_⟩
  have hh : ∀ k, 8 ≤ k → lockkeeperlaw03_head.f k = some true := fun k hk => by
    obtain ⟨m, rfl⟩ : ∃ m, k = m + 8 := ⟨k - 8, by omega⟩
    exact head_eval m
  have fin : lockkeeperlaw03_SpanPoints.j0 4030 a b true = some true := by
    simp only [lockkeeperlaw03_SpanPoints.j0, if_true]; rw [hh _ (by omega)]; rfl
  unfold lockkeeperlaw03_SpanPoints.f
  by_cases h1 : (a.size : Int) > 512
  · rw [if_pos h1]; exact fin
  rw [if_neg h1]
  by_cases h2 : (b.size : Int) > 512
  · rw [decide_eq_true h2]; exact fin
  rw [decide_eq_false h2]
  obtain ⟨r, hr, hc⟩ := cut_eval a b (by omega) 4029 (by omega)
  have M : ∀ f t e f' t' e', span_Meets.f 4029 f t e f' t' e' = some (meetsB f t e f' t' e') := fun _ _ _ _ _ _ => meets_eval _ _ _ _ _ _ 4026
  have Hs : ∀ f t e x, span_Has.f 4029 f t e x = some (rightB f t e && hasB f t e x) := fun _ _ _ _ => has_eval _ _ _ _ 4026
  simp only [lockkeeperlaw03_SpanPoints.j0, Bool.false_eq_true, if_false, point_eval a (by omega), point_eval b (by omega), Option.bind_some, M, Hs]
  rw [hr, hh _ (by omega)]
  simp only [Option.bind_some]
  have sz : ∀ x : ByteArray, (x ++ (⟨#[0]⟩ : ByteArray)).size = x.size + 1 := fun x => by rw [ByteArray.size_append]; rfl
  have sz0 : (⟨#[]⟩ : ByteArray).size = 0 := rfl
  have tl : ∀ x : ByteArray, (x ++ (⟨#[0]⟩ : ByteArray)).toList = x.toList ++ [0] := fun x => by rw [toList_append, lit1]
  have R : ∀ x : ByteArray, x.size ≤ 512 → rightB x (x ++ (⟨#[0]⟩ : ByteArray)) true = true := fun x hx => by
    simp only [rightB, sz, tl, bl_succ, bl_irrefl]
    simp; omega
  have P1 : meetsB a (a ++ (⟨#[0]⟩ : ByteArray)) true b (b ++ (⟨#[0]⟩ : ByteArray)) true = (a.toList == b.toList) := by
    simp only [meetsB, R a (by omega), R b (by omega), hasB, tl, bl_succ, Bool.true_and, Bool.not_true, Bool.false_or]
    cases h3 : bl a.toList b.toList <;> cases h4 : bl b.toList a.toList
    · rw [bl_tri _ _ h3 h4]; simp
    · simp; intro e; rw [e, bl_irrefl] at h4; cases h4
    · simp; intro e; rw [e, bl_irrefl] at h3; cases h3
    · rw [bl_asymm _ _ h3] at h4; cases h4
  rw [P1]
  simp only [bne_self_eq_false, Bool.false_eq_true, if_false]
  rcases hc with ⟨hab, m, hm, rfl⟩ | ⟨hab, rfl⟩
  · obtain ⟨m1, m2, m3, m4⟩ := hm
    have hsz : (b.extract 0 m).size = m := by rw [size_list, toList_take, List.length_take, ← size_list]; omega
    have c1 : bl b.toList (b.toList.take m) = false := by
      cases h : bl b.toList (b.toList.take m) with
      | false => rfl
      | true =>
        have := bl_take b.toList b.toList m b.size m2 h
        rw [List.take_of_length_le (by rw [size_list]; omega), bl_irrefl] at this; cases this
    have c2 : bl [] (b.toList.take m) = true := by
      cases h : b.toList.take m with
      | nil => rw [h, bl_nil] at m3; cases m3
      | cons x y => rfl
    have c3 := bl_asymm _ _ m3
    have r1 : rightB (⟨#[]⟩ : ByteArray) (b.extract 0 m) true = true := by
      simp only [rightB, hsz, sz0, toList_take, toList_empty, c2]; simp; omega
    have r2 : rightB (b.extract 0 m) (⟨#[]⟩ : ByteArray) false = true := by
      simp only [rightB, hsz, sz0, toList_empty]; simp; omega
    simp [meetsB, r1, r2, hasB, toList_take, toList_empty, bl_nil, c1, c2, m3, c3, bl_irrefl]
  · unfold bl at hab
    simp [hab]
end Go.Proofs.Ytmekkbhgeijndaa.Pure
