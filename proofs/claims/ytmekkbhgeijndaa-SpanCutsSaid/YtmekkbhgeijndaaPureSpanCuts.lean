/- The pure statement of SpanCuts: whatever the texts, the law's function answers true. No conditions. -/
import Derived.Test.YtmekkbhgeijndaaSpanOrd
import Derived.Test.YtmekkbhgeijndaaZ3
namespace Go.Proofs.Ytmekkbhgeijndaa.Pure
open Go Go.RowKit Go.Proofs.Ytmekkbhgeijndaa.Z Go.Proofs.YtmekkbhgeijndaaW.Keys Go.Proofs.YtmekkbhgeijndaaW.XWords Go.Proofs.YtmekkbhgeijndaaW.PrintWords Go.Proofs.Ytmekkbhgeijndaa.SpanLib
set_option linter.unusedSimpArgs false
set_option linter.unusedVariables false
theorem SpanCuts : lockkeeperlaw03_SpanCuts.Pure := by
  intro a b _ _
  refine ⟨4030, ?_⟩
  have hh : ∀ k, 8 ≤ k → lockkeeperlaw03_head.f k = some true := fun k hk => by
    obtain ⟨m, rfl⟩ : ∃ m, k = m + 8 := ⟨k - 8, by omega⟩
    exact head_eval m
  have fin : lockkeeperlaw03_SpanCuts.j0 4030 a b true = some true := by
    simp only [lockkeeperlaw03_SpanCuts.j0, if_true]; rw [hh _ (by omega)]; rfl
  unfold lockkeeperlaw03_SpanCuts.f
  by_cases h1 : (a.size : Int) > 2000
  · rw [if_pos h1]; exact fin
  rw [if_neg h1]
  by_cases h2 : (b.size : Int) > 2000
  · rw [decide_eq_true h2]; exact fin
  rw [decide_eq_false h2]
  obtain ⟨r, hr, hc⟩ := cut_eval a b (by omega) 4029 (by omega)
  obtain ⟨r', hr', hc'⟩ := rcut_eval a b (by omega) 4029 (by omega)
  obtain rfl := hc.one hc'
  simp only [lockkeeperlaw03_SpanCuts.j0, Bool.false_eq_true, if_false]
  rw [hr, hr']
  simp only [Option.bind_some, if_true, bne_self_eq_false, lockkeeperlaw03_SpanCuts.j1, Bool.false_eq_true, if_false]
  rcases hc with ⟨hab, m, hm, rfl⟩ | ⟨hab, rfl⟩
  · obtain ⟨m1, m2, m3, m4⟩ := hm
    have hsz : (b.extract 0 m).size = m := by rw [size_list, toList_take, List.length_take, ← size_list]; omega
    have e1 : wrap64 ((m : Int) - 1) = ((m - 1 : Nat) : Int) := by rw [w64 (by omega) (by omega)]; omega
    have c1 : bl b.toList (b.toList.take m) = false := by
      cases h : bl b.toList (b.toList.take m) with
      | false => rfl
      | true =>
        have := bl_take b.toList b.toList m b.size m2 h
        rw [List.take_of_length_le (by rw [size_list]; omega), bl_irrefl] at this; cases this
    simp only [hsz, e1, toList_take, Int.toNat_natCast]
    unfold bl at m3 c1 m4
    rw [if_pos trivial, if_pos m3, if_neg (by rw [c1]; decide), if_pos (by omega), if_pos (by omega), if_pos (by omega), if_pos trivial, if_pos (by omega), if_pos (by omega), if_neg (by rw [m4 (m - 1) (by omega)]; decide), hh _ (by omega)]
    rfl
  · unfold bl at hab
    rw [if_neg (by decide), if_neg (by rw [hab]; decide), hh _ (by omega)]
    rfl
end Go.Proofs.Ytmekkbhgeijndaa.Pure
