/- What Within, Both and Has have to do with one another. No conditions. -/
import Derived.Test.YtmekkbhgeijndaaSpanCut
namespace Go.Proofs.Ytmekkbhgeijndaa.SpanLib
open Go Go.RowKit Go.Proofs.Ytmekkbhgeijndaa.Z Go.Proofs.YtmekkbhgeijndaaW.Keys Go.Proofs.YtmekkbhgeijndaaW.XWords Go.Proofs.YtmekkbhgeijndaaW.PrintWords
set_option linter.unusedSimpArgs false
set_option linter.unusedVariables false
theorem within_iff (f t : ByteArray) (e : Bool) (f' t' : ByteArray) (e' : Bool) :
    ((bothR f t e f' t' e').2.2.2 && ((bothR f t e f' t' e').1.toList == f.toList && ((bothR f t e f' t' e').2.1.toList == t.toList && ((bothR f t e f' t' e').2.2.1 == e)))) = withinB f t e f' t' e' := by
  obtain ⟨r, hr, h0⟩ := ranked [[], f.toList, t.toList, f'.toList, t'.toList]
  simp only [List.mem_cons, List.not_mem_nil, or_false, forall_eq_or_imp, forall_eq] at hr
  unfold bl at hr
  cases h : rightB f t e
  · simp [bothR, meetsB, withinB, h]
  cases h' : rightB f' t' e'
  · simp [bothR, meetsB, withinB, h, h']
  cases e <;> cases e'
  · obtain rfl := right_open h
    obtain rfl := right_open h'
    by_cases c1 : r f.toList < r f'.toList <;> by_cases c5 : r f.toList ≤ r f'.toList <;> by_cases c6 : r f'.toList ≤ r f.toList <;> (try omega) <;> by_cases c2 : r f'.toList < r f.toList <;> by_cases c3 : r f.toList = r f'.toList <;>
      simp [hr, c1, c5, c6, c2, c3, h, h', bothR, meetsB, withinB, hasB, bl, bothV, smx, smn, toList_empty] <;> (first | omega | skip)
  · obtain rfl := right_open h
    have g' := right_end h'
    unfold bl at g'
    by_cases c1 : r f.toList < r f'.toList <;> by_cases c5 : r f.toList ≤ r f'.toList <;> by_cases c6 : r f'.toList ≤ r f.toList <;> (try omega) <;> by_cases c3 : r f.toList < r t'.toList <;>
      simp [hr] at g' <;>
      simp [hr, c1, c5, c6, c3, g', h, h', bothR, meetsB, withinB, hasB, bl, bothV, smx, smn, toList_empty] <;> (first | omega | skip)
  · obtain rfl := right_open h'
    have g := right_end h
    unfold bl at g
    by_cases c1 : r f.toList < r f'.toList <;> by_cases c5 : r f.toList ≤ r f'.toList <;> by_cases c6 : r f'.toList ≤ r f.toList <;> (try omega) <;> by_cases c3 : r f'.toList < r t.toList <;> by_cases c4 : r f'.toList = r f.toList <;>
      simp [hr] at g <;>
      simp [hr, c1, c5, c6, c3, c4, g, h, h', bothR, meetsB, withinB, hasB, bl, bothV, smx, smn, toList_empty] <;> (first | omega | skip)
  · have g := right_end h
    have g' := right_end h'
    unfold bl at g g'
    by_cases c1 : r f.toList < r f'.toList <;> by_cases c5 : r f.toList ≤ r f'.toList <;> by_cases c6 : r f'.toList ≤ r f.toList <;> (try omega) <;> by_cases c2 : r t'.toList < r t.toList <;> by_cases c3 : r f'.toList < r t.toList <;> by_cases c4 : r f.toList < r t'.toList <;>
      simp [hr] at g g' <;>
      simp [hr, c1, c5, c6, c2, c3, c4, g, g', h, h', bothR, meetsB, withinB, hasB, bl, bothV, smx, smn, toList_empty] <;> (first | omega | skip)
theorem rwithin_tells (f t : ByteArray) (e : Bool) (f' t' : ByteArray) (e' : Bool) :
    (if (bothR f t e f' t' e').2.2.2 = true then some ((bothR f t e f' t' e').1.toList == f.toList && ((bothR f t e f' t' e').2.1.toList == t.toList && ((bothR f t e f' t' e').2.2.1 == e))) else some false) = some (withinB f t e f' t' e') := by
  rw [← within_iff]
  cases (bothR f t e f' t' e').2.2.2 <;> simp
end Go.Proofs.Ytmekkbhgeijndaa.SpanLib
