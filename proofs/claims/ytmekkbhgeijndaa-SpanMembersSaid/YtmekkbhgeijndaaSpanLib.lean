/- What the functions of the packages span and lockkeeperref03 answer, as plain functions. No conditions. -/
import Derived.Test.YtmekkbhgeijndaaKeys
import Derived.Test.YtmekkbhgeijndaaZ2
import Derived.Test.YtmekkbhgeijndaaZ4
import Derived.Test.YtmekkbhgeijndaaZ5
import Derived.Test.YtmekkbhgeijndaaZ6
namespace Go.Proofs.Ytmekkbhgeijndaa.SpanLib
open Go Go.RowKit Go.Proofs.Ytmekkbhgeijndaa.Z Go.Proofs.YtmekkbhgeijndaaW.Keys Go.Proofs.YtmekkbhgeijndaaW.XWords Go.Proofs.YtmekkbhgeijndaaW.PrintWords
set_option linter.unusedSimpArgs false
set_option linter.unusedVariables false
def rightB (f t : ByteArray) (e : Bool) : Bool := decide (f.size ≤ 513) && (decide (t.size ≤ 513) && (if e then bl f.toList t.toList else t.toList == []))
def hasB (f t : ByteArray) (e : Bool) (x : ByteArray) : Bool := !(bl x.toList f.toList) && (!e || bl x.toList t.toList)
theorem right_eval (f t : ByteArray) (e : Bool) (k : Nat) : span_Right.f (k + 3) f t e = some (rightB f t e) := by
  by_cases h1 : (f.size : Int) > 513
  · have : ¬ f.size ≤ 513 := by omega
    simp [span_Right.f, span_Right.j0, rightB, h1, this]
  · have h1' : f.size ≤ 513 := by omega
    by_cases h2 : (t.size : Int) > 513
    · have : ¬ t.size ≤ 513 := by omega
      simp [span_Right.f, span_Right.j0, rightB, h1, h2, this]
    · have h2' : t.size ≤ 513 := by omega
      cases e
      · by_cases h3 : t.toList = [] <;> simp [span_Right.f, span_Right.j0, span_Right.j1, rightB, bl, h1, h2, h1', h2', h3]
      · cases hb : Op.bytesLess f.toList t.toList <;> simp [span_Right.f, span_Right.j0, span_Right.j1, rightB, bl, h1, h2, h1', h2', hb]
theorem rright_eval (f t : ByteArray) (e : Bool) (k : Nat) : r3_Right.f (k + 1) f t e = some (rightB f t e) := by
  by_cases h1 : (f.size : Int) > 513
  · have : ¬ f.size ≤ 513 := by omega
    simp [r3_Right.f, r3_Right.j0, rightB, h1, this]
  · have h1' : f.size ≤ 513 := by omega
    by_cases h2 : (t.size : Int) > 513
    · have : ¬ t.size ≤ 513 := by omega
      simp [r3_Right.f, r3_Right.j0, rightB, h1, h2, this]
    · have h2' : t.size ≤ 513 := by omega
      cases e <;> simp [r3_Right.f, r3_Right.j0, rightB, bl, h1, h2, h1', h2']
theorem bhas_eval (f t : ByteArray) (e : Bool) (x : ByteArray) : span_bounds_has.f f t e x = some (hasB f t e x) := by
  cases e <;> cases h : Op.bytesLess x.toList f.toList <;> simp [span_bounds_has.f, span_bounds_over.f, hasB, bl, h]
theorem has_eval (f t : ByteArray) (e : Bool) (x : ByteArray) (k : Nat) : span_Has.f (k + 3) f t e x = some (rightB f t e && hasB f t e x) := by
  cases h : rightB f t e <;> simp [span_Has.f, right_eval, bhas_eval, h]
theorem rhas_eval (f t : ByteArray) (e : Bool) (x : ByteArray) (k : Nat) : r3_Has.f (k + 1) f t e x = some (rightB f t e && hasB f t e x) := by
  cases h : rightB f t e <;> cases e <;> cases h2 : Op.bytesLess x.toList f.toList <;> simp [r3_Has.f, rright_eval, h, hasB, bl, h2]
def meetsB (f t : ByteArray) (e : Bool) (f' t' : ByteArray) (e' : Bool) : Bool := rightB f t e && (rightB f' t' e' && (hasB f t e f' || hasB f' t' e' f))
theorem meets_eval (f t : ByteArray) (e : Bool) (f' t' : ByteArray) (e' : Bool) (k : Nat) : span_Meets.f (k + 3) f t e f' t' e' = some (meetsB f t e f' t' e') := by
  cases h : rightB f t e <;> cases h' : rightB f' t' e' <;> cases h2 : hasB f t e f' <;> simp [span_Meets.f, span_Meets.j0, right_eval, bhas_eval, h, h', h2, meetsB]
def withinB (f t : ByteArray) (e : Bool) (f' t' : ByteArray) (e' : Bool) : Bool := rightB f t e && (rightB f' t' e' && (!(bl f.toList f'.toList) && (!e' || (e && !(bl t'.toList t.toList)))))
theorem within_eval (f t : ByteArray) (e : Bool) (f' t' : ByteArray) (e' : Bool) (k : Nat) : span_Within.f (k + 3) f t e f' t' e' = some (withinB f t e f' t' e') := by
  cases h : rightB f t e <;> cases h' : rightB f' t' e' <;> cases h2 : Op.bytesLess f.toList f'.toList <;> cases e' <;> cases e <;> simp [span_Within.f, right_eval, h, h', h2, withinB, bl]
def bothV (f t : ByteArray) (e : Bool) (f' t' : ByteArray) (e' : Bool) : ByteArray × ByteArray × Bool :=
  (smx f f', if e then (if e' then smn t t' else t) else (if e' then t' else ⟨#[]⟩), e || e')
def bothR (f t : ByteArray) (e : Bool) (f' t' : ByteArray) (e' : Bool) : ByteArray × ByteArray × Bool × Bool :=
  if meetsB f t e f' t' e' then ((bothV f t e f' t' e').1, (bothV f t e f' t' e').2.1, (bothV f t e f' t' e').2.2, true) else (⟨#[]⟩, ⟨#[]⟩, false, false)
theorem both_eval (f t : ByteArray) (e : Bool) (f' t' : ByteArray) (e' : Bool) (k : Nat) : span_Both.f (k + 3) f t e f' t' e' = some (bothR f t e f' t' e') := by
  cases h : meetsB f t e f' t' e' <;> cases e <;> cases e' <;> simp [span_Both.f, meets_eval, h, bothR, bothV]
theorem smx_toList (x y : ByteArray) : (smx x y).toList = if bl x.toList y.toList then y.toList else x.toList := by unfold smx; split <;> rfl
theorem smn_toList (x y : ByteArray) : (smn x y).toList = if bl y.toList x.toList then y.toList else x.toList := by unfold smn; split <;> rfl
theorem smx_size (x y : ByteArray) : (smx x y).size = if bl x.toList y.toList then y.size else x.size := by unfold smx; split <;> rfl
theorem smn_size (x y : ByteArray) : (smn x y).size = if bl y.toList x.toList then y.size else x.size := by unfold smn; split <;> rfl
theorem nil_size (t : ByteArray) : t.toList = [] ↔ t.size = 0 := by rw [size_list]; exact List.length_eq_zero_iff.symm
theorem right_open {f t : ByteArray} (h : rightB f t false = true) : t = ⟨#[]⟩ := by
  simp only [rightB, Bool.and_eq_true, decide_eq_true_eq, Bool.false_eq_true, if_false, beq_iff_eq] at h
  exact ba_ext (by rw [h.2.2, toList_empty])
theorem right_end {f t : ByteArray} (h : rightB f t true = true) : bl f.toList t.toList = true := by
  simp only [rightB, Bool.and_eq_true, if_true] at h
  exact h.2.2
theorem right_sizes {f t : ByteArray} {e : Bool} (h : rightB f t e = true) : f.size ≤ 513 ∧ t.size ≤ 513 := by
  simp only [rightB, Bool.and_eq_true, decide_eq_true_eq] at h
  exact ⟨h.1, h.2.1⟩
theorem rboth_eval (f t : ByteArray) (e : Bool) (f' t' : ByteArray) (e' : Bool) (k : Nat) : r3_Both.f (k + 5) f t e f' t' e' = some (bothR f t e f' t' e') := by
  obtain ⟨r, hr, h0⟩ := ranked [[], f.toList, t.toList, f'.toList, t'.toList]
  simp only [List.mem_cons, List.not_mem_nil, or_false, forall_eq_or_imp, forall_eq] at hr
  cases h : rightB f t e
  · simp [r3_Both.f, r3_Both.j0, rright_eval, h, bothR, meetsB]
  cases h' : rightB f' t' e'
  · simp [r3_Both.f, r3_Both.j0, rright_eval, h, h', bothR, meetsB]
  obtain ⟨s1, s2⟩ := right_sizes h
  obtain ⟨s1', s2'⟩ := right_sizes h'
  have key : ∀ (a b : ByteArray) (c : Bool), a.size ≤ 513 → b.size ≤ 513 → r3_Right.f (k + 2) a b c = some (if c then Op.bytesLess a.toList b.toList else b.toList == []) := fun a b c ha hb => by
    rw [show k + 2 = (k + 1) + 1 from rfl, rright_eval]; simp [rightB, ha, hb, bl]
  have r5 : ∀ (a b : ByteArray) (c : Bool), r3_Right.f (k + 5) a b c = some (rightB a b c) := fun a b c => rright_eval a b c (k + 4)
  unfold bl at hr
  cases e <;> cases e'
  · obtain rfl := right_open h
    obtain rfl := right_open h'
    by_cases c1 : r f.toList < r f'.toList <;>
      simp [r3_Both.f, r3_Both.j0, r3_Both.j1, r3_Both.j2, r5, h, h', key, hr, c1, bothR, meetsB, hasB, bl, bothV, smx, smn, s1, s2, s1', s2', toList_empty] <;> (first | omega | skip)
  · obtain rfl := right_open h
    have g' := right_end h'
    unfold bl at g'
    by_cases c1 : r f.toList < r f'.toList <;> by_cases c3 : r f.toList < r t'.toList <;>
      simp [hr] at g' <;>
      simp [r3_Both.f, r3_Both.j0, r3_Both.j1, r3_Both.j2, r5, h, h', key, hr, c1, c3, g', bothR, meetsB, hasB, bl, bothV, smx, smn, s1, s2, s1', s2', toList_empty] <;> (first | omega | skip)
  · obtain rfl := right_open h'
    have g := right_end h
    unfold bl at g
    by_cases c1 : r f.toList < r f'.toList <;> by_cases c3 : r f'.toList < r t.toList <;>
      simp [hr] at g <;>
      simp [r3_Both.f, r3_Both.j0, r3_Both.j1, r3_Both.j2, r5, h, h', key, hr, c1, c3, g, bothR, meetsB, hasB, bl, bothV, smx, smn, s1, s2, s1', s2', toList_empty] <;> (first | omega | skip)
  · have g := right_end h
    have g' := right_end h'
    unfold bl at g g'
    by_cases c1 : r f.toList < r f'.toList <;> by_cases c2 : r t'.toList < r t.toList <;> by_cases c3 : r f'.toList < r t.toList <;> by_cases c4 : r f.toList < r t'.toList <;>
      simp [hr] at g g' <;>
      simp [r3_Both.f, r3_Both.j0, r3_Both.j1, r3_Both.j2, r5, h, h', key, hr, c1, c2, c3, c4, g, g', bothR, meetsB, hasB, bl, bothV, smx, smn, s1, s2, s1', s2', toList_empty] <;> (first | omega | skip)
end Go.Proofs.Ytmekkbhgeijndaa.SpanLib
