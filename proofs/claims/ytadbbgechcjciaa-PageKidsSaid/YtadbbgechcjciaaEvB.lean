/- Small facts for the reckoner. No conditions. -/
import Derived.Test.YtadbbgechcjciaaEv4
set_option linter.unusedSectionVars false
namespace Go.Ev
open Go
variable [Gh]
theorem getD_extract {vs : Array Value} {off n j : Nat} (h : off + n ≤ vs.size) (hj : j < n) : (vs.extract off (off + n)).getD j undef = vs.getD (off + j) undef := by
  rw [Array.getD_eq_getD_getElem?, Array.getD_eq_getD_getElem?, Array.getElem?_extract, if_pos (by omega)]
theorem getD_ex {vs : Array Value} {j : Nat} (h : j < vs.size) : ∃ u, vs[j]? = some u ∧ vs.getD j undef = u :=
  ⟨vs[j], Array.getElem?_eq_getElem h, by rw [Array.getD_eq_getD_getElem?, Array.getElem?_eq_getElem h]; rfl⟩
theorem kOf_ty {c : Ctx} {t : Nat} {k : TK} (h : c.kOf t = some k) : ∃ ty, c.tyOf t = some ty ∧ ty.k = k := by
  unfold Ctx.kOf at h
  split at h
  · rename_i ty hty
    exact ⟨ty, hty, Option.some.inj h⟩
  · cases h
theorem kOf_desc {c : Ctx} {P : Program} (hC : CtxOK c P) {t : Nat} {k : TK} (h : c.kOf t = some k) : TKOK P t k := by
  obtain ⟨ty, hty, rfl⟩ := kOf_ty h
  exact (hC.ty t ty hty).desc
end Go.Ev
