/- What must be known of a seat's table, as checks that compute. No conditions. -/
import Derived.Test.YtadbbgechcjciaaEvY
set_option linter.unusedVariables false
set_option linter.unusedSimpArgs false
namespace Go.Ev
open Go

def zeroB : Value → AV → Bool
  | .int k n, .int k' n' => decide (k = k') && decide (n = n')
  | .bool b, .bool b' => b == b'
  | .string s, .str s' => decide (s = s')
  | .slice none 0 0, .sl _ 0 _ _ => true
  | .pointer none, .nilp => true
  | .nilFunc, .nilfn => true
  | _, _ => false
def zerosB : List Value → List AV → Bool
  | [], [] => true
  | v :: vs, a :: as => zeroB v a && zerosB vs as
  | _, _ => false
theorem zeroB_ok {v : Value} {a : AV} (h : zeroB v a = true) [Gh] (β : Nat → Nat) (H : Heap) (W : Array Obj) : R β H W v a := by
  unfold zeroB at h
  split at h
  · simp only [Bool.and_eq_true, decide_eq_true_eq] at h
    obtain ⟨rfl, rfl⟩ := h
    exact .int _ _
  · simp only [beq_iff_eq] at h; subst h; exact .bool _
  · simp only [decide_eq_true_eq] at h; subst h; exact .str _
  · exact .sl0 _ _ _ _ _ (fun _ => rfl)
  · exact .nilp
  · exact .nilfn
  · cases h
theorem zerosB_ok : ∀ {vs : List Value} {as : List AV}, zerosB vs as = true → vs.length = as.length ∧ ∀ [Gh] (β : Nat → Nat) (H : Heap) (W : Array Obj) j, j < as.length → R β H W (vs.getD j undef) (as.getD j .und)
  | [], [], _ => ⟨rfl, fun β H W j hj => by simp at hj⟩
  | v :: vs, a :: as, h => by
    simp only [zerosB, Bool.and_eq_true] at h
    obtain ⟨h1, h2⟩ := zerosB_ok h.2
    refine ⟨by simp [h1], fun β H W j hj => ?_⟩
    cases j with
    | zero => simpa using zeroB_ok h.1 β H W
    | succ j => simpa using h2 β H W j (by simpa using hj)
  | [], _ :: _, h => by cases h
  | _ :: _, [], h => by cases h
def tkB (P : Program) (t : Nat) : TK → Bool
  | .int k => match P.underlying t with
    | some (.int k') => decide (k' = k)
    | _ => false
  | .bool => match P.underlying t with
    | some .bool => true
    | _ => false
  | .str => match P.underlying t with
    | some .string => true
    | _ => false
  | .slice e => match P.underlying t with
    | some (.slice e') => decide (e' = e)
    | _ => false
  | .ptr e => match P.underlying t with
    | some (.pointer e') => decide (e' = e)
    | _ => false
  | .struct fs => match P.underlying t with
    | some (.struct fields) => decide (fields.toList.map (fun f => (f.offset, f.type)) = fs)
    | _ => false
  | .arr n e => match P.underlying t with
    | some (.array n' e') => decide (n' = n) && decide (e' = e)
    | _ => false
  | .fn => match P.underlying t with
    | some (.func ..) => true
    | _ => false
  | .other => false
theorem tkB_ok {P : Program} {t : Nat} {k : TK} (h : tkB P t k = true) : TKOK P t k := by
  unfold tkB at h
  split at h <;> first | (cases h; done) | skip
  all_goals (split at h <;> first | (cases h; done) | skip)
  all_goals (rename_i hu)
  · simp only [decide_eq_true_eq] at h; subst h; exact hu
  · exact hu
  · exact hu
  · simp only [decide_eq_true_eq] at h; subst h; exact hu
  · simp only [decide_eq_true_eq] at h; subst h; exact hu
  · simp only [decide_eq_true_eq] at h; exact ⟨_, hu, h⟩
  · simp only [Bool.and_eq_true, decide_eq_true_eq] at h; obtain ⟨rfl, rfl⟩ := h; exact hu
  · exact ⟨_, _, _, hu⟩
def tyB (P : Program) (t : Nat) (ty : Ty) : Bool :=
  tkB P t ty.k && (match P.info? t with
    | some i => decide (i.size = ty.size) && (decide (i.bytes = ty.bytes) && (match i.zero with
      | some z => zerosB z.cells.toList ty.zero
      | none => false))
    | none => false) && decide (ty.zero.length = ty.size) && allLeaf ty.zero && pureL ty.zero
theorem tyB_ok {P : Program} {t : Nat} {ty : Ty} (h : tyB P t ty = true) : TyOK P t ty := by
  simp only [tyB, Bool.and_eq_true, decide_eq_true_eq] at h
  obtain ⟨⟨⟨⟨h1, h2⟩, h3⟩, h4⟩, h5⟩ := h
  refine ⟨tkB_ok h1, ?_, h3, h4, h5⟩
  split at h2
  case h_2 => cases h2
  rename_i i hi
  simp only [Bool.and_eq_true, decide_eq_true_eq] at h2
  obtain ⟨a1, a2, a3⟩ := h2
  split at a3
  case h_2 => cases a3
  rename_i z hz
  obtain ⟨b1, b2⟩ := zerosB_ok a3
  refine ⟨i, hi, a1, a2, z, hz, by rw [← h3, ← b1]; simp, fun β H W j hj => ?_⟩
  have := b2 β H W j hj
  simpa [Array.getD_eq_getD_getElem?, List.getD_eq_getElem?_getD] using this
def ctxB (c : Ctx) (P : Program) : Bool := (List.range c.ty.length).all fun t => match c.ty.getD t none with
  | none => true
  | some ty => tyB P t ty
theorem ctxB_ok {c : Ctx} {P : Program} (h : ctxB c P = true) : CtxOK c P := by
  refine ⟨fun t ty ht => ?_⟩
  simp only [ctxB, List.all_eq_true, List.mem_range] at h
  unfold Ctx.tyOf at ht
  have hl : t < c.ty.length := by
    rcases Nat.lt_or_ge t c.ty.length with hl | hl
    · exact hl
    · rw [List.getD_eq_getElem?_getD, List.getElem?_eq_none hl] at ht; cases ht
  have := h t hl
  rw [ht] at this
  exact tyB_ok this
/-- the functions, but for 'it is the program's' -/
def fnB (fn : Func) : Bool := !(fn.name == "runtime.NumGoroutine") && match fn.body with
  | some code => codeOk code
  | none => true
theorem fnAll_ok {c : Ctx} {P : Program} (h1 : ∀ f fn, c.fnOf f = some fn → P.funcs[f]? = some fn) (h2 : (c.fn.all fun | some fn => fnB fn | none => true) = true) : FnAll c P := by
  intro f fn hf
  have hm : some fn ∈ c.fn := by
    unfold Ctx.fnOf at hf
    rw [List.getD_eq_getElem?_getD] at hf
    cases hg : c.fn[f]? with
    | none => rw [hg] at hf; cases hf
    | some o => rw [hg] at hf; simp only [Option.getD_some] at hf; subst hf; exact List.mem_of_getElem? hg
  have := List.all_eq_true.1 h2 _ hm
  simp only [fnB, Bool.and_eq_true, Bool.not_eq_true'] at this
  refine ⟨h1 f fn hf, this.1, fun code hc => ?_⟩
  have h3 := this.2
  rw [hc] at h3
  exact h3
theorem fn_of_list {c : Ctx} {P : Program} {n : Nat} {sk : Nat → Bool} (h : c.fn = (List.range n).map fun i => bif sk i then none else P.funcs[i]?) : ∀ f fn, c.fnOf f = some fn → P.funcs[f]? = some fn := by
  intro f fn hf
  unfold Ctx.fnOf at hf
  rw [h, List.getD_eq_getElem?_getD, List.getElem?_map] at hf
  by_cases hl : f < n
  · rw [List.getElem?_range hl] at hf
    simp only [Option.map_some, Option.getD_some] at hf
    cases hs : sk f with
    | true => rw [hs] at hf; cases hf
    | false => rw [hs] at hf; exact hf
  · rw [List.getElem?_eq_none (by simp; omega)] at hf
    cases hf
end Go.Ev
