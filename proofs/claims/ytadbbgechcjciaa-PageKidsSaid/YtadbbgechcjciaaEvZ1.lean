/- Comparison of flat structs, as a check that computes. No conditions. -/
import Derived.Test.YtadbbgechcjciaaEvZ
import Derived.Laws.StructEq
set_option linter.unusedVariables false
set_option linter.unusedSimpArgs false
namespace Go.Ev
open Go

def leafK : TK → Bool
  | .int _ => true
  | .bool => true
  | .str => true
  | _ => false
def fieldsB (P : Program) : List Field → Nat → List TK → Bool
  | [], _, [] => true
  | f :: fs, i, k :: ks => decide (f.name ≠ "_") && (decide (f.offset = i) && (leafK k && (tkB P f.type k && fieldsB P fs (i + 1) ks)))
  | _, _, _ => false
def cmpB (P : Program) (t : Nat) (ks : List TK) : Bool := match P.underlying t with
  | some (.struct fields) => !P.stoodInHeld t && !P.eqGuardType P.depth t && fieldsB P fields.toList 0 ks
  | _ => false
theorem leaf_part {P : Program} {t : Nat} {k : TK} (hk : leafK k = true) (h : TKOK P t k) {cs : Array Value} {i : Nat} {v : Value} (hv : cs[i]? = some v) (w : World) : (part t cs i).run P w = .ok v w := by
  have hagg : (isAgg t).run P w = .ok false w := by
    cases k <;> simp only [leafK] at hk <;> first | cases hk | skip
    all_goals (simp only [TKOK] at h; simp [isAgg, run_underlying h])
  simp only [part, Sem.run_bind, hagg, Result.andThen_ok, Bool.false_eq_true, if_false, hv, Sem.run_pure]
theorem leaf_eq {P : Program} {t : Nat} {k : TK} (h : TKOK P t k) {a b : AV} {r : Bool} (hl : leafEq k a b = some r) (d : Nat) (w : World) : (Op.equalIn (d + 1) t (valOf a) (valOf b)).run P w = .ok r w := by
  unfold leafEq at hl
  split at hl
  · rename_i k0 k1 x k2 y
    split at hl
    · rename_i hkk
      obtain ⟨e1, e2⟩ := hkk
      subst e1
      subst e2
      cases hl
      refine (run_equalIn_int w d t _ _ x y h).trans ?_
      congr 1
    · cases hl
  · cases hl
    exact run_equalIn_bool' w d t _ _ h
  · rename_i x y
    cases hl
    rw [show valOf (.str x) = .string x from rfl, show valOf (.str y) = .string y from rfl, run_equalIn_string w d t x y h, @toList_inj free]
  · cases hl
theorem fieldsB_ok {P : Program} (d : Nat) (w : World) {as bs : List AV} : ∀ {fs : List Field} {i : Nat} {ks : List TK} {r : Bool}, fieldsB P fs i ks = true → leavesEq ks (as.drop i) (bs.drop i) = some r →
    (Op.eqFields (d + 1) (as.map valOf).toArray (bs.map valOf).toArray fs).run P w = .ok r w
  | [], i, [], r, _, h => by
    unfold leavesEq at h
    split at h <;> first | (cases h; done) | skip
    · cases h; simp [Op.eqFields]
    · simp_all
  | f :: fs, i, k :: ks, r, hb, h => by
    simp only [fieldsB, Bool.and_eq_true, decide_eq_true_eq] at hb
    obtain ⟨h1, h2, h3, h4, h5⟩ := hb
    unfold leavesEq at h
    split at h
    · rename_i hk _ _; cases hk
    · rename_i k' ks' a as' b bs' hk ha hb'
      cases hk
      split at h
      · rename_i x y hx hy
        cases h
        have ea : as[i]? = some a := by have := congrArg (·[0]?) ha; simpa using this
        have eb : bs[i]? = some b := by have := congrArg (·[0]?) hb'; simpa using this
        have ta : as.drop (i + 1) = as' := by have := congrArg List.tail ha; simpa using this
        have tb : bs.drop (i + 1) = bs' := by have := congrArg List.tail hb'; simpa using this
        have ih := fieldsB_ok d w (as := as) (bs := bs) (fs := fs) (i := i + 1) h5 (by rw [ta, tb]; exact hy)
        have pa : (part f.type (as.map valOf).toArray f.offset).run P w = .ok (valOf a) w := by rw [h2]; exact leaf_part h3 (tkB_ok h4) (by simp [ea]) w
        have pb : (part f.type (bs.map valOf).toArray f.offset).run P w = .ok (valOf b) w := by rw [h2]; exact leaf_part h3 (tkB_ok h4) (by simp [eb]) w
        rw [Op.eqFields]
        simp only [if_pos h1, Sem.run_bind, pa, pb, leaf_eq (tkB_ok h4) hx d w, Result.andThen_ok]
        cases x
        · simp
        · simpa using ih
      · cases h
    · cases h
theorem cmpB_ok {P : Program} {t : Nat} {ks : List TK} (h : cmpB P t ks = true) : CmpOK P t ks := by
  unfold cmpB at h
  split at h
  case h_2 => cases h
  rename_i fields hu
  simp only [Bool.and_eq_true, Bool.not_eq_true'] at h
  obtain ⟨⟨h1, h2⟩, h3⟩ := h
  intro x y as bs r w hl
  have hf : P.fieldsOf t = fields := by simp [Program.fieldsOf, hu]
  have he : (Op.equalIn 10000 t (.agg (as.map valOf).toArray) (.agg (bs.map valOf).toArray)).run P w = .ok r w := by
    rw [run_equalIn_struct w 9999 t _ _ (by rw [hf]; exact hu) h1, hf]
    exact fieldsB_ok 9998 w h3 (by simpa using hl)
  constructor
  · rw [Sem.run_bind, run_eqGuard_agg w .eql t x y _ _ h2, Result.andThen_ok, run_eql_struct w t, he]; rfl
  · rw [Sem.run_bind, run_eqGuard_agg w .neq t x y _ _ h2, Result.andThen_ok, run_neq_struct w t, he]; rfl
def cmpAllB (c : Ctx) (P : Program) : Bool := (List.range c.ty.length).all fun t => match c.ty.getD t none with
  | some ty => match ty.cmp with
    | some ks => cmpB P t ks
    | none => true
  | none => true
theorem cmpAll_ok {c : Ctx} {P : Program} (h : cmpAllB c P = true) : CmpAll c P := by
  intro t ty ks ht hk
  simp only [cmpAllB, List.all_eq_true, List.mem_range] at h
  unfold Ctx.tyOf at ht
  have hl : t < c.ty.length := by
    rcases Nat.lt_or_ge t c.ty.length with hl | hl
    · exact hl
    · rw [List.getD_eq_getElem?_getD, List.getElem?_eq_none hl] at ht; cases ht
  have := h t hl
  rw [ht] at this
  simp only [hk] at this
  exact cmpB_ok this
end Go.Ev
