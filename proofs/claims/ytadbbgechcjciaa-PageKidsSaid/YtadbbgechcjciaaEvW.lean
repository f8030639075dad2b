/- The reckoner tells the truth: whole functions. No conditions. -/
import Derived.Test.YtadbbgechcjciaaEvV
set_option linter.unusedVariables false
set_option linter.unusedSimpArgs false
set_option linter.unusedSectionVars false
namespace Go.Ev
open Go

/-- the functions that are told are the program's -/
def FnAll (c : Ctx) (P : Program) : Prop :=
  ∀ f fn, c.fnOf f = some fn → P.funcs[f]? = some fn ∧ (fn.name == "runtime.NumGoroutine") = false ∧ ∀ code, fn.body = some code → codeOk code = true

section
variable {G : Gh} {P : Program} {c : Ctx} {β : Nat → Nat} {w : World}
theorem cell_run (hC : CtxOK c P) {H : Heap} (hR : HR β H w.heap) {t : Nat} {ty : Ty} (hT : c.tyOf t = some ty) {pv : Value} {p av : AV} (hp : R β H w.heap pv p) (h : loadAV H ty p = some av) :
    ∃ cv, (do loadVar t (← asAddr pv) : Sem Value).run P w = .ok cv w ∧ R β H w.heap cv av := by
  obtain ⟨cv, h1, h2⟩ := loadAV_ok hR (hC.ty t ty hT) hp h
  have : ∃ ad, pv = .pointer (some ad) := by
    cases hp <;> first | exact ⟨_, rfl⟩ | (simp [loadAV] at h)
  obtain ⟨ad, rfl⟩ := this
  exact ⟨cv, by simpa [Instr.loadAt, Instr.sureAddr, asAddr] using h1, h2⟩
theorem resE_ok (hC : CtxOK c P) {s : St} {tmps : Array Value} (hR : HR β s.heap w.heap) (hE : ER β s.heap w.heap tmps s.env) {F : ResultVar → Sem Value} (h1 : ∀ t, F (.tmp t) = pure (tmps.getD t undef)) (h2 : ∀ a t, F (.cell a t) = do loadVar t (← asAddr (tmps.getD a undef))) :
    ∀ {rs : List ResultVar} {vs : List AV}, resE c s rs = some vs → ∃ us : List Value, (rs.mapM F).run P w = .ok us w ∧ us.length = vs.length ∧ ∀ j, j < vs.length → R β s.heap w.heap (us.getD j undef) (vs.getD j .und)
  | [], vs, h => by cases h; exact ⟨[], by simp, rfl, fun j hj => by simp at hj⟩
  | .tmp t :: rs, vs, h => by
    unfold resE at h
    split at h
    · rename_i v vs' hv hvs
      cases h
      obtain ⟨us, i1, i2, i3⟩ := resE_ok hC hR hE h1 h2 hvs
      obtain ⟨u, hu, hr⟩ := hE.2 t v hv
      have hg : tmps.getD t undef = u := by rw [Array.getD_eq_getD_getElem?, hu]; rfl
      refine ⟨u :: us, by simp only [List.mapM_cons, h1, hg, Sem.run_bind, Sem.run_pure, Result.andThen_ok, i1], by simp [i2], fun j hj => ?_⟩
      cases j with
      | zero => simpa using hr
      | succ j => simpa using i3 j (by simpa using hj)
    · cases h
  | .cell a t :: rs, vs, h => by
    unfold resE at h
    split at h
    · rename_i p ty hp hty
      split at h
      · rename_i v vs' hv hvs
        cases h
        obtain ⟨us, i1, i2, i3⟩ := resE_ok hC hR hE h1 h2 hvs
        obtain ⟨u, hu, hr⟩ := hE.2 a p hp
        have hg : tmps.getD a undef = u := by rw [Array.getD_eq_getD_getElem?, hu]; rfl
        obtain ⟨cv, c1, c2⟩ := cell_run hC hR hty hr hv
        rw [← hg] at c1
        refine ⟨cv :: us, by simp only [List.mapM_cons, h2]; rw [Sem.run_bind, c1, Result.andThen_ok]; simp only [Sem.run_bind, i1, Result.andThen_ok, Sem.run_pure], by simp [i2], fun j hj => ?_⟩
        cases j with
        | zero => simpa using c2
        | succ j => simpa using i3 j (by simpa using hj)
      · cases h
    · cases h
theorem results_ok (hC : CtxOK c P) {fn : Func} {s : St} {tmps : Array Value} (hR : HR β s.heap w.heap) (hE : ER β s.heap w.heap tmps s.env) {vs : List AV} (h : resE c s fn.results.toList = some vs) :
    ∃ v, (results fn tmps).run P w = .ok v w ∧ R β s.heap w.heap v (oneOf vs) := by
  unfold results
  rw [Array.mapM_eq_mapM_toList]
  obtain ⟨us, i1, i2, i3⟩ := resE_ok (F := fun | .tmp t => pure (tmps.getD t undef) | .cell a t => do loadVar t (← asAddr (tmps.getD a undef))) hC hR hE (fun _ => rfl) (fun _ _ => rfl) h
  refine ⟨if h : us.toArray.size = 1 then us.toArray[0] else .tuple us.toArray, ?_, ?_⟩
  · rw [Sem.run_bind, map_eq_pure_bind, Sem.run_bind]
    erw [i1]
    rfl
  · match vs, us, i2, i3 with
    | [v], [u], _, i3 => simpa [oneOf] using i3 0 (by simp)
    | [], [], _, i3 => exact .tup #[] [] rfl fun j hj => by simp at hj
    | v :: v' :: vs, u :: u' :: us, i2, i3 =>
      simp only [oneOf]
      rw [dif_neg (by simp)]
      exact .tup _ _ (by simpa using i2) fun j hj => by
        have := i3 j hj
        simpa [Array.getD_eq_getD_getElem?, List.getD_eq_getElem?_getD] using this
end

section
variable {P : Program} {c : Ctx}
theorem start_er {G : Gh} {β : Nat → Nat} {H : Heap} {W : Array Obj} {vs : Array Value} {as : List AV} (hA : AR β H W vs as) (n : Nat) :
    ER β H W (vs ++ Array.replicate (n - vs.size) undef) (as.map some ++ List.replicate (n - as.length) none) := by
  obtain ⟨h1, h2⟩ := hA
  refine ⟨by simp [h1], fun t av ht => ?_⟩
  rw [List.getD_eq_getElem?_getD] at ht
  by_cases hl : t < as.length
  · rw [List.getElem?_append_left (by simpa using hl), List.getElem?_map, List.getElem?_eq_getElem hl] at ht
    simp only [Option.map_some, Option.getD_some, Option.some.injEq] at ht
    subst ht
    have := h2 t hl
    rw [List.getD_eq_getElem?_getD, List.getElem?_eq_getElem hl] at this
    exact ⟨vs.getD t undef, by rw [Array.getElem?_append_left (by omega)]; exact getD_some (by omega), this⟩
  · rw [List.getElem?_append_right (by simp; omega), List.getElem?_replicate] at ht
    split at ht <;> cases ht

/-- what is told outright of calls is so -/
def ExtAll (c : Ctx) (P : Program) : Prop := ∀ f e, find1 f c.ext = some e → ∀ as H av H', e as H = some (av, H') → (∃ fn, P.funcs[f]? = some fn ∧ (fn.name == "runtime.NumGoroutine") = false ∧ fn.body.isNone = false) ∧
    ∀ [Gh] β vs w, HR β H w.heap → AR β H w.heap vs as → Calls P f vs w (CEnd (fun a H => some (a, H)) (av, H') β H w)
theorem ExtAll.nil (h : c.ext = []) : ExtAll c P := fun f e he => by rw [h] at he; cases he
theorem eval1_ok (hC : CtxOK c P) (hM : CmpAll c P) (hF : FnAll c P) (hX : ExtAll c P) (hm : P.follows .mixedOrders = true) : ∀ k, Call1OK P (eval1 c k)
  | 0 => fun f as H av H' h => by cases h
  | k + 1 => by
    intro f as H av H' h
    have ih := eval1_ok hC hM hF hX hm k
    have K : Known P c (call1 (c.cm f) c k) := ⟨hC, hM, fun d => callE_ok ih d, callE_quiet, hm⟩
    have e1 : (fun dr => callE (c.cm f) dr (evalF c k) : Bool → Nat → List AV → Heap → (AV → Heap → Option (AV × Heap)) → Option (AV × Heap)) = fun dr => (call1 (c.cm f) c k dr).on := by
      funext dr
      rw [evalF_bind k]
      funext f as H κ
      exact callE_bind dr _ f as H κ
    unfold eval1 at h
    simp only [evalF] at h
    split at h
    · rename_i e he
      obtain ⟨p, hp, hk⟩ := opt_some h
      cases hk
      exact hX f e he as H p.1 p.2 hp
    split at h
    · cases h
    rename_i fn hfn
    split at h
    · cases h
    rename_i code hcode
    obtain ⟨f1, f2, f3⟩ := hF f fn hfn
    refine ⟨⟨fn, f1, f2, by rw [hcode]; rfl⟩, ?_⟩
    intro G β vs w hR hA
    refine calls_of_wp f1 hcode ?_
    rw [e1] at h
    refine codeE_ok (β0 := β) (H0 := H) (w0 := w) (a0 := { tmps := vs ++ Array.replicate (fn.ntmps - vs.size) undef, defers := [] }) K code (f3 code hcode) h ⟨hR, start_er hA fn.ntmps, Evo.refl _ _ _, Same.refl _, rfl⟩ ?_
    intro ex s' a' w' β' hk hA'
    have fin : opt (resE c s' fn.results.toList) (fun vs => some (oneOf vs, s'.heap)) = some (av, H') → a'.defers = [] ∧ ∃ v, (results fn a'.tmps).run P w' = .ok v w' ∧ CEnd (fun a H => some (a, H)) (av, H') β H w (.returned v) w' := by
      intro hk
      obtain ⟨us, hus, hk⟩ := opt_some hk
      cases hk
      obtain ⟨v, r1, r2⟩ := results_ok hC hA'.hr hA'.er hus
      exact ⟨hA'.defs, v, r1, CEnd.of r2 hA'.hr hA'.evo hA'.same⟩
    cases ex with
    | normal => exact fin hk
    | ret => exact fin hk
    | exit id => cases hk
end
end Go.Ev
