/- The reckoner's operations tell the truth, the fourteenth: calls. No conditions. -/
import Derived.Test.YtadbbgechcjciaaEvH
set_option linter.unusedVariables false
set_option linter.unusedSimpArgs false
set_option linter.unusedSectionVars false
namespace Go.Ev
open Go
variable [Gh]

section
variable {ρ : Type} {P : Program} {o : Oper} {a : Act} {w : World} {Q : Exit → Act → World → Prop} {κ : AV → Heap → Option ρ} {x : ρ} {β : Nat → Nat} {H : Heap} {e : List (Option AV)} {c : Ctx}

theorem max2_ok {W : Array Obj} {u v : AV} {a b : Value} (ha : R β H W a u) (hb : R β H W b v) {r : AV} (h : maxAV true u v = some r) : ∃ cv, (Builtin.max2 a b).run P w = .ok cv w ∧ R β H W cv r := by
  unfold maxAV at h
  split at h
  · obtain ⟨hkk, h2⟩ := ite_some h
    subst hkk
    have h3 := Option.some.inj h2
    subst h3
    have := ha.inv_int; subst this
    have := hb.inv_int; subst this
    exact ⟨_, rfl, .int _ _⟩
  · cases h
    have := ha.inv_str; subst this
    have := hb.inv_str; subst this
    refine ⟨_, ?_, .str _⟩
    simp only [Builtin.max2, Op.stringOp, Sem.run_bind, Sem.run_pure, Result.andThen_ok, asBool, if_true]
    cases hl : bl _ _ <;> simp [hl, bl] at * <;> simp [hl]
  · cases h
theorem min2_ok {W : Array Obj} {u v : AV} {a b : Value} (ha : R β H W a u) (hb : R β H W b v) {r : AV} (h : maxAV false u v = some r) : ∃ cv, (Builtin.min2 a b).run P w = .ok cv w ∧ R β H W cv r := by
  unfold maxAV at h
  split at h
  · obtain ⟨hkk, h2⟩ := ite_some h
    subst hkk
    have h3 := Option.some.inj h2
    subst h3
    have := ha.inv_int; subst this
    have := hb.inv_int; subst this
    exact ⟨_, rfl, .int _ _⟩
  · cases h
    have := ha.inv_str; subst this
    have := hb.inv_str; subst this
    refine ⟨_, ?_, .str _⟩
    simp only [Builtin.min2, Op.stringOp, Sem.run_bind, Sem.run_pure, Result.andThen_ok, asBool, bl_le, Bool.false_eq_true, if_false]
    cases hl : bl _ _ <;> simp [hl]
  · cases h
theorem foldMax_ok {mx : Bool} {W : Array Obj} : ∀ {us : List AV} {vs : List Value} {u : AV} {a : Value}, R β H W a u → vs.length = us.length → (∀ j, j < us.length → R β H W (vs.getD j undef) (us.getD j .und)) → ∀ {r : AV}, foldMax mx u us = some r →
    ∃ cv, (vs.foldlM (if mx then Builtin.max2 else Builtin.min2) a).run P w = .ok cv w ∧ R β H W cv r
  | [], [], u, a, ha, _, _, r, h => by cases h; exact ⟨a, rfl, ha⟩
  | u' :: us, v :: vs, u, a, ha, hl, hR, r, h => by
    unfold foldMax at h
    split at h
    · rename_i z hz
      have h0 := hR 0 (by simp)
      simp at h0
      have : ∃ cv, ((if mx then Builtin.max2 else Builtin.min2) a v).run P w = .ok cv w ∧ R β H W cv z := by
        cases mx
        · exact min2_ok ha h0 hz
        · exact max2_ok ha h0 hz
      obtain ⟨cv, r1, r2⟩ := this
      obtain ⟨cv', r3, r4⟩ := foldMax_ok (us := us) (vs := vs) r2 (by simpa using hl) (fun j hj => by simpa using hR (j + 1) (by simpa using hj)) h
      refine ⟨cv', ?_, r4⟩
      rw [List.foldlM_cons, Sem.run_bind, r1, Result.andThen_ok, r3]
    · cases h
  | [], _ :: _, _, _, _, hl, _, _, _ => by simp at hl
  | _ :: _, [], _, _, _, hl, _, _, _ => by simp at hl

/-- arguments as told -/
def AR (β : Nat → Nat) (H : Heap) (W : Array Obj) (vs : Array Value) (as : List AV) : Prop := vs.size = as.length ∧ ∀ j, j < as.length → R β H W (vs.getD j undef) (as.getD j .und)

/-- a builtin's run -/
def builtinRun (b : Builtin) (ts : Array TypeId) (ty : TypeId) (vs : Array Value) : Sem Value :=
  match b with
  | .len => Builtin.len_ ts ty vs
  | .cap => Builtin.cap_ ts ty vs
  | .max => Builtin.max_ ts ty vs
  | .min => Builtin.min_ ts ty vs
  | .append => Builtin.append_ ts ty vs
  | .copy => Builtin.copy_ ts ty vs
  | _ => stuck ""
theorem two {vs : Array Value} {u v : AV} (h : AR β H w.heap vs [u, v]) : ∃ p q, vs = #[p, q] ∧ R β H w.heap p u ∧ R β H w.heap q v := by
  obtain ⟨h1, h2⟩ := h
  obtain ⟨l⟩ := vs
  match l, h1 with
  | [p, q], _ => exact ⟨p, q, rfl, by simpa using h2 0 (by simp), by simpa using h2 1 (by simp)⟩
theorem one {vs : Array Value} {u : AV} (h : AR β H w.heap vs [u]) : ∃ p, vs = #[p] ∧ R β H w.heap p u := by
  obtain ⟨h1, h2⟩ := h
  obtain ⟨l⟩ := vs
  match l, h1 with
  | [p], _ => exact ⟨p, rfl, by simpa using h2 0 (by simp)⟩
theorem AEnd.value (hR : HR β H w.heap) {run : World → Result Value} {cv : Value} {av : AV} (hr : run w = .ok cv w) (hv : R β H w.heap cv av) (hk : κ av H = some x) : AEnd κ x β H w run :=
  ⟨cv, av, β, H, w, hr, hk, hv, hR, Evo.refl _ _ _, Same.refl _⟩

theorem builtinE_ok (hC : CtxOK c P) {b : Builtin} {ts : Array TypeId} {ty : TypeId} {vs : Array Value} {as : List AV} (hR : HR β H w.heap) (hA : AR β H w.heap vs as)
    (h : builtinE c b ts.toList as H κ = some x) : (∀ cs, builtin b ts ty cs vs = do pure (.value (← builtinRun b ts ty vs))) ∧ AEnd κ x β H w (fun w => (builtinRun b ts ty vs).run P w) := by
  obtain ⟨tl⟩ := ts
  unfold builtinE at h
  split at h
  · rename_i t tl u htl
    simp only at htl
    subst htl
    obtain ⟨n, hn, hk⟩ := opt_some h
    obtain ⟨p, rfl, hp⟩ := one hA
    have hr : (Builtin.len_ ⟨t :: tl⟩ ty #[p]).run P w = _ := lenAV_ok hC hp hn _ (by simp)
    exact ⟨fun _ => rfl, AEnd.value hR hr (.int _ _) hk⟩
  · rename_i t tl u htl
    simp only at htl
    subst htl
    obtain ⟨n, hn, hk⟩ := opt_some h
    obtain ⟨p, rfl, hp⟩ := one hA
    have hr : (Builtin.cap_ ⟨t :: tl⟩ ty #[p]).run P w = _ := capAV_ok hC hp hn _ (by simp)
    exact ⟨fun _ => rfl, AEnd.value hR hr (.int _ _) hk⟩
  · rename_i u us
    obtain ⟨r, hr, hk⟩ := opt_some h
    obtain ⟨h1, h2⟩ := hA
    obtain ⟨l⟩ := vs
    match l, h1 with
    | p :: l, h1 =>
      obtain ⟨cv, r1, r2⟩ := foldMax_ok (P := P) (w := w) (mx := true) (us := us) (vs := l) (by simpa using h2 0 (by simp)) (by simpa using h1) (fun j hj => by simpa using h2 (j + 1) (by simpa using hj)) hr
      exact ⟨fun _ => rfl, AEnd.value hR r1 r2 hk⟩
  · rename_i u us
    obtain ⟨r, hr, hk⟩ := opt_some h
    obtain ⟨h1, h2⟩ := hA
    obtain ⟨l⟩ := vs
    match l, h1 with
    | p :: l, h1 =>
      obtain ⟨cv, r1, r2⟩ := foldMax_ok (P := P) (w := w) (mx := false) (us := us) (vs := l) (by simpa using h2 0 (by simp)) (by simpa using h1) (fun j hj => by simpa using h2 (j + 1) (by simpa using hj)) hr
      exact ⟨fun _ => rfl, AEnd.value hR r1 r2 hk⟩
  · rename_i st xt u v htl
    simp only at htl
    subst htl
    obtain ⟨p, q, rfl, hp, hq⟩ := two hA
    refine ⟨fun _ => rfl, ?_⟩
    split at h
    case h_2 => cases h
    rename_i et _ _ _ _ hst
    split at h
    case h_2 => cases h
    rename_i ey hey
    have hu : P.underlying st = some (.slice et) := (hC.ty st _ hst).desc
    have hT := hC.ty et ey hey
    split at h
    · rename_i kk m
      obtain ⟨hi, h⟩ := ite_some h
      obtain ⟨hb, h⟩ := bif_some h
      simp only [Bool.and_eq_true, decide_eq_true_eq] at hb
      obtain ⟨hm0, hroom⟩ := hb
      obtain ⟨r1, r2⟩ := roomOf_iff hroom
      have := hq.inv_int; subst this
      obtain ⟨k, hk⟩ : ∃ k, c.kOf xt = some (.int k) := by
        unfold isInt at hi
        split at hi
        · exact ⟨_, ‹_›⟩
        · cases hi
      have hxt : P.underlying xt = some (.int k) := kOf_desc hC hk
      obtain ⟨cells, z1, z2⟩ := zero_app (β := β) (H := H) (w := w) (kk := kk) hC hT hxt r2 r1 w.heap
      have hmm : ((m.toNat : Nat) : Int) = m := by omega
      rw [hmm] at z1
      exact appendE_ok (ty := ty) hR hu hT z1 z2 hp h
    · obtain ⟨hi, h⟩ := ite_some h
      obtain ⟨⟨sy, m, row'⟩, hsrc, h⟩ := opt_some h
      simp only at h
      obtain ⟨hs, h⟩ := ite_some h
      have : ∃ d, P.underlying xt = some d ∧ ∀ k, d ≠ .int k := by
        unfold noInt at hi
        split at hi
        · rename_i hk; exact ⟨.string, kOf_desc hC hk, fun k => by simp⟩
        · rename_i e' hk; exact ⟨.slice e', kOf_desc hC hk, fun k => by simp⟩
        · cases hi
      obtain ⟨d, hd, hd'⟩ := this
      obtain ⟨cells, z1, z2⟩ := src_app hC hR hd hd' hq hsrc hs
      exact appendE_ok (ty := ty) hR hu hT z1 z2 hp h
  · rename_i st xt u v htl
    simp only at htl
    subst htl
    obtain ⟨p, q, rfl, hp, hq⟩ := two hA
    refine ⟨fun _ => rfl, ?_⟩
    split at h
    case h_2 => cases h
    rename_i et _ _ _ _ hst
    split at h
    case h_2 => cases h
    rename_i ey sz r off len full hey
    obtain ⟨hsz, h⟩ := ite_some h
    have hu : P.underlying st = some (.slice et) := (hC.ty st _ hst).desc
    exact copyE_ok (ty := ty) hC hR hu (hC.ty et ey hey) hp hq (fun _ _ _ _ _ he => by cases he; exact hsz) h
  · cases h

/-! ### calls -/
/-- where a call ends -/
def CEnd (κ : AV → Heap → Option ρ) (x : ρ) (β : Nat → Nat) (H : Heap) (w : World) (en : Ending) (w' : World) : Prop :=
  ∃ v av β' H', en = .returned v ∧ κ av H' = some x ∧ R β' H' w'.heap v av ∧ HR β' H' w'.heap ∧ Evo β H w.heap β' H' w'.heap ∧ Same w w'
/-- what is known of a table of calls -/
def CallOK (P : Program) (call : Nat → List AV → Heap → (AV → Heap → Option ρ) → Option ρ) : Prop :=
  ∀ f as H κ x, call f as H κ = some x → (∃ fn, P.funcs[f]? = some fn ∧ (fn.name == "runtime.NumGoroutine") = false ∧ fn.body.isNone = false) ∧
    ∀ β vs w, HR β H w.heap → AR β H w.heap vs as → Calls P f vs w (CEnd κ x β H w)

theorem run_callFunc {f : Nat} {fn : Func} (h1 : P.funcs[f]? = some fn) (h2 : (fn.name == "runtime.NumGoroutine") = false) (h3 : fn.body.isNone = false) (vs : Array Value) (w : World) : (callFunc f vs).run P w = .ok (.enter f vs) w := by
  have h2' : fn.name ≠ "runtime.NumGoroutine" := by simpa using h2
  have h3' : fn.body ≠ none := by intro h; rw [h] at h3; cases h3
  simp [callFunc, h1, h2', h3']

theorem op_call (hC : CtxOK c P) {call : Nat → List AV → Heap → (AV → Heap → Option ρ) → Option ρ} (hcall : CallOK P call) {cl : Call} (ho : o.op = .call cl) (hR : HR β H w.heap) (hE : ER β H w.heap a.tmps e) {κ : Option AV → Heap → Option ρ}
    (h : opt (c.opdsT e cl.args.toList cl.argTypes.toList) (fun as => match cl.callee with
    | .builtin b => builtinE c b cl.argTypes.toList as H fun v H => κ (some v) H
    | .value f => opt (opd e f) fun g => match g with
      | .fn f first caps => call f (first ++ as ++ caps) H fun v H => κ (some v) H
      | _ => none
    | .invoke .. => none) = some x) : Goal P o a w Q κ x β H := by
  obtain ⟨as, has, h⟩ := opt_some h
  obtain ⟨a1, a2⟩ := opdsT_ok hE has
  have hA : AR β H w.heap (cl.args.map a.eval) as := by
    refine ⟨by simpa using a1, fun j hj => ?_⟩
    have := a2 j hj
    simpa [Array.getD_eq_getD_getElem?, List.getD_eq_getElem?_getD] using this
  split at h
  · rename_i b hb
    obtain ⟨h1, cv, av, β', H', w', hr, hk, hv, hR', hE', hS⟩ := builtinE_ok (ty := o.type) hC hR hA h
    refine Goal.moved hR' hE' hS (cv := cv) (ov := some av) ?_ hv hk
    unfold execOp
    rw [ho]
    simp only [resolve, hb, Sem.run_bind, Sem.run_pure, Result.andThen_ok, invoke]
    simp only at hr
    rw [h1, Sem.run_bind, hr, Result.andThen_ok, Sem.run_pure]
  · rename_i f hf
    obtain ⟨g, hg, h⟩ := opt_some h
    split at h
    case h_2 => cases h
    rename_i fi first caps
    have hgv := opd_ok hE hg
    obtain ⟨⟨fn, f1, f2, f3⟩, hc⟩ := hcall _ _ _ _ _ h
    generalize hfv : a.eval f = fv at hgv
    cases hgv with
    | fn _ vs us _ _ hv hu hRv hRu =>
      have hA' : AR β H w.heap (vs ++ cl.args.map a.eval ++ us) (first ++ as ++ caps) := by
        obtain ⟨s1, s2⟩ := hA
        refine ⟨by simp only [Array.size_append, List.length_append]; omega, fun j hj => ?_⟩
        simp only [List.length_append] at hj
        rw [Array.getD_eq_getD_getElem?, List.getD_eq_getElem?_getD]
        by_cases h1 : j < first.length
        · rw [Array.getElem?_append_left (by simp only [Array.size_append]; omega), Array.getElem?_append_left (by omega), List.getElem?_append_left (by simp only [List.length_append]; omega), List.getElem?_append_left h1]
          have := hRv j h1
          rwa [Array.getD_eq_getD_getElem?, List.getD_eq_getElem?_getD] at this
        · by_cases h2 : j < first.length + as.length
          · rw [Array.getElem?_append_left (by simp only [Array.size_append]; omega), Array.getElem?_append_right (by omega), List.getElem?_append_left (by simp only [List.length_append]; omega), List.getElem?_append_right (by omega), hv]
            have := s2 (j - first.length) (by omega)
            rwa [Array.getD_eq_getD_getElem?, List.getD_eq_getElem?_getD] at this
          · rw [Array.getElem?_append_right (by simp only [Array.size_append]; omega), List.getElem?_append_right (by simp only [List.length_append]; omega)]
            have e1 : j - (vs ++ cl.args.map a.eval).size = j - (first ++ as).length := by simp only [Array.size_append, List.length_append]; omega
            rw [e1]
            have := hRu (j - (first ++ as).length) (by simp only [List.length_append]; omega)
            rwa [Array.getD_eq_getD_getElem?, List.getD_eq_getElem?_getD] at this
      have hcalls := hc β _ w hR hA'
      intro next hn
      unfold Oper.wp
      have hrun : (execOp a.eval o).run P w = .ok (.enter fi (vs ++ cl.args.map a.eval ++ us)) w := by
        unfold execOp
        rw [ho]
        simp only [resolve, hf, Deferred.ofValue, hfv, Sem.run_bind, Sem.run_pure, Result.andThen_ok, invoke]
        exact run_callFunc f1 f2 f3 _ w
      rw [hrun, Oper.upon_enter]
      refine Calls.mono hcalls ?_
      rintro en w' ⟨v, av, β', H', rfl, hk, hv', hR', hE', hS⟩
      exact hn v (some av) β' H' w' hk hv' hR' hE' hS
  · cases h
end
end Go.Ev
