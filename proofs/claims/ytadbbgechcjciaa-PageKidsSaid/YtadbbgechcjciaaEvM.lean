/- What the reckoner's operations look at. No conditions. -/
import Derived.Test.YtadbbgechcjciaaEvL
set_option linter.unusedVariables false
set_option linter.unusedSimpArgs false
set_option linter.unusedSectionVars false
namespace Go.Ev
open Go

section
variable {ρ : Type} {c : Ctx}

/-- alike at an operand -/
def Alike (e e' : List (Option AV)) (kn kn' : Kn) (y : Operand) : Prop := ∀ t, y = .tmp t → e.getD t none = e'.getD t none ∧ find1 t kn = find1 t kn'
variable {e e' : List (Option AV)} {kn kn' : Kn}
theorem opd_congr {y : Operand} (h : Alike e e' kn kn' y) : opd e y = opd e' y := by
  cases y with
  | tmp t => exact (h t rfl).1
  | _ => rfl
theorem opdT_congr {t : Nat} {y : Operand} (h : Alike e e' kn kn' y) : c.opdT t e y = c.opdT t e' y := by
  cases y with
  | tmp t => exact (h t rfl).1
  | _ => rfl
theorem knOf_congr {y : Operand} (h : Alike e e' kn kn' y) : knOf kn y = knOf kn' y := by
  cases y with
  | tmp t => exact (h t rfl).2
  | _ => rfl
theorem opds_congr : ∀ {ys : List Operand}, (∀ y ∈ ys, Alike e e' kn kn' y) → opds e ys = opds e' ys
  | [], h => rfl
  | y :: ys, h => by
    unfold opds
    rw [opd_congr (h y (by simp)), opds_congr fun z hz => h z (by simp [hz])]
theorem opdsT_congr : ∀ {ys : List Operand} {ts : List Nat}, (∀ y ∈ ys, Alike e e' kn kn' y) → c.opdsT e ys ts = c.opdsT e' ys ts
  | [], ts, h => by unfold Ctx.opdsT; rfl
  | y :: ys, ts, h => by
    unfold Ctx.opdsT
    rw [opdT_congr (h y (by simp)), opdsT_congr fun z hz => h z (by simp [hz])]
theorem partsOf_congr : ∀ {ps : List (Nat × Operand)}, (∀ p ∈ ps, Alike e e' kn kn' p.2) → partsOf e ps = partsOf e' ps
  | [], h => rfl
  | (i, y) :: ps, h => by
    unfold partsOf
    rw [opd_congr (h (i, y) (by simp)), partsOf_congr fun p hp => h p (by simp [hp])]
theorem optOpd_congr {y : Option Operand} (h : ∀ z, y = some z → Alike e e' kn kn' z) : y.map (opd e) = y.map (opd e') := by
  cases y with
  | none => rfl
  | some z => exact congrArg some (opd_congr (h z rfl))

theorem opE_congr {call : Nat → List AV → Heap → (AV → Heap → Option ρ) → Option ρ} {o : Oper} (h : ∀ y ∈ o.op.operands, Alike e e' kn kn' y) (H : Heap) (κ : Option AV → Heap → Option ρ) :
    opE c call o kn e H κ = opE c call o kn' e' H κ := by
  obtain ⟨dst, op, type, pos, after, guard⟩ := o
  simp only at h
  cases op <;> simp only [Op.operands, List.mem_toArray, List.mem_cons, List.mem_singleton, List.not_mem_nil, or_false, forall_eq_or_imp, forall_eq] at h <;> simp only [opE]
  case move y => rw [opdT_congr h]
  case assign y => rw [opdT_congr h]
  case pick y p q => rw [opd_congr h.1, opdT_congr h.2.1, opdT_congr h.2.2]; unfold pickE; rw [knOf_congr h.1]
  case box t y => rw [opdT_congr h]
  case build t ps => rw [partsOf_congr (ps := ps.toList) fun p hp => h p.2 (by simpa using ⟨p.1, by simpa using hp⟩)]
  case buildSlice t n ps => rw [partsOf_congr (ps := ps.toList) fun p hp => h p.2 (by simpa using ⟨p.1, by simpa using hp⟩)]
  case load t y => rw [opd_congr h]
  case store t y z => rw [opd_congr h.1, opdT_congr h.2]
  case nilCheck y => rw [opd_congr h]
  case binOp op t y z u => rw [opd_congr h.1, opd_congr h.2]
  case unOp op t y => rw [opd_congr h]
  case convert s d y => rw [opd_congr h]
  case makeFunc fn first caps =>
    cases fn <;> simp only
    rw [opds_congr (ys := first.toList) fun y hy => h y (by simp at hy ⊢; exact .inl hy), opds_congr (ys := caps.toList) fun y hy => h y (by simp at hy ⊢; exact .inr hy)]
  case makeSlice t y z => rw [opd_congr h.1, opd_congr h.2]
  case slice t y lo hi mx =>
    simp only [Array.mem_append] at h
    rw [opd_congr (h y (by simp)), optOpd_congr fun z hz => h z (by subst hz; simp), optOpd_congr (y := hi) fun z hz => h z (by subst hz; simp), optOpd_congr (y := mx) fun z hz => h z (by subst hz; simp)]
  case fieldAddr s y f => rw [opd_congr h]
  case field s y f => rw [opd_congr h]
  case indexAddr t y z => rw [opd_congr h.1, opd_congr h.2]
  case index t y z => rw [opd_congr h.1, opd_congr h.2]
  case extract y i => rw [opd_congr h]
  case call cl =>
    rw [opdsT_congr (ys := cl.args.toList) fun y hy => h y (by simp [Call.operands]; right; simpa using hy)]
    congr 1; funext as
    cases hc : cl.callee with
    | value f => simp only; rw [opd_congr (h f (by simp [Call.operands, hc]))]
    | _ => rfl

/-- what an operation has to do with memory: nothing, reads, writes -/
def cls (o : Oper) : Nat :=
  match o.op with
  | .load .. => 1
  | .convert .. => 1
  | .call cl => match cl.callee with
    | .value _ => 1
    | .builtin .len => 0
    | .builtin .cap => 0
    | .builtin .max => 0
    | .builtin .min => 0
    | _ => 2
  | .store .. => 2
  | .alloc _ => 2
  | .box .. => 2
  | .makeSlice .. => 2
  | _ => 0
/-- calls that leave memory be -/
def Call1.Quiet (g : Call1) : Prop := ∀ f as H av H', g f as H = some (av, H') → H' = H

theorem builtinE_zero {b : Builtin} (hb : b = .len ∨ b = .cap ∨ b = .max ∨ b = .min) (ats : List Nat) (as : List AV) (H : Heap) (κ : Option AV → Heap → Option ρ) :
    builtinE c b ats as H (fun v H => κ (some v) H) = (builtinE (ρ := Option AV) c b ats as [] fun v _ => some (some v)).bind fun v => κ v H := by
  have one : ∀ {α : Type} (v : α) (f : α → Option ρ), ((some v : Option α).bind f) = f v := fun _ _ => rfl
  rcases hb with rfl | rfl | rfl | rfl <;> (unfold builtinE; split <;> first | rfl | (rename_i hbb; cases hbb; done) | simp only [opt_bind, one, Option.bind_none] | simp_all)
theorem opE_zero' {g : Call1} {o : Oper} (h : cls o = 0) (H : Heap) (κ : Option AV → Heap → Option ρ) : opE c g.on o kn e H κ = (opE (ρ := Option AV) c g.on o kn e [] fun v _ => some v).bind fun v => κ v H := by
  have one : ∀ {α : Type} (v : α) (f : α → Option ρ), ((some v : Option α).bind f) = f v := fun _ _ => rfl
  unfold cls at h
  unfold opE
  split <;> first | (exact rfl) | (rename_i ho; rw [ho] at h; simp only at h; first | omega | simp only [opt_bind, chk_bind, ite_bind, bif_bind, one, Option.bind_none])
  · rw [pickE_bind]
    conv => rhs; rw [pickE_bind]
    simp only [Option.bind_assoc, one]
  · split <;> simp only [opt_bind, chk_bind, ite_bind, bif_bind, one, Option.bind_none]
  · congr 1; funext p; split <;> rfl
  · congr 1; funext p; congr 1; funext q; congr 1; funext r; split <;> simp only [opt_bind, chk_bind, bif_bind, one, Option.bind_none]
  · congr 1; funext p; split
    · simp only [opt_bind]
      congr 1; funext q; obtain ⟨q1, q2⟩ := q; simp only [opt_bind, one]
      congr 1; funext r; split <;> simp only [opt_bind, one, Option.bind_none]
    · rfl
  · congr 1; funext p; split
    · simp only [opt_bind]
      congr 1
    · rfl
  · congr 1; funext p; congr 1; funext q; split <;> simp only [opt_bind, chk_bind, one, Option.bind_none]
  · congr 1; funext p; congr 1; funext q; split <;> simp only [bif_bind, one, Option.bind_none]
  · congr 1; funext p; split <;> simp only [opt_bind, one, Option.bind_none]
  · rename_i cl
    cases hc : cl.callee with
    | value f => rw [hc] at h; simp at h
    | invoke r m => congr 1
    | builtin b =>
      rw [hc] at h
      congr 1; funext p
      refine builtinE_zero ?_ _ _ _ _
      cases b <;> simp at h ⊢
theorem opE_zero {g : Call1} {o : Oper} (h : cls o = 0) {H H2 H' : Heap} {v : Option AV} (hx : opE c g.on o kn e H (fun v H => some (v, H)) = some (v, H')) : opE c g.on o kn e H2 (fun v H => some (v, H)) = some (v, H2) ∧ H' = H := by
  rw [opE_zero' h] at hx ⊢
  cases hv : opE (ρ := Option AV) c g.on o kn e [] fun v _ => some v with
  | none => rw [hv] at hx; cases hx
  | some u => rw [hv] at hx; cases hx; exact ⟨rfl, rfl⟩
theorem opE_one {g : Call1} (hg : g.Quiet) {o : Oper} (h : cls o = 1) {H H' : Heap} {v : Option AV} (hx : opE c g.on o kn e H (fun v H => some (v, H)) = some (v, H')) : H' = H := by
  unfold cls at h
  unfold opE at hx
  split at hx <;> first | (cases hx; done) | (rename_i ho; rw [ho] at h; simp only at h; first | omega | skip)
  · obtain ⟨_, _, hx⟩ := opt_some hx
    obtain ⟨_, _, hx⟩ := opt_some hx
    rw [loadE_eq] at hx
    obtain ⟨_, _, hx⟩ := opt_some hx
    cases hx; rfl
  · obtain ⟨_, _, hx⟩ := opt_some hx
    split at hx
    · obtain ⟨_, _, hx⟩ := opt_some hx
      simp only at hx
      obtain ⟨_, _, hx⟩ := chk_some hx
      cases hx; rfl
    · obtain ⟨_, _, hx⟩ := chk_some hx
      cases hx; rfl
  · obtain ⟨_, _, hx⟩ := opt_some hx
    split at hx
    · rename_i b hc
      rw [hc] at h
      cases b <;> simp at h
    · obtain ⟨_, _, hx⟩ := opt_some hx
      split at hx
      · unfold Call1.on at hx
        rename_i f first caps _
        generalize hA : first ++ _ ++ caps = A at hx
        cases hc : g f A H with
        | none => rw [hc] at hx; cases hx
        | some p => rw [hc] at hx; cases hx; exact hg _ _ _ _ _ hc
      · cases hx
    · cases hx
end
end Go.Ev
