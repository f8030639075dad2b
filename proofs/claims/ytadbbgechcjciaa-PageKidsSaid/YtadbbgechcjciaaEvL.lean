/- The reckoner's regions tell the truth, in the text's order. No conditions. -/
import Derived.Test.YtadbbgechcjciaaEvK
set_option linter.unusedVariables false
set_option linter.unusedSimpArgs false
set_option linter.unusedSectionVars false
namespace Go.Ev
open Go

/-- what is known of a table of calls, outright -/
def Call1OK (P : Program) (g : Call1) : Prop :=
  ∀ f as H av H', g f as H = some (av, H') → (∃ fn, P.funcs[f]? = some fn ∧ (fn.name == "runtime.NumGoroutine") = false ∧ fn.body.isNone = false) ∧
    ∀ [Gh] β vs w, HR β H w.heap → AR β H w.heap vs as → Calls P f vs w (CEnd (fun a H => some (a, H)) (av, H') β H w)
theorem Call1OK.run {P : Program} {g : Call1} (h : Call1OK P g) {f : Nat} {as : List AV} {H : Heap} {av : AV} {H' : Heap} (hx : g f as H = some (av, H')) (G : Gh) (β : Nat → Nat) (vs : Array Value) (w : World) (hR : HR β H w.heap) (hA : AR β H w.heap vs as) : Calls P f vs w (CEnd (fun a H => some (a, H)) (av, H') β H w) := (h f as H av H' hx).2 β vs w hR hA
variable [Gh]
theorem Call1OK.on {P : Program} {g : Call1} (h : Call1OK P g) {ρ : Type} : CallOK P (g.on (ρ := ρ)) := by
  intro f as H κ x hx
  unfold Call1.on at hx
  cases hg : g f as H with
  | none => rw [hg] at hx; cases hx
  | some p =>
    obtain ⟨av, H'⟩ := p
    rw [hg] at hx
    obtain ⟨h1, h2⟩ := h f as H av H' hg
    refine ⟨h1, fun β vs w hR hA => Calls.mono (h2 β vs w hR hA) ?_⟩
    rintro en w' ⟨v, av', β', H2, rfl, hk, r1, r2, r3, r4⟩
    cases hk
    exact ⟨v, av, β', H', rfl, hx, r1, r2, r3, r4⟩

/-- what is known is in the temporaries -/
def KnEnv (kn : Kn) (e : List (Option AV)) : Prop := ∀ t b, find1 t kn = some b → e.getD t none = some (.bool b)
theorem find1_filter {α : Type} {d : Nat} {p : Nat × α → Bool} {t : Nat} {b : α} (hp : ∀ q : Nat × α, p q = !decide (q.1 = d)) : ∀ {kn : List (Nat × α)}, find1 t (kn.filter p) = some b → t ≠ d ∧ find1 t kn = some b
  | [], h => by cases h
  | (u, a) :: kn, h => by
    rw [List.filter_cons, hp] at h
    by_cases hu : u = d
    · subst hu
      simp only [decide_true, Bool.not_true, Bool.false_eq_true, if_false] at h
      obtain ⟨h1, h2⟩ := find1_filter hp h
      refine ⟨h1, ?_⟩
      simp only [find1]
      rw [if_neg (Ne.symm h1)]; exact h2
    · simp only [decide_eq_false hu, Bool.not_false, if_true, find1] at h ⊢
      by_cases ht : u = t
      · rw [if_pos ht] at h ⊢
        exact ⟨by rw [← ht]; exact hu, h⟩
      · rw [if_neg ht] at h ⊢
        exact find1_filter hp h
theorem putE_getD {e : List (Option AV)} {dst : Option Tmp} {v : Option AV} {t : Nat} (h : ∀ d, dst = some d → t ≠ d) : (putE e dst v).getD t none = e.getD t none := by
  unfold putE
  split
  · rw [List.getD_eq_getElem?_getD, List.getElem?_set_ne (Ne.symm (h _ rfl)), ← List.getD_eq_getElem?_getD]
  · rw [List.getD_eq_getElem?_getD, List.getElem?_set_ne (Ne.symm (h _ rfl)), ← List.getD_eq_getElem?_getD]
  · rfl
theorem putE_length {e : List (Option AV)} {dst : Option Tmp} {v : Option AV} : (putE e dst v).length = e.length := by
  unfold putE; split <;> simp
theorem KnEnv.put {kn : Kn} {e : List (Option AV)} (h : KnEnv kn e) (dst : Option Tmp) (v : Option AV) : KnEnv (knPut kn dst) (putE e dst v) := by
  intro t b ht
  cases dst with
  | none => rw [putE_getD (by simp)]; exact h t b ht
  | some d =>
    simp only [knPut] at ht
    obtain ⟨h1, h2⟩ := find1_filter (d := d) (fun _ => rfl) ht
    rw [putE_getD (by rintro _ ⟨⟩; exact h1)]
    exact h t b h2
theorem KnEnv.nil {e : List (Option AV)} : KnEnv [] e := fun t b h => by cases h
theorem KnEnv.cons {kn : Kn} {e : List (Option AV)} (h : KnEnv kn e) {t : Nat} {b : Bool} (ht : e.getD t none = some (.bool b)) : KnEnv ((t, b) :: kn) e := by
  intro u c hu
  simp only [find1] at hu
  split at hu
  · rename_i htu; cases hu; rw [← htu]; exact ht
  · exact h u c hu
theorem KnEnv.ok {kn : Kn} {e : List (Option AV)} (h : KnEnv kn e) {β : Nat → Nat} {H : Heap} {W : Array Obj} {tmps : Array Value} (hE : ER β H W tmps e) : KnOK kn tmps := by
  intro t b ht
  obtain ⟨v, hv, hr⟩ := hE.2 t _ (h t b ht)
  rw [hv, hr.inv_bool]

/-- whether an operation is wanted -/
def GuardOn (all : List Oper) (o : Oper) (e : List (Option AV)) (ex : Bool) : Prop :=
  match o.guard with
  | none => ex = true
  | some (j, want) => ∃ t, (all[j]?).bind (·.dst) = some t ∧ ((ex = true ∧ e.getD t none = some (.bool want)) ∨ (ex = false ∧ (e.getD t none = some (.bool !want) ∨ e.getD t none = some .und)))
structure Rec where
  kn : Kn
  s : St
  ex : Bool
  v : Option AV
  H : Heap
def Rec.Ok (c : Ctx) (g : Call1) (all : List Oper) (o : Oper) (r : Rec) : Prop :=
  KnEnv r.kn r.s.env ∧ GuardOn all o r.s.env r.ex ∧ (if r.ex = true then opE c g.on o r.kn r.s.env r.s.heap (fun v H => some (v, H)) = some (r.v, r.H) else r.v = none ∧ r.H = r.s.heap)
/-- a run in the text's order -/
def Run (c : Ctx) (g : Call1) (all : List Oper) : List Oper → St → List Rec → St → Prop
  | [], s, [], s' => s = s'
  | o :: os, s, r :: rs, s' => r.s = s ∧ r.Ok c g all o ∧ Run c g all os ⟨putE s.env o.dst r.v, r.H⟩ rs s'
  | _, _, _, _ => False

theorem opsE_run {ρ : Type} {c : Ctx} {g : Call1} {all : List Oper} {x : ρ} : ∀ {os : List Oper} {kn : Kn} {s : St} {κ : St → Option ρ}, KnEnv kn s.env → opsE c g.on all os kn s κ = some x → ∃ rs s', Run c g all os s rs s' ∧ κ s' = some x
  | [], kn, s, κ, hK, h => ⟨[], s, rfl, h⟩
  | o :: os, kn, s, κ, hK, h => by
    have ex : ∀ kn, KnEnv kn s.env → GuardOn all o s.env true → (opE c g.on o kn s.env s.heap fun v H => opsE c g.on all os (knPut kn o.dst) ⟨putE s.env o.dst v, H⟩ κ) = some x → ∃ rs s', Run c g all (o :: os) s rs s' ∧ κ s' = some x := by
      intro kn hK hG h
      rw [opE_bind] at h
      cases hp : opE c g.on o kn s.env s.heap fun v H => some (v, H) with
      | none => rw [hp] at h; cases h
      | some p =>
        rw [hp] at h
        obtain ⟨rs, s', h1, h2⟩ := opsE_run (hK.put o.dst p.1) h
        exact ⟨⟨kn, s, true, p.1, p.2⟩ :: rs, s', ⟨rfl, ⟨hK, hG, by simpa using hp⟩, h1⟩, h2⟩
    have sk : ∀ kn, KnEnv kn s.env → GuardOn all o s.env false → opsE c g.on all os (knPut kn o.dst) ⟨putE s.env o.dst none, s.heap⟩ κ = some x → ∃ rs s', Run c g all (o :: os) s rs s' ∧ κ s' = some x := by
      intro kn hK hG h
      obtain ⟨rs, s', h1, h2⟩ := opsE_run (hK.put o.dst none) h
      exact ⟨⟨kn, s, false, none, s.heap⟩ :: rs, s', ⟨rfl, ⟨hK, hG, rfl, rfl⟩, h1⟩, h2⟩
    simp only [opsE, contO, putK_eq] at h
    split at h
    · rename_i hg
      exact ex kn hK (by unfold GuardOn; rw [hg]) h
    · rename_i j want hg
      split at h
      · cases h
      · rename_i t ht
        have on : ∀ {e : Bool}, ((e = true ∧ s.env.getD t none = some (.bool want)) ∨ (e = false ∧ (s.env.getD t none = some (.bool !want) ∨ s.env.getD t none = some .und))) → GuardOn all o s.env e := by
          intro e he; unfold GuardOn; rw [hg]; exact ⟨t, ht, he⟩
        split at h
        · rename_i b hb
          have hb' := hK t b hb
          split at h
          · rename_i hbw; subst hbw; exact ex kn hK (on (.inl ⟨rfl, hb'⟩)) h
          · rename_i hbw
            have : b = !want := by cases b <;> cases want <;> simp_all
            subst this
            exact sk kn hK (on (.inr ⟨rfl, .inl hb'⟩)) h
        · split at h
          · rename_i b hb
            cases b with
            | true =>
              simp only [cond_true] at h
              split at h
              · rename_i hw; subst hw; exact ex _ (hK.cons hb) (on (.inl ⟨rfl, hb⟩)) h
              · rename_i hw
                have hw' : want = false := by simpa using hw
                subst hw'
                exact sk _ (hK.cons hb) (on (.inr ⟨rfl, .inl hb⟩)) h
            | false =>
              simp only [cond_false] at h
              split at h
              · rename_i hw; subst hw; exact ex _ (hK.cons hb) (on (.inl ⟨rfl, hb⟩)) h
              · rename_i hw
                have hw' : want = true := by simpa using hw
                subst hw'
                exact sk _ (hK.cons hb) (on (.inr ⟨rfl, .inl hb⟩)) h
          · rename_i hb
            exact sk kn hK (on (.inr ⟨rfl, .inr hb⟩)) h
          · cases h

section
variable {P : Program} {c : Ctx} {g : Call1} {ops : Array Oper} {Q : Exit → Act → World → Prop}

theorem wanted_on {o : Oper} {e : List (Option AV)} {ex : Bool} {β : Nat → Nat} {H : Heap} {W : Array Obj} {tmps : Array Value} (h : GuardOn ops.toList o e ex)
    (hE : ∀ j want t, o.guard = some (j, want) → (ops[j]?).bind (·.dst) = some t → ∀ av, e.getD t none = some av → ∃ v, tmps[t]? = some v ∧ R β H W v av) : Region.wanted o (yielded ops tmps) = ex := by
  unfold GuardOn at h
  unfold Region.wanted
  cases hg : o.guard with
  | none => rw [hg] at h; exact h.symm
  | some jw =>
    obtain ⟨j, want⟩ := jw
    rw [hg] at h
    obtain ⟨t, ht, h⟩ := h
    rw [Array.getElem?_toList] at ht
    have hh := hE j want t hg ht
    simp only [yielded, ht, Option.bind_some]
    rcases h with ⟨rfl, he⟩ | ⟨rfl, he | he⟩
    · obtain ⟨v, hv, hr⟩ := hh _ he
      rw [hv, hr.inv_bool]; simp
    · obtain ⟨v, hv, hr⟩ := hh _ he
      rw [hv, hr.inv_bool]; cases want <;> rfl
    · obtain ⟨v, hv, hr⟩ := hh _ he
      cases hr
      rw [hv]; rfl
theorem put_size {a : Act} {dst : Option Tmp} {v : Value} : (a.put dst v).tmps.size = a.tmps.size := by cases dst <;> simp [Act.put]
theorem put_defers {a : Act} {dst : Option Tmp} {v : Value} : (a.put dst v).defers = a.defers := by cases dst <;> rfl
theorem put_get {a : Act} {dst : Option Tmp} {v : Value} {t : Nat} (h : ∀ d, dst = some d → t ≠ d) : (a.put dst v).tmps[t]? = a.tmps[t]? := by
  cases dst with
  | none => rfl
  | some d => simp [Act.put, Array.getElem?_setIfInBounds_ne (Ne.symm (h d rfl))]
theorem put_get_eq {a : Act} {d : Tmp} {v : Value} (h : d < a.tmps.size) : (a.put (some d) v).tmps[d]? = some v := by simp [Act.put, h]
theorem putE_eq {e : List (Option AV)} {d : Tmp} {v : Option AV} (h : d < e.length) : (putE e (some d) v).getD d none = some (v.getD .und) := by
  cases v <;> simp [putE, h]
theorem VR.getD {β : Nat → Nat} {H : Heap} {W : Array Obj} {cv : Value} {v : Option AV} (h : VR β H W cv v) : R β H W cv (v.getD .und) := by
  cases v with
  | none => cases h; exact .und
  | some v => exact h
theorem ER.put {β : Nat → Nat} {H : Heap} {W : Array Obj} {a : Act} {e : List (Option AV)} (h : ER β H W a.tmps e) {dst : Option Tmp} {cv : Value} {v : Option AV} (hv : VR β H W cv v) : ER β H W (a.put dst cv).tmps (putE e dst v) := by
  refine ⟨by rw [put_size, putE_length]; exact h.1, fun t av ht => ?_⟩
  by_cases hd : dst = some t
  · subst hd
    by_cases hl : t < e.length
    · rw [putE_eq hl] at ht
      cases ht
      exact ⟨cv, put_get_eq (Nat.lt_of_lt_of_le hl h.1), hv.getD⟩
    · rw [List.getD_eq_getElem?_getD, List.getElem?_eq_none (by rw [putE_length]; omega)] at ht
      cases ht
  · have hne : ∀ d, dst = some d → t ≠ d := by rintro d rfl rfl; exact hd rfl
    rw [putE_getD hne] at ht
    rw [put_get hne]
    exact h.2 t av ht

theorem run_wp (hC : CtxOK c P) (hM : CmpAll c P) (hg : Call1OK P g) : ∀ {os : List Oper} {s : St} {rs : List Rec} {s' : St} {i : Nat}, Run c g ops.toList os s rs s' → os = ops.toList.drop i → ∀ {a : Act} {w : World} {β : Nat → Nat}, HR β s.heap w.heap → ER β s.heap w.heap a.tmps s.env →
    (∀ a' w' β', HR β' s'.heap w'.heap → ER β' s'.heap w'.heap a'.tmps s'.env → Evo β s.heap w.heap β' s'.heap w'.heap → Same w w' → a'.defers = a.defers → Q .normal a' w') → wpOps P ops Q (List.range' i (ops.size - i)) a w
  | [], s, rs, s', i, h, hos, a, w, β, hR, hE, hQ => by
    have hi : ops.size ≤ i := by
      have := congrArg List.length hos
      simp at this
      omega
    rw [show ops.size - i = 0 by omega]
    cases rs with
    | nil => cases h; exact hQ a w β hR hE (Evo.refl _ _ _) (Same.refl _) rfl
    | cons r rs => exact h.elim
  | o :: os, s, rs, s', i, h, hos, a, w, β, hR, hE, hQ => by
    have hi : i < ops.size := by
      have := congrArg List.length hos
      simp at this
      omega
    have ho : ops[i]? = some o := by
      have := congrArg (·[0]?) hos
      simp at this
      exact this.symm
    have hos' : os = ops.toList.drop (i + 1) := by
      have := congrArg List.tail hos
      simpa using this
    rw [show ops.size - i = (ops.size - (i + 1)) + 1 by omega, List.range'_succ]
    cases rs with
    | nil => exact h.elim
    | cons r rs =>
      obtain ⟨rfl, ⟨hK, hG, hx⟩, hrun⟩ := h
      have hw : Region.wanted o (yielded ops a.tmps) = r.ex := wanted_on hG fun j want t _ _ av hav => hE.2 t av hav
      simp only [wpOps, ho, hw]
      cases hex : r.ex with
      | true =>
        rw [hex, if_pos rfl] at hx
        simp only [if_true]
        refine .inl (opE_ok hC hM hg.on hR hE (hK.ok hE) hx _ ?_)
        intro cv ov β' H' w' hk hv hR' hE' hS
        cases hk
        exact run_wp hC hM hg hrun hos' hR' (ER.put (hE.stays hE') hv) (fun a2 w2 β2 q1 q2 q3 q4 q5 => hQ a2 w2 β2 q1 q2 (hE'.trans q3) (hS.trans q4) (q5.trans put_defers))
      | false =>
        rw [hex] at hx
        simp only [Bool.false_eq_true, if_false] at hx ⊢
        obtain ⟨hv, hH⟩ := hx
        rw [hv, hH] at hrun
        exact run_wp hC hM hg hrun hos' hR (ER.put hE (v := none) rfl) (fun a2 w2 β2 q1 q2 q3 q4 q5 => hQ a2 w2 β2 q1 q2 q3 q4 (q5.trans put_defers))
end
end Go.Ev
