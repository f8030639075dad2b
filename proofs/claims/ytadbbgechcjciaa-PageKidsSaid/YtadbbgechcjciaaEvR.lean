/- The reckoner's code tells the truth. No conditions. -/
import Derived.Test.YtadbbgechcjciaaEvQ
set_option linter.unusedVariables false
set_option linter.unusedSimpArgs false
set_option linter.unusedSectionVars false
namespace Go.Ev
open Go

/-- regions whose order is left open are in order -/
def codeOk : Code → Bool
  | .region _ ops dr => !dr || regOk ops
  | .seq a b => codeOk a && codeOk b
  | .cond _ a b => codeOk a && codeOk b
  | .block _ a => codeOk a
  | .loop a => codeOk a
  | _ => true
def exitOf : Ex → Exit
  | .normal => .normal
  | .exit id => .exit id
  | .ret => .ret

theorem exists_least (p : Nat → Prop) (h : ∃ n, p n) : ∃ n, p n ∧ ∀ m, p m → n ≤ m := by
  obtain ⟨n, hn⟩ := h
  induction n using Nat.strongRecOn with
  | ind n ih =>
    by_cases h : ∃ m, m < n ∧ p m
    · obtain ⟨m, hm, hp⟩ := h; exact ih m hm hp
    · exact ⟨n, hn, fun m hm => Nat.le_of_not_lt fun hl => h ⟨m, hl, hm⟩⟩

variable [Gh]
section
variable {ρ : Type} {P : Program} {c : Ctx} {g : Bool → Call1} {β0 : Nat → Nat} {H0 : Heap} {w0 : World} {a0 : Act}

/-- what must be known -/
structure Known (P : Program) (c : Ctx) (g : Bool → Call1) : Prop where
  ctx : CtxOK c P
  cmp : CmpAll c P
  call : ∀ d, Call1OK P (g d)
  quiet : (g true).Quiet
  mixed : P.follows .mixedOrders = true

theorem region_ok (K : Known P c g) {id : Nat} {ops : Array Oper} {dr : Bool} (hok : (!dr || regOk ops) = true) {Q : Exit → Act → World → Prop} {s : St} {κ : St → Option ρ} {x : ρ} {a : Act} {w : World} {β : Nat → Nat}
    (h : opsE c (g dr).on ops.toList ops.toList [] s κ = some x) (hA : At β0 H0 w0 a0 s a w β) (hQ : ∀ s' a' w' β', κ s' = some x → At β0 H0 w0 a0 s' a' w' β' → Q .normal a' w') : (Code.region id ops dr).wp P Q a w := by
  obtain ⟨rs, s', hrun, hk⟩ := opsE_run KnEnv.nil h
  obtain ⟨hhr, her, hev, hsm, hdf⟩ := hA
  have fin : ∀ a' w' β', HR β' s'.heap w'.heap → ER β' s'.heap w'.heap a'.tmps s'.env → Evo β s.heap w.heap β' s'.heap w'.heap → Same w w' → a'.defers = a.defers → Q .normal a' w' :=
    fun a' w' β' q1 q2 q3 q4 q5 => hQ s' a' w' β' hk ⟨q1, q2, hev.trans q3, hsm.trans q4, q5.trans hdf⟩
  cases dr with
  | true => exact drawn_wp K.ctx K.cmp (K.call true) K.quiet (by simpa using hok) K.mixed hrun hhr her fin
  | false =>
    refine wp_region ?_
    have := run_wp (i := 0) (Q := Q) K.ctx K.cmp (K.call false) hrun (by simp) hhr her fin
    rwa [Nat.sub_zero, ← List.range_eq_range'] at this

theorem codeE_ok (K : Known P c g) {lv : List (Nat × List Nat)} {k : Nat} : ∀ (code : Code), codeOk code = true → ∀ {Q : Exit → Act → World → Prop} {κ : Ex → St → Option ρ} {x : ρ} {s : St} {a : Act} {w : World} {β : Nat → Nat},
    codeE c lv H0.length k (fun d => (g d).on) code κ s = some x → At β0 H0 w0 a0 s a w β → (∀ ex s' a' w' β', κ ex s' = some x → At β0 H0 w0 a0 s' a' w' β' → Q (exitOf ex) a' w') → code.wp P Q a w
  | .skip, _, Q, κ, x, s, a, w, β, h, hA, hQ => wp_skip (hQ .normal s a w β h hA)
  | .label _, _, Q, κ, x, s, a, w, β, h, hA, hQ => wp_label (hQ .normal s a w β h hA)
  | .region _ ops dr, hok, Q, κ, x, s, a, w, β, h, hA, hQ => region_ok K hok h hA fun s' a' w' β' hk hA' => by
    unfold endR at hk
    split at hk
    · exact hQ .normal s' a' w' β' hk hA'
    · split at hk
      · cases hk
      rename_i s1 hgc
      obtain ⟨β1, hA1⟩ := gc_ok hgc hA'
      exact hQ .normal s1 a' w' β1 hk hA1
  | .seq p q, hok, Q, κ, x, s, a, w, β, h, hA, hQ => by
    simp only [codeOk, Bool.and_eq_true] at hok
    refine wp_seq (codeE_ok K p hok.1 h hA ?_)
    intro ex s' a' w' β' hk hA'
    cases ex with
    | normal => exact codeE_ok K q hok.2 hk hA' hQ
    | exit id => exact hQ _ s' a' w' β' hk hA'
    | ret => exact hQ _ s' a' w' β' hk hA'
  | .cond y p q, hok, Q, κ, x, s, a, w, β, h, hA, hQ => by
    simp only [codeOk, Bool.and_eq_true] at hok
    simp only [codeE] at h
    split at h
    · rename_i t ht
      have hy := (opd_ok hA.er ht).inv_bool
      refine wp_cond hy ?_
      cases t with
      | true => exact codeE_ok K p hok.1 h hA hQ
      | false => exact codeE_ok K q hok.2 h hA hQ
    · cases h
  | .block id p, hok, Q, κ, x, s, a, w, β, h, hA, hQ => by
    simp only [codeOk] at hok
    refine wp_block (codeE_ok K p hok h hA ?_)
    intro ex s' a' w' β' hk hA'
    cases ex with
    | normal => exact hQ _ s' a' w' β' hk hA'
    | ret => exact hQ _ s' a' w' β' hk hA'
    | exit j =>
      simp only at hk
      simp only [exitOf, Exit.inBlock]
      split
      · rename_i hj
        rw [if_pos hj] at hk
        exact hQ .normal s' a' w' β' hk hA'
      · rename_i hj
        rw [if_neg hj] at hk
        exact hQ (.exit j) s' a' w' β' hk hA'
  | .loop p, hok, Q, κ, x, s, a, w, β, h, hA, hQ => by
    simp only [codeOk] at hok
    simp only [codeE] at h
    let I : Nat → Act → World → Prop := fun n a w => ∃ s β, loopN (codeE c lv H0.length k (fun d => (g d).on) p) (gc H0.length ((find1 (headOf p) lv).getD [])) n κ s = some x ∧ At β0 H0 w0 a0 s a w β
    have hex : ∀ a w, (∃ n, I n a w) → ∃ n, I n a w ∧ ∀ m, I m a w → n ≤ m := fun a w hh => exists_least _ hh
    let μ : Act → World → Nat := fun a w => by
      classical
      exact if hh : ∃ n, I n a w then Classical.choose (hex a w hh) else 0
    have hμ : ∀ a w, (∃ n, I n a w) → I (μ a w) a w ∧ ∀ m, I m a w → μ a w ≤ m := by
      intro a w hh
      have : μ a w = Classical.choose (hex a w hh) := dif_pos hh
      rw [this]
      exact Classical.choose_spec (hex a w hh)
    refine wp_loop (fun a w => ∃ n, I n a w) μ ⟨k, s, β, h, hA⟩ ?_
    intro a w hh
    obtain ⟨⟨s, β, hn, hA⟩, _⟩ := hμ a w hh
    generalize hm : μ a w = n at hn
    cases n with
    | zero => rw [loopN_zero] at hn; cases hn
    | succ n =>
      simp only [loopN_succ] at hn
      split at hn
      · cases hn
      rename_i s1 hgc
      obtain ⟨β1, hA1⟩ := gc_ok hgc hA
      refine codeE_ok K p hok hn hA1 ?_
      intro ex s' a' w' β' hk hA'
      cases ex with
      | normal =>
        have hI : I n a' w' := ⟨s', β', hk, hA'⟩
        exact ⟨⟨n, hI⟩, Nat.lt_succ_of_le ((hμ a' w' ⟨n, hI⟩).2 n hI)⟩
      | exit id => exact hQ _ s' a' w' β' hk hA'
      | ret => exact hQ _ s' a' w' β' hk hA'
  | .exit id, _, Q, κ, x, s, a, w, β, h, hA, hQ => wp_exit (hQ (.exit id) s a w β h hA)
  | .ret, _, Q, κ, x, s, a, w, β, h, hA, hQ => wp_ret (hQ .ret s a w β h hA)
  | .goto _, _, Q, κ, x, s, a, w, β, h, hA, hQ => by cases h
  | .rangeFunc .., _, Q, κ, x, s, a, w, β, h, hA, hQ => by cases h
  | .scope _, _, Q, κ, x, s, a, w, β, h, hA, hQ => by cases h
  | .refuse _, _, Q, κ, x, s, a, w, β, h, hA, hQ => by cases h
end
end Go.Ev
