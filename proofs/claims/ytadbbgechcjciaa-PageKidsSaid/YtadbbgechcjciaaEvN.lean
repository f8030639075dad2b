/- The reckoner's regions tell the truth in every order that the code leaves open. No conditions. -/
import Derived.Test.YtadbbgechcjciaaEvM
set_option linter.unusedVariables false
set_option linter.unusedSimpArgs false
set_option linter.unusedSectionVars false
namespace Go.Ev
open Go
variable [Gh]

/-! ### what is ordered -/
def befOf (ms : List Nat) (es : List Edge) : Nat := es.foldl (fun m e => bif Region.binds .any e then m ||| (1 <<< e.on) ||| ms.getD e.on 0 else m) 0
def befs : List Oper → List Nat → List Nat
  | [], ms => ms
  | o :: os, ms => befs os (ms ++ [befOf ms o.after.toList])
def indep (ops : Array Oper) (x y : Oper) : Bool := x.apart ops y && decide (cls x + cls y ≤ 2)
def regOk (ops : Array Oper) : Bool :=
  let ms := befs ops.toList []
  Region.noSelect ops && (List.range ops.size).all fun j => match ops[j]? with
    | none => true
    | some y => (y.after.toList.all fun e => !Region.binds .any e || decide (e.on < j)) && (List.range j).all fun i => (ms.getD j 0).testBit i || match ops[i]? with
      | none => true
      | some x => indep ops x y

theorem befOf_bit {ms : List Nat} {i : Nat} : ∀ {es : List Edge} {m : Nat}, (es.foldl (fun m e => bif Region.binds .any e then m ||| (1 <<< e.on) ||| ms.getD e.on 0 else m) m).testBit i = true →
    m.testBit i = true ∨ ∃ e ∈ es, Region.binds .any e = true ∧ (e.on = i ∨ (ms.getD e.on 0).testBit i = true)
  | [], m, h => .inl h
  | e :: es, m, h => by
    rw [List.foldl_cons] at h
    rcases befOf_bit h with h | ⟨e', he', h⟩
    · cases hb : Region.binds .any e with
      | false => rw [hb] at h; exact .inl h
      | true =>
        rw [hb] at h
        simp only [cond_true, Nat.testBit_or, Bool.or_eq_true] at h
        rcases h with (h | h) | h
        · exact .inl h
        · refine .inr ⟨e, by simp, hb, .inl ?_⟩
          rw [Nat.one_shiftLeft, Nat.testBit_two_pow] at h
          simpa using h
        · exact .inr ⟨e, by simp, hb, .inr h⟩
    · exact .inr ⟨e', by simp [he'], h⟩
theorem befs_spec : ∀ (os : List Oper) (ms : List Nat), (befs os ms).take ms.length = ms ∧ (befs os ms).length = ms.length + os.length ∧
    ∀ k o, os[k]? = some o → (befs os ms).getD (ms.length + k) 0 = befOf ((befs os ms).take (ms.length + k)) o.after.toList
  | [], ms => ⟨by simp [befs], by simp [befs], fun k o h => by simp at h⟩
  | o :: os, ms => by
    obtain ⟨h1, h2, h3⟩ := befs_spec os (ms ++ [befOf ms o.after.toList])
    simp only [List.length_append, List.length_singleton] at h1 h2 h3
    have h4 : (befs os (ms ++ [befOf ms o.after.toList])).take ms.length = ms := by
      have := congrArg (List.take ms.length) h1
      rw [List.take_take, Nat.min_eq_left (by omega), List.take_append_of_le_length (Nat.le_refl _), List.take_length] at this
      exact this
    refine ⟨h4, by simp only [befs, List.length_cons]; omega, fun k o' hk => ?_⟩
    simp only [befs]
    cases k with
    | zero =>
      simp only [List.getElem?_cons_zero, Option.some.injEq] at hk
      subst hk
      rw [Nat.add_zero, h4, List.getD_eq_getElem?_getD]
      have := congrArg (·[ms.length]?) h1
      simp only [List.getElem?_take, List.getElem?_append_right (Nat.le_refl _)] at this
      rw [if_pos (by omega)] at this
      rw [this]; simp
    | succ k =>
      simp only [List.getElem?_cons_succ] at hk
      have := h3 k o' hk
      rw [show ms.length + (k + 1) = ms.length + 1 + k by omega]
      exact this

section
variable {P : Program} {c : Ctx} {g : Call1} {ops : Array Oper} {Q : Exit → Act → World → Prop}

abbrev On (listed : Array Bool) (k : Nat) : Prop := listed.getD k false = true
/-- what comes before what is listed is listed -/
def Closed (ops : Array Oper) (listed : Array Bool) : Prop := ∀ j o, ops[j]? = some o → On listed j → ∀ e ∈ o.after, Region.binds .any e = true → On listed e.on

theorem before_on {listed : Array Bool} (hD : Closed ops listed) : ∀ (j : Nat) (o : Oper), ops[j]? = some o → (∀ e ∈ o.after, Region.binds .any e = true → On listed e.on) → ∀ i, ((befs ops.toList []).getD j 0).testBit i = true → On listed i := by
  intro j
  induction j using Nat.strongRecOn with
  | ind j ih =>
    intro o ho hp i hi
    obtain ⟨_, h2, h3⟩ := befs_spec ops.toList []
    have h3 := h3 j o (by simpa using ho)
    simp only [List.length_nil, Nat.zero_add] at h3
    rw [h3] at hi
    rcases befOf_bit hi with hi | ⟨e, he, hb, hi⟩
    · simp at hi
    · have hon := hp e (by simpa using he) hb
      rcases hi with rfl | hi
      · exact hon
      · rw [List.getD_eq_getElem?_getD, List.getElem?_take] at hi
        by_cases hlt : e.on < j
        · rw [if_pos hlt, ← List.getD_eq_getElem?_getD] at hi
          have hsz : e.on < ops.size := by
            have := (Array.getElem?_eq_some_iff.1 ho).1; omega
          exact ih e.on hlt ops[e.on] (Array.getElem?_eq_getElem hsz) (fun e' he' hb' => hD e.on _ (Array.getElem?_eq_getElem hsz) hon e' he' hb') i hi
        · rw [if_neg hlt] at hi; simp at hi

theorem regOk_spec (h : regOk ops = true) : Region.noSelect ops = true ∧ (∀ j y, ops[j]? = some y → (∀ e ∈ y.after, Region.binds .any e = true → e.on < j) ∧ ∀ i x, i < j → ops[i]? = some x → ((befs ops.toList []).getD j 0).testBit i = true ∨ indep ops x y = true) := by
  simp only [regOk, Bool.and_eq_true, List.all_eq_true, List.mem_range] at h
  refine ⟨h.1, fun j y hy => ?_⟩
  have h2 := h.2 j (Array.getElem?_eq_some_iff.1 hy).1
  rw [hy] at h2
  simp only [Bool.and_eq_true, List.all_eq_true, List.mem_range, Bool.or_eq_true, Bool.not_eq_true', decide_eq_true_eq] at h2
  refine ⟨fun e he hb => ?_, fun i x hi hx => ?_⟩
  · rcases h2.1 e (by simpa using he) with h | h
    · rw [h] at hb; cases hb
    · exact h
  · have h3 := h2.2 i hi
    rw [hx] at h3
    exact h3

/-- the run's states -/
def States (c : Ctx) (g : Call1) (ops : Array Oper) (st : Nat → St) (rc : Nat → Rec) : Prop :=
  ∀ k o, ops[k]? = some o → (rc k).s = st k ∧ (rc k).Ok c g ops.toList o ∧ st (k + 1) = ⟨putE (st k).env o.dst (rc k).v, (rc k).H⟩
theorem run_states {all : List Oper} : ∀ {os : List Oper} {s : St} {rs : List Rec} {s' : St}, Run c g all os s rs s' →
    ∃ (st : Nat → St) (rc : Nat → Rec), st 0 = s ∧ st os.length = s' ∧ ∀ k o, os[k]? = some o → (rc k).s = st k ∧ (rc k).Ok c g all o ∧ st (k + 1) = ⟨putE (st k).env o.dst (rc k).v, (rc k).H⟩
  | [], s, [], s', h => ⟨fun _ => s, fun _ => ⟨[], s, true, none, []⟩, rfl, h, fun k o hk => by simp at hk⟩
  | o :: os, s, r :: rs, s', h => by
    obtain ⟨h1, h2, h3⟩ := h
    obtain ⟨st, rc, i1, i2, i3⟩ := run_states h3
    refine ⟨fun | 0 => s | k + 1 => st k, fun | 0 => r | k + 1 => rc k, rfl, i2, fun k o' hk => ?_⟩
    cases k with
    | zero =>
      simp only [List.getElem?_cons_zero, Option.some.injEq] at hk
      subst hk
      exact ⟨h1, h2, i1⟩
    | succ k => exact i3 k o' (by simpa using hk)
  | [], _, _ :: _, _, h => h.elim
  | _ :: _, _, [], _, h => h.elim

end
end Go.Ev
