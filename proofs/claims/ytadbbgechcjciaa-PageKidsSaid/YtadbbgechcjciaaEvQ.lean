/- The reckoner's code tells the truth: sub-memories, loops' heads, code. No conditions. -/
import Derived.Test.YtadbbgechcjciaaEvP
set_option linter.unusedVariables false
set_option linter.unusedSimpArgs false
set_option linter.unusedSectionVars false
namespace Go.Ev
open Go

/-! ### some of the objects, under new numbers -/
structure Sub (f : Nat → Option Nat) (rs : List Nat) (β : Nat → Nat) (H : Heap) (β' : Nat → Nat) (H' : Heap) : Prop where
  nodup : rs.Nodup
  os : renObs f H rs = some H'
  f : ∀ r r', f r = some r' → rs[r']? = some r
  β : ∀ i r, rs[i]? = some r → β' i = β r
theorem Sub.len {f : Nat → Option Nat} {rs : List Nat} {β : Nat → Nat} {H : Heap} {β' : Nat → Nat} {H' : Heap} (k : Sub f rs β H β' H') : H'.length = rs.length := (renObs_get k.os).1
theorem Sub.at_some {f : Nat → Option Nat} {rs : List Nat} {β : Nat → Nat} {H : Heap} {β' : Nat → Nat} {H' : Heap} (k : Sub f rs β H β' H') {i : Nat} {o' : Ob} (h : H'.at i = some o') :
    ∃ r o, rs[i]? = some r ∧ H.at r = some o ∧ renOb f (some o) = some (some o') := by
  have hl := Heap.at_lt h
  rw [k.len] at hl
  obtain ⟨o, h1, h2⟩ := (renObs_get k.os).2 i rs[i] (List.getElem?_eq_getElem hl)
  have : o = some o' := by
    unfold Heap.at at h
    rw [List.getD_eq_getElem?_getD, h2] at h
    exact h
  subst this
  cases ho : H.at rs[i] with
  | none => rw [ho] at h1; cases h1
  | some q => exact ⟨rs[i], q, List.getElem?_eq_getElem hl, ho, by rw [← ho]; exact h1⟩
theorem Sub.at_get {f : Nat → Option Nat} {rs : List Nat} {β : Nat → Nat} {H : Heap} {β' : Nat → Nat} {H' : Heap} (k : Sub f rs β H β' H') {i r : Nat} (h : rs[i]? = some r) :
    i < H'.length ∧ renOb f (H.at r) = some (H'.at i) := by
  obtain ⟨o, h1, h2⟩ := (renObs_get k.os).2 i r h
  obtain ⟨h3, _⟩ := List.getElem?_eq_some_iff.1 h2
  have : H'.at i = o := by
    unfold Heap.at
    rw [List.getD_eq_getElem?_getD, h2]; rfl
  exact ⟨h3, by rw [this]; exact h1⟩
theorem renOb_box {f : Nat → Option Nat} {o : Ob} {cs' : List AV} (h : renOb f (some o) = some (some (.box cs'))) : ∃ cs, o = .box cs ∧ renL f cs = some cs' := by
  cases o with
  | box cs =>
    simp only [renOb] at h
    cases hr : renL f cs with
    | none => rw [hr] at h; cases h
    | some as => rw [hr] at h; cases h; exact ⟨cs, rfl, hr⟩
  | arr sz n row => cases h
  | fro sz n row => cases h
theorem renOb_arr {f : Nat → Option Nat} {o : Ob} {sz n : Nat} {row : Nat → List AV} (h : renOb f (some o) = some (some (.arr sz n row))) : o = .arr sz n row := by
  cases o with
  | box cs =>
    simp only [renOb] at h
    cases hr : renL f cs with
    | none => rw [hr] at h; cases h
    | some as => rw [hr] at h; cases h
  | arr sz n row => cases h; rfl
  | fro sz n row => cases h
theorem renOb_fro {f : Nat → Option Nat} {o : Ob} {sz n : Nat} {row : Nat → List AV} (h : renOb f (some o) = some (some (.fro sz n row))) : o = .fro sz n row := by
  cases o with
  | box cs =>
    simp only [renOb] at h
    cases hr : renL f cs with
    | none => rw [hr] at h; cases h
    | some as => rw [hr] at h; cases h
  | arr sz n row => cases h
  | fro sz n row => cases h; rfl
theorem Sub.live {f : Nat → Option Nat} {rs : List Nat} {β : Nat → Nat} {H : Heap} {β' : Nat → Nat} {H' : Heap} (k : Sub f rs β H β' H') {i : Nat} (h : Live H' i) : ∃ r, rs[i]? = some r ∧ Live H r ∧ β' i = β r := by
  rcases h with ⟨cs, h⟩ | ⟨sz, n, row, h⟩
  · obtain ⟨r, o, h1, h2, h3⟩ := k.at_some h
    obtain ⟨cs', rfl, _⟩ := renOb_box h3
    exact ⟨r, h1, .inl ⟨_, h2⟩, k.β i r h1⟩
  · obtain ⟨r, o, h1, h2, h3⟩ := k.at_some h
    have := renOb_arr h3; subst this
    exact ⟨r, h1, .inr ⟨_, _, _, h2⟩, k.β i r h1⟩

theorem Sub.ren {G1 G2 : Gh} {f : Nat → Option Nat} {rs : List Nat} {β : Nat → Nat} {H : Heap} {β' : Nat → Nat} {H' : Heap} {W : Array Obj} (k : Sub f rs β H β' H')
    (hG : ∀ b, G2.g b → G1.g b ∨ ∃ r, Live H r ∧ β r = b) : Ren G1 G2 f β H β' H' W where
  imm b hb := by
    refine ⟨hb.1, fun i hi => ?_, fun hg => ?_⟩
    · obtain ⟨r, _, h2, h3⟩ := k.live hi
      rw [h3]; exact hb.2.1 r h2
    · rcases hG b hg with h | ⟨r, hr, he⟩
      · exact hb.2.2 h
      · exact hb.2.1 r hr he
  box r r' cs hf hr := by
    obtain ⟨h1, h2⟩ := k.at_get (k.f r r' hf)
    refine ⟨k.β _ _ (k.f r r' hf), ?_⟩
    rw [hr] at h2
    simp only [renOb] at h2
    cases hl : renL f cs with
    | none => rw [hl] at h2; cases h2
    | some as => rw [hl] at h2; exact ⟨as, (Option.some.inj h2).symm⟩
  arr r r' sz n row hf hr := by
    obtain ⟨h1, h2⟩ := k.at_get (k.f r r' hf)
    refine ⟨k.β _ _ (k.f r r' hf), row, ?_⟩
    rcases hr with hr | hr <;> rw [hr] at h2 <;> simp only [renOb, Option.some.injEq] at h2
    · exact .inl h2.symm
    · exact .inr h2.symm
  dead r r' hf hl hr := by
    obtain ⟨h1, h2⟩ := k.at_get (k.f r r' hf)
    rw [hr] at h2
    simp only [renOb, Option.some.injEq] at h2
    exact ⟨h1, h2.symm⟩
theorem Sub.HR {G1 G2 : Gh} {f : Nat → Option Nat} {rs : List Nat} {β : Nat → Nat} {H : Heap} {β' : Nat → Nat} {H' : Heap} {W : Array Obj} (k : Sub f rs β H β' H') (h : @HR G1 β H W)
    (hG : ∀ b, G2.g b → G1.g b ∨ ∃ r, Live H r ∧ β r = b) (hG2 : ∀ b, G2.g b → ∀ i, Live H' i → β' i ≠ b) : @HR G2 β' H' W where
  inj i i' hi hi' e := by
    obtain ⟨r, h1, h2, h3⟩ := k.live hi
    obtain ⟨r', h1', h2', h3'⟩ := k.live hi'
    have := (@HR.inj G1 _ _ _ h) r r' h2 h2' (by rw [← h3, ← h3', e])
    subst this
    exact nodup_inj k.nodup h1 h1'
  gh b hb := by
    refine ⟨?_, hG2 b hb⟩
    rcases hG b hb with h' | ⟨r, hr, rfl⟩
    · exact ((@HR.gh G1 _ _ _ h) b h').1
    · exact @HR.lt G1 _ _ _ h _ hr
  box i as hi := by
    obtain ⟨r, o, h1, h2, h3⟩ := k.at_some hi
    obtain ⟨cs, rfl, hr⟩ := renOb_box h3
    obtain ⟨vs, e, w1, w2, w3, w4⟩ := @HR.box G1 _ _ _ h r cs h2
    obtain ⟨l1, l2⟩ := renL_get hr
    exact ⟨vs, e, by rw [k.β i r h1]; exact w1, by omega, renL_leaf hr w3, fun j hj => R.ren (k.ren hG) (w4 j (by omega)) (l2 j (by omega))⟩
  arr i sz n row hi := by
    obtain ⟨r, o, h1, h2, h3⟩ := k.at_some hi
    have := renOb_arr h3; subst this
    obtain ⟨vs, e, fz, w1, w2, w3, w4, w5⟩ := @HR.arr G1 _ _ _ h r sz n row h2
    exact ⟨vs, e, fz, by rw [k.β i r h1]; exact w1, w2, w3, w4, fun p j hp hj => R.mono (k.ren hG).imm (pureL_iff.1 (w4 p hp).2.2 _ (getD_mem (by rw [(w4 p hp).1]; exact hj))) (w5 p j hp hj)⟩
  fro i sz n row hi := by
    obtain ⟨r, o, h1, h2, h3⟩ := k.at_some hi
    have := renOb_fro h3; subst this
    obtain ⟨vs, e, fz, w0, w1, w2, w4, w5⟩ := @HR.fro G1 _ _ _ h r sz n row h2
    rw [k.β i r h1]
    exact ⟨vs, e, fz, (k.ren hG).imm _ w0, w1, w2, w4, fun p j hp hj => R.mono (k.ren hG).imm (pureL_iff.1 (w4 p hp).2.2 _ (getD_mem (by rw [(w4 p hp).1]; exact hj))) (w5 p j hp hj)⟩

/-! ### a loop's head -/
theorem renEnv_get {f : Nat → Option Nat} : ∀ {e e' : List (Option AV)}, renEnv f e = some e' → e'.length = e.length ∧ ∀ t b, e'.getD t none = some b → ∃ a, e.getD t none = some a ∧ renA f a = some b
  | [], e', h => by cases h; exact ⟨rfl, fun t b h => by simp at h⟩
  | none :: e, e', h => by
    unfold renEnv at h
    split at h
    · rename_i e2 h1
      cases h
      obtain ⟨i1, i2⟩ := renEnv_get h1
      refine ⟨by simp [i1], fun t b ht => ?_⟩
      cases t with
      | zero => simp at ht
      | succ t => simpa using i2 t b (by simpa using ht)
    · cases h
  | some a :: e, e', h => by
    unfold renEnv at h
    split at h
    · rename_i a2 e2 h1 h2
      cases h
      obtain ⟨i1, i2⟩ := renEnv_get h2
      refine ⟨by simp [i1], fun t b ht => ?_⟩
      cases t with
      | zero => simp at ht; subst ht; exact ⟨a, by simp, h1⟩
      | succ t => simpa using i2 t b (by simpa using ht)
    · cases h
variable [Gh]
/-- how far the code has come -/
structure At (β0 : Nat → Nat) (H0 : Heap) (w0 : World) (a0 : Act) (s : St) (a : Act) (w : World) (β : Nat → Nat) : Prop where
  hr : HR β s.heap w.heap
  er : ER β s.heap w.heap a.tmps s.env
  evo : Evo β0 H0 w0.heap β s.heap w.heap
  same : Same w0 w
  defs : a.defers = a0.defers
theorem gc_ok {ts : List Nat} {s s' : St} {β0 : Nat → Nat} {H0 : Heap} {w0 : World} {a0 a : Act} {w : World} {β : Nat → Nat} (h : gc H0.length ts s = some s') (hA : At β0 H0 w0 a0 s a w β) : ∃ β', At β0 H0 w0 a0 s' a w β' := by
  unfold gc at h
  simp only at h
  split at h
  · cases h
  rename_i rs hrs
  split at h
  case h_2 => cases h
  rename_i e' H' he hH
  cases h
  obtain ⟨hn, _, _⟩ := close_ok hrs
  obtain ⟨hm, hfirst⟩ := close_range hrs
  have k : Sub (fun r => idxIn r rs 0) rs β s.heap (fun i => β (rs.getD i 0)) H' := by
    refine ⟨hn, hH, fun r r' hf => ?_, fun i r hi => ?_⟩
    · have := (idxIn_some hf).2
      rwa [Nat.sub_zero] at this
    · simp only [List.getD_eq_getElem?_getD, hi, Option.getD_some]
  have hG : ∀ b, Gh.g b → Gh.g b ∨ ∃ r, Live s.heap r ∧ β r = b := fun b hb => .inl hb
  obtain ⟨l1, l2⟩ := renEnv_get he
  obtain ⟨hhr, her, hev, hsm, hdf⟩ := hA
  refine ⟨_, k.HR hhr hG (fun b hb i hi => ?_), ⟨?_, fun t b ht => ?_⟩, ?_, hsm, hdf⟩
  · obtain ⟨r, _, h2, h3⟩ := k.live hi
    rw [h3]; exact (hhr.gh b hb).2 r h2
  · simp only [l1, keep_length]; exact her.1
  · obtain ⟨av, h1, h2⟩ := l2 t b ht
    rw [keep_getD] at h1
    split at h1
    · obtain ⟨v, hv1, hv2⟩ := her.2 t av h1
      exact ⟨v, hv1, hv2.ren (k.ren hG) h2⟩
    · cases h1
  · have hb : ∀ r, r < H0.length → β (rs.getD r 0) = β r ∧ renOb (fun r => idxIn r rs 0) (s.heap.at r) = some (H'.at r) := fun r hr => by
      refine ⟨by rw [List.getD_eq_getElem?_getD, hfirst r hr]; rfl, (k.at_get (hfirst r hr)).2⟩
    refine ⟨hev.size, hev.gh, fun b hi => ?_, by rw [k.len]; exact hm, fun r as hr => ?_, fun r sz n row hr => ?_, fun r sz n row hr => ?_, fun r hl hr => ?_⟩
    · obtain ⟨h1, h2⟩ := hev.imm b hi
      exact ⟨h1, (k.ren hG).imm b h2⟩
    · obtain ⟨e1, as', h1⟩ := hev.box r as hr
      obtain ⟨e2, h2⟩ := hb r (Heap.at_lt hr)
      refine ⟨e2.trans e1, ?_⟩
      rw [h1] at h2
      simp only [renOb] at h2
      cases hl : renL (fun r => idxIn r rs 0) as' with
      | none => rw [hl] at h2; cases h2
      | some bs => rw [hl] at h2; exact ⟨bs, (Option.some.inj h2).symm⟩
    · obtain ⟨e2, h2⟩ := hb r (Heap.at_lt hr)
      rcases hev.arr r sz n row hr with hd | ⟨e1, ⟨row', h1⟩, hc⟩
      · rw [hd] at h2; simp only [renOb, Option.some.injEq] at h2; exact .inl h2.symm
      · refine .inr ⟨e2.trans e1, ⟨row', ?_⟩, hc⟩
        rcases h1 with h1 | h1 <;> rw [h1] at h2 <;> simp only [renOb, Option.some.injEq] at h2
        · exact .inl h2.symm
        · exact .inr h2.symm
    · obtain ⟨e2, h2⟩ := hb r (Heap.at_lt hr)
      obtain ⟨e1, h1, hc⟩ := hev.fro r sz n row hr
      rw [h1] at h2; simp only [renOb, Option.some.injEq] at h2
      exact ⟨e2.trans e1, h2.symm, hc⟩
    · obtain ⟨e2, h2⟩ := hb r hl
      rw [hev.dead r hl hr] at h2; simp only [renOb, Option.some.injEq] at h2
      exact h2.symm
end Go.Ev
